import Derived.Test.YtpkhhphpjhfoiaaGreatDoorRows
import Derived.Test.YtpkhhphpjhfoiaaGreatDoorM06
import Derived.Test.YtpkhhphpjhfoiaaGreatDoorM07
set_option linter.unusedVariables false
set_option linter.unusedSimpArgs false
set_option linter.unusedSectionVars false
/- The functions that the statement reaches, as the interpreter has them, with modes. Conditions: none. -/
namespace Go.Proofs.YtpkhhphpjhfoiaaGreatDoor
open Go Go.RI
set_option maxRecDepth 100000
set_option maxRecDepth 100000

/-- 'encore/encorelaw20.LiftNames'. -/
def L3a : ICode :=
  (.seq (.seq (.region [Mv 162 4,
 It 163 (.bin .lss (.t 162) (.c (.i .i64 (14))))] [])
 (.cond (.t 163)
 .skip
 (.exit 0)))
 (.seq (.block 1
 (.seq (.region [It 166 (.call 8 [(.c i0)]),
 It 167 (.bsl 7 1 [i0, i0, i0, i0, (.s []), .ns, .ns] [(0, 7, (.t 166))]),
 It 168 (.build [i0, i0, .ns, (.s []), .ns] [(0, 1, (.c (.i .i64 (6)))), (2, 1, (.t 167))]),
 It 169 (.bsl 5 1 [i0, i0, .ns, (.s []), .ns] [(0, 5, (.t 168))]),
 It 170 (.call 9 [(.c i0)]),
 It 171 (.bsl 7 1 [i0, i0, i0, i0, (.s []), .ns, .ns] [(0, 7, (.t 170))]),
 It 172 (.build [i0, i0, i0, i0, .ns, .ns, i0, i0, i0, i0, i0, i0, (.s []), .ns, .ns, i0] [(2, 1, (.c (.i .i64 (1)))), (3, 1, (.c (.i .i64 (1)))), (4, 1, (.t 169)), (5, 1, (.t 171))]),
 It 5 (.alloc [i0, i0, i0, i0, .ns, .ns, i0, i0, i0, i0, i0, i0, (.s []), .ns, .ns, i0]),
 ⟨none, (.store 16 (.t 5) (.t 172)), none, []⟩] [])
 (.seq (.seq (.region [Mv 173 4] [])
 (.block 2
 (.seq (.region [It 176 (.bin .eql (.t 173) (.c i0)),
 Mv 175 176] [])
 (.cond (.t 175)
 (.region [Of 177 5 3,
 ⟨none, (.store 1 (.t 177) (.c (.i .i64 (65)))), none, []⟩] [])
 (.seq (.region [It 179 (.bin .eql (.t 173) (.c (.i .i64 (1)))),
 Mv 178 179] [])
 (.cond (.t 178)
 (.region [Of 180 5 3,
 ⟨none, (.store 1 (.t 180) (.c i0)), none, []⟩] [])
 (.seq (.region [It 182 (.bin .eql (.t 173) (.c (.i .i64 (2)))),
 Mv 181 182] [])
 (.cond (.t 181)
 (.region [Of 183 5 4,
 Ld 184 183,
 It 185 (.iaddr 5 (.t 184) (.c i0)),
 Of 186 185 2,
 Ld 187 186,
 ⟨(some 188), (.call 9 [(.c i0)]), none, [(184, (.load none (.t 183)), none), (187, (.load none (.t 186)), none)]⟩,
 It 189 (.iaddr 7 (.t 187) (.c i0)),
 ⟨none, (.store 7 (.t 189) (.t 188)), none, []⟩] [])
 (.seq (.region [It 191 (.bin .eql (.t 173) (.c (.i .i64 (3)))),
 Mv 190 191] [])
 (.cond (.t 190)
 (.region [Of 192 5 5,
 Ld 193 192,
 It 194 (.iaddr 7 (.t 193) (.c i0)),
 Of 195 194 1,
 ⟨none, (.store 1 (.t 195) (.c (.i .i64 (1)))), none, []⟩] [])
 (.seq (.region [It 197 (.bin .eql (.t 173) (.c (.i .i64 (4)))),
 Mv 196 197] [])
 (.cond (.t 196)
 (.region [Of 198 5 6,
 ⟨none, (.store 1 (.t 198) (.c (.i .i64 (4)))), none, []⟩] [])
 (.seq (.region [It 200 (.bin .eql (.t 173) (.c (.i .i64 (5)))),
 Mv 199 200] [])
 (.cond (.t 199)
 (.region [Of 201 5 6,
 ⟨none, (.store 1 (.t 201) (.c (.i .i64 (2)))), none, []⟩] [])
 (.seq (.region [It 203 (.bin .eql (.t 173) (.c (.i .i64 (6)))),
 Mv 202 203] [])
 (.cond (.t 202)
 (.region [It 204 (.call 9 [(.c i0)]),
 Of 205 5 8,
 ⟨none, (.store 7 (.t 205) (.t 204)), none, []⟩] [])
 (.seq (.region [It 207 (.bin .eql (.t 173) (.c (.i .i64 (7)))),
 Mv 206 207] [])
 (.cond (.t 206)
 (.region [Of 208 5 15,
 ⟨none, (.store 1 (.t 208) (.c (.i .i64 (2)))), none, []⟩] [])
 (.seq (.region [It 210 (.bin .eql (.t 173) (.c (.i .i64 (8)))),
 Mv 209 210] [])
 (.cond (.t 209)
 (.region [Of 211 5 4,
 Ld 212 211,
 It 213 (.iaddr 5 (.t 212) (.c i0)),
 Of 214 213 2,
 ⟨none, (.store 1 (.t 214) (.c .ns)), none, []⟩] [])
 (.seq (.region [It 216 (.bin .eql (.t 173) (.c (.i .i64 (9)))),
 Mv 215 216] [])
 (.cond (.t 215)
 (.region [Of 217 5 5,
 Ld 218 217,
 It 219 (.iaddr 7 (.t 218) (.c i0)),
 Of 220 219 0,
 ⟨none, (.store 1 (.t 220) (.c (.i .i64 (4)))), none, []⟩] [])
 (.seq (.region [It 222 (.bin .eql (.t 173) (.c (.i .i64 (10)))),
 Mv 221 222] [])
 (.cond (.t 221)
 (.region [Of 223 5 5,
 Ld 224 223,
 ⟨(some 225), (.call 7 [(.c (.i .i64 (2)))]), none, [(224, (.load none (.t 223)), none)]⟩,
 ⟨(some 226), (.call 10 [(.t 225)]), none, [(224, (.load none (.t 223)), none)]⟩,
 It 227 (.iaddr 7 (.t 224) (.c i0)),
 ⟨none, (.store 7 (.t 227) (.t 226)), none, []⟩] [])
 (.seq (.region [It 229 (.bin .eql (.t 173) (.c (.i .i64 (11)))),
 Mv 228 229] [])
 (.cond (.t 228)
 (.region [Of 230 5 1,
 ⟨none, (.store 1 (.t 230) (.c (.i .i64 (9007199254740992)))), none, []⟩] [])
 (.seq (.region [It 232 (.bin .eql (.t 173) (.c (.i .i64 (12)))),
 Mv 231 232] [])
 (.cond (.t 231)
 (.region [Of 233 5 2,
 ⟨none, (.store 1 (.t 233) (.c (.i .i64 (9007199254740992)))), none, []⟩] [])
 (.region [Of 174 5 7,
 ⟨none, (.store 1 (.t 174) (.c (.i .i64 (-1)))), none, []⟩] [])))))))))))))))))))))))))))))
 (.seq (.region [It 234 (.load (some 16) (.t 5)),
 It 235 (.call 12 [(.t 234)]),
 It 236 (.call 11 [(.t 235)]),
 It 237 (.bin .eql (.t 236) (.c (.i .i64 (2))))] [])
 (.cond (.t 237)
 (.region [Mv 238 3,
 It 239 (.bin .add (.t 238) (.c (.i .i64 (1)))),
 Mv 3 239] [])
 .skip)))))
 (.region [Mv 164 4,
 It 165 (.bin .add (.t 164) (.c (.i .i64 (1)))),
 Mv 4 165] [])))
def I3 : IFunc :=
  ⟨(.seq (.region [It 0 (.mov (.c (.b false)))] [])
 (.seq (.region [It 14 (.build [i0, i0, .ns, (.s []), .ns] [(0, 1, (.c (.i .i64 (40)))), (1, 1, (.c (.i .i64 (1))))]),
 It 15 (.call 5 [(.c (.i .i64 (3)))]),
 It 16 (.call 5 [(.c (.i .i64 (3)))]),
 It 17 (.bsl 5 1 [i0, i0, (.s []), .ns, .ns] [(0, 5, (.t 16))]),
 It 18 (.call 4 [(.t 14), (.t 15), (.t 17)]),
 Mv 19 18,
 Ig 20 19 true (.build [i0, i0, .ns, (.s []), .ns] [(0, 1, (.c (.i .i64 (40)))), (1, 1, (.c (.i .i64 (2))))]),
 Ig 21 19 true (.call 5 [(.c (.i .i64 (3)))]),
 Ig 22 19 true (.bsl 5 1 [i0, i0, (.s []), .ns, .ns] [(0, 5, (.t 21))]),
 Ig 23 19 true (.call 6 [(.t 20), (.t 22)]),
 It 24 (.pick (.t 19) (.t 23) (.c (.b false))),
 Mv 25 24,
 Ig 26 25 true (.build [i0, i0, .ns, (.s []), .ns] [(0, 1, (.c (.i .i64 (23)))), (3, 1, (.c (.s [105, 110, 116])))]),
 Ig 27 25 true (.call 5 [(.c (.i .i64 (3)))]),
 Ig 28 25 true (.call 5 [(.c (.i .i64 (3)))]),
 Ig 29 25 true (.bsl 5 1 [i0, i0, (.s []), .ns, .ns] [(0, 5, (.t 28))]),
 Ig 30 25 true (.call 4 [(.t 26), (.t 27), (.t 29)]),
 It 31 (.pick (.t 25) (.t 30) (.c (.b false))),
 Mv 32 31,
 Ig 33 32 true (.build [i0, i0, .ns, (.s []), .ns] [(0, 1, (.c (.i .i64 (23)))), (3, 1, (.c (.s [116, 101, 120, 116])))]),
 Ig 34 32 true (.call 5 [(.c (.i .i64 (3)))]),
 Ig 35 32 true (.bsl 5 1 [i0, i0, (.s []), .ns, .ns] [(0, 5, (.t 34))]),
 Ig 36 32 true (.call 6 [(.t 33), (.t 35)]),
 It 37 (.pick (.t 32) (.t 36) (.c (.b false))),
 Mv 38 37,
 Ig 39 38 true (.build [i0, i0, .ns, (.s []), .ns] [(0, 1, (.c (.i .i64 (41))))]),
 Ig 40 38 true (.call 5 [(.c (.i .i64 (-3)))]),
 Ig 41 38 true (.call 5 [(.c (.i .i64 (3)))]),
 Ig 42 38 true (.bsl 5 1 [i0, i0, (.s []), .ns, .ns] [(0, 5, (.t 41))]),
 Ig 43 38 true (.call 4 [(.t 39), (.t 40), (.t 42)]),
 It 44 (.pick (.t 38) (.t 43) (.c (.b false))),
 Mv 45 44,
 Ig 46 45 true (.build [i0, i0, .ns, (.s []), .ns] [(0, 1, (.c (.i .i64 (42))))]),
 Ig 47 45 true (.call 7 [(.c i0)]),
 Ig 48 45 true (.call 7 [(.c (.i .i64 (1)))]),
 Ig 49 45 true (.bsl 5 1 [i0, i0, (.s []), .ns, .ns] [(0, 5, (.t 48))]),
 Ig 50 45 true (.call 4 [(.t 46), (.t 47), (.t 49)]),
 It 51 (.pick (.t 45) (.t 50) (.c (.b false))),
 Mv 52 51,
 Ig 53 52 true (.build [i0, i0, .ns, (.s []), .ns] [(0, 1, (.c (.i .i64 (42))))]),
 Ig 54 52 true (.call 5 [(.c (.i .i64 (1)))]),
 Ig 55 52 true (.bsl 5 1 [i0, i0, (.s []), .ns, .ns] [(0, 5, (.t 54))]),
 Ig 56 52 true (.call 6 [(.t 53), (.t 55)]),
 It 57 (.pick (.t 52) (.t 56) (.c (.b false))),
 Mv 58 57,
 Ig 59 58 true (.build [i0, i0, .ns, (.s []), .ns] [(0, 1, (.c (.i .i64 (47))))]),
 Ig 60 58 true (.call 7 [(.c (.i .i64 (1)))]),
 Ig 61 58 true (.call 5 [(.c (.i .i64 (3)))]),
 Ig 62 58 true (.call 5 [(.c (.i .i64 (3)))]),
 Ig 63 58 true (.bsl 5 2 [i0, i0, (.s []), .ns, .ns, i0, i0, (.s []), .ns, .ns] [(0, 5, (.t 61)), (5, 5, (.t 62))]),
 Ig 64 58 true (.call 4 [(.t 59), (.t 60), (.t 63)]),
 It 65 (.pick (.t 58) (.t 64) (.c (.b false))),
 Mv 66 65,
 Ig 67 66 true (.build [i0, i0, .ns, (.s []), .ns] [(0, 1, (.c (.i .i64 (49)))), (1, 1, (.c (.i .i64 (3))))]),
 Ig 68 66 true (.call 7 [(.c i0)]),
 Ig 69 66 true (.call 5 [(.c (.i .i64 (3)))]),
 Ig 70 66 true (.bsl 5 1 [i0, i0, (.s []), .ns, .ns] [(0, 5, (.t 69))]),
 Ig 71 66 true (.call 4 [(.t 67), (.t 68), (.t 70)]),
 It 72 (.pick (.t 66) (.t 71) (.c (.b false))),
 Mv 73 72,
 Ig 74 73 true (.build [i0, i0, .ns, (.s []), .ns] [(0, 1, (.c (.i .i64 (12))))]),
 Ig 75 73 true (.call 5 [(.c (.i .i64 (2)))]),
 Ig 76 73 true (.call 5 [(.c (.i .i64 (7)))]),
 Ig 77 73 true (.call 5 [(.c (.i .i64 (3)))]),
 Ig 78 73 true (.bsl 5 2 [i0, i0, (.s []), .ns, .ns, i0, i0, (.s []), .ns, .ns] [(0, 5, (.t 76)), (5, 5, (.t 77))]),
 Ig 79 73 true (.call 4 [(.t 74), (.t 75), (.t 78)]),
 It 80 (.pick (.t 73) (.t 79) (.c (.b false))),
 Mv 81 80,
 Ig 82 81 true (.build [i0, i0, .ns, (.s []), .ns] [(0, 1, (.c (.i .i64 (12))))]),
 Ig 83 81 true (.call 5 [(.c (.i .i64 (7)))]),
 Ig 84 81 true (.call 5 [(.c i0)]),
 Ig 85 81 true (.bsl 5 2 [i0, i0, (.s []), .ns, .ns, i0, i0, (.s []), .ns, .ns] [(0, 5, (.t 83)), (5, 5, (.t 84))]),
 Ig 86 81 true (.call 6 [(.t 82), (.t 85)]),
 It 87 (.pick (.t 81) (.t 86) (.c (.b false))),
 Mv 88 87,
 Ig 89 88 true (.build [i0, i0, .ns, (.s []), .ns] [(0, 1, (.c (.i .i64 (20))))]),
 Ig 90 88 true (.call 5 [(.c (.i .i64 (1)))]),
 Ig 91 88 true (.bsl 5 1 [i0, i0, (.s []), .ns, .ns] [(0, 5, (.t 90))]),
 Ig 92 88 true (.build [i0, i0, (.s []), .ns, .ns] [(0, 1, (.c (.i .i64 (4)))), (3, 1, (.t 91))]),
 Ig 93 88 true (.call 5 [(.c (.i .i64 (1)))]),
 Ig 94 88 true (.bsl 5 1 [i0, i0, (.s []), .ns, .ns] [(0, 5, (.t 93))]),
 Ig 95 88 true (.call 4 [(.t 89), (.t 92), (.t 94)]),
 It 96 (.pick (.t 88) (.t 95) (.c (.b false))),
 Mv 97 96,
 Ig 98 97 true (.build [i0, i0, .ns, (.s []), .ns] [(0, 1, (.c (.i .i64 (45))))]),
 Ig 99 97 true (.call 5 [(.c (.i .i64 (-9223372036854775808)))]),
 Ig 100 97 true (.call 5 [(.c (.i .i64 (4611686018427387904)))]),
 Ig 101 97 true (.call 5 [(.c (.i .i64 (2)))]),
 Ig 102 97 true (.bsl 5 2 [i0, i0, (.s []), .ns, .ns, i0, i0, (.s []), .ns, .ns] [(0, 5, (.t 100)), (5, 5, (.t 101))]),
 Ig 103 97 true (.call 4 [(.t 98), (.t 99), (.t 102)]),
 It 104 (.pick (.t 97) (.t 103) (.c (.b false))),
 Mv 1 104] [])
 (.seq (.region [It 105 (.build [i0, i0, .ns, (.s []), .ns] [(0, 1, (.c (.i .i64 (40)))), (1, 1, (.c (.i .i64 (7))))]),
 It 106 (.call 5 [(.c (.i .i64 (3)))]),
 It 107 (.bsl 5 1 [i0, i0, (.s []), .ns, .ns] [(0, 5, (.t 106))]),
 It 108 (.call 6 [(.t 105), (.t 107)]),
 Mv 109 108,
 Ig 110 109 true (.build [i0, i0, .ns, (.s []), .ns] [(0, 1, (.c (.i .i64 (9))))]),
 Ig 111 109 true (.call 5 [(.c (.i .i64 (3)))]),
 Ig 112 109 true (.bsl 5 1 [i0, i0, (.s []), .ns, .ns] [(0, 5, (.t 111))]),
 Ig 113 109 true (.call 6 [(.t 110), (.t 112)]),
 It 114 (.pick (.t 109) (.t 113) (.c (.b false))),
 Mv 115 114,
 Ig 116 115 true (.build [i0, i0, .ns, (.s []), .ns] [(0, 1, (.c (.i .i64 (1))))]),
 Ig 117 115 true (.call 6 [(.t 116), (.c .ns)]),
 It 118 (.pick (.t 115) (.t 117) (.c (.b false))),
 Mv 119 118,
 Ig 120 119 true (.build [i0, i0, .ns, (.s []), .ns] [(0, 1, (.c (.i .i64 (23)))), (3, 1, (.c (.s [120])))]),
 Ig 121 119 true (.call 5 [(.c (.i .i64 (3)))]),
 Ig 122 119 true (.bsl 5 1 [i0, i0, (.s []), .ns, .ns] [(0, 5, (.t 121))]),
 Ig 123 119 true (.call 6 [(.t 120), (.t 122)]),
 It 124 (.pick (.t 119) (.t 123) (.c (.b false))),
 Mv 125 124,
 Ig 126 125 true (.build [i0, i0, .ns, (.s []), .ns] [(0, 1, (.c (.i .i64 (50))))]),
 Ig 127 125 true (.call 5 [(.c (.i .i64 (3)))]),
 Ig 128 125 true (.bsl 5 1 [i0, i0, (.s []), .ns, .ns] [(0, 5, (.t 127))]),
 Ig 129 125 true (.call 6 [(.t 126), (.t 128)]),
 It 130 (.pick (.t 125) (.t 129) (.c (.b false))),
 Mv 131 130,
 Ig 132 131 true (.build [i0, i0, .ns, (.s []), .ns] [(0, 1, (.c (.i .i64 (6)))), (1, 1, (.c (.i .i64 (1))))]),
 Ig 133 131 true (.call 5 [(.c (.i .i64 (3)))]),
 Ig 134 131 true (.bsl 5 1 [i0, i0, (.s []), .ns, .ns] [(0, 5, (.t 133))]),
 Ig 135 131 true (.call 6 [(.t 132), (.t 134)]),
 It 136 (.pick (.t 131) (.t 135) (.c (.b false))),
 Mv 137 136,
 Ig 138 137 true (.build [i0, i0, .ns, (.s []), .ns] [(0, 1, (.c (.i .i64 (6))))]),
 Ig 139 137 true (.call 7 [(.c (.i .i64 (2)))]),
 Ig 140 137 true (.bsl 5 1 [i0, i0, (.s []), .ns, .ns] [(0, 5, (.t 139))]),
 Ig 141 137 true (.call 6 [(.t 138), (.t 140)]),
 It 142 (.pick (.t 137) (.t 141) (.c (.b false))),
 Mv 143 142,
 Ig 144 143 true (.build [i0, i0, .ns, (.s []), .ns] [(0, 1, (.c (.i .i64 (20))))]),
 Ig 145 143 true (.mksl 5 80 [i0, i0, (.s []), .ns, .ns] (.c (.i .i64 (9))) (.c (.i .i64 (9)))),
 Ig 146 143 true (.call 6 [(.t 144), (.t 145)]),
 It 147 (.pick (.t 143) (.t 146) (.c (.b false))),
 Mv 148 147,
 Ig 149 148 true (.bsl 1 2 [(.s []), (.s [])] [(0, 1, (.c (.s [98]))), (1, 1, (.c (.s [97])))]),
 Ig 150 148 true (.build [i0, i0, .ns, (.s []), .ns] [(0, 1, (.c (.i .i64 (21)))), (4, 1, (.t 149))]),
 Ig 151 148 true (.call 5 [(.c (.i .i64 (1)))]),
 Ig 152 148 true (.call 5 [(.c (.i .i64 (2)))]),
 Ig 153 148 true (.bsl 5 2 [i0, i0, (.s []), .ns, .ns, i0, i0, (.s []), .ns, .ns] [(0, 5, (.t 151)), (5, 5, (.t 152))]),
 Ig 154 148 true (.call 6 [(.t 150), (.t 153)]),
 It 155 (.pick (.t 148) (.t 154) (.c (.b false))),
 Mv 156 155,
 Ig 157 156 true (.build [i0, i0, .ns, (.s []), .ns] [(0, 1, (.c (.i .i64 (22)))), (3, 1, (.c (.s [65])))]),
 Ig 158 156 true (.call 5 [(.c (.i .i64 (1)))]),
 Ig 159 156 true (.bsl 5 1 [i0, i0, (.s []), .ns, .ns] [(0, 5, (.t 158))]),
 Ig 160 156 true (.call 6 [(.t 157), (.t 159)]),
 It 161 (.pick (.t 156) (.t 160) (.c (.b false))),
 Mv 2 161] [])
 (.seq (.region [It 3 (.mov (.c i0))] [])
 (.seq (.seq (.region [It 4 (.mov (.c i0))] [])
 (.block 0
 (.loop L3a)))
 (.seq (.region [It 241 (.call 14 []),
 It 242 (.call 13 [(.t 241), (.c i0), (.c (.i .i64 (1))), (.c (.b false))]),
 Mv 240 242,
 Ex 243 240 0,
 Ex 244 240 1,
 It 6 (.alloc [i0, i0, i0, i0, .ns, .ns, i0, i0, i0, i0, i0, i0, (.s []), .ns, .ns, i0]),
 ⟨none, (.store 16 (.t 6) (.t 243)), none, []⟩,
 Mv 7 244] [])
 (.seq (.region [It 246 (.call 14 []),
 It 247 (.call 13 [(.t 246), (.c (.i .i64 (1))), (.c i0), (.c (.b false))]),
 Mv 245 247,
 Ex 248 245 0,
 Ex 249 245 1,
 It 8 (.alloc [i0, i0, i0, i0, .ns, .ns, i0, i0, i0, i0, i0, i0, (.s []), .ns, .ns, i0]),
 ⟨none, (.store 16 (.t 8) (.t 248)), none, []⟩,
 Mv 9 249] [])
 (.seq (.region [It 251 (.call 16 [(.c (.i .i64 (4))), (.c i0)]),
 It 252 (.call 16 [(.c (.i .i64 (30))), (.c i0)]),
 It 253 (.bsl 3 2 [i0, i0, i0, i0, i0, i0] [(0, 3, (.t 251)), (3, 3, (.t 252))]),
 It 254 (.call 15 [(.t 253)]),
 It 255 (.call 13 [(.t 254), (.c i0), (.c i0), (.c (.b false))]),
 Mv 250 255,
 Ex 256 250 0,
 Ex 257 250 1,
 It 10 (.alloc [i0, i0, i0, i0, .ns, .ns, i0, i0, i0, i0, i0, i0, (.s []), .ns, .ns, i0]),
 ⟨none, (.store 16 (.t 10) (.t 256)), none, []⟩,
 Mv 11 257] [])
 (.seq (.region [It 259 (.call 14 []),
 It 260 (.call 13 [(.t 259), (.c i0), (.c (.i .i64 (5))), (.c (.b true))]),
 Mv 258 260,
 Ex 261 258 0,
 Ex 262 258 1,
 It 12 (.alloc [i0, i0, i0, i0, .ns, .ns, i0, i0, i0, i0, i0, i0, (.s []), .ns, .ns, i0]),
 ⟨none, (.store 16 (.t 12) (.t 261)), none, []⟩,
 Mv 13 262] [])
 (.seq (.region [It 263 (.mov (.c (.b true))),
 Ig 264 263 true (.call 17 []),
 It 265 (.pick (.t 263) (.t 264) (.c (.b false))),
 Mv 266 265,
 Ig 267 266 true (.mov (.t 1)),
 It 268 (.pick (.t 266) (.t 267) (.c (.b false))),
 Mv 269 268,
 Ig 270 269 true (.mov (.t 2)),
 It 271 (.pick (.t 269) (.t 270) (.c (.b false))),
 Mv 272 271,
 Ig 273 272 true (.mov (.t 3)),
 Ig 274 272 true (.bin .eql (.t 273) (.c (.i .i64 (14)))),
 It 275 (.pick (.t 272) (.t 274) (.c (.b false))),
 Mv 276 275,
 Ig 277 276 true (.call 18 []),
 It 278 (.pick (.t 276) (.t 277) (.c (.b false))),
 Mv 279 278,
 Ig 280 279 true (.mov (.t 7)),
 Ig 281 279 true (.bin .eql (.t 280) (.c (.i .i64 (9)))),
 It 282 (.pick (.t 279) (.t 281) (.c (.b false))),
 Mv 283 282,
 Ig 284 283 true (.mov (.t 9)),
 Ig 285 283 true (.bin .eql (.t 284) (.c (.i .i64 (9)))),
 It 286 (.pick (.t 283) (.t 285) (.c (.b false))),
 Mv 287 286,
 Ig 288 287 true (.mov (.t 11)),
 Ig 289 287 true (.bin .eql (.t 288) (.c (.i .i64 (170)))),
 It 290 (.pick (.t 287) (.t 289) (.c (.b false))),
 Mv 291 290,
 Ig 292 291 true (.mov (.t 13)),
 Ig 293 291 true (.bin .eql (.t 292) (.c (.i .i64 (9)))),
 It 294 (.pick (.t 291) (.t 293) (.c (.b false))),
 Mv 0 294] [])
 .ret)))))))))),
    295, 0, [.t 0], 0⟩
theorem tr3 : trFunc Tryz.prog (hz [(14, [0, 1, 2, 3, 4, 5, 6, 7]), (30, [0, 1, 2, 3, 4, 5])] I3.body) 0 Tryz.f3 = some (plain1 I3) := by kernel_rfl
theorem ck3 : ckC 2 I3.body = true := by kernel_rfl

/-- 'encore/encorelaw20.made'. -/
def I4 : IFunc :=
  ⟨(.seq (.region [It 3 (.box (.t 0)),
 It 4 (.box (.t 1)),
 It 6 (.mov (.c (.b false)))] [])
 (.seq (.region [It 10 (.load (some 5) (.t 3)),
 Mv 11 2,
 It 12 (.call 19 [(.t 10), (.t 11)]),
 Mv 9 12,
 Ex 13 9 0,
 Ex 14 9 1,
 It 7 (.alloc [i0, i0, (.s []), .ns, .ns]),
 ⟨none, (.store 5 (.t 7) (.t 13)), none, []⟩,
 Mv 8 14] [])
 (.seq (.region [Mv 15 8,
 Mv 16 15,
 Ig 17 16 true (.load (some 5) (.t 7)),
 Ig 18 16 true (.load (some 5) (.t 4)),
 Ig 19 16 true (.call 20 [(.t 17), (.t 18)]),
 It 20 (.pick (.t 16) (.t 19) (.c (.b false))),
 Mv 6 20] [])
 .ret))),
    21, 3, [.t 6], 0⟩
theorem tr4 : trFunc Tryz.prog (hz [] I4.body) 0 Tryz.f4 = some (plain1 I4) := by kernel_rfl
theorem ck4 : ckC 2 I4.body = true := by kernel_rfl

/-- 'encore/encorelaw20.num'. -/
def I5 : IFunc :=
  ⟨(.seq (.region [It 2 (.alloc [i0, i0, (.s []), .ns, .ns])] [])
 (.seq (.region [Mv 3 0,
 It 4 (.build [i0, i0, (.s []), .ns, .ns] [(0, 1, (.c (.i .i64 (1)))), (1, 1, (.t 3))]),
 ⟨none, (.store 5 (.t 2) (.t 4)), none, []⟩] [])
 .ret)),
    5, 1, [.c 2 (some 5)], 1⟩
theorem tr5 : trFunc Tryz.prog (hz [] I5.body) 1 Tryz.f5 = some (plain1 I5) := by kernel_rfl
theorem ck5 : ckC 2 I5.body = true := by kernel_rfl

/-- 'encore/encorelaw20.none'. -/
def I6 : IFunc :=
  ⟨(.seq (.region [It 2 (.box (.t 0)),
 It 4 (.mov (.c (.b false)))] [])
 (.seq (.region [It 8 (.load (some 5) (.t 2)),
 Mv 9 1,
 It 10 (.call 19 [(.t 8), (.t 9)]),
 Mv 7 10,
 Ex 11 7 0,
 Ex 12 7 1,
 It 5 (.alloc [i0, i0, (.s []), .ns, .ns]),
 ⟨none, (.store 5 (.t 5) (.t 11)), none, []⟩,
 Mv 6 12] [])
 (.seq (.region [Mv 13 6,
 It 14 (.un .not (.t 13)),
 Mv 15 14,
 Ig 16 15 true (.load (some 5) (.t 5)),
 Ig 17 15 true (.build [i0, i0, (.s []), .ns, .ns] []),
 Ig 18 15 true (.call 20 [(.t 16), (.t 17)]),
 It 19 (.pick (.t 15) (.t 18) (.c (.b false))),
 Mv 4 19] [])
 .ret))),
    20, 2, [.t 4], 0⟩
theorem tr6 : trFunc Tryz.prog (hz [] I6.body) 0 Tryz.f6 = some (plain1 I6) := by kernel_rfl
theorem ck6 : ckC 2 I6.body = true := by kernel_rfl

/-- 'encore/encorelaw20.yes'. -/
def I7 : IFunc :=
  ⟨(.seq (.region [It 2 (.alloc [i0, i0, (.s []), .ns, .ns])] [])
 (.seq (.region [Mv 3 0,
 It 4 (.build [i0, i0, (.s []), .ns, .ns] [(0, 1, (.c (.i .i64 (2)))), (1, 1, (.t 3))]),
 ⟨none, (.store 5 (.t 2) (.t 4)), none, []⟩] [])
 .ret)),
    5, 1, [.c 2 (some 5)], 1⟩
theorem tr7 : trFunc Tryz.prog (hz [] I7.body) 1 Tryz.f7 = some (plain1 I7) := by kernel_rfl
theorem ck7 : ckC 2 I7.body = true := by kernel_rfl

/-- 'encore/encorelaw20.home'. -/
def I8 : IFunc :=
  ⟨(.seq (.region [It 2 (.alloc [i0, i0, i0, i0, (.s []), .ns, .ns])] [])
 (.seq (.region [Mv 3 0,
 It 4 (.build [i0, i0, i0, i0, (.s []), .ns, .ns] [(0, 1, (.c (.i .i64 (1)))), (1, 1, (.t 3))]),
 ⟨none, (.store 7 (.t 2) (.t 4)), none, []⟩] [])
 .ret)),
    5, 1, [.c 2 (some 7)], 1⟩
theorem tr8 : trFunc Tryz.prog (hz [] I8.body) 1 Tryz.f8 = some (plain1 I8) := by kernel_rfl
theorem ck8 : ckC 2 I8.body = true := by kernel_rfl

/-- 'encore/encorelaw20.step'. -/
def I9 : IFunc :=
  ⟨(.seq (.region [It 2 (.alloc [i0, i0, i0, i0, (.s []), .ns, .ns])] [])
 (.seq (.region [Mv 3 0,
 It 4 (.build [i0, i0, i0, i0, (.s []), .ns, .ns] [(0, 1, (.c (.i .i64 (2)))), (1, 1, (.t 3))]),
 ⟨none, (.store 7 (.t 2) (.t 4)), none, []⟩] [])
 .ret)),
    5, 1, [.c 2 (some 7)], 1⟩
theorem tr9 : trFunc Tryz.prog (hz [] I9.body) 1 Tryz.f9 = some (plain1 I9) := by kernel_rfl
theorem ck9 : ckC 2 I9.body = true := by kernel_rfl

/-- 'encore/encorelaw20.con'. -/
def I10 : IFunc :=
  ⟨(.seq (.region [It 1 (.box (.t 0)),
 It 2 (.alloc [i0, i0, i0, i0, (.s []), .ns, .ns])] [])
 (.seq (.region [It 3 (.load (some 5) (.t 1)),
 It 4 (.build [i0, i0, i0, i0, (.s []), .ns, .ns] [(0, 1, (.c (.i .i64 (3)))), (2, 5, (.t 3))]),
 ⟨none, (.store 7 (.t 2) (.t 4)), none, []⟩] [])
 .ret)),
    5, 1, [.c 2 (some 7)], 1⟩
theorem tr10 : trFunc Tryz.prog (hz [] I10.body) 1 Tryz.f10 = some (plain1 I10) := by kernel_rfl
theorem ck10 : ckC 2 I10.body = true := by kernel_rfl

/-- 'encore/lift.Check'. -/
def L11a : ICode :=
  (.seq (.region [It 26 (.bin .lss (.t 25) (.t 24))] [])
 (.seq (.cond (.t 26)
 .skip
 (.exit 0))
 (.seq (.block 1
 (.seq (.region [It 27 (.iaddr 1 (.t 23) (.t 25)),
 Ld 28 27,
 Mv 4 28] [])
 (.seq (.region [Mv 29 4,
 It 30 (.bin .lss (.t 29) (.c i0))] [])
 (.cond (.t 30)
 (.seq (.region [It 2 (.mov (.c (.i .i64 (2))))] [])
 .ret)
 .skip))))
 (.region [It 31 (.bin .add (.t 25) (.c (.i .i64 (1)))),
 Mv 25 31] []))))
def L11b : ICode :=
  (.seq (.region [It 69 (.bin .lss (.t 68) (.t 67))] [])
 (.seq (.cond (.t 69)
 .skip
 (.exit 2))
 (.seq (.block 3
 (.seq (.region [Mv 70 68,
 It 71 (.iaddr 5 (.t 66) (.t 68)),
 It 72 (.load (some 5) (.t 71)),
 It 6 (.alloc [i0, i0, .ns, (.s []), .ns]),
 Mv 5 70,
 ⟨none, (.store 5 (.t 6) (.t 72)), none, []⟩] [])
 (.seq (.region [It 73 (.load (some 5) (.t 6)),
 Of 74 1 3,
 Ld 75 74,
 Mv 76 5,
 It 77 (.call 21 [(.t 73), (.t 75), (.t 76)]),
 It 78 (.un .not (.t 77))] [])
 (.cond (.t 78)
 (.seq (.region [It 2 (.mov (.c (.i .i64 (2))))] [])
 .ret)
 .skip))))
 (.region [It 79 (.bin .add (.t 68) (.c (.i .i64 (1)))),
 Mv 68 79] []))))
def I11 : IFunc :=
  ⟨(.seq (.region [It 1 (.box (.t 0)),
 It 2 (.mov (.c i0))] [])
 (.seq (.seq (.region [Of 9 1 0,
 Ld 10 9,
 Of 11 1 1,
 Ld 12 11,
 Of 13 1 2,
 Ld 14 13,
 Of 15 1 3,
 Ld 16 15,
 Of 17 1 15,
 Ld 18 17,
 Of 19 1 6,
 Ld 20 19,
 Of 21 1 7,
 Ld 22 21,
 It 23 (.bsl 1 7 [i0, i0, i0, i0, i0, i0, i0] [(0, 1, (.t 10)), (1, 1, (.t 12)), (2, 1, (.t 14)), (3, 1, (.t 16)), (4, 1, (.t 18)), (5, 1, (.t 20)), (6, 1, (.t 22))]),
 It 24 (.lenk 0 (.t 23)),
 It 25 (.mov (.c i0))] [])
 (.block 0
 (.loop L11a)))
 (.seq (.seq (.region [Of 32 1 0,
 Ld 33 32,
 Of 34 1 1,
 Ld 35 34,
 Of 36 1 2,
 Ld 37 36,
 It 38 (.mm true (.t 33) [(.t 35), (.t 37)]),
 It 39 (.bin .gtr (.t 38) (.c (.i .i64 (9007199254740991))))] [])
 (.cond (.t 39)
 (.seq (.region [It 2 (.mov (.c (.i .i64 (2))))] [])
 .ret)
 .skip))
 (.seq (.seq (.region [Of 40 1 3,
 Ld 41 40,
 It 42 (.bin .gtr (.t 41) (.c (.i .i64 (64)))),
 Mv 43 42,
 Ig 44 43 false (.off (.t 1) 15),
 Ig 45 43 false (.load none (.t 44)),
 Ig 46 43 false (.bin .gtr (.t 45) (.c (.i .i64 (1)))),
 It 47 (.pick (.t 43) (.c (.b true)) (.t 46)),
 Mv 48 47,
 Ig 49 48 false (.off (.t 1) 6),
 Ig 50 48 false (.load none (.t 49)),
 Ig 51 48 false (.bin .gtr (.t 50) (.c (.i .i64 (3)))),
 It 52 (.pick (.t 48) (.c (.b true)) (.t 51)),
 Mv 53 52,
 Ig 54 53 false (.off (.t 1) 4),
 Ig 55 53 false (.load none (.t 54)),
 Ig 56 53 false (.lenk 0 (.t 55)),
 Ig 57 53 false (.bin .gtr (.t 56) (.c (.i .i64 (4096)))),
 It 58 (.pick (.t 53) (.c (.b true)) (.t 57)),
 Mv 59 58,
 Ig 60 59 false (.off (.t 1) 5),
 Ig 61 59 false (.load none (.t 60)),
 Ig 62 59 false (.lenk 0 (.t 61)),
 Ig 63 59 false (.bin .gtr (.t 62) (.c (.i .i64 (64)))),
 It 64 (.pick (.t 59) (.c (.b true)) (.t 63))] [])
 (.cond (.t 64)
 (.seq (.region [It 2 (.mov (.c (.i .i64 (2))))] [])
 .ret)
 .skip))
 (.seq (.seq (.region [Of 65 1 4,
 Ld 66 65,
 It 67 (.lenk 0 (.t 66)),
 It 68 (.mov (.c i0))] [])
 (.block 2
 (.loop L11b)))
 (.seq (.region [Of 80 1 6,
 Ld 81 80,
 It 82 (.bin .eql (.t 81) (.c (.i .i64 (2)))),
 Mv 83 82,
 Ig 84 83 true (.off (.t 1) 8),
 Ig 85 83 true (.load (some 7) (.t 84)),
 Ig 86 83 true (.off (.t 1) 3),
 Ig 87 83 true (.load none (.t 86)),
 Ig 88 83 true (.off (.t 1) 4),
 Ig 89 83 true (.load none (.t 88)),
 Ig 90 83 true (.lenk 0 (.t 89)),
 Ig 91 83 true (.call 22 [(.t 85), (.t 87), (.t 90)]),
 It 92 (.pick (.t 83) (.t 91) (.c (.b false))),
 Mv 7 92] [])
 (.seq (.region [Of 93 1 6,
 Ld 94 93,
 It 95 (.bin .neq (.t 94) (.c (.i .i64 (2)))),
 Mv 96 95,
 Ig 97 96 true (.off (.t 1) 8),
 Ig 98 96 true (.off (.t 97) 0),
 Ig 99 96 true (.load none (.t 98)),
 Ig 100 96 true (.bin .eql (.t 99) (.c i0)),
 It 101 (.pick (.t 96) (.t 100) (.c (.b false))),
 Mv 102 101,
 Ig 103 102 true (.off (.t 1) 8),
 Ig 104 102 true (.off (.t 103) 1),
 Ig 105 102 true (.load none (.t 104)),
 Ig 106 102 true (.bin .eql (.t 105) (.c i0)),
 It 107 (.pick (.t 102) (.t 106) (.c (.b false))),
 Mv 108 107,
 Ig 109 108 true (.off (.t 1) 8),
 Ig 110 108 true (.off (.t 109) 2),
 Ig 111 108 true (.load (some 5) (.t 110)),
 Ig 112 108 true (.call 23 [(.t 111)]),
 It 113 (.pick (.t 108) (.t 112) (.c (.b false))),
 Mv 8 113] [])
 (.seq (.seq (.region [Mv 114 7,
 It 115 (.un .not (.t 114)),
 Mv 116 115,
 Ig 117 116 true (.mov (.t 8)),
 Ig 118 116 true (.un .not (.t 117)),
 It 119 (.pick (.t 116) (.t 118) (.c (.b false))),
 Mv 120 119,
 Ig 121 120 false (.off (.t 1) 5),
 Ig 122 120 false (.load none (.t 121)),
 Ig 123 120 false (.off (.t 1) 3),
 Ig 124 120 false (.load none (.t 123)),
 Ig 125 120 false (.off (.t 1) 4),
 Ig 126 120 false (.load none (.t 125)),
 Ig 127 120 false (.lenk 0 (.t 126)),
 Ig 128 120 false (.call 24 [(.t 122), (.t 124), (.t 127)]),
 Ig 129 120 false (.un .not (.t 128)),
 It 130 (.pick (.t 120) (.c (.b true)) (.t 129))] [])
 (.cond (.t 130)
 (.seq (.region [It 2 (.mov (.c (.i .i64 (2))))] [])
 .ret)
 .skip))
 (.seq (.region [It 2 (.mov (.c i0))] [])
 .ret))))))))),
    131, 1, [.t 2], 2⟩
theorem tr11 : trFunc Tryz.prog (hz [] I11.body) 1 Tryz.f11 = some (plain1 I11) := by kernel_rfl
theorem ck11 : ckC 2 I11.body = true := by kernel_rfl

/-- 'encore/encorelaw20.meant'. -/
def L12a : ICode :=
  (.seq (.seq (.region [Mv 23 5,
 Of 24 3 4,
 Ld 25 24,
 It 26 (.lenk 0 (.t 25)),
 It 27 (.bin .lss (.t 23) (.t 26))] [])
 (.cond (.t 27)
 .skip
 (.exit 0)))
 (.seq (.block 1
 (.region [Of 30 4 4,
 Ld 31 30,
 Of 32 3 4,
 Ld 33 32,
 Mv 34 5,
 It 35 (.iaddr 5 (.t 33) (.t 34)),
 It 36 (.load (some 5) (.t 35)),
 ⟨(some 37), (.call 26 [(.t 36)]), none, [(31, (.load none (.t 30)), none)]⟩,
 It 38 (.bsl 5 1 [i0, i0, .ns, (.s []), .ns] [(0, 5, (.t 37))]),
 It 39 (.app 5 80 (.t 31) (.t 38)),
 Of 40 4 4,
 ⟨none, (.store 1 (.t 40) (.t 39)), none, []⟩] []))
 (.region [Mv 28 5,
 It 29 (.bin .add (.t 28) (.c (.i .i64 (1)))),
 Mv 5 29] [])))
def I12 : IFunc :=
  ⟨(.seq (.region [It 1 (.box (.t 0)),
 It 2 (.alloc [i0, i0, i0, i0, .ns, .ns, i0, i0, i0, i0, i0, i0, (.s []), .ns, .ns, i0])] [])
 (.seq (.region [It 6 (.load (some 16) (.t 1)),
 It 7 (.call 25 [(.t 6)]),
 It 3 (.alloc [i0, i0, i0, i0, .ns, .ns, i0, i0, i0, i0, i0, i0, (.s []), .ns, .ns, i0]),
 ⟨none, (.store 16 (.t 3) (.t 7)), none, []⟩] [])
 (.seq (.region [Of 8 3 0,
 Ld 9 8,
 Of 10 3 1,
 Ld 11 10,
 Of 12 3 2,
 Ld 13 12,
 Of 14 3 3,
 Ld 15 14,
 Of 16 3 6,
 Ld 17 16,
 Of 18 3 7,
 Ld 19 18,
 Of 20 3 15,
 Ld 21 20,
 It 22 (.build [i0, i0, i0, i0, .ns, .ns, i0, i0, i0, i0, i0, i0, (.s []), .ns, .ns, i0] [(0, 1, (.t 9)), (1, 1, (.t 11)), (2, 1, (.t 13)), (3, 1, (.t 15)), (6, 1, (.t 17)), (7, 1, (.t 19)), (15, 1, (.t 21))]),
 It 4 (.alloc [i0, i0, i0, i0, .ns, .ns, i0, i0, i0, i0, i0, i0, (.s []), .ns, .ns, i0]),
 ⟨none, (.store 16 (.t 4) (.t 22)), none, []⟩] [])
 (.seq (.seq (.region [It 5 (.mov (.c i0))] [])
 (.block 0
 (.loop L12a)))
 (.seq (.region [Of 41 3 5,
 Ld 42 41,
 It 43 (.call 27 [(.t 42)]),
 Of 44 4 5,
 ⟨none, (.store 1 (.t 44) (.t 43)), none, []⟩] [])
 (.seq (.region [Of 45 3 8,
 Of 46 45 0,
 Ld 47 46,
 Of 48 3 8,
 Of 49 48 1,
 Ld 50 49,
 Of 51 3 8,
 Of 52 51 2,
 It 53 (.load (some 5) (.t 52)),
 It 54 (.build [i0, i0, i0, i0, (.s []), .ns, .ns] [(0, 1, (.t 47)), (1, 1, (.t 50)), (2, 5, (.t 53))]),
 Of 55 4 8,
 ⟨none, (.store 7 (.t 55) (.t 54)), none, []⟩] [])
 (.seq (.region [It 56 (.load (some 16) (.t 4)),
 ⟨none, (.store 16 (.t 2) (.t 56)), none, []⟩] [])
 .ret))))))),
    57, 1, [.c 2 (some 16)], 0⟩
theorem tr12 : trFunc Tryz.prog (hz [(6, [0, 1, 2, 3, 4, 5, 6, 7, 8, 9, 10, 11])] I12.body) 0 Tryz.f12 = some (plain1 I12) := by kernel_rfl
theorem ck12 : ckC 2 I12.body = true := by kernel_rfl

/-- 'encore/lift.Of'. -/
def L13a : ICode :=
  (.seq (.region [It 74 (.bin .lss (.t 73) (.t 72))] [])
 (.seq (.cond (.t 74)
 .skip
 (.exit 0))
 (.seq (.block 1
 (.seq (.region [Mv 75 73,
 Mv 17 75] [])
 (.region [Mv 76 16,
 Mv 77 17,
 It 78 (.build [i0, i0, i0, i0, (.s []), .ns, .ns] [(0, 1, (.c (.i .i64 (1)))), (1, 1, (.t 77))]),
 It 79 (.bsl 7 1 [i0, i0, i0, i0, (.s []), .ns, .ns] [(0, 7, (.t 78))]),
 It 80 (.call 31 [(.t 76), (.t 79)])] [])))
 (.region [It 81 (.bin .add (.t 73) (.c (.i .i64 (1)))),
 Mv 73 81] []))))
def L13b : ICode :=
  (.seq (.seq (.region [Mv 109 3] [])
 (.cond (.t 109)
 .skip
 (.exit 2)))
 (.seq (.block 3
 (.seq (.region [Mv 116 16,
 Of 117 15 3,
 Ld 118 117,
 It 119 (.call 34 [(.t 116), (.t 118)]),
 Mv 115 119,
 Ex 120 115 0,
 Ex 121 115 1,
 It 18 (.alloc [(.s []), i0, i0, .ns]),
 ⟨none, (.store 4 (.t 18) (.t 120)), none, []⟩,
 Mv 19 121] [])
 (.seq (.seq (.region [Mv 122 19,
 It 123 (.un .not (.t 122))] [])
 (.cond (.t 123)
 (.exit 2)
 .skip))
 (.seq (.region [Mv 124 16,
 It 125 (.load (some 4) (.t 18)),
 It 126 (.call 35 [(.t 124), (.t 125)])] [])
 (.seq (.region [Mv 127 16,
 It 128 (.nck (.t 127)),
 Of 129 128 2,
 Of 130 129 7,
 Ld 131 130,
 It 132 (.bin .add (.t 131) (.c (.i .i64 (1)))),
 It 133 (.nck (.t 127)),
 Of 134 133 2,
 Of 135 134 7,
 ⟨none, (.store 1 (.t 135) (.t 132)), none, []⟩] [])
 (.seq (.region [Mv 137 10,
 Mv 138 16,
 It 139 (.nck (.t 138)),
 Of 140 139 2,
 Of 141 140 7,
 Ld 142 141,
 It 143 (.call 30 [(.t 137), (.t 142)]),
 Mv 136 143,
 Ex 144 136 0,
 Ex 145 136 1,
 ⟨none, (.store 4 (.t 13) (.t 144)), none, []⟩,
 Mv 14 145] [])
 (.seq (.region [Mv 146 14,
 It 147 (.un .not (.t 146)),
 Mv 148 147,
 Ig 149 148 false (.off (.t 13) 2),
 Ig 150 148 false (.load none (.t 149)),
 Ig 151 148 false (.bin .eql (.t 150) (.c (.i .i64 (2)))),
 It 152 (.pick (.t 148) (.c (.b true)) (.t 151))] [])
 (.cond (.t 152)
 (.exit 2)
 .skip))))))))
 (.region [Mv 110 16,
 Of 111 15 3,
 Ld 112 111,
 It 113 (.load (some 4) (.t 13)),
 It 114 (.call 33 [(.t 110), (.t 112), (.t 113)])] [])))
def I13 : IFunc :=
  ⟨(.seq (.region [It 4 (.box (.t 0)),
 It 8 (.alloc [i0, i0, i0, i0, .ns, .ns, i0, i0, i0, i0, i0, i0, (.s []), .ns, .ns, i0]),
 It 9 (.mov (.c i0))] [])
 (.seq (.region [It 21 (.load (some 2) (.t 4)),
 Mv 22 1,
 It 23 (.call 28 [(.t 21), (.t 22)]),
 Mv 20 23,
 Ex 24 20 0,
 Ex 25 20 1,
 Mv 10 24,
 Mv 11 25] [])
 (.seq (.seq (.region [Mv 26 11,
 It 27 (.bin .neq (.t 26) (.c i0))] [])
 (.cond (.t 27)
 (.seq (.region [It 28 (.build [i0, i0, i0, i0, .ns, .ns, i0, i0, i0, i0, i0, i0, (.s []), .ns, .ns, i0] []),
 Mv 29 11,
 ⟨none, (.store 16 (.t 8) (.t 28)), none, []⟩,
 Mv 9 29] [])
 .ret)
 .skip))
 (.seq (.region [It 31 (.load (some 2) (.t 4)),
 Mv 32 1,
 It 33 (.call 29 [(.t 31), (.t 32)]),
 Mv 30 33,
 Ex 34 30 0,
 Ex 35 30 1,
 Mv 12 34,
 Mv 11 35] [])
 (.seq (.seq (.region [Mv 36 11,
 It 37 (.bin .neq (.t 36) (.c i0))] [])
 (.cond (.t 37)
 (.seq (.region [It 38 (.build [i0, i0, i0, i0, .ns, .ns, i0, i0, i0, i0, i0, i0, (.s []), .ns, .ns, i0] []),
 Mv 39 11,
 ⟨none, (.store 16 (.t 8) (.t 38)), none, []⟩,
 Mv 9 39] [])
 .ret)
 .skip))
 (.seq (.region [Mv 41 10,
 Mv 42 2,
 It 43 (.call 30 [(.t 41), (.t 42)]),
 Mv 40 43,
 Ex 44 40 0,
 Ex 45 40 1,
 It 13 (.alloc [i0, i0, i0, i0]),
 ⟨none, (.store 4 (.t 13) (.t 44)), none, []⟩,
 Mv 14 45] [])
 (.seq (.seq (.region [Mv 46 14,
 It 47 (.un .not (.t 46))] [])
 (.cond (.t 47)
 (.seq (.region [It 48 (.build [i0, i0, i0, i0, .ns, .ns, i0, i0, i0, i0, i0, i0, (.s []), .ns, .ns, i0] []),
 ⟨none, (.store 16 (.t 8) (.t 48)), none, []⟩,
 It 9 (.mov (.c (.i .i64 (9))))] [])
 .ret)
 .skip))
 (.seq (.region [Of 49 4 0,
 Ld 50 49,
 Mv 51 1,
 It 52 (.iaddr 4 (.t 50) (.t 51)),
 It 53 (.load (some 4) (.t 52)),
 It 15 (.alloc [(.s []), i0, i0, .ns]),
 ⟨none, (.store 4 (.t 15) (.t 53)), none, []⟩] [])
 (.seq (.region [It 54 (.load (some 2) (.t 4)),
 Mv 55 1,
 Mv 56 2,
 Of 57 15 2,
 Ld 58 57,
 Mv 59 12,
 Mv 60 2,
 It 61 (.iaddr 3 (.t 59) (.t 60)),
 Of 62 61 1,
 Ld 63 62,
 It 64 (.bin .add (.t 58) (.t 63)),
 It 65 (.build [i0, i0, i0, i0, .ns, .ns, i0, i0, i0, i0, i0, i0, (.s []), .ns, .ns, i0] [(0, 1, (.t 55)), (1, 1, (.t 56)), (3, 1, (.t 64))]),
 It 66 (.build [.ns, .ns, i0, i0, i0, i0, .ns, .ns, i0, i0, i0, i0, i0, i0, (.s []), .ns, .ns, i0, .ns, .ns] [(0, 2, (.t 54)), (2, 16, (.t 65))]),
 It 67 (.box (.t 66)),
 Mv 16 67] [])
 (.seq (.seq (.region [Mv 68 16,
 It 69 (.nck (.t 68)),
 Of 70 69 2,
 Of 71 70 3,
 Ld 72 71,
 It 73 (.mov (.c i0))] [])
 (.block 0
 (.loop L13a)))
 (.seq (.region [Mv 82 16,
 Mv 83 16,
 Mv 84 16,
 It 85 (.nck (.t 84)),
 Of 86 85 19,
 Ld 87 86,
 Of 88 15 2,
 Ld 89 88,
 It 90 (.slq 7 (.t 87) none (some (.t 89)) none),
 Mv 92 16,
 It 93 (.nck (.t 92)),
 Of 94 93 19,
 Ld 95 94,
 Of 96 15 2,
 Ld 97 96,
 It 98 (.slq 7 (.t 95) (some (.t 97)) none none),
 ⟨(some 91), (.call 32 [(.t 90)]), none, [(95, (.load none (.t 94)), none), (97, (.load none (.t 96)), none), (98, (.slq 7 (.t 95) (some (.t 97)) none none), none)]⟩,
 It 99 (.call 32 [(.t 98)]),
 It 100 (.nck (.t 82)),
 Of 101 100 18,
 ⟨none, (.store 1 (.t 101) (.t 91)), none, []⟩,
 It 102 (.nck (.t 83)),
 Of 103 102 19,
 ⟨none, (.store 1 (.t 103) (.t 99)), none, []⟩] [])
 (.seq (.seq (.region [Mv 104 16,
 Of 105 15 3,
 Ld 106 105,
 It 107 (.load (some 4) (.t 13)),
 It 108 (.call 33 [(.t 104), (.t 106), (.t 107)])] [])
 (.block 2
 (.loop L13b)))
 (.seq (.region [Mv 153 16,
 Mv 154 16,
 It 155 (.nck (.t 154)),
 Of 156 155 18,
 Ld 157 156,
 Mv 158 16,
 It 159 (.nck (.t 158)),
 Of 160 159 19,
 Ld 161 160,
 It 162 (.app 7 96 (.t 157) (.t 161)),
 It 163 (.nck (.t 153)),
 Of 164 163 2,
 Of 165 164 5,
 ⟨none, (.store 1 (.t 165) (.t 162)), none, []⟩] [])
 (.seq (.region [Mv 166 16,
 It 167 (.nck (.t 166)),
 Of 168 167 2,
 It 169 (.load (some 16) (.t 168)),
 ⟨none, (.store 16 (.t 8) (.t 169)), none, []⟩,
 It 9 (.mov (.c i0))] [])
 .ret)))))))))))))),
    170, 4, [.c 8 (some 16), .t 9], 0⟩
theorem tr13 : trFunc Tryz.prog (hz [(14, [0, 1, 2, 3, 4, 5, 6, 7, 8, 9, 10, 11, 12, 13, 14]), (21, [0, 1, 2, 3, 4, 5, 6, 7, 8, 10, 11, 12, 13, 14, 15, 16, 9, 17, 18, 19, 20, 21, 22, 23]), (34, [0, 1, 2, 3, 4, 5, 6, 7, 8, 9, 10, 11, 12, 13])] I13.body) 0 Tryz.f13 = some (plain1 I13) := by kernel_rfl
theorem ck13 : ckC 2 I13.body = true := by kernel_rfl

/-- 'encore/encorelaw20.adds'. -/
def I14 : IFunc :=
  ⟨(.seq (.region [It 0 (.alloc [.ns, .ns])] [])
 (.seq (.region [It 1 (.call 16 [(.c (.i .i64 (2))), (.c i0)]),
 It 2 (.call 16 [(.c (.i .i64 (1))), (.c i0)]),
 It 3 (.call 16 [(.c (.i .i64 (9))), (.c i0)]),
 It 4 (.call 16 [(.c (.i .i64 (3))), (.c i0)]),
 It 5 (.call 16 [(.c (.i .i64 (2))), (.c i0)]),
 It 6 (.call 16 [(.c (.i .i64 (30))), (.c i0)]),
 It 7 (.bsl 3 6 [i0, i0, i0, i0, i0, i0, i0, i0, i0, i0, i0, i0, i0, i0, i0, i0, i0, i0] [(0, 3, (.t 1)), (3, 3, (.t 2)), (6, 3, (.t 3)), (9, 3, (.t 4)), (12, 3, (.t 5)), (15, 3, (.t 6))]),
 It 8 (.call 15 [(.t 7)]),
 ⟨none, (.store 2 (.t 0) (.t 8)), none, []⟩] [])
 .ret)),
    9, 0, [.c 0 (some 2)], 0⟩
theorem tr14 : trFunc Tryz.prog (hz [] I14.body) 0 Tryz.f14 = some (plain1 I14) := by kernel_rfl
theorem ck14 : ckC 2 I14.body = true := by kernel_rfl

/-- 'encore/encorelaw20.of'. -/
def I15 : IFunc :=
  ⟨(.seq (.region [It 2 (.alloc [.ns, .ns])] [])
 (.seq (.region [Mv 3 0,
 It 4 (.build [(.s []), i0, i0, .ns] [(0, 1, (.c (.s [109, 97, 105, 110]))), (2, 1, (.c (.i .i64 (1)))), (3, 1, (.t 3))]),
 It 5 (.bsl 4 1 [(.s []), i0, i0, .ns] [(0, 4, (.t 4))]),
 It 6 (.call 5 [(.c (.i .i64 (1)))]),
 It 7 (.call 5 [(.c (.i .i64 (2)))]),
 It 8 (.bsl 5 2 [i0, i0, (.s []), .ns, .ns, i0, i0, (.s []), .ns, .ns] [(0, 5, (.t 6)), (5, 5, (.t 7))]),
 It 9 (.build [.ns, .ns] [(0, 1, (.t 5)), (1, 1, (.t 8))]),
 ⟨none, (.store 2 (.t 2) (.t 9)), none, []⟩] [])
 .ret)),
    10, 1, [.c 2 (some 2)], 0⟩
theorem tr15 : trFunc Tryz.prog (hz [] I15.body) 0 Tryz.f15 = some (plain1 I15) := by kernel_rfl
theorem ck15 : ckC 2 I15.body = true := by kernel_rfl

/-- 'encore/encorelaw20.is'. -/
def I16 : IFunc :=
  ⟨(.seq (.region [It 4 (.alloc [i0, i0, i0])] [])
 (.seq (.region [Mv 5 0,
 Mv 6 1,
 It 7 (.build [i0, i0, i0] [(0, 1, (.t 5)), (1, 1, (.t 6))]),
 ⟨none, (.store 3 (.t 4) (.t 7)), none, []⟩] [])
 .ret)),
    8, 2, [.c 4 (some 3)], 1⟩
theorem tr16 : trFunc Tryz.prog (hz [] I16.body) 1 Tryz.f16 = some (plain1 I16) := by kernel_rfl
theorem ck16 : ckC 2 I16.body = true := by kernel_rfl

/-- 'encore/encorelaw20.works'. -/
def I17 : IFunc :=
  ⟨(.seq (.region [It 0 (.mov (.c (.b false)))] [])
 (.seq (.region [It 12 (.call 14 []),
 It 13 (.call 13 [(.t 12), (.c i0), (.c i0), (.c (.b false))]),
 Mv 11 13,
 Ex 14 11 0,
 Ex 15 11 1,
 It 1 (.alloc [i0, i0, i0, i0, .ns, .ns, i0, i0, i0, i0, i0, i0, (.s []), .ns, .ns, i0]),
 ⟨none, (.store 16 (.t 1) (.t 14)), none, []⟩,
 Mv 2 15] [])
 (.seq (.region [It 16 (.call 8 [(.c i0)]),
 It 17 (.call 5 [(.c (.i .i64 (1)))]),
 It 18 (.call 10 [(.t 17)]),
 It 19 (.bsl 7 2 [i0, i0, i0, i0, (.s []), .ns, .ns, i0, i0, i0, i0, (.s []), .ns, .ns] [(0, 7, (.t 16)), (7, 7, (.t 18))]),
 It 20 (.build [i0, i0, .ns, (.s []), .ns] [(0, 1, (.c (.i .i64 (9)))), (2, 1, (.t 19))]),
 It 21 (.bsl 5 1 [i0, i0, .ns, (.s []), .ns] [(0, 5, (.t 20))]),
 It 22 (.call 9 [(.c i0)]),
 It 23 (.call 9 [(.c i0)]),
 It 24 (.bsl 7 2 [i0, i0, i0, i0, (.s []), .ns, .ns, i0, i0, i0, i0, (.s []), .ns, .ns] [(0, 7, (.t 22)), (7, 7, (.t 23))]),
 It 25 (.build [i0, i0, i0, i0, .ns, .ns, i0, i0, i0, i0, i0, i0, (.s []), .ns, .ns, i0] [(2, 1, (.c (.i .i64 (5)))), (3, 1, (.c (.i .i64 (1)))), (4, 1, (.t 21)), (5, 1, (.t 24)), (6, 1, (.c (.i .i64 (3)))), (7, 1, (.c (.i .i64 (5))))]),
 It 3 (.alloc [i0, i0, i0, i0, .ns, .ns, i0, i0, i0, i0, i0, i0, (.s []), .ns, .ns, i0]),
 ⟨none, (.store 16 (.t 3) (.t 25)), none, []⟩] [])
 (.seq (.region [It 27 (.load (some 16) (.t 1)),
 It 28 (.build [i0, i0, (.s []), .ns, .ns] [(0, 1, (.c (.i .i64 (3)))), (2, 1, (.c (.s [97])))]),
 It 29 (.bsl 5 1 [i0, i0, (.s []), .ns, .ns] [(0, 5, (.t 28))]),
 It 30 (.call 36 [(.t 27), (.t 29)]),
 Mv 26 30,
 Ex 31 26 0,
 Ex 32 26 1,
 Ex 33 26 2,
 Mv 4 31,
 Mv 5 32,
 Mv 6 33] [])
 (.seq (.seq (.region [Mv 34 2,
 It 35 (.bin .neq (.t 34) (.c i0)),
 Mv 36 35,
 Ig 37 36 false (.load (some 16) (.t 1)),
 Ig 39 36 false (.load (some 16) (.t 3)),
 ⟨(some 38), (.call 38 [(.t 37)]), (some (36, false)), [(39, (.load (some 16) (.t 3)), (some (36, false)))]⟩,
 Ig 40 36 false (.call 37 [(.t 38), (.t 39)]),
 Ig 41 36 false (.un .not (.t 40)),
 It 42 (.pick (.t 36) (.c (.b true)) (.t 41)),
 Mv 43 42,
 Ig 44 43 false (.load (some 16) (.t 1)),
 ⟨(some 45), (.call 5 [(.c (.i .i64 (4)))]), (some (43, false)), [(44, (.load (some 16) (.t 1)), (some (43, false)))]⟩,
 Ig 46 43 false (.bsl 5 1 [i0, i0, (.s []), .ns, .ns] [(0, 5, (.t 45))]),
 ⟨(some 47), (.call 5 [(.c (.i .i64 (5)))]), (some (43, false)), [(44, (.load (some 16) (.t 1)), (some (43, false)))]⟩,
 ⟨(some 48), (.call 5 [(.c (.i .i64 (5)))]), (some (43, false)), [(44, (.load (some 16) (.t 1)), (some (43, false)))]⟩,
 Ig 49 43 false (.bsl 5 2 [i0, i0, (.s []), .ns, .ns, i0, i0, (.s []), .ns, .ns] [(0, 5, (.t 47)), (5, 5, (.t 48))]),
 Ig 50 43 false (.call 39 [(.t 44), (.t 46), (.c (.i .i64 (5))), (.t 49)]),
 Ig 51 43 false (.un .not (.t 50)),
 It 52 (.pick (.t 43) (.c (.b true)) (.t 51)),
 Mv 53 52,
 Ig 54 53 false (.mov (.t 6)),
 It 55 (.pick (.t 53) (.c (.b true)) (.t 54)),
 Mv 56 55,
 Ig 57 56 false (.load (some 16) (.t 1)),
 Ig 58 56 false (.call 11 [(.t 57)]),
 Ig 59 56 false (.bin .neq (.t 58) (.c i0)),
 It 60 (.pick (.t 56) (.c (.b true)) (.t 59))] [])
 (.cond (.t 60)
 (.seq (.region [It 0 (.mov (.c (.b false)))] [])
 .ret)
 .skip))
 (.seq (.region [It 62 (.call 16 [(.c (.i .i64 (1))), (.c i0)]),
 It 63 (.call 16 [(.c (.i .i64 (1))), (.c (.i .i64 (1)))]),
 It 64 (.call 16 [(.c (.i .i64 (16))), (.c i0)]),
 It 65 (.call 16 [(.c (.i .i64 (25))), (.c (.i .i64 (5)))]),
 It 66 (.call 16 [(.c (.i .i64 (24))), (.c i0)]),
 It 67 (.call 16 [(.c (.i .i64 (1))), (.c i0)]),
 It 68 (.call 16 [(.c (.i .i64 (30))), (.c i0)]),
 It 69 (.bsl 3 7 [i0, i0, i0, i0, i0, i0, i0, i0, i0, i0, i0, i0, i0, i0, i0, i0, i0, i0, i0, i0, i0] [(0, 3, (.t 62)), (3, 3, (.t 63)), (6, 3, (.t 64)), (9, 3, (.t 65)), (12, 3, (.t 66)), (15, 3, (.t 67)), (18, 3, (.t 68))]),
 It 70 (.call 15 [(.t 69)]),
 It 71 (.call 13 [(.t 70), (.c i0), (.c i0), (.c (.b false))]),
 Mv 61 71,
 Ex 72 61 0,
 Ex 73 61 1,
 It 7 (.alloc [i0, i0, i0, i0, .ns, .ns, i0, i0, i0, i0, i0, i0, (.s []), .ns, .ns, i0]),
 ⟨none, (.store 16 (.t 7) (.t 72)), none, []⟩,
 Mv 8 73] [])
 (.seq (.region [It 75 (.build [i0, i0, .ns, (.s []), .ns] [(0, 1, (.c (.i .i64 (48)))), (1, 1, (.c (.i .i64 (3))))]),
 It 76 (.call 5 [(.c (.i .i64 (4)))]),
 It 77 (.bsl 5 1 [i0, i0, (.s []), .ns, .ns] [(0, 5, (.t 76))]),
 It 78 (.call 19 [(.t 75), (.t 77)]),
 Mv 74 78,
 Ex 79 74 0,
 Ex 80 74 1,
 It 9 (.alloc [i0, i0, (.s []), .ns, .ns]),
 ⟨none, (.store 5 (.t 9) (.t 79)), none, []⟩,
 Mv 10 80] [])
 (.seq (.region [Mv 81 8,
 It 82 (.bin .eql (.t 81) (.c i0)),
 Mv 83 82,
 Ig 84 83 true (.load (some 16) (.t 7)),
 ⟨(some 85), (.call 5 [(.c (.i .i64 (7)))]), (some (83, true)), [(84, (.load (some 16) (.t 7)), (some (83, true)))]⟩,
 Ig 86 83 true (.bsl 5 1 [i0, i0, (.s []), .ns, .ns] [(0, 5, (.t 85))]),
 ⟨(some 87), (.call 5 [(.c (.i .i64 (7)))]), (some (83, true)), [(84, (.load (some 16) (.t 7)), (some (83, true)))]⟩,
 Ig 88 83 true (.bsl 5 1 [i0, i0, (.s []), .ns, .ns] [(0, 5, (.t 87))]),
 Ig 89 83 true (.call 39 [(.t 84), (.t 86), (.c (.i .i64 (4))), (.t 88)]),
 It 90 (.pick (.t 83) (.t 89) (.c (.b false))),
 Mv 91 90,
 Ig 92 91 true (.off (.t 7) 6),
 Ig 93 91 true (.load none (.t 92)),
 Ig 94 91 true (.bin .eql (.t 93) (.c (.i .i64 (2)))),
 It 95 (.pick (.t 91) (.t 94) (.c (.b false))),
 Mv 96 95,
 Ig 97 96 true (.off (.t 7) 7),
 Ig 98 96 true (.load none (.t 97)),
 Ig 99 96 true (.bin .eql (.t 98) (.c (.i .i64 (5)))),
 It 100 (.pick (.t 96) (.t 99) (.c (.b false))),
 Mv 101 100,
 Ig 102 101 true (.mov (.t 10)),
 It 103 (.pick (.t 101) (.t 102) (.c (.b false))),
 Mv 104 103,
 Ig 105 104 true (.load (some 5) (.t 9)),
 ⟨(some 106), (.call 5 [(.c (.i .i64 (7)))]), (some (104, true)), [(105, (.load (some 5) (.t 9)), (some (104, true)))]⟩,
 Ig 107 104 true (.call 20 [(.t 105), (.t 106)]),
 It 108 (.pick (.t 104) (.t 107) (.c (.b false))),
 Mv 109 108,
 Ig 110 109 true (.call 16 [(.c (.i .i64 (2))), (.c i0)]),
 Ig 111 109 true (.call 16 [(.c (.i .i64 (30))), (.c i0)]),
 Ig 112 109 true (.bsl 3 2 [i0, i0, i0, i0, i0, i0] [(0, 3, (.t 110)), (3, 3, (.t 111))]),
 Ig 113 109 true (.call 15 [(.t 112)]),
 Ig 114 109 true (.call 40 [(.t 113), (.c i0)]),
 It 115 (.pick (.t 109) (.t 114) (.c (.b false))),
 Mv 0 115] [])
 .ret)))))))),
    116, 0, [.t 0], 2⟩
theorem tr17 : trFunc Tryz.prog (hz [(4, [0, 1, 2, 3, 5, 4, 6, 7, 8, 9, 10, 11, 12, 13, 14, 15, 16, 17, 18, 19, 20, 21, 22, 23, 24, 25, 26]), (9, [0, 1, 2, 3, 4, 5, 6, 7, 8, 9, 10, 11, 12, 13, 14, 15, 16, 17, 18, 19, 20, 21, 22, 23, 24, 25, 26, 27, 28, 29, 30, 31, 32, 33, 34, 35])] I17.body) 1 Tryz.f17 = some (plain1 I17) := by kernel_rfl
theorem ck17 : ckC 2 I17.body = true := by kernel_rfl

/-- 'encore/encorelaw20.put'. -/
def L18a : ICode :=
  (.seq (.seq (.region [Mv 109 13,
 It 110 (.bin .lss (.t 109) (.c (.i .i64 (9))))] [])
 (.cond (.t 110)
 .skip
 (.exit 0)))
 (.seq (.block 1
 (.seq (.region [It 113 (.load (some 2) (.t 12)),
 Mv 114 13,
 It 115 (.build [i0, i0, i0] [(0, 1, (.t 114)), (1, 1, (.c i0)), (2, 1, (.c (.i .i64 (1))))]),
 It 116 (.call 41 [(.t 113), (.t 115), (.c .ns)]),
 It 117 (.un .not (.t 116)),
 Mv 118 117,
 Ig 119 118 false (.load (some 2) (.t 12)),
 Ig 120 118 false (.mov (.t 13)),
 Ig 121 118 false (.build [i0, i0, i0] [(0, 1, (.t 120)), (1, 1, (.c i0)), (2, 1, (.c i0))]),
 Ig 122 118 false (.call 41 [(.t 119), (.t 121), (.c .ns)]),
 Ig 123 118 false (.un .not (.t 122)),
 It 124 (.pick (.t 118) (.c (.b true)) (.t 123))] [])
 (.cond (.t 124)
 (.seq (.region [It 0 (.mov (.c (.b false)))] [])
 .ret)
 .skip)))
 (.region [Mv 111 13,
 It 112 (.bin .add (.t 111) (.c (.i .i64 (1)))),
 Mv 13 112] [])))
def I18 : IFunc :=
  ⟨(.seq (.region [It 0 (.mov (.c (.b false)))] [])
 (.seq (.region [It 15 (.call 16 [(.c (.i .i64 (2))), (.c i0)]),
 It 16 (.call 16 [(.c (.i .i64 (1))), (.c i0)]),
 It 17 (.call 16 [(.c (.i .i64 (29))), (.c (.i .i64 (1)))]),
 It 18 (.call 16 [(.c (.i .i64 (3))), (.c i0)]),
 It 19 (.call 16 [(.c (.i .i64 (2))), (.c i0)]),
 It 20 (.call 16 [(.c (.i .i64 (30))), (.c i0)]),
 It 21 (.bsl 3 6 [i0, i0, i0, i0, i0, i0, i0, i0, i0, i0, i0, i0, i0, i0, i0, i0, i0, i0] [(0, 3, (.t 15)), (3, 3, (.t 16)), (6, 3, (.t 17)), (9, 3, (.t 18)), (12, 3, (.t 19)), (15, 3, (.t 20))]),
 It 22 (.call 15 [(.t 21)]),
 It 1 (.alloc [.ns, .ns]),
 ⟨none, (.store 2 (.t 1) (.t 22)), none, []⟩] [])
 (.seq (.region [Of 23 1 0,
 Ld 24 23,
 ⟨(some 25), (.call 16 [(.c (.i .i64 (2))), (.c i0)]), none, [(24, (.load none (.t 23)), none)]⟩,
 ⟨(some 26), (.call 16 [(.c (.i .i64 (2))), (.c (.i .i64 (1)))]), none, [(24, (.load none (.t 23)), none)]⟩,
 ⟨(some 27), (.call 16 [(.c (.i .i64 (10))), (.c i0)]), none, [(24, (.load none (.t 23)), none)]⟩,
 ⟨(some 28), (.call 16 [(.c (.i .i64 (2))), (.c (.i .i64 (2)))]), none, [(24, (.load none (.t 23)), none)]⟩,
 ⟨(some 29), (.call 16 [(.c (.i .i64 (4))), (.c i0)]), none, [(24, (.load none (.t 23)), none)]⟩,
 ⟨(some 30), (.call 16 [(.c (.i .i64 (30))), (.c i0)]), none, [(24, (.load none (.t 23)), none)]⟩,
 It 31 (.bsl 3 6 [i0, i0, i0, i0, i0, i0, i0, i0, i0, i0, i0, i0, i0, i0, i0, i0, i0, i0] [(0, 3, (.t 25)), (3, 3, (.t 26)), (6, 3, (.t 27)), (9, 3, (.t 28)), (12, 3, (.t 29)), (15, 3, (.t 30))]),
 It 32 (.build [(.s []), i0, i0, .ns] [(0, 1, (.c (.s [102]))), (1, 1, (.c (.i .i64 (2)))), (2, 1, (.c (.i .i64 (3)))), (3, 1, (.t 31))]),
 It 33 (.bsl 4 1 [(.s []), i0, i0, .ns] [(0, 4, (.t 32))]),
 It 34 (.app 4 56 (.t 24) (.t 33)),
 Of 35 1 0,
 ⟨none, (.store 1 (.t 35) (.t 34)), none, []⟩] [])
 (.seq (.region [It 37 (.load (some 2) (.t 1)),
 It 38 (.call 13 [(.t 37), (.c i0), (.c i0), (.c (.b true))]),
 Mv 36 38,
 Ex 39 36 0,
 Ex 40 36 1,
 It 2 (.alloc [i0, i0, i0, i0, .ns, .ns, i0, i0, i0, i0, i0, i0, (.s []), .ns, .ns, i0]),
 ⟨none, (.store 16 (.t 2) (.t 39)), none, []⟩,
 Mv 3 40] [])
 (.seq (.region [It 41 (.call 8 [(.c i0)]),
 It 42 (.call 5 [(.c (.i .i64 (1)))]),
 It 43 (.call 10 [(.t 42)]),
 It 44 (.bsl 7 2 [i0, i0, i0, i0, (.s []), .ns, .ns, i0, i0, i0, i0, (.s []), .ns, .ns] [(0, 7, (.t 41)), (7, 7, (.t 43))]),
 It 45 (.build [i0, i0, .ns, (.s []), .ns] [(0, 1, (.c (.i .i64 (10)))), (2, 1, (.t 44))]),
 It 46 (.bsl 5 1 [i0, i0, .ns, (.s []), .ns] [(0, 5, (.t 45))]),
 It 47 (.call 9 [(.c i0)]),
 It 48 (.call 9 [(.c i0)]),
 It 49 (.bsl 7 2 [i0, i0, i0, i0, (.s []), .ns, .ns, i0, i0, i0, i0, (.s []), .ns, .ns] [(0, 7, (.t 47)), (7, 7, (.t 48))]),
 It 50 (.build [i0, i0, i0, i0, .ns, .ns, i0, i0, i0, i0, i0, i0, (.s []), .ns, .ns, i0] [(2, 1, (.c (.i .i64 (11)))), (3, 1, (.c (.i .i64 (1)))), (4, 1, (.t 46)), (5, 1, (.t 49)), (6, 1, (.c (.i .i64 (3)))), (7, 1, (.c (.i .i64 (5)))), (15, 1, (.c (.i .i64 (1))))]),
 It 4 (.alloc [i0, i0, i0, i0, .ns, .ns, i0, i0, i0, i0, i0, i0, (.s []), .ns, .ns, i0]),
 ⟨none, (.store 16 (.t 4) (.t 50)), none, []⟩] [])
 (.seq (.region [It 52 (.load (some 2) (.t 1)),
 It 53 (.call 13 [(.t 52), (.c i0), (.c i0), (.c (.b false))]),
 Mv 51 53,
 Ex 54 51 0,
 Ex 55 51 1,
 It 5 (.alloc [i0, i0, i0, i0, .ns, .ns, i0, i0, i0, i0, i0, i0, (.s []), .ns, .ns, i0]),
 ⟨none, (.store 16 (.t 5) (.t 54)), none, []⟩,
 Mv 6 55] [])
 (.seq (.region [Of 56 1 0,
 Ld 57 56,
 It 58 (.iaddr 4 (.t 57) (.c (.i .i64 (1)))),
 Of 59 58 3,
 Ld 60 59,
 It 61 (.iaddr 3 (.t 60) (.c (.i .i64 (5)))),
 Of 62 61 0,
 ⟨none, (.store 1 (.t 62) (.c (.i .i64 (28)))), none, []⟩] [])
 (.seq (.region [It 64 (.load (some 2) (.t 1)),
 It 65 (.call 13 [(.t 64), (.c i0), (.c i0), (.c (.b true))]),
 Mv 63 65,
 Ex 66 63 0,
 Ex 67 63 1,
 It 7 (.alloc [i0, i0, i0, i0, .ns, .ns, i0, i0, i0, i0, i0, i0, (.s []), .ns, .ns, i0]),
 ⟨none, (.store 16 (.t 7) (.t 66)), none, []⟩,
 Mv 8 67] [])
 (.seq (.region [It 68 (.call 16 [(.c (.i .i64 (2))), (.c i0)]),
 It 69 (.call 16 [(.c (.i .i64 (29))), (.c (.i .i64 (1)))]),
 It 70 (.call 16 [(.c (.i .i64 (30))), (.c i0)]),
 It 71 (.bsl 3 3 [i0, i0, i0, i0, i0, i0, i0, i0, i0] [(0, 3, (.t 68)), (3, 3, (.t 69)), (6, 3, (.t 70))]),
 It 72 (.call 15 [(.t 71)]),
 It 9 (.alloc [.ns, .ns]),
 ⟨none, (.store 2 (.t 9) (.t 72)), none, []⟩] [])
 (.seq (.region [Of 73 9 0,
 Ld 74 73,
 ⟨(some 75), (.call 16 [(.c (.i .i64 (2))), (.c i0)]), none, [(74, (.load none (.t 73)), none)]⟩,
 ⟨(some 76), (.call 16 [(.c (.i .i64 (30))), (.c i0)]), none, [(74, (.load none (.t 73)), none)]⟩,
 It 77 (.bsl 3 2 [i0, i0, i0, i0, i0, i0] [(0, 3, (.t 75)), (3, 3, (.t 76))]),
 It 78 (.build [(.s []), i0, i0, .ns] [(0, 1, (.c (.s [102]))), (1, 1, (.c (.i .i64 (1)))), (2, 1, (.c (.i .i64 (1)))), (3, 1, (.t 77))]),
 It 79 (.bsl 4 1 [(.s []), i0, i0, .ns] [(0, 4, (.t 78))]),
 It 80 (.app 4 56 (.t 74) (.t 79)),
 Of 81 9 0,
 ⟨none, (.store 1 (.t 81) (.t 80)), none, []⟩] [])
 (.seq (.region [It 83 (.load (some 2) (.t 9)),
 It 84 (.call 13 [(.t 83), (.c i0), (.c i0), (.c (.b true))]),
 Mv 82 84,
 Ex 85 82 0,
 Ex 86 82 1,
 It 10 (.alloc [i0, i0, i0, i0, .ns, .ns, i0, i0, i0, i0, i0, i0, (.s []), .ns, .ns, i0]),
 ⟨none, (.store 16 (.t 10) (.t 85)), none, []⟩,
 Mv 11 86] [])
 (.seq (.region [It 87 (.call 16 [(.c (.i .i64 (1))), (.c i0)]),
 It 88 (.call 16 [(.c (.i .i64 (3))), (.c i0)]),
 It 89 (.call 16 [(.c (.i .i64 (2))), (.c i0)]),
 It 90 (.call 16 [(.c (.i .i64 (29))), (.c (.i .i64 (1)))]),
 It 91 (.call 16 [(.c (.i .i64 (25))), (.c (.i .i64 (7)))]),
 It 92 (.call 16 [(.c (.i .i64 (1))), (.c i0)]),
 It 93 (.call 16 [(.c (.i .i64 (30))), (.c i0)]),
 It 94 (.call 16 [(.c (.i .i64 (1))), (.c (.i .i64 (1)))]),
 It 95 (.call 16 [(.c (.i .i64 (30))), (.c i0)]),
 It 96 (.bsl 3 9 [i0, i0, i0, i0, i0, i0, i0, i0, i0, i0, i0, i0, i0, i0, i0, i0, i0, i0, i0, i0, i0, i0, i0, i0, i0, i0, i0] [(0, 3, (.t 87)), (3, 3, (.t 88)), (6, 3, (.t 89)), (9, 3, (.t 90)), (12, 3, (.t 91)), (15, 3, (.t 92)), (18, 3, (.t 93)), (21, 3, (.t 94)), (24, 3, (.t 95))]),
 It 97 (.call 15 [(.t 96)]),
 It 12 (.alloc [.ns, .ns]),
 ⟨none, (.store 2 (.t 12) (.t 97)), none, []⟩] [])
 (.seq (.region [Of 98 12 0,
 Ld 99 98,
 ⟨(some 100), (.call 16 [(.c (.i .i64 (2))), (.c i0)]), none, [(99, (.load none (.t 98)), none)]⟩,
 ⟨(some 101), (.call 16 [(.c (.i .i64 (1))), (.c (.i .i64 (1)))]), none, [(99, (.load none (.t 98)), none)]⟩,
 ⟨(some 102), (.call 16 [(.c (.i .i64 (16))), (.c i0)]), none, [(99, (.load none (.t 98)), none)]⟩,
 ⟨(some 103), (.call 16 [(.c (.i .i64 (30))), (.c i0)]), none, [(99, (.load none (.t 98)), none)]⟩,
 It 104 (.bsl 3 4 [i0, i0, i0, i0, i0, i0, i0, i0, i0, i0, i0, i0] [(0, 3, (.t 100)), (3, 3, (.t 101)), (6, 3, (.t 102)), (9, 3, (.t 103))]),
 It 105 (.build [(.s []), i0, i0, .ns] [(0, 1, (.c (.s [102]))), (1, 1, (.c (.i .i64 (1)))), (2, 1, (.c (.i .i64 (1)))), (3, 1, (.t 104))]),
 It 106 (.bsl 4 1 [(.s []), i0, i0, .ns] [(0, 4, (.t 105))]),
 It 107 (.app 4 56 (.t 99) (.t 106)),
 Of 108 12 0,
 ⟨none, (.store 1 (.t 108) (.t 107)), none, []⟩] [])
 (.seq (.seq (.region [It 13 (.mov (.c i0))] [])
 (.block 0
 (.loop L18a)))
 (.seq (.region [It 125 (.call 8 [(.c i0)]),
 It 126 (.call 8 [(.c i0)]),
 It 127 (.bsl 7 2 [i0, i0, i0, i0, (.s []), .ns, .ns, i0, i0, i0, i0, (.s []), .ns, .ns] [(0, 7, (.t 125)), (7, 7, (.t 126))]),
 It 128 (.build [i0, i0, i0, i0, .ns, .ns, i0, i0, i0, i0, i0, i0, (.s []), .ns, .ns, i0] [(2, 1, (.c (.i .i64 (4)))), (3, 1, (.c (.i .i64 (1)))), (5, 1, (.t 127)), (6, 1, (.c (.i .i64 (3)))), (7, 1, (.c (.i .i64 (2)))), (15, 1, (.c (.i .i64 (1))))]),
 It 14 (.alloc [i0, i0, i0, i0, .ns, .ns, i0, i0, i0, i0, i0, i0, (.s []), .ns, .ns, i0]),
 ⟨none, (.store 16 (.t 14) (.t 128)), none, []⟩] [])
 (.seq (.region [Mv 129 3,
 It 130 (.bin .eql (.t 129) (.c i0)),
 Mv 131 130,
 Ig 132 131 true (.load (some 16) (.t 2)),
 Ig 134 131 true (.load (some 16) (.t 4)),
 ⟨(some 133), (.call 38 [(.t 132)]), (some (131, true)), [(134, (.load (some 16) (.t 4)), (some (131, true)))]⟩,
 Ig 135 131 true (.call 37 [(.t 133), (.t 134)]),
 It 136 (.pick (.t 131) (.t 135) (.c (.b false))),
 Mv 137 136,
 Ig 138 137 true (.mov (.t 6)),
 Ig 139 137 true (.bin .eql (.t 138) (.c i0)),
 It 140 (.pick (.t 137) (.t 139) (.c (.b false))),
 Mv 141 140,
 Ig 142 141 true (.off (.t 5) 2),
 Ig 143 141 true (.load none (.t 142)),
 Ig 144 141 true (.bin .eql (.t 143) (.c (.i .i64 (2)))),
 It 145 (.pick (.t 141) (.t 144) (.c (.b false))),
 Mv 146 145,
 Ig 147 146 true (.off (.t 5) 7),
 Ig 148 146 true (.load none (.t 147)),
 Ig 149 146 true (.bin .eql (.t 148) (.c (.i .i64 (2)))),
 It 150 (.pick (.t 146) (.t 149) (.c (.b false))),
 Mv 151 150,
 Ig 152 151 true (.mov (.t 8)),
 Ig 153 151 true (.bin .eql (.t 152) (.c i0)),
 It 154 (.pick (.t 151) (.t 153) (.c (.b false))),
 Mv 155 154,
 Ig 156 155 true (.off (.t 7) 2),
 Ig 157 155 true (.load none (.t 156)),
 Ig 158 155 true (.bin .eql (.t 157) (.c (.i .i64 (2)))),
 It 159 (.pick (.t 155) (.t 158) (.c (.b false))),
 Mv 160 159,
 Ig 161 160 true (.off (.t 7) 15),
 Ig 162 160 true (.load none (.t 161)),
 Ig 163 160 true (.bin .eql (.t 162) (.c i0)),
 It 164 (.pick (.t 160) (.t 163) (.c (.b false))),
 Mv 165 164,
 Ig 166 165 true (.mov (.t 11)),
 Ig 167 165 true (.bin .eql (.t 166) (.c i0)),
 It 168 (.pick (.t 165) (.t 167) (.c (.b false))),
 Mv 169 168,
 Ig 170 169 true (.load (some 16) (.t 10)),
 Ig 172 169 true (.load (some 16) (.t 14)),
 ⟨(some 171), (.call 38 [(.t 170)]), (some (169, true)), [(172, (.load (some 16) (.t 14)), (some (169, true)))]⟩,
 Ig 173 169 true (.call 37 [(.t 171), (.t 172)]),
 It 174 (.pick (.t 169) (.t 173) (.c (.b false))),
 Mv 175 174,
 Ig 176 175 true (.load (some 2) (.t 9)),
 Ig 177 175 true (.call 40 [(.t 176), (.c (.i .i64 (1)))]),
 It 178 (.pick (.t 175) (.t 177) (.c (.b false))),
 Mv 179 178,
 Ig 180 179 true (.load (some 2) (.t 9)),
 Ig 181 179 true (.call 40 [(.t 180), (.c i0)]),
 Ig 182 179 true (.un .not (.t 181)),
 It 183 (.pick (.t 179) (.t 182) (.c (.b false))),
 Mv 184 183,
 Ig 185 184 true (.load (some 2) (.t 9)),
 Ig 186 184 true (.call 40 [(.t 185), (.c (.i .i64 (2)))]),
 Ig 187 184 true (.un .not (.t 186)),
 It 188 (.pick (.t 184) (.t 187) (.c (.b false))),
 Mv 189 188,
 Ig 190 189 true (.load (some 2) (.t 9)),
 Ig 191 189 true (.call 40 [(.t 190), (.c (.i .i64 (-1)))]),
 Ig 192 189 true (.un .not (.t 191)),
 It 193 (.pick (.t 189) (.t 192) (.c (.b false))),
 Mv 0 193] [])
 .ret)))))))))))))))),
    194, 0, [.t 0], 2⟩
theorem tr18 : trFunc Tryz.prog (hz [(2, [0, 1, 2, 3, 4, 5, 6, 7, 8, 9, 10, 11, 12, 13]), (9, [0, 1, 2, 3, 4, 5, 6, 7, 8, 9]), (12, [0, 1, 2, 3, 4, 5, 6, 7, 8, 9, 10, 11]), (21, [0, 1, 2, 3, 5, 4, 6, 7, 8, 9, 10, 11, 12, 13, 14, 15, 16, 17, 18, 19, 20, 21, 22, 23, 24, 25, 26, 27, 28, 29, 30, 31, 32, 33, 34, 35, 36, 37, 38, 39, 40, 41, 43, 42, 44, 45, 46, 47, 48, 49, 50, 51, 52, 53, 54, 55, 56, 57, 58, 59, 60, 61, 62, 63, 64, 65])] I18.body) 1 Tryz.f18 = some (plain1 I18) := by kernel_rfl
theorem ck18 : ckC 2 I18.body = true := by kernel_rfl

/-- 'encore/lift.Step'. -/
def I19 : IFunc :=
  ⟨(.seq (.region [It 2 (.box (.t 0)),
 It 4 (.alloc [i0, i0, (.s []), .ns, .ns]),
 It 5 (.mov (.c (.b false)))] [])
 (.seq (.region [It 12 (.load (some 5) (.t 2)),
 It 13 (.call 42 [(.t 12)]),
 Mv 11 13,
 Ex 14 11 0,
 Ex 15 11 1,
 Ex 16 11 2,
 Mv 6 14,
 Mv 7 15,
 Mv 8 16] [])
 (.seq (.seq (.region [Mv 17 8,
 It 18 (.un .not (.t 17)),
 Mv 19 18,
 Ig 20 19 false (.mov (.t 1)),
 Ig 21 19 false (.lenk 0 (.t 20)),
 Ig 22 19 false (.mov (.t 6)),
 Ig 23 19 false (.bin .lss (.t 21) (.t 22)),
 It 24 (.pick (.t 19) (.c (.b true)) (.t 23)),
 Mv 25 24,
 Ig 26 25 false (.mov (.t 1)),
 Ig 27 25 false (.lenk 0 (.t 26)),
 Ig 28 25 false (.mov (.t 7)),
 Ig 29 25 false (.bin .gtr (.t 27) (.t 28)),
 It 30 (.pick (.t 25) (.c (.b true)) (.t 29)),
 Mv 31 30,
 Ig 32 31 false (.mov (.t 1)),
 Ig 33 31 false (.call 43 [(.t 32), (.f 44)]),
 It 34 (.pick (.t 31) (.c (.b true)) (.t 33))] [])
 (.cond (.t 34)
 (.seq (.region [It 35 (.build [i0, i0, (.s []), .ns, .ns] []),
 ⟨none, (.store 5 (.t 4) (.t 35)), none, []⟩,
 It 5 (.mov (.c (.b false)))] [])
 .ret)
 .skip))
 (.seq (.seq (.region [It 37 (.load (some 5) (.t 2)),
 Mv 38 1,
 Of 40 2 0,
 Ld 41 40,
 ⟨(some 39), (.call 46 [(.t 37), (.t 38)]), none, [(41, (.load none (.t 40)), none)]⟩,
 It 42 (.look false [1] .nf true (.t 39) (.t 41)),
 Mv 36 42,
 Ex 43 36 0,
 Ex 44 36 1,
 Mv 9 43,
 Mv 10 44] [])
 (.block 0
 (.seq (.region [Mv 59 10,
 Mv 58 59] [])
 (.cond (.t 58)
 (.region [Mv 61 9,
 It 62 (.callv (.t 61) []),
 Mv 60 62,
 Ex 63 60 0,
 Ex 64 60 1,
 ⟨none, (.store 5 (.t 4) (.t 63)), none, []⟩,
 Mv 5 64] [])
 (.seq (.region [Mv 66 6,
 It 67 (.bin .eql (.t 66) (.c (.i .i64 (2)))),
 Mv 65 67] [])
 (.cond (.t 65)
 (.region [Of 69 2 0,
 Ld 70 69,
 Mv 71 1,
 It 72 (.iaddr 5 (.t 71) (.c i0)),
 It 73 (.load (some 5) (.t 72)),
 Mv 74 1,
 It 75 (.iaddr 5 (.t 74) (.c (.i .i64 (1)))),
 It 76 (.load (some 5) (.t 75)),
 It 77 (.call 48 [(.t 70), (.t 73), (.t 76)]),
 Ex 78 77 0,
 Ex 79 77 1,
 Ex 80 77 2,
 It 81 (.call 47 [(.t 78), (.t 79), (.t 80)]),
 Mv 68 81,
 Ex 82 68 0,
 Ex 83 68 1,
 ⟨none, (.store 5 (.t 4) (.t 82)), none, []⟩,
 Mv 5 83] [])
 (.region [Of 46 2 0,
 Ld 47 46,
 Mv 48 1,
 It 49 (.iaddr 5 (.t 48) (.c i0)),
 It 50 (.load (some 5) (.t 49)),
 It 51 (.call 49 [(.t 47), (.t 50)]),
 Ex 52 51 0,
 Ex 53 51 1,
 Ex 54 51 2,
 It 55 (.call 47 [(.t 52), (.t 53), (.t 54)]),
 Mv 45 55,
 Ex 56 45 0,
 Ex 57 45 1,
 ⟨none, (.store 5 (.t 4) (.t 56)), none, []⟩,
 Mv 5 57] [])))))))
 (.seq (.seq (.region [Mv 84 5,
 It 85 (.un .not (.t 84))] [])
 (.cond (.t 85)
 (.seq (.region [It 86 (.build [i0, i0, (.s []), .ns, .ns] []),
 ⟨none, (.store 5 (.t 4) (.t 86)), none, []⟩,
 It 5 (.mov (.c (.b false)))] [])
 .ret)
 .skip))
 (.seq (.region [It 87 (.load (some 5) (.t 4)),
 It 88 (.call 50 [(.t 87)]),
 ⟨none, (.store 5 (.t 4) (.t 88)), none, []⟩,
 It 5 (.mov (.c (.b true)))] [])
 .ret)))))),
    89, 2, [.c 4 (some 5), .t 5], 0⟩
theorem tr19 : trFunc Tryz.prog (hz [(5, [0, 1, 3, 4, 2, 5, 6, 7, 8, 9, 10]), (9, [0, 1, 2, 3, 4, 5, 6, 7, 8, 9, 10, 11, 12, 13, 14, 15, 16, 17]), (10, [0, 1, 2, 3, 4, 5, 6, 7, 8, 9, 10, 11, 12, 13, 14])] I19.body) 0 Tryz.f19 = some (plain1 I19) := by kernel_rfl
theorem ck19 : ckC 2 I19.body = true := by kernel_rfl

/-- 'encore/encoreref07.Same'. -/
def I20 : IFunc :=
  ⟨(.seq (.region [It 2 (.box (.t 0)),
 It 3 (.box (.t 1)),
 It 4 (.mov (.c (.b false)))] [])
 (.seq (.region [It 5 (.load (some 5) (.t 2)),
 It 6 (.load (some 5) (.t 3)),
 It 7 (.call 51 [(.t 5), (.t 6)]),
 It 8 (.bin .eql (.t 7) (.c i0)),
 Mv 4 8] [])
 .ret)),
    9, 2, [.t 4], 2⟩
theorem tr20 : trFunc Tryz.prog (hz [] I20.body) 1 Tryz.f20 = some (plain1 I20) := by kernel_rfl
theorem ck20 : ckC 2 I20.body = true := by kernel_rfl

/-- '(encore/lift.Ins).fits'. -/
def I21 : IFunc :=
  ⟨(.seq (.region [It 3 (.box (.t 0)),
 It 6 (.mov (.c (.b false)))] [])
 (.seq (.region [It 11 (.load (some 5) (.t 3)),
 It 12 (.call 42 [(.t 11)]),
 Mv 10 12,
 Ex 13 10 0,
 Ex 14 10 1,
 Ex 15 10 2,
 Mv 7 13,
 Mv 8 14,
 Mv 9 15] [])
 (.seq (.region [Mv 16 9,
 Mv 17 16,
 Ig 18 17 true (.off (.t 3) 2),
 Ig 19 17 true (.load none (.t 18)),
 Ig 20 17 true (.lenk 0 (.t 19)),
 Ig 21 17 true (.mov (.t 7)),
 Ig 22 17 true (.bin .geq (.t 20) (.t 21)),
 It 23 (.pick (.t 17) (.t 22) (.c (.b false))),
 Mv 24 23,
 Ig 25 24 true (.off (.t 3) 2),
 Ig 26 24 true (.load none (.t 25)),
 Ig 27 24 true (.lenk 0 (.t 26)),
 Ig 28 24 true (.mov (.t 8)),
 Ig 29 24 true (.bin .leq (.t 27) (.t 28)),
 It 30 (.pick (.t 24) (.t 29) (.c (.b false))),
 Mv 31 30,
 Ig 32 31 true (.off (.t 3) 2),
 Ig 33 31 true (.load none (.t 32)),
 Ig 34 31 true (.mov (.t 1)),
 Ig 35 31 true (.mov (.t 2)),
 Ig 36 31 true (.call 24 [(.t 33), (.t 34), (.t 35)]),
 It 37 (.pick (.t 31) (.t 36) (.c (.b false))),
 Mv 6 37] [])
 .ret))),
    38, 3, [.t 6], 0⟩
theorem tr21 : trFunc Tryz.prog (hz [] I21.body) 0 Tryz.f21 = some (plain1 I21) := by kernel_rfl
theorem ck21 : ckC 2 I21.body = true := by kernel_rfl

/-- '(encore/lift.Operand).fits'. -/
def I22 : IFunc :=
  ⟨(.seq (.region [It 3 (.box (.t 0)),
 It 6 (.mov (.c (.b false)))] [])
 (.seq (.seq (.region [Of 7 3 0,
 Ld 8 7] [])
 (.block 0
 (.seq (.region [It 10 (.bin .eql (.t 8) (.c (.i .i64 (1)))),
 Mv 9 10] [])
 (.cond (.t 9)
 (.seq (.region [Of 11 3 1,
 Ld 12 11,
 It 13 (.bin .geq (.t 12) (.c i0)),
 Mv 14 13,
 Ig 15 14 true (.off (.t 3) 1),
 Ig 16 14 true (.load none (.t 15)),
 Ig 17 14 true (.mov (.t 1)),
 Ig 18 14 true (.bin .lss (.t 16) (.t 17)),
 It 19 (.pick (.t 14) (.t 18) (.c (.b false))),
 Mv 20 19,
 Ig 21 20 true (.off (.t 3) 2),
 Ig 22 20 true (.load (some 5) (.t 21)),
 Ig 23 20 true (.call 23 [(.t 22)]),
 It 24 (.pick (.t 20) (.t 23) (.c (.b false))),
 Mv 6 24] [])
 .ret)
 (.seq (.region [It 26 (.bin .eql (.t 8) (.c (.i .i64 (2)))),
 Mv 25 26] [])
 (.cond (.t 25)
 (.seq (.region [Of 27 3 1,
 Ld 28 27,
 It 29 (.bin .geq (.t 28) (.c i0)),
 Mv 30 29,
 Ig 31 30 true (.off (.t 3) 1),
 Ig 32 30 true (.load none (.t 31)),
 Ig 33 30 true (.mov (.t 2)),
 Ig 34 30 true (.bin .lss (.t 32) (.t 33)),
 It 35 (.pick (.t 30) (.t 34) (.c (.b false))),
 Mv 36 35,
 Ig 37 36 true (.off (.t 3) 2),
 Ig 38 36 true (.load (some 5) (.t 37)),
 Ig 39 36 true (.call 23 [(.t 38)]),
 It 40 (.pick (.t 36) (.t 39) (.c (.b false))),
 Mv 6 40] [])
 .ret)
 (.seq (.region [It 42 (.bin .eql (.t 8) (.c (.i .i64 (3)))),
 Mv 41 42] [])
 (.cond (.t 41)
 (.seq (.region [Of 43 3 1,
 Ld 44 43,
 It 45 (.bin .eql (.t 44) (.c i0)),
 Mv 46 45,
 Ig 47 46 true (.off (.t 3) 2),
 Ig 48 46 true (.load (some 5) (.t 47)),
 Ig 49 46 true (.call 45 [(.t 48)]),
 It 50 (.pick (.t 46) (.t 49) (.c (.b false))),
 Mv 6 50] [])
 .ret)
 .skip))))))))
 (.seq (.region [It 6 (.mov (.c (.b false)))] [])
 .ret))),
    51, 3, [.t 6], 0⟩
theorem tr22 : trFunc Tryz.prog (hz [] I22.body) 0 Tryz.f22 = some (plain1 I22) := by kernel_rfl
theorem ck22 : ckC 2 I22.body = true := by kernel_rfl

/-- 'encore/lift.none'. -/
def I23 : IFunc :=
  ⟨(.seq (.region [It 1 (.box (.t 0)),
 It 2 (.mov (.c (.b false)))] [])
 (.seq (.region [It 3 (.load (some 5) (.t 1)),
 It 4 (.build [i0, i0, (.s []), .ns, .ns] []),
 It 5 (.call 52 [(.t 3), (.t 4)]),
 Mv 2 5] [])
 .ret)),
    6, 1, [.t 2], 0⟩
theorem tr23 : trFunc Tryz.prog (hz [] I23.body) 0 Tryz.f23 = some (plain1 I23) := by kernel_rfl
theorem ck23 : ckC 2 I23.body = true := by kernel_rfl

/-- 'encore/lift.fit'. -/
def I24 : IFunc :=
  ⟨(.seq (.region [It 4 (.box (.t 1)),
 It 5 (.box (.t 2)),
 It 6 (.mov (.c (.b false)))] [])
 (.seq (.region [Mv 7 0,
 It 8 (.mkf 54 [] [(.t 4), (.t 5)]),
 It 9 (.call 53 [(.t 7), (.t 8)]),
 It 10 (.un .not (.t 9)),
 Mv 6 10] [])
 .ret)),
    11, 3, [.t 6], 0⟩
theorem tr24 : trFunc Tryz.prog (hz [] I24.body) 0 Tryz.f24 = some (plain1 I24) := by kernel_rfl
theorem ck24 : ckC 2 I24.body = true := by kernel_rfl

/-- 'encore/encoreref20.Copy'. -/
def L25a : ICode :=
  (.seq (.seq (.region [Mv 7 4,
 Of 8 1 4,
 Ld 9 8,
 It 10 (.lenk 0 (.t 9)),
 It 11 (.bin .lss (.t 7) (.t 10))] [])
 (.cond (.t 11)
 .skip
 (.exit 0)))
 (.seq (.block 1
 (.region [Of 14 3 4,
 Ld 15 14,
 Of 16 1 4,
 Ld 17 16,
 Mv 18 4,
 It 19 (.iaddr 5 (.t 17) (.t 18)),
 It 20 (.load (some 5) (.t 19)),
 ⟨(some 21), (.call 55 [(.t 20)]), none, [(15, (.load none (.t 14)), none)]⟩,
 It 22 (.bsl 5 1 [i0, i0, .ns, (.s []), .ns] [(0, 5, (.t 21))]),
 It 23 (.app 5 80 (.t 15) (.t 22)),
 Of 24 3 4,
 ⟨none, (.store 1 (.t 24) (.t 23)), none, []⟩] []))
 (.region [Mv 12 4,
 It 13 (.bin .add (.t 12) (.c (.i .i64 (1)))),
 Mv 4 13] [])))
def I25 : IFunc :=
  ⟨(.seq (.region [It 1 (.box (.t 0)),
 It 2 (.alloc [i0, i0, i0, i0, .ns, .ns, i0, i0, i0, i0, i0, i0, (.s []), .ns, .ns, i0])] [])
 (.seq (.region [It 5 (.load (some 16) (.t 1)),
 It 3 (.alloc [i0, i0, i0, i0, .ns, .ns, i0, i0, i0, i0, i0, i0, (.s []), .ns, .ns, i0]),
 ⟨none, (.store 16 (.t 3) (.t 5)), none, []⟩] [])
 (.seq (.region [Of 6 3 4,
 ⟨none, (.store 1 (.t 6) (.c .ns)), none, []⟩] [])
 (.seq (.seq (.region [It 4 (.mov (.c i0))] [])
 (.block 0
 (.loop L25a)))
 (.seq (.region [Of 25 1 5,
 Ld 26 25,
 It 27 (.call 56 [(.t 26)]),
 Of 28 3 5,
 ⟨none, (.store 1 (.t 28) (.t 27)), none, []⟩] [])
 (.seq (.region [Of 29 1 8,
 Of 30 29 2,
 It 31 (.load (some 5) (.t 30)),
 It 32 (.call 57 [(.t 31)]),
 Of 33 3 8,
 Of 34 33 2,
 ⟨none, (.store 5 (.t 34) (.t 32)), none, []⟩] [])
 (.seq (.region [It 35 (.load (some 16) (.t 3)),
 ⟨none, (.store 16 (.t 2) (.t 35)), none, []⟩] [])
 .ret))))))),
    36, 1, [.c 2 (some 16)], 0⟩
theorem tr25 : trFunc Tryz.prog (hz [(6, [0, 1, 2, 3, 4, 5, 6, 7, 8, 9, 10, 11])] I25.body) 0 Tryz.f25 = some (plain1 I25) := by kernel_rfl
theorem ck25 : ckC 2 I25.body = true := by kernel_rfl

/-- 'encore/encorelaw20.ins'. -/
def I26 : IFunc :=
  ⟨(.seq (.region [It 1 (.box (.t 0)),
 It 2 (.alloc [i0, i0, .ns, (.s []), .ns])] [])
 (.seq (.region [Of 3 1 0,
 Ld 4 3,
 Of 5 1 1,
 Ld 6 5,
 Of 7 1 2,
 Ld 8 7,
 Of 10 1 3,
 Ld 11 10,
 Of 12 1 4,
 Ld 13 12,
 ⟨(some 9), (.call 27 [(.t 8)]), none, [(4, (.load none (.t 3)), none), (6, (.load none (.t 5)), none), (11, (.load none (.t 10)), none), (13, (.load none (.t 12)), none)]⟩,
 It 14 (.build [i0, i0, .ns, (.s []), .ns] [(0, 1, (.t 4)), (1, 1, (.t 6)), (2, 1, (.t 9)), (3, 1, (.t 11)), (4, 1, (.t 13))]),
 ⟨none, (.store 5 (.t 2) (.t 14)), none, []⟩] [])
 .ret)),
    15, 1, [.c 2 (some 5)], 0⟩
theorem tr26 : trFunc Tryz.prog (hz [(1, [0, 1, 2, 3, 4, 5, 7, 8, 9, 10, 6, 11, 12])] I26.body) 0 Tryz.f26 = some (plain1 I26) := by kernel_rfl
theorem ck26 : ckC 2 I26.body = true := by kernel_rfl

/-- 'encore/encorelaw20.back'. -/
def L27a : ICode :=
  (.seq (.seq (.region [Mv 5 4,
 Mv 6 0,
 It 7 (.lenk 0 (.t 6)),
 It 8 (.bin .lss (.t 5) (.t 7))] [])
 (.cond (.t 8)
 .skip
 (.exit 0)))
 (.seq (.block 1
 (.region [Mv 11 3,
 Mv 12 0,
 Mv 13 4,
 It 14 (.iaddr 7 (.t 12) (.t 13)),
 Of 15 14 0,
 Ld 16 15,
 Mv 17 0,
 Mv 18 4,
 It 19 (.iaddr 7 (.t 17) (.t 18)),
 Of 20 19 1,
 Ld 21 20,
 Mv 22 0,
 Mv 23 4,
 It 24 (.iaddr 7 (.t 22) (.t 23)),
 Of 25 24 2,
 It 26 (.load (some 5) (.t 25)),
 It 27 (.build [i0, i0, i0, i0, (.s []), .ns, .ns] [(0, 1, (.t 16)), (1, 1, (.t 21)), (2, 5, (.t 26))]),
 It 28 (.bsl 7 1 [i0, i0, i0, i0, (.s []), .ns, .ns] [(0, 7, (.t 27))]),
 It 29 (.app 7 96 (.t 11) (.t 28)),
 Mv 3 29] []))
 (.region [Mv 9 4,
 It 10 (.bin .add (.t 9) (.c (.i .i64 (1)))),
 Mv 4 10] [])))
def I27 : IFunc :=
  ⟨(.seq (.region [It 2 (.mov (.c .ns))] [])
 (.seq (.region [It 3 (.mov (.c .ns))] [])
 (.seq (.seq (.region [It 4 (.mov (.c i0))] [])
 (.block 0
 (.loop L27a)))
 (.seq (.region [Mv 30 3,
 Mv 2 30] [])
 .ret)))),
    31, 1, [.t 2], 0⟩
theorem tr27 : trFunc Tryz.prog (hz [(5, [0, 1, 2, 3, 4, 5, 6, 7, 8, 9, 10, 11, 12, 13, 14, 15, 16, 17, 18, 19])] I27.body) 0 Tryz.f27 = some (plain1 I27) := by kernel_rfl
theorem ck27 : ckC 2 I27.body = true := by kernel_rfl

-- 28 encore/cuts.Of LACKING
/-- 'encore/verify.Func'. -/
def I29 : IFunc :=
  ⟨(.seq (.region [It 2 (.box (.t 0)),
 It 4 (.mov (.c .ns)),
 It 5 (.mov (.c i0))] [])
 (.seq (.seq (.region [It 7 (.load (some 2) (.t 2)),
 It 8 (.call 60 [(.t 7)]),
 Mv 6 8] [])
 (.seq (.region [Mv 9 6,
 It 10 (.bin .neq (.t 9) (.c i0))] [])
 (.cond (.t 10)
 (.seq (.region [Mv 11 6,
 It 4 (.mov (.c .ns)),
 Mv 5 11] [])
 .ret)
 .skip)))
 (.seq (.seq (.region [Mv 12 1,
 It 13 (.bin .lss (.t 12) (.c i0)),
 Mv 14 13,
 Ig 15 14 false (.mov (.t 1)),
 Ig 16 14 false (.off (.t 2) 0),
 Ig 17 14 false (.load none (.t 16)),
 Ig 18 14 false (.lenk 0 (.t 17)),
 Ig 19 14 false (.bin .geq (.t 15) (.t 18)),
 It 20 (.pick (.t 14) (.c (.b true)) (.t 19))] [])
 (.cond (.t 20)
 (.seq (.region [It 4 (.mov (.c .ns)),
 It 5 (.mov (.c (.i .i64 (9))))] [])
 .ret)
 .skip))
 (.seq (.region [It 21 (.load (some 2) (.t 2)),
 Of 22 2 0,
 Ld 23 22,
 Mv 24 1,
 It 25 (.iaddr 4 (.t 23) (.t 24)),
 It 26 (.load (some 4) (.t 25)),
 It 27 (.call 61 [(.t 21), (.t 26)]),
 Ex 28 27 0,
 Ex 29 27 1,
 Mv 4 28,
 Mv 5 29] [])
 .ret)))),
    30, 2, [.t 4, .t 5], 2⟩
theorem tr29 : trFunc Tryz.prog (hz [(8, [0, 1, 2, 3, 4, 5, 6, 7, 8, 9, 10])] I29.body) 1 Tryz.f29 = some (plain1 I29) := by kernel_rfl
theorem ck29 : ckC 2 I29.body = true := by kernel_rfl

/-- 'encore/cuts.At'. -/
def I30 : IFunc :=
  ⟨(.seq (.region [It 3 (.box (.t 1)),
 It 4 (.alloc [i0, i0, i0, i0]),
 It 5 (.mov (.c (.b false)))] [])
 (.seq (.region [Mv 7 0,
 It 8 (.mkf 63 [] [(.t 3)]),
 It 9 (.call 62 [(.t 7), (.t 8)]),
 Mv 6 9] [])
 (.seq (.seq (.region [Mv 10 6,
 It 11 (.bin .lss (.t 10) (.c i0))] [])
 (.cond (.t 11)
 (.seq (.region [It 12 (.build [i0, i0, i0, i0] []),
 ⟨none, (.store 4 (.t 4) (.t 12)), none, []⟩,
 It 5 (.mov (.c (.b false)))] [])
 .ret)
 .skip))
 (.seq (.region [Mv 13 0,
 Mv 14 6,
 It 15 (.iaddr 4 (.t 13) (.t 14)),
 It 16 (.load (some 4) (.t 15)),
 ⟨none, (.store 4 (.t 4) (.t 16)), none, []⟩,
 It 5 (.mov (.c (.b true)))] [])
 .ret)))),
    17, 2, [.c 4 (some 4), .t 5], 0⟩
theorem tr30 : trFunc Tryz.prog (hz [] I30.body) 0 Tryz.f30 = some (plain1 I30) := by kernel_rfl
theorem ck30 : ckC 2 I30.body = true := by kernel_rfl

/-- '(*encore/lift.maker).on'. -/
def I31 : IFunc :=
  ⟨(.region [Mv 4 0,
 Mv 5 0,
 It 6 (.nck (.t 5)),
 Of 7 6 19,
 Ld 8 7,
 Mv 9 1,
 It 10 (.app 7 96 (.t 8) (.t 9)),
 It 11 (.nck (.t 4)),
 Of 12 11 19,
 ⟨none, (.store 1 (.t 12) (.t 10)), none, []⟩] []),
    13, 2, [], 0⟩
theorem tr31 : trFunc Tryz.prog (hz [] I31.body) 0 Tryz.f31 = some (plain1 I31) := by kernel_rfl
theorem ck31 : ckC 2 I31.body = true := by kernel_rfl

/-- 'slices.Clone[[]encore/lift.Operand,encore/lift.Operand]'. -/
def I32 : IFunc := ⟨cloneCode 7 96, 8, 1, [.t 2], 4⟩
theorem tr32 : trFunc Tryz.prog [([], []), ([], []), ([], []), ([], []), ([], [])] 1 Tryz.f32 = some (plain1 I32) := by kernel_rfl
theorem ck32 : ckC 2 (cloneCode 7 96) = true := by kernel_rfl

/-- '(*encore/lift.maker).block'. -/
def I33 : IFunc :=
  ⟨(.seq (.region [It 5 (.box (.t 2))] [])
 (.seq (.region [Mv 6 0,
 Mv 7 1,
 Of 8 5 0,
 Ld 9 8,
 Of 10 5 0,
 Ld 11 10,
 Of 12 5 1,
 Ld 13 12,
 It 14 (.bin .add (.t 11) (.t 13)),
 It 15 (.sl 3 (.t 7) (some (.t 9)) (some (.t 14)) none),
 It 16 (.call 64 [(.t 6), (.t 15)])] [])
 (.seq (.region [Mv 17 0,
 It 18 (.nck (.t 17)),
 Of 19 18 2,
 Of 20 19 2,
 Ld 21 20,
 Of 22 5 1,
 Ld 23 22,
 It 24 (.bin .add (.t 21) (.t 23)),
 It 25 (.nck (.t 17)),
 Of 26 25 2,
 Of 27 26 2,
 ⟨none, (.store 1 (.t 27) (.t 24)), none, []⟩] [])
 (.seq (.region [Mv 28 0,
 Mv 29 0,
 Of 30 5 2,
 Ld 31 30,
 Of 32 5 3,
 Ld 33 32,
 It 34 (.nck (.t 28)),
 Of 35 34 2,
 Of 36 35 6,
 ⟨none, (.store 1 (.t 36) (.t 31)), none, [(33, (.load none (.t 32)), none)]⟩,
 It 37 (.nck (.t 29)),
 Of 38 37 2,
 Of 39 38 7,
 ⟨none, (.store 1 (.t 39) (.t 33)), none, []⟩] [])
 (.seq (.region [Of 40 5 2,
 Ld 41 40,
 It 42 (.bin .eql (.t 41) (.c (.i .i64 (2))))] [])
 (.cond (.t 42)
 (.region [Mv 43 0,
 Mv 44 0,
 It 45 (.call 65 [(.t 44), (.c (.i .i64 (1)))]),
 It 46 (.iaddr 7 (.t 45) (.c i0)),
 It 47 (.load (some 7) (.t 46)),
 It 48 (.nck (.t 43)),
 Of 49 48 2,
 Of 50 49 8,
 ⟨none, (.store 7 (.t 50) (.t 47)), none, []⟩] [])
 .skip)))))),
    51, 3, [], 0⟩
theorem tr33 : trFunc Tryz.prog (hz [(2, [0, 1, 2, 3, 4, 5, 6, 7, 8, 9, 10, 11]), (3, [0, 1, 2, 3, 4, 5, 6, 7, 8, 9, 10, 11, 12, 13])] I33.body) 0 Tryz.f33 = some (plain1 I33) := by kernel_rfl
theorem ck33 : ckC 2 I33.body = true := by kernel_rfl

/-- '(*encore/lift.maker).calls'. -/
def I34 : IFunc :=
  ⟨(.seq (.region [It 4 (.alloc [(.s []), i0, i0, .ns]),
 It 5 (.mov (.c (.b false)))] [])
 (.seq (.seq (.region [Mv 6 0,
 It 7 (.nck (.t 6)),
 Of 8 7 2,
 Of 9 8 6,
 Ld 10 9,
 It 11 (.bin .neq (.t 10) (.c (.i .i64 (3)))),
 Mv 12 11,
 Ig 13 12 false (.mov (.t 0)),
 Ig 14 12 false (.nck (.t 13)),
 Ig 15 12 false (.off (.t 14) 2),
 Ig 16 12 false (.off (.t 15) 7),
 Ig 17 12 false (.load none (.t 16)),
 Ig 18 12 false (.mov (.t 1)),
 Ig 19 12 false (.lenk 0 (.t 18)),
 Ig 20 12 false (.bin .geq (.t 17) (.t 19)),
 It 21 (.pick (.t 12) (.c (.b true)) (.t 20)),
 Mv 22 21,
 Ig 23 22 false (.mov (.t 1)),
 Ig 24 22 false (.mov (.t 0)),
 Ig 25 22 false (.nck (.t 24)),
 Ig 26 22 false (.off (.t 25) 2),
 Ig 27 22 false (.off (.t 26) 7),
 Ig 28 22 false (.load none (.t 27)),
 Ig 29 22 false (.iaddr 3 (.t 23) (.t 28)),
 Ig 30 22 false (.off (.t 29) 0),
 Ig 31 22 false (.load none (.t 30)),
 Ig 32 22 false (.bin .neq (.t 31) (.c (.i .i64 (29)))),
 It 33 (.pick (.t 22) (.c (.b true)) (.t 32)),
 Mv 34 33,
 Ig 35 34 false (.mov (.t 0)),
 Ig 36 34 false (.nck (.t 35)),
 Ig 37 34 false (.off (.t 36) 0),
 Ig 38 34 false (.load (some 2) (.t 37)),
 Ig 39 34 false (.mov (.t 1)),
 Ig 40 34 false (.mov (.t 0)),
 Ig 41 34 false (.nck (.t 40)),
 Ig 42 34 false (.off (.t 41) 2),
 Ig 43 34 false (.off (.t 42) 7),
 Ig 44 34 false (.load none (.t 43)),
 Ig 45 34 false (.iaddr 3 (.t 39) (.t 44)),
 Ig 46 34 false (.off (.t 45) 1),
 Ig 47 34 false (.load none (.t 46)),
 Ig 48 34 false (.call 40 [(.t 38), (.t 47)]),
 Ig 49 34 false (.un .not (.t 48)),
 It 50 (.pick (.t 34) (.c (.b true)) (.t 49))] [])
 (.cond (.t 50)
 (.seq (.region [It 51 (.build [(.s []), i0, i0, .ns] []),
 ⟨none, (.store 4 (.t 4) (.t 51)), none, []⟩,
 It 5 (.mov (.c (.b false)))] [])
 .ret)
 .skip))
 (.seq (.region [Mv 52 0,
 It 53 (.nck (.t 52)),
 Of 54 53 0,
 Of 55 54 0,
 Ld 56 55,
 Mv 57 1,
 Mv 58 0,
 It 59 (.nck (.t 58)),
 Of 60 59 2,
 Of 61 60 7,
 Ld 62 61,
 It 63 (.iaddr 3 (.t 57) (.t 62)),
 Of 64 63 1,
 Ld 65 64,
 It 66 (.iaddr 4 (.t 56) (.t 65)),
 It 67 (.load (some 4) (.t 66)),
 ⟨none, (.store 4 (.t 4) (.t 67)), none, []⟩,
 It 5 (.mov (.c (.b true)))] [])
 .ret))),
    68, 2, [.c 4 (some 4), .t 5], 0⟩
theorem tr34 : trFunc Tryz.prog (hz [(1, [0, 1, 2, 3, 4, 5, 6, 7, 8, 9, 10, 11, 12, 13, 14, 15, 16, 17, 18, 19, 20, 21, 22, 23, 24, 25, 26, 27, 28, 29, 30, 31, 32, 33, 34, 35, 36, 37, 38, 39, 40, 41, 42, 43, 44]), (4, [0, 1, 2, 3, 4, 5, 6, 7, 8, 9, 10, 11, 12, 13, 14, 15, 16, 17])] I34.body) 0 Tryz.f34 = some (plain1 I34) := by kernel_rfl
theorem ck34 : ckC 2 I34.body = true := by kernel_rfl

/-- '(*encore/lift.maker).call'. -/
def L35a : ICode :=
  (.seq (.seq (.region [Mv 24 4,
 It 25 (.nck (.t 24)),
 Of 26 25 18,
 Ld 27 26,
 It 28 (.lenk 0 (.t 27)),
 Of 29 3 2,
 Ld 30 29,
 It 31 (.bin .lss (.t 28) (.t 30))] [])
 (.cond (.t 31)
 .skip
 (.exit 0)))
 (.block 1
 (.region [Mv 32 4,
 Mv 33 4,
 It 34 (.nck (.t 33)),
 Of 35 34 18,
 Ld 36 35,
 It 37 (.build [i0, i0, i0, i0, (.s []), .ns, .ns] [(0, 1, (.c (.i .i64 (3))))]),
 It 38 (.bsl 7 1 [i0, i0, i0, i0, (.s []), .ns, .ns] [(0, 7, (.t 37))]),
 It 39 (.app 7 96 (.t 36) (.t 38)),
 It 40 (.nck (.t 32)),
 Of 41 40 18,
 ⟨none, (.store 1 (.t 41) (.t 39)), none, []⟩] [])))
def I35 : IFunc :=
  ⟨(.seq (.region [It 3 (.box (.t 1))] [])
 (.seq (.region [Mv 5 0,
 It 6 (.nck (.t 5)),
 Of 7 6 0,
 It 8 (.load (some 2) (.t 7)),
 Mv 9 0,
 Of 10 3 1,
 Ld 11 10,
 ⟨(some 12), (.call 65 [(.t 9), (.t 11)]), none, [(8, (.load (some 2) (.t 7)), none)]⟩,
 It 13 (.build [.ns, .ns, i0, i0, i0, i0, .ns, .ns, i0, i0, i0, i0, i0, i0, (.s []), .ns, .ns, i0, .ns, .ns] [(0, 2, (.t 8)), (18, 1, (.t 12))]),
 It 14 (.box (.t 13)),
 Mv 4 14] [])
 (.seq (.region [Mv 15 4,
 Mv 16 0,
 It 17 (.nck (.t 16)),
 Of 18 17 2,
 Of 19 18 4,
 Ld 20 19,
 It 21 (.nck (.t 15)),
 Of 22 21 2,
 Of 23 22 4,
 ⟨none, (.store 1 (.t 23) (.t 20)), none, []⟩] [])
 (.seq (.block 0
 (.loop L35a))
 (.seq (.region [Mv 42 4,
 Of 43 3 3,
 Ld 44 43,
 It 45 (.call 64 [(.t 42), (.t 44)])] [])
 (.seq (.region [Mv 46 0,
 Mv 47 4,
 It 48 (.nck (.t 47)),
 Of 49 48 2,
 Of 50 49 4,
 Ld 51 50,
 It 52 (.nck (.t 46)),
 Of 53 52 2,
 Of 54 53 4,
 ⟨none, (.store 1 (.t 54) (.t 51)), none, []⟩] [])
 (.seq (.region [Mv 55 0,
 Mv 56 4,
 It 57 (.call 65 [(.t 56), (.c (.i .i64 (1)))]),
 It 58 (.call 31 [(.t 55), (.t 57)])] [])
 (.seq (.region [Mv 59 0,
 It 60 (.nck (.t 59)),
 Of 61 60 2,
 Of 62 61 2,
 Ld 63 62,
 Of 64 3 3,
 Ld 65 64,
 It 66 (.lenk 0 (.t 65)),
 It 67 (.bin .add (.c (.i .i64 (1))) (.t 66)),
 It 68 (.bin .add (.t 63) (.t 67)),
 It 69 (.nck (.t 59)),
 Of 70 69 2,
 Of 71 70 2,
 ⟨none, (.store 1 (.t 71) (.t 68)), none, []⟩] [])
 (.region [Mv 72 0,
 It 73 (.nck (.t 72)),
 Of 74 73 2,
 Of 75 74 15,
 ⟨none, (.store 1 (.t 75) (.c (.i .i64 (1)))), none, []⟩] []))))))))),
    76, 2, [], 0⟩
theorem tr35 : trFunc Tryz.prog (hz [(1, [0, 1, 2, 3, 4, 5, 6, 7, 8, 9, 10]), (3, [0, 1, 2, 3, 4, 5, 6, 7]), (9, [0, 1, 2, 3, 4, 5, 6, 7, 8, 9, 10, 11, 12, 13])] I35.body) 0 Tryz.f35 = some (plain1 I35) := by kernel_rfl
theorem ck35 : ckC 2 I35.body = true := by kernel_rfl

/-- 'encore/lift.Do'. -/
def L36a : ICode :=
  (.seq (.region [It 45 (.bin .lss (.t 44) (.t 43))] [])
 (.seq (.cond (.t 45)
 .skip
 (.exit 2))
 (.seq (.block 3
 (.seq (.region [It 46 (.iaddr 7 (.t 42) (.t 44)),
 It 47 (.load (some 7) (.t 46)),
 It 13 (.alloc [i0, i0, i0, i0, (.s []), .ns, .ns]),
 ⟨none, (.store 7 (.t 13) (.t 47)), none, []⟩] [])
 (.region [Mv 48 11,
 Mv 49 8,
 It 50 (.load (some 7) (.t 13)),
 It 51 (.callv (.t 49) [(.t 50)]),
 It 52 (.bsl 5 1 [i0, i0, (.s []), .ns, .ns] [(0, 5, (.t 51))]),
 It 53 (.app 5 80 (.t 48) (.t 52)),
 Mv 11 53] [])))
 (.region [It 54 (.bin .add (.t 44) (.c (.i .i64 (1)))),
 Mv 44 54] []))))
def L36b : ICode :=
  (.seq (.region [It 38 (.bin .lss (.t 37) (.t 36))] [])
 (.seq (.cond (.t 38)
 .skip
 (.exit 0))
 (.seq (.block 1
 (.seq (.region [It 39 (.iaddr 5 (.t 35) (.t 37)),
 It 40 (.load (some 5) (.t 39)),
 It 10 (.alloc [i0, i0, .ns, (.s []), .ns]),
 ⟨none, (.store 5 (.t 10) (.t 40)), none, []⟩] [])
 (.seq (.region [It 11 (.mov (.c .ns))] [])
 (.seq (.seq (.region [Of 41 10 2,
 Ld 42 41,
 It 43 (.lenk 0 (.t 42)),
 It 44 (.mov (.c i0))] [])
 (.block 2
 (.loop L36a)))
 (.seq (.region [It 56 (.load (some 5) (.t 10)),
 Mv 57 11,
 It 58 (.call 19 [(.t 56), (.t 57)]),
 Mv 55 58,
 Ex 59 55 0,
 Ex 60 55 1,
 It 14 (.alloc [i0, i0, (.s []), .ns, .ns]),
 ⟨none, (.store 5 (.t 14) (.t 59)), none, []⟩,
 Mv 15 60] [])
 (.seq (.seq (.region [Mv 61 15,
 It 62 (.un .not (.t 61))] [])
 (.cond (.t 62)
 (.seq (.region [It 4 (.mov (.c .ns)),
 It 5 (.mov (.c i0)),
 It 6 (.mov (.c (.b false)))] [])
 .ret)
 .skip))
 (.region [Ld 63 7,
 It 64 (.load (some 5) (.t 14)),
 It 65 (.lenk 0 (.t 63)),
 It 66 (.bsl 5 1 [i0, i0, (.s []), .ns, .ns] [(0, 5, (.c (.ag [i0, i0, (.s []), .ns, .ns])))]),
 It 67 (.app 5 80 (.t 63) (.t 66)),
 It 68 (.iaddr 5 (.t 67) (.t 65)),
 ⟨none, (.store 5 (.t 68) (.t 64)), none, []⟩,
 ⟨none, (.store 1 (.t 7) (.t 67)), none, [(64, (.load (some 5) (.t 68)), none)]⟩] [])))))))
 (.region [It 69 (.bin .add (.t 37) (.c (.i .i64 (1)))),
 Mv 37 69] []))))
def L36c : ICode :=
  (.seq (.region [It 94 (.bin .lss (.t 93) (.t 92))] [])
 (.seq (.cond (.t 94)
 .skip
 (.exit 4))
 (.seq (.block 5
 (.seq (.region [It 95 (.iaddr 7 (.t 91) (.t 93)),
 It 96 (.load (some 7) (.t 95)),
 It 18 (.alloc [i0, i0, i0, i0, (.s []), .ns, .ns]),
 ⟨none, (.store 7 (.t 18) (.t 96)), none, []⟩] [])
 (.region [Mv 97 4,
 Mv 98 8,
 It 99 (.load (some 7) (.t 18)),
 It 100 (.callv (.t 98) [(.t 99)]),
 It 101 (.call 50 [(.t 100)]),
 It 102 (.bsl 5 1 [i0, i0, (.s []), .ns, .ns] [(0, 5, (.t 101))]),
 It 103 (.app 5 80 (.t 97) (.t 102)),
 Mv 4 103] [])))
 (.region [It 104 (.bin .add (.t 93) (.c (.i .i64 (1)))),
 Mv 93 104] []))))
def I36 : IFunc :=
  ⟨(.seq (.region [It 2 (.box (.t 0)),
 It 3 (.box (.t 1)),
 It 4 (.mov (.c .ns)),
 It 5 (.mov (.c i0)),
 It 6 (.mov (.c (.b false)))] [])
 (.seq (.seq (.region [It 19 (.load (some 16) (.t 2)),
 It 20 (.call 11 [(.t 19)]),
 It 21 (.bin .neq (.t 20) (.c i0)),
 Mv 22 21,
 Ig 23 22 false (.load none (.t 3)),
 Ig 24 22 false (.lenk 0 (.t 23)),
 Ig 25 22 false (.off (.t 2) 3),
 Ig 26 22 false (.load none (.t 25)),
 Ig 27 22 false (.bin .neq (.t 24) (.t 26)),
 It 28 (.pick (.t 22) (.c (.b true)) (.t 27)),
 Mv 29 28,
 Ig 30 29 false (.load none (.t 3)),
 Ig 31 29 false (.call 43 [(.t 30), (.f 66)]),
 It 32 (.pick (.t 29) (.c (.b true)) (.t 31))] [])
 (.cond (.t 32)
 (.seq (.region [It 4 (.mov (.c .ns)),
 It 5 (.mov (.c i0)),
 It 6 (.mov (.c (.b false)))] [])
 .ret)
 .skip))
 (.seq (.region [It 7 (.alloc [.ns])] [])
 (.seq (.region [It 33 (.mkf 67 [] [(.t 3), (.t 7)]),
 Mv 8 33] [])
 (.seq (.seq (.region [Of 34 2 4,
 Ld 35 34,
 It 36 (.lenk 0 (.t 35)),
 It 37 (.mov (.c i0))] [])
 (.block 0
 (.loop L36b)))
 (.seq (.region [Of 70 2 7,
 Ld 71 70,
 Mv 5 71] [])
 (.seq (.seq (.region [Of 72 2 6,
 Ld 73 72,
 It 74 (.bin .eql (.t 73) (.c (.i .i64 (2))))] [])
 (.cond (.t 74)
 (.seq (.region [Mv 75 8,
 Of 76 2 8,
 It 77 (.load (some 7) (.t 76)),
 It 78 (.callv (.t 75) [(.t 77)]),
 It 16 (.alloc [i0, i0, (.s []), .ns, .ns]),
 ⟨none, (.store 5 (.t 16) (.t 78)), none, []⟩] [])
 (.seq (.seq (.region [Of 79 16 0,
 Ld 80 79,
 It 81 (.bin .neq (.t 80) (.c (.i .i64 (2))))] [])
 (.cond (.t 81)
 (.seq (.region [It 4 (.mov (.c .ns)),
 It 5 (.mov (.c i0)),
 It 6 (.mov (.c (.b false)))] [])
 .ret)
 .skip))
 (.seq (.region [Of 82 16 1,
 Ld 83 82,
 It 84 (.bin .eql (.t 83) (.c (.i .i64 (1))))] [])
 (.cond (.t 84)
 (.region [Of 85 2 1,
 Ld 86 85,
 Of 87 2 2,
 Ld 88 87,
 It 89 (.bin .add (.t 86) (.t 88)),
 Mv 5 89] [])
 .skip))))
 .skip))
 (.seq (.seq (.region [Of 90 2 5,
 Ld 91 90,
 It 92 (.lenk 0 (.t 91)),
 It 93 (.mov (.c i0))] [])
 (.block 4
 (.loop L36c)))
 (.seq (.region [Mv 105 4,
 Mv 106 5,
 Mv 4 105,
 Mv 5 106,
 It 6 (.mov (.c (.b true)))] [])
 .ret))))))))),
    107, 2, [.t 4, .t 5, .t 6], 0⟩
theorem tr36 : trFunc Tryz.prog (hz [(21, [0, 1, 2, 3, 4, 5, 6, 7])] I36.body) 0 Tryz.f36 = some (plain1 I36) := by kernel_rfl
theorem ck36 : ckC 2 I36.body = true := by kernel_rfl

/-- 'encore/encoreref20.Same'. -/
def L37a : ICode :=
  (.seq (.seq (.region [Mv 62 5,
 Of 63 2 4,
 Ld 64 63,
 It 65 (.lenk 0 (.t 64)),
 It 66 (.bin .lss (.t 62) (.t 65))] [])
 (.cond (.t 66)
 .skip
 (.exit 0)))
 (.seq (.block 1
 (.seq (.region [Of 69 2 4,
 Ld 70 69,
 Mv 71 5,
 It 72 (.iaddr 5 (.t 70) (.t 71)),
 It 73 (.load (some 5) (.t 72)),
 Of 74 3 4,
 Ld 75 74,
 Mv 76 5,
 It 77 (.iaddr 5 (.t 75) (.t 76)),
 It 78 (.load (some 5) (.t 77)),
 It 79 (.call 68 [(.t 73), (.t 78)]),
 It 80 (.un .not (.t 79))] [])
 (.cond (.t 80)
 (.seq (.region [It 4 (.mov (.c (.b false)))] [])
 .ret)
 .skip)))
 (.region [Mv 67 5,
 It 68 (.bin .add (.t 67) (.c (.i .i64 (1)))),
 Mv 5 68] [])))
def I37 : IFunc :=
  ⟨(.seq (.region [It 2 (.box (.t 0)),
 It 3 (.box (.t 1)),
 It 4 (.mov (.c (.b false)))] [])
 (.seq (.seq (.region [Of 6 2 0,
 Ld 7 6,
 Of 8 3 0,
 Ld 9 8,
 It 10 (.bin .neq (.t 7) (.t 9)),
 Mv 11 10,
 Ig 12 11 false (.off (.t 2) 1),
 Ig 13 11 false (.load none (.t 12)),
 Ig 14 11 false (.off (.t 3) 1),
 Ig 15 11 false (.load none (.t 14)),
 Ig 16 11 false (.bin .neq (.t 13) (.t 15)),
 It 17 (.pick (.t 11) (.c (.b true)) (.t 16)),
 Mv 18 17,
 Ig 19 18 false (.off (.t 2) 2),
 Ig 20 18 false (.load none (.t 19)),
 Ig 21 18 false (.off (.t 3) 2),
 Ig 22 18 false (.load none (.t 21)),
 Ig 23 18 false (.bin .neq (.t 20) (.t 22)),
 It 24 (.pick (.t 18) (.c (.b true)) (.t 23)),
 Mv 25 24,
 Ig 26 25 false (.off (.t 2) 3),
 Ig 27 25 false (.load none (.t 26)),
 Ig 28 25 false (.off (.t 3) 3),
 Ig 29 25 false (.load none (.t 28)),
 Ig 30 25 false (.bin .neq (.t 27) (.t 29)),
 It 31 (.pick (.t 25) (.c (.b true)) (.t 30)),
 Mv 32 31,
 Ig 33 32 false (.off (.t 2) 6),
 Ig 34 32 false (.load none (.t 33)),
 Ig 35 32 false (.off (.t 3) 6),
 Ig 36 32 false (.load none (.t 35)),
 Ig 37 32 false (.bin .neq (.t 34) (.t 36)),
 It 38 (.pick (.t 32) (.c (.b true)) (.t 37)),
 Mv 39 38,
 Ig 40 39 false (.off (.t 2) 7),
 Ig 41 39 false (.load none (.t 40)),
 Ig 42 39 false (.off (.t 3) 7),
 Ig 43 39 false (.load none (.t 42)),
 Ig 44 39 false (.bin .neq (.t 41) (.t 43)),
 It 45 (.pick (.t 39) (.c (.b true)) (.t 44)),
 Mv 46 45,
 Ig 47 46 false (.off (.t 2) 15),
 Ig 48 46 false (.load none (.t 47)),
 Ig 49 46 false (.off (.t 3) 15),
 Ig 50 46 false (.load none (.t 49)),
 Ig 51 46 false (.bin .neq (.t 48) (.t 50)),
 It 52 (.pick (.t 46) (.c (.b true)) (.t 51)),
 Mv 53 52,
 Ig 54 53 false (.off (.t 2) 4),
 Ig 55 53 false (.load none (.t 54)),
 Ig 56 53 false (.lenk 0 (.t 55)),
 Ig 57 53 false (.off (.t 3) 4),
 Ig 58 53 false (.load none (.t 57)),
 Ig 59 53 false (.lenk 0 (.t 58)),
 Ig 60 53 false (.bin .neq (.t 56) (.t 59)),
 It 61 (.pick (.t 53) (.c (.b true)) (.t 60))] [])
 (.cond (.t 61)
 (.seq (.region [It 4 (.mov (.c (.b false)))] [])
 .ret)
 .skip))
 (.seq (.seq (.region [It 5 (.mov (.c i0))] [])
 (.block 0
 (.loop L37a)))
 (.seq (.region [Of 81 2 5,
 Ld 82 81,
 Of 83 3 5,
 Ld 84 83,
 It 85 (.call 69 [(.t 82), (.t 84)]),
 Mv 86 85,
 Ig 87 86 true (.off (.t 2) 8),
 Ig 88 86 true (.load (some 7) (.t 87)),
 Ig 89 86 true (.off (.t 3) 8),
 Ig 90 86 true (.load (some 7) (.t 89)),
 Ig 91 86 true (.call 70 [(.t 88), (.t 90)]),
 It 92 (.pick (.t 86) (.t 91) (.c (.b false))),
 Mv 4 92] [])
 .ret)))),
    93, 2, [.t 4], 2⟩
theorem tr37 : trFunc Tryz.prog (hz [(7, [0, 1, 2, 3, 4, 5, 6, 7, 8, 9, 10, 11])] I37.body) 1 Tryz.f37 = some (plain1 I37) := by kernel_rfl
theorem ck37 : ckC 2 I37.body = true := by kernel_rfl

/-- 'encore/encorelaw20.told'. -/
def L38a : ICode :=
  (.seq (.seq (.region [Mv 20 4,
 Of 21 1 4,
 Ld 22 21,
 It 23 (.lenk 0 (.t 22)),
 It 24 (.bin .lss (.t 20) (.t 23))] [])
 (.cond (.t 24)
 .skip
 (.exit 0)))
 (.seq (.block 1
 (.region [Of 27 3 4,
 Ld 28 27,
 Of 29 1 4,
 Ld 30 29,
 Mv 31 4,
 It 32 (.iaddr 5 (.t 30) (.t 31)),
 Of 33 32 0,
 Ld 34 33,
 Of 35 1 4,
 Ld 36 35,
 Mv 37 4,
 It 38 (.iaddr 5 (.t 36) (.t 37)),
 Of 39 38 1,
 Ld 40 39,
 Of 41 1 4,
 Ld 42 41,
 Mv 43 4,
 It 44 (.iaddr 5 (.t 42) (.t 43)),
 Of 45 44 2,
 Ld 46 45,
 Of 48 1 4,
 Ld 49 48,
 Mv 50 4,
 It 51 (.iaddr 5 (.t 49) (.t 50)),
 Of 52 51 3,
 Ld 53 52,
 Of 54 1 4,
 Ld 55 54,
 Mv 56 4,
 It 57 (.iaddr 5 (.t 55) (.t 56)),
 Of 58 57 4,
 Ld 59 58,
 ⟨(some 47), (.call 71 [(.t 46)]), none, [(28, (.load none (.t 27)), none), (30, (.load none (.t 29)), none), (34, (.load none (.t 33)), none), (36, (.load none (.t 35)), none), (40, (.load none (.t 39)), none), (49, (.load none (.t 48)), none), (53, (.load none (.t 52)), none), (55, (.load none (.t 54)), none), (59, (.load none (.t 58)), none)]⟩,
 It 60 (.build [i0, i0, .ns, (.s []), .ns] [(0, 1, (.t 34)), (1, 1, (.t 40)), (2, 1, (.t 47)), (3, 1, (.t 53)), (4, 1, (.t 59))]),
 It 61 (.bsl 5 1 [i0, i0, .ns, (.s []), .ns] [(0, 5, (.t 60))]),
 It 62 (.app 5 80 (.t 28) (.t 61)),
 Of 63 3 4,
 ⟨none, (.store 1 (.t 63) (.t 62)), none, []⟩] []))
 (.region [Mv 25 4,
 It 26 (.bin .add (.t 25) (.c (.i .i64 (1)))),
 Mv 4 26] [])))
def I38 : IFunc :=
  ⟨(.seq (.region [It 1 (.box (.t 0)),
 It 2 (.alloc [i0, i0, i0, i0, .ns, .ns, i0, i0, i0, i0, i0, i0, (.s []), .ns, .ns, i0])] [])
 (.seq (.region [Of 5 1 0,
 Ld 6 5,
 Of 7 1 1,
 Ld 8 7,
 Of 9 1 2,
 Ld 10 9,
 Of 11 1 3,
 Ld 12 11,
 Of 13 1 6,
 Ld 14 13,
 Of 15 1 7,
 Ld 16 15,
 Of 17 1 15,
 Ld 18 17,
 It 19 (.build [i0, i0, i0, i0, .ns, .ns, i0, i0, i0, i0, i0, i0, (.s []), .ns, .ns, i0] [(0, 1, (.t 6)), (1, 1, (.t 8)), (2, 1, (.t 10)), (3, 1, (.t 12)), (6, 1, (.t 14)), (7, 1, (.t 16)), (15, 1, (.t 18))]),
 It 3 (.alloc [i0, i0, i0, i0, .ns, .ns, i0, i0, i0, i0, i0, i0, (.s []), .ns, .ns, i0]),
 ⟨none, (.store 16 (.t 3) (.t 19)), none, []⟩] [])
 (.seq (.seq (.region [It 4 (.mov (.c i0))] [])
 (.block 0
 (.loop L38a)))
 (.seq (.region [Of 64 1 5,
 Ld 65 64,
 It 66 (.call 71 [(.t 65)]),
 Of 67 3 5,
 ⟨none, (.store 1 (.t 67) (.t 66)), none, []⟩] [])
 (.seq (.region [Of 68 1 8,
 Of 69 68 0,
 Ld 70 69,
 Of 71 1 8,
 Of 72 71 1,
 Ld 73 72,
 Of 74 1 8,
 Of 75 74 2,
 It 76 (.load (some 5) (.t 75)),
 It 77 (.build [i0, i0, i0, i0, (.s []), .ns, .ns] [(0, 1, (.t 70)), (1, 1, (.t 73)), (2, 5, (.t 76))]),
 Of 78 3 8,
 ⟨none, (.store 7 (.t 78) (.t 77)), none, []⟩] [])
 (.seq (.region [It 79 (.load (some 16) (.t 3)),
 ⟨none, (.store 16 (.t 2) (.t 79)), none, []⟩] [])
 .ret)))))),
    80, 1, [.c 2 (some 16)], 0⟩
theorem tr38 : trFunc Tryz.prog (hz [(5, [0, 1, 2, 3, 4, 5, 6, 7, 8, 9, 10, 11, 12, 13, 14, 15, 16, 17, 18, 19, 21, 22, 23, 24, 25, 26, 27, 28, 29, 30, 31, 32, 20, 33, 34, 35, 36, 37])] I38.body) 0 Tryz.f38 = some (plain1 I38) := by kernel_rfl
theorem ck38 : ckC 2 I38.body = true := by kernel_rfl

/-- 'encore/encorelaw20.brings'. -/
def I39 : IFunc :=
  ⟨(.seq (.region [It 4 (.box (.t 0)),
 It 8 (.mov (.c (.b false)))] [])
 (.seq (.region [It 13 (.load (some 16) (.t 4)),
 Mv 14 1,
 It 15 (.call 36 [(.t 13), (.t 14)]),
 Mv 12 15,
 Ex 16 12 0,
 Ex 17 12 1,
 Ex 18 12 2,
 Mv 9 16,
 Mv 10 17,
 Mv 11 18] [])
 (.seq (.region [Mv 19 11,
 Mv 20 19,
 Ig 21 20 true (.mov (.t 10)),
 Ig 22 20 true (.mov (.t 2)),
 Ig 23 20 true (.bin .eql (.t 21) (.t 22)),
 It 24 (.pick (.t 20) (.t 23) (.c (.b false))),
 Mv 25 24,
 Ig 26 25 true (.mov (.t 9)),
 Ig 27 25 true (.mov (.t 3)),
 Ig 28 25 true (.call 72 [(.t 26), (.t 27)]),
 It 29 (.pick (.t 25) (.t 28) (.c (.b false))),
 Mv 8 29] [])
 .ret))),
    30, 4, [.t 8], 0⟩
theorem tr39 : trFunc Tryz.prog (hz [] I39.body) 0 Tryz.f39 = some (plain1 I39) := by kernel_rfl
theorem ck39 : ckC 2 I39.body = true := by kernel_rfl

/-- 'encore/lift.Small'. -/
def I40 : IFunc :=
  ⟨(.seq (.region [It 2 (.box (.t 0)),
 It 4 (.mov (.c (.b false)))] [])
 (.seq (.seq (.region [Mv 9 1,
 It 10 (.bin .lss (.t 9) (.c i0)),
 Mv 11 10,
 Ig 12 11 false (.mov (.t 1)),
 Ig 13 11 false (.off (.t 2) 0),
 Ig 14 11 false (.load none (.t 13)),
 Ig 15 11 false (.lenk 0 (.t 14)),
 Ig 16 11 false (.bin .geq (.t 12) (.t 15)),
 It 17 (.pick (.t 11) (.c (.b true)) (.t 16))] [])
 (.cond (.t 17)
 (.seq (.region [It 4 (.mov (.c (.b false)))] [])
 .ret)
 .skip))
 (.seq (.seq (.region [It 19 (.load (some 2) (.t 2)),
 Mv 20 1,
 It 21 (.call 29 [(.t 19), (.t 20)]),
 Mv 18 21,
 Ex 22 18 0,
 Ex 23 18 1,
 Mv 5 22,
 Mv 6 23] [])
 (.seq (.region [Mv 24 6,
 It 25 (.bin .neq (.t 24) (.c i0))] [])
 (.cond (.t 25)
 (.seq (.region [It 4 (.mov (.c (.b false)))] [])
 .ret)
 .skip)))
 (.seq (.region [Of 26 2 0,
 Ld 27 26,
 Mv 28 1,
 It 29 (.iaddr 4 (.t 27) (.t 28)),
 Of 30 29 3,
 Ld 31 30,
 Mv 7 31] [])
 (.seq (.region [Mv 32 7,
 It 33 (.lenk 0 (.t 32)),
 It 34 (.bin .sub (.t 33) (.c (.i .i64 (1)))),
 Mv 8 34] [])
 (.seq (.seq (.region [Mv 35 8,
 It 36 (.bin .lss (.t 35) (.c i0)),
 Mv 37 36,
 Ig 38 37 false (.mov (.t 8)),
 Ig 39 37 false (.bin .geq (.t 38) (.c (.i .i64 (12)))),
 It 40 (.pick (.t 37) (.c (.b true)) (.t 39)),
 Mv 41 40,
 Ig 42 41 false (.mov (.t 7)),
 Ig 43 41 false (.mov (.t 8)),
 Ig 44 41 false (.iaddr 3 (.t 42) (.t 43)),
 Ig 45 41 false (.off (.t 44) 0),
 Ig 46 41 false (.load none (.t 45)),
 Ig 47 41 false (.bin .neq (.t 46) (.c (.i .i64 (30)))),
 It 48 (.pick (.t 41) (.c (.b true)) (.t 47))] [])
 (.cond (.t 48)
 (.seq (.region [It 4 (.mov (.c (.b false)))] [])
 .ret)
 .skip))
 (.seq (.region [Mv 49 7,
 Mv 50 8,
 It 51 (.sl 3 (.t 49) none (some (.t 50)) none),
 It 52 (.call 73 [(.t 51), (.f 74)]),
 It 53 (.un .not (.t 52)),
 Mv 4 53] [])
 .ret))))))),
    54, 2, [.t 4], 2⟩
theorem tr40 : trFunc Tryz.prog (hz [] I40.body) 1 Tryz.f40 = some (plain1 I40) := by kernel_rfl
theorem ck40 : ckC 2 I40.body = true := by kernel_rfl

/-- 'encore/encorelaw20.LiftRuns'. -/
def L41a : ICode :=
  (.seq (.seq (.region [Mv 27 8,
 It 28 (.bin .lss (.t 27) (.c (.i .i64 (40)))),
 Mv 29 28,
 Ig 30 29 true (.mov (.t 7)),
 Ig 31 29 true (.call 79 [(.t 30)]),
 Ig 32 29 true (.bin .eql (.t 31) (.c i0)),
 It 33 (.pick (.t 29) (.t 32) (.c (.b false)))] [])
 (.cond (.t 33)
 .skip
 (.exit 0)))
 (.seq (.block 1
 (.seq (.region [Mv 36 7,
 It 37 (.call 80 [(.t 36)]),
 Mv 9 37] [])
 (.seq (.seq (.region [Mv 38 9,
 It 39 (.lenk 0 (.t 38)),
 It 40 (.bin .eql (.t 39) (.c i0))] [])
 (.cond (.t 40)
 (.seq (.region [It 6 (.mov (.c (.b false)))] [])
 .ret)
 .skip))
 (.seq (.region [Mv 41 9,
 Mv 42 9,
 It 43 (.lenk 0 (.t 42)),
 It 44 (.bin .sub (.t 43) (.c (.i .i64 (1)))),
 It 45 (.iaddr 5 (.t 41) (.t 44)),
 It 46 (.load (some 5) (.t 45)),
 It 10 (.alloc [i0, i0, .ns, .ns, .ns]),
 ⟨none, (.store 5 (.t 10) (.t 46)), none, []⟩] [])
 (.seq (.region [It 48 (.load (some 2) (.t 3)),
 Of 49 10 0,
 Ld 50 49,
 Of 51 10 1,
 Ld 52 51,
 It 53 (.iaddrA 1 3 (.t 4) (.c (.i .i64 (2)))),
 Ld 54 53,
 It 55 (.bin .and (.t 54) (.c (.i .i64 (1)))),
 It 56 (.bin .eql (.t 55) (.c (.i .i64 (1)))),
 Mv 57 56,
 Ig 58 57 true (.mov (.t 9)),
 Ig 59 57 true (.lenk 0 (.t 58)),
 Ig 60 57 true (.bin .lss (.t 59) (.c (.i .i64 (32)))),
 It 61 (.pick (.t 57) (.t 60) (.c (.b false))),
 It 62 (.call 13 [(.t 48), (.t 50), (.t 52), (.t 61)]),
 Mv 47 62,
 Ex 63 47 0,
 Ex 64 47 1,
 It 11 (.alloc [i0, i0, i0, i0, .ns, .ns, i0, i0, i0, i0, i0, i0, (.s []), .ns, .ns, i0]),
 ⟨none, (.store 16 (.t 11) (.t 63)), none, []⟩,
 Mv 12 64] [])
 (.seq (.seq (.region [Mv 65 12,
 It 66 (.bin .eql (.t 65) (.c i0))] [])
 (.cond (.t 66)
 (.seq (.region [Of 67 11 2,
 Ld 68 67,
 It 69 (.bin .gtr (.t 68) (.c i0)),
 Mv 70 69,
 Ig 71 70 true (.load (some 16) (.t 11)),
 Ig 72 70 true (.call 11 [(.t 71)]),
 Ig 73 70 true (.bin .eql (.t 72) (.c i0)),
 It 74 (.pick (.t 70) (.t 73) (.c (.b false))),
 Mv 75 74,
 Ig 76 75 true (.mov (.t 7)),
 Ig 77 75 true (.load (some 16) (.t 11)),
 Ig 78 75 true (.call 81 [(.t 76), (.t 77)]),
 It 79 (.pick (.t 75) (.t 78) (.c (.b false))),
 Mv 6 79] [])
 .ret)
 .skip))
 (.seq (.region [Mv 80 12,
 It 81 (.bin .neq (.t 80) (.c (.i .i64 (9)))),
 Mv 82 81,
 Ig 83 82 false (.mov (.t 7)),
 Ig 84 82 false (.call 82 [(.t 83)]),
 Ig 85 82 false (.bin .neq (.t 84) (.c i0)),
 It 86 (.pick (.t 82) (.c (.b true)) (.t 85))] [])
 (.cond (.t 86)
 (.seq (.region [It 6 (.mov (.c (.b false)))] [])
 .ret)
 .skip))))))))
 (.region [Mv 34 8,
 It 35 (.bin .add (.t 34) (.c (.i .i64 (1)))),
 Mv 8 35] [])))
def I41 : IFunc :=
  ⟨(.seq (.region [It 3 (.box (.t 0)),
 It 4 (.box (.t 1)),
 It 6 (.mov (.c (.b false)))] [])
 (.seq (.seq (.region [It 13 (.call 17 []),
 It 14 (.un .not (.t 13))] [])
 (.cond (.t 14)
 (.seq (.region [It 6 (.mov (.c (.b false)))] [])
 .ret)
 .skip))
 (.seq (.region [It 15 (.load (some 2) (.t 3)),
 It 16 (.iaddrA 1 3 (.t 4) (.c (.i .i64 (1)))),
 Ld 17 16,
 It 18 (.call 76 [(.t 15), (.t 17)]),
 Mv 7 18] [])
 (.seq (.seq (.region [Mv 19 7,
 It 20 (.eqNil 1 false (.t 19) (.c .np))] [])
 (.cond (.t 20)
 (.seq (.region [It 6 (.mov (.c (.b true)))] [])
 .ret)
 .skip))
 (.seq (.region [Mv 21 7,
 It 22 (.iaddrA 1 3 (.t 4) (.c i0)),
 Ld 23 22,
 It 24 (.call 78 [(.t 23), (.c (.i .i64 (150)))]),
 Mv 25 2,
 It 26 (.call 77 [(.t 21), (.t 24), (.t 25)])] [])
 (.seq (.seq (.region [It 8 (.mov (.c i0))] [])
 (.block 0
 (.loop L41a)))
 (.seq (.region [It 6 (.mov (.c (.b true)))] [])
 .ret))))))),
    87, 3, [.t 6], 3⟩
theorem tr41 : trFunc Tryz.prog (hz [] I41.body) 1 Tryz.f41 = some (plain1 I41) := by kernel_rfl
theorem ck41 : ckC 2 I41.body = true := by kernel_rfl

/-- '(encore/lift.Ins).needs'. -/
def I42 : IFunc :=
  ⟨(.seq (.region [It 1 (.box (.t 0)),
 It 2 (.mov (.c i0)),
 It 3 (.mov (.c i0)),
 It 4 (.mov (.c (.b false)))] [])
 (.seq (.region [Of 6 1 1,
 Ld 7 6,
 Of 8 1 3,
 Ld 9 8,
 Of 10 1 4,
 Ld 11 10,
 It 12 (.lenk 0 (.t 11)),
 It 13 (.bin .gtr (.t 12) (.c i0)),
 It 14 (.build [i0, (.s []), (.b false)] [(0, 1, (.t 7)), (1, 1, (.t 9)), (2, 1, (.t 13))]),
 It 5 (.alloc [i0, (.s []), (.b false)]),
 ⟨none, (.store 3 (.t 5) (.t 14)), none, []⟩] [])
 (.seq (.block 0
 (.seq (.region [Of 16 1 0,
 Ld 17 16,
 It 18 (.bin .eql (.t 17) (.c (.i .i64 (20)))),
 Mv 15 18] [])
 (.cond (.t 15)
 (.seq (.region [It 19 (.load (some 3) (.t 5)),
 It 20 (.load (some 3) (.g 0)),
 It 21 (.eqAg [1, 2, 0] false (.t 19) (.t 20)),
 It 2 (.mov (.c i0)),
 It 3 (.mov (.c (.i .i64 (8)))),
 Mv 4 21] [])
 .ret)
 (.seq (.region [Of 23 1 0,
 Ld 24 23,
 It 25 (.bin .eql (.t 24) (.c (.i .i64 (21)))),
 Mv 22 25] [])
 (.cond (.t 22)
 (.seq (.region [Of 26 1 4,
 Ld 27 26,
 It 28 (.lenk 0 (.t 27)),
 Of 29 1 4,
 Ld 30 29,
 It 31 (.lenk 0 (.t 30)),
 Of 32 1 1,
 Ld 33 32,
 It 34 (.bin .eql (.t 33) (.c i0)),
 Mv 35 34,
 Ig 36 35 true (.off (.t 1) 3),
 Ig 37 35 true (.load none (.t 36)),
 Ig 38 35 true (.bin .eql (.t 37) (.c (.s []))),
 It 39 (.pick (.t 35) (.t 38) (.c (.b false))),
 Mv 40 39,
 Ig 41 40 true (.off (.t 1) 4),
 Ig 42 40 true (.load none (.t 41)),
 ⟨(some 43), (.call 83 [(.t 42)]), (some (40, true)), [(27, (.load none (.t 26)), none), (28, (.lenk 0 (.t 27)), none), (30, (.load none (.t 29)), none), (31, (.lenk 0 (.t 30)), none)]⟩,
 It 44 (.pick (.t 40) (.t 43) (.c (.b false))),
 Mv 2 28,
 Mv 3 31,
 Mv 4 44] [])
 .ret)
 (.seq (.region [Of 46 1 0,
 Ld 47 46,
 It 48 (.bin .eql (.t 47) (.c (.i .i64 (22)))),
 Mv 45 48] [])
 (.cond (.t 45)
 (.seq (.region [It 49 (.load (some 3) (.t 5)),
 Of 50 1 3,
 Ld 51 50,
 It 52 (.build [i0, (.s []), (.b false)] [(1, 1, (.t 51))]),
 It 53 (.eqAg [1, 2, 0] false (.t 49) (.t 52)),
 Mv 54 53,
 Ig 55 54 true (.off (.t 1) 3),
 Ig 56 54 true (.load none (.t 55)),
 Ig 57 54 true (.bsl 1 1 [(.s [])] [(0, 1, (.t 56))]),
 Ig 58 54 true (.call 83 [(.t 57)]),
 It 59 (.pick (.t 54) (.t 58) (.c (.b false))),
 It 2 (.mov (.c (.i .i64 (1)))),
 It 3 (.mov (.c (.i .i64 (1)))),
 Mv 4 59] [])
 .ret)
 (.seq (.region [Of 61 1 0,
 Ld 62 61,
 It 63 (.bin .eql (.t 62) (.c (.i .i64 (23)))),
 Mv 60 63] [])
 (.cond (.t 60)
 (.seq (.region [It 64 (.load (some 3) (.t 5)),
 Of 65 1 3,
 Ld 66 65,
 It 67 (.build [i0, (.s []), (.b false)] [(1, 1, (.t 66))]),
 It 68 (.eqAg [1, 2, 0] false (.t 64) (.t 67)),
 Mv 69 68,
 Ig 70 69 true (.off (.t 1) 3),
 Ig 71 69 true (.load none (.t 70)),
 Ig 72 69 true (.call 84 [(.t 71)]),
 It 73 (.pick (.t 69) (.t 72) (.c (.b false))),
 It 2 (.mov (.c (.i .i64 (1)))),
 It 3 (.mov (.c (.i .i64 (1)))),
 Mv 4 73] [])
 .ret)
 (.seq (.region [Of 75 1 0,
 Ld 76 75,
 It 77 (.bin .eql (.t 76) (.c (.i .i64 (40)))),
 Mv 74 77] [])
 (.cond (.t 74)
 (.seq (.region [It 78 (.load (some 3) (.t 5)),
 Of 79 1 1,
 Ld 80 79,
 It 81 (.build [i0, (.s []), (.b false)] [(0, 1, (.t 80))]),
 It 82 (.eqAg [1, 2, 0] false (.t 78) (.t 81)),
 Mv 83 82,
 Ig 84 83 true (.off (.t 1) 1),
 Ig 85 83 true (.load none (.t 84)),
 Ig 86 83 true (.bin .geq (.t 85) (.c i0)),
 It 87 (.pick (.t 83) (.t 86) (.c (.b false))),
 Mv 88 87,
 Ig 89 88 true (.off (.t 1) 1),
 Ig 90 88 true (.load none (.t 89)),
 Ig 91 88 true (.bin .leq (.t 90) (.c (.i .i64 (6)))),
 It 92 (.pick (.t 88) (.t 91) (.c (.b false))),
 It 2 (.mov (.c (.i .i64 (1)))),
 It 3 (.mov (.c (.i .i64 (1)))),
 Mv 4 92] [])
 .ret)
 (.seq (.seq (.region [Of 94 1 0,
 Ld 95 94,
 It 96 (.bin .eql (.t 95) (.c (.i .i64 (48)))),
 Mv 93 96] [])
 (.cond (.t 93)
 .skip
 (.region [Of 97 1 0,
 Ld 98 97,
 It 99 (.bin .eql (.t 98) (.c (.i .i64 (49)))),
 Mv 93 99] [])))
 (.cond (.t 93)
 (.seq (.region [It 100 (.load (some 3) (.t 5)),
 Of 101 1 1,
 Ld 102 101,
 It 103 (.build [i0, (.s []), (.b false)] [(0, 1, (.t 102))]),
 It 104 (.eqAg [1, 2, 0] false (.t 100) (.t 103)),
 It 2 (.mov (.c (.i .i64 (1)))),
 It 3 (.mov (.c (.i .i64 (1)))),
 Mv 4 104] [])
 .ret)
 (.seq (.seq (.region [Of 106 1 0,
 Ld 107 106,
 It 108 (.bin .geq (.t 107) (.c (.i .i64 (43)))),
 Mv 109 108,
 Ig 110 109 true (.off (.t 1) 0),
 Ig 111 109 true (.load none (.t 110)),
 Ig 112 109 true (.bin .leq (.t 111) (.c (.i .i64 (47)))),
 It 113 (.pick (.t 109) (.t 112) (.c (.b false))),
 Mv 105 113] [])
 (.cond (.t 105)
 .skip
 (.region [Of 114 1 0,
 Ld 115 114,
 It 116 (.bin .geq (.t 115) (.c (.i .i64 (9)))),
 Mv 117 116,
 Ig 118 117 true (.off (.t 1) 0),
 Ig 119 117 true (.load none (.t 118)),
 Ig 120 117 true (.bin .leq (.t 119) (.c (.i .i64 (19)))),
 It 121 (.pick (.t 117) (.t 120) (.c (.b false))),
 Mv 105 121] [])))
 (.cond (.t 105)
 (.seq (.region [It 122 (.load (some 3) (.t 5)),
 It 123 (.load (some 3) (.g 0)),
 It 124 (.eqAg [1, 2, 0] false (.t 122) (.t 123)),
 It 2 (.mov (.c (.i .i64 (2)))),
 It 3 (.mov (.c (.i .i64 (2)))),
 Mv 4 124] [])
 .ret)
 (.seq (.seq (.region [Of 126 1 0,
 Ld 127 126,
 It 128 (.bin .eql (.t 127) (.c (.i .i64 (41)))),
 Mv 125 128] [])
 (.cond (.t 125)
 .skip
 (.seq (.region [Of 129 1 0,
 Ld 130 129,
 It 131 (.bin .eql (.t 130) (.c (.i .i64 (42)))),
 Mv 125 131] [])
 (.cond (.t 125)
 .skip
 (.region [Of 132 1 0,
 Ld 133 132,
 It 134 (.bin .geq (.t 133) (.c (.i .i64 (6)))),
 Mv 135 134,
 Ig 136 135 true (.off (.t 1) 0),
 Ig 137 135 true (.load none (.t 136)),
 Ig 138 135 true (.bin .leq (.t 137) (.c (.i .i64 (8)))),
 It 139 (.pick (.t 135) (.t 138) (.c (.b false))),
 Mv 125 139] [])))))
 (.cond (.t 125)
 (.seq (.region [It 140 (.load (some 3) (.t 5)),
 It 141 (.load (some 3) (.g 0)),
 It 142 (.eqAg [1, 2, 0] false (.t 140) (.t 141)),
 It 2 (.mov (.c (.i .i64 (1)))),
 It 3 (.mov (.c (.i .i64 (1)))),
 Mv 4 142] [])
 .ret)
 .skip)))))))))))))))))
 (.seq (.region [It 2 (.mov (.c i0)),
 It 3 (.mov (.c i0)),
 It 4 (.mov (.c (.b false)))] [])
 .ret)))),
    143, 1, [.t 2, .t 3, .t 4], 0⟩
theorem tr42 : trFunc Tryz.prog (hz [(3, [0, 1, 2, 3, 4, 5]), (5, [0, 1, 2, 3, 4, 5, 6, 7, 8, 9, 10, 11, 12, 13, 14, 15, 16, 17, 18, 19, 20, 21]), (11, [0, 1, 2, 3, 4, 5, 6, 7, 8, 9, 10, 11, 12, 13, 14, 15, 16, 17]), (15, [0, 1, 2, 3, 4, 5, 6, 7]), (19, [0, 1, 2, 3, 4, 5]), (25, [0, 1, 2, 3, 4, 5])] I42.body) 0 Tryz.f42 = some (plain1 I42) := by kernel_rfl
theorem ck42 : ckC 2 I42.body = true := by kernel_rfl

/-- 'slices.ContainsFunc[[]encore/api.Value,encore/api.Value]'. -/
def I43 : IFunc :=
  ⟨(.seq (.region [It 4 (.mov (.c (.b false)))] [])
 (.seq (.region [Mv 5 0,
 Mv 6 1,
 It 7 (.call 85 [(.t 5), (.t 6)]),
 It 8 (.bin .geq (.t 7) (.c i0)),
 Mv 4 8] [])
 .ret)),
    9, 2, [.t 4], 0⟩
theorem tr43 : trFunc Tryz.prog (hz [] I43.body) 0 Tryz.f43 = some (plain1 I43) := by kernel_rfl
theorem ck43 : ckC 2 I43.body = true := by kernel_rfl

/-- 'encore/lift.Step$1'. -/
def I44 : IFunc :=
  ⟨(.seq (.region [It 1 (.box (.t 0)),
 It 2 (.mov (.c (.b false)))] [])
 (.seq (.region [It 3 (.load (some 5) (.t 1)),
 It 4 (.call 45 [(.t 3)]),
 It 5 (.un .not (.t 4)),
 Mv 2 5] [])
 .ret)),
    6, 1, [.t 2], 0⟩
theorem tr44 : trFunc Tryz.prog (hz [] I44.body) 0 Tryz.f44 = some (plain1 I44) := by kernel_rfl
theorem ck44 : ckC 2 I44.body = true := by kernel_rfl

/-- 'encore/lift.mayBe'. -/
def I45 : IFunc :=
  ⟨(.seq (.region [It 1 (.box (.t 0)),
 It 2 (.mov (.c (.b false)))] [])
 (.seq (.region [It 3 (.load (some 5) (.t 1)),
 It 4 (.call 86 [(.t 3)]),
 It 5 (.bin .eql (.t 4) (.c i0)),
 Mv 2 5] [])
 .ret)),
    6, 1, [.t 2], 0⟩
theorem tr45 : trFunc Tryz.prog (hz [] I45.body) 0 Tryz.f45 = some (plain1 I45) := by kernel_rfl
theorem ck45 : ckC 2 I45.body = true := by kernel_rfl

/-- 'encore/lift.makers'. -/
def I46 : IFunc :=
  ⟨(.seq (.region [It 2 (.box (.t 0)),
 It 3 (.box (.t 1)),
 It 4 (.mov (.c .nm))] [])
 (.seq (.region [Of 6 2 1,
 Ld 7 6,
 It 8 (.build [i0, i0, (.s []), .ns, .ns] [(0, 1, (.c (.i .i64 (1)))), (1, 1, (.t 7))]),
 It 5 (.alloc [i0, i0, (.s []), .ns, .ns]),
 ⟨none, (.store 5 (.t 5) (.t 8)), none, []⟩] [])
 (.seq (.region [It 9 .mkmap,
 It 10 (.mkf 87 [] [(.t 3)]),
 ⟨none, (.mapup false [1] (.t 9) (.c (.i .i64 (20))) (.t 10)), none, []⟩,
 It 11 (.mkf 89 [] [(.t 2), (.t 3)]),
 ⟨none, (.mapup false [1] (.t 9) (.c (.i .i64 (21))) (.t 11)), none, []⟩,
 It 12 (.mkf 91 [] [(.t 3), (.t 2)]),
 ⟨none, (.mapup false [1] (.t 9) (.c (.i .i64 (22))) (.t 12)), none, []⟩,
 It 13 (.mkf 93 [] [(.t 3), (.t 2)]),
 ⟨none, (.mapup false [1] (.t 9) (.c (.i .i64 (23))) (.t 13)), none, []⟩,
 It 14 (.mkf 95 [] [(.t 3), (.t 2)]),
 ⟨none, (.mapup false [1] (.t 9) (.c (.i .i64 (40))) (.t 14)), none, []⟩,
 It 15 (.mkf 96 [] [(.t 3)]),
 ⟨none, (.mapup false [1] (.t 9) (.c (.i .i64 (41))) (.t 15)), none, []⟩,
 It 16 (.mkf 97 [] [(.t 3)]),
 ⟨none, (.mapup false [1] (.t 9) (.c (.i .i64 (42))) (.t 16)), none, []⟩,
 It 17 (.mkf 98 [] [(.t 3)]),
 ⟨none, (.mapup false [1] (.t 9) (.c (.i .i64 (43))) (.t 17)), none, []⟩,
 It 18 (.mkf 100 [] [(.t 3)]),
 ⟨none, (.mapup false [1] (.t 9) (.c (.i .i64 (44))) (.t 18)), none, []⟩,
 It 19 (.mkf 101 [] [(.t 3)]),
 ⟨none, (.mapup false [1] (.t 9) (.c (.i .i64 (45))) (.t 19)), none, []⟩,
 It 20 (.mkf 102 [] [(.t 3)]),
 ⟨none, (.mapup false [1] (.t 9) (.c (.i .i64 (46))) (.t 20)), none, []⟩,
 It 21 (.mkf 103 [] [(.t 3)]),
 ⟨none, (.mapup false [1] (.t 9) (.c (.i .i64 (47))) (.t 21)), none, []⟩,
 It 22 (.mkf 104 [] [(.t 3), (.t 5)]),
 ⟨none, (.mapup false [1] (.t 9) (.c (.i .i64 (48))) (.t 22)), none, []⟩,
 It 23 (.mkf 105 [] [(.t 3), (.t 5)]),
 ⟨none, (.mapup false [1] (.t 9) (.c (.i .i64 (49))) (.t 23)), none, []⟩,
 Mv 24 9,
 Mv 4 24] [])
 .ret))),
    25, 2, [.t 4], 0⟩
theorem tr46 : trFunc Tryz.prog (hz [] I46.body) 0 Tryz.f46 = some (plain1 I46) := by kernel_rfl
theorem ck46 : ckC 2 I46.body = true := by kernel_rfl

/-- 'encore/lift.made'. -/
def I47 : IFunc :=
  ⟨(.seq (.region [It 3 (.box (.t 0)),
 It 6 (.alloc [i0, i0, (.s []), .ns, .ns]),
 It 7 (.mov (.c (.b false)))] [])
 (.seq (.region [It 8 (.load (some 5) (.t 3)),
 Mv 9 1,
 It 10 (.bin .eql (.t 9) (.c i0)),
 Mv 11 10,
 Ig 12 11 true (.mov (.t 2)),
 Ig 13 11 true (.bin .eql (.t 12) (.c i0)),
 It 14 (.pick (.t 11) (.t 13) (.c (.b false))),
 ⟨none, (.store 5 (.t 6) (.t 8)), none, []⟩,
 Mv 7 14] [])
 .ret)),
    15, 3, [.c 6 (some 5), .t 7], 0⟩
theorem tr47 : trFunc Tryz.prog (hz [] I47.body) 0 Tryz.f47 = some (plain1 I47) := by kernel_rfl
theorem ck47 : ckC 2 I47.body = true := by kernel_rfl

/-- 'encore/arith.Binary'. -/
def I48 : IFunc :=
  ⟨(.seq (.region [It 4 (.box (.t 1)),
 It 5 (.box (.t 2)),
 It 6 (.alloc [i0, i0, (.s []), .ns, .ns]),
 It 7 (.mov (.c i0)),
 It 8 (.mov (.c i0))] [])
 (.seq (.seq (.region [Mv 10 0,
 It 11 (.bin .lss (.t 10) (.c (.i .i64 (9)))),
 Mv 12 11,
 Ig 13 12 false (.mov (.t 0)),
 Ig 14 12 false (.bin .gtr (.t 13) (.c (.i .i64 (19)))),
 It 15 (.pick (.t 12) (.c (.b true)) (.t 14)),
 Mv 16 15,
 Ig 17 16 false (.load (some 5) (.t 4)),
 Ig 18 16 false (.load (some 5) (.t 5)),
 Ig 19 16 false (.bsl 5 2 [i0, i0, (.s []), .ns, .ns, i0, i0, (.s []), .ns, .ns] [(0, 5, (.t 17)), (5, 5, (.t 18))]),
 Ig 20 16 false (.call 106 [(.t 19)]),
 Ig 21 16 false (.un .not (.t 20)),
 It 22 (.pick (.t 16) (.c (.b true)) (.t 21))] [])
 (.cond (.t 22)
 (.seq (.region [It 23 (.build [i0, i0, (.s []), .ns, .ns] []),
 ⟨none, (.store 5 (.t 6) (.t 23)), none, []⟩,
 It 7 (.mov (.c i0)),
 It 8 (.mov (.c (.i .i64 (2))))] [])
 .ret)
 .skip))
 (.seq (.region [Of 24 4 0,
 Ld 25 24,
 Of 26 5 0,
 Ld 27 26,
 It 28 (.build [i0, i0] [(0, 1, (.t 25)), (1, 1, (.t 27))]),
 It 9 (.alloc [i0, i0]),
 ⟨none, (.store 2 (.t 9) (.t 28)), none, []⟩] [])
 (.seq (.block 0
 (.seq (.region [Mv 30 0,
 It 31 (.bin .eql (.t 30) (.c (.i .i64 (14)))),
 Mv 29 31] [])
 (.cond (.t 29)
 (.region [It 32 (.load (some 5) (.t 4)),
 It 33 (.load (some 5) (.t 5)),
 It 34 (.call 52 [(.t 32), (.t 33)]),
 It 35 (.call 107 [(.t 34)]),
 ⟨none, (.store 5 (.t 6) (.t 35)), none, []⟩] [])
 (.seq (.region [Mv 37 0,
 It 38 (.bin .eql (.t 37) (.c (.i .i64 (15)))),
 Mv 36 38] [])
 (.cond (.t 36)
 (.region [It 39 (.load (some 5) (.t 4)),
 It 40 (.load (some 5) (.t 5)),
 It 41 (.call 52 [(.t 39), (.t 40)]),
 It 42 (.un .not (.t 41)),
 It 43 (.call 107 [(.t 42)]),
 ⟨none, (.store 5 (.t 6) (.t 43)), none, []⟩] [])
 (.seq (.region [It 45 (.load (some 2) (.t 9)),
 It 46 (.build [i0, i0] [(0, 1, (.c (.i .i64 (1)))), (1, 1, (.c (.i .i64 (1))))]),
 It 47 (.eqAg [1, 1] false (.t 45) (.t 46)),
 Mv 44 47] [])
 (.cond (.t 44)
 (.region [Mv 49 0,
 Of 50 4 1,
 Ld 51 50,
 Of 52 5 1,
 Ld 53 52,
 It 54 (.call 108 [(.t 49), (.t 51), (.t 53)]),
 Mv 48 54,
 Ex 55 48 0,
 Ex 56 48 1,
 ⟨none, (.store 5 (.t 6) (.t 55)), none, []⟩,
 Mv 7 56] [])
 (.seq (.region [It 58 (.load (some 2) (.t 9)),
 It 59 (.build [i0, i0] [(0, 1, (.c (.i .i64 (3)))), (1, 1, (.c (.i .i64 (3))))]),
 It 60 (.eqAg [1, 1] false (.t 58) (.t 59)),
 Mv 57 60] [])
 (.cond (.t 57)
 (.region [Mv 62 0,
 Of 63 4 2,
 Ld 64 63,
 Of 65 5 2,
 Ld 66 65,
 It 67 (.call 109 [(.t 62), (.t 64), (.t 66)]),
 Mv 61 67,
 Ex 68 61 0,
 Ex 69 61 1,
 ⟨none, (.store 5 (.t 6) (.t 68)), none, []⟩,
 Mv 7 69] [])
 (.seq (.region [Mv 71 0,
 It 72 (.bin .eql (.t 71) (.c (.i .i64 (18)))),
 Mv 73 72,
 Ig 74 73 true (.off (.t 4) 0),
 Ig 75 73 true (.load none (.t 74)),
 Ig 76 73 true (.bin .eql (.t 75) (.c (.i .i64 (4)))),
 It 77 (.pick (.t 73) (.t 76) (.c (.b false))),
 Mv 70 77] [])
 (.cond (.t 70)
 (.region [It 79 (.load (some 5) (.t 4)),
 It 80 (.load (some 5) (.t 5)),
 It 81 (.bsl 5 1 [i0, i0, (.s []), .ns, .ns] [(0, 5, (.t 80))]),
 It 82 (.call 110 [(.t 79), (.t 81)]),
 Mv 78 82,
 Ex 83 78 0,
 Ex 84 78 1,
 ⟨none, (.store 5 (.t 6) (.t 83)), none, []⟩,
 Mv 7 84] [])
 (.seq (.region [Mv 86 0,
 It 87 (.bin .eql (.t 86) (.c (.i .i64 (9)))),
 Mv 88 87,
 Ig 89 88 true (.load (some 2) (.t 9)),
 Ig 90 88 true (.build [i0, i0] [(0, 1, (.c (.i .i64 (4)))), (1, 1, (.c (.i .i64 (4))))]),
 Ig 91 88 true (.eqAg [1, 1] false (.t 89) (.t 90)),
 It 92 (.pick (.t 88) (.t 91) (.c (.b false))),
 Mv 85 92] [])
 (.cond (.t 85)
 (.region [It 94 (.load (some 5) (.t 4)),
 Of 95 5 3,
 Ld 96 95,
 It 97 (.call 110 [(.t 94), (.t 96)]),
 Mv 93 97,
 Ex 98 93 0,
 Ex 99 93 1,
 ⟨none, (.store 5 (.t 6) (.t 98)), none, []⟩,
 Mv 7 99] [])
 (.seq (.region [Mv 101 0,
 It 102 (.bin .eql (.t 101) (.c (.i .i64 (19)))),
 Mv 103 102,
 Ig 104 103 true (.load (some 2) (.t 9)),
 Ig 105 103 true (.build [i0, i0] [(0, 1, (.c (.i .i64 (4)))), (1, 1, (.c (.i .i64 (1))))]),
 Ig 106 103 true (.eqAg [1, 1] false (.t 104) (.t 105)),
 It 107 (.pick (.t 103) (.t 106) (.c (.b false))),
 Mv 100 107] [])
 (.cond (.t 100)
 (.seq (.seq (.region [Of 108 5 1,
 Ld 109 108,
 It 110 (.bin .lss (.t 109) (.c i0)),
 Mv 111 110,
 Ig 112 111 false (.off (.t 5) 1),
 Ig 113 111 false (.load none (.t 112)),
 Ig 114 111 false (.off (.t 4) 3),
 Ig 115 111 false (.load none (.t 114)),
 Ig 116 111 false (.lenk 0 (.t 115)),
 Ig 117 111 false (.bin .geq (.t 113) (.t 116)),
 It 118 (.pick (.t 111) (.c (.b true)) (.t 117))] [])
 (.cond (.t 118)
 (.seq (.region [It 119 (.build [i0, i0, (.s []), .ns, .ns] []),
 ⟨none, (.store 5 (.t 6) (.t 119)), none, []⟩,
 It 7 (.mov (.c (.i .i64 (3)))),
 It 8 (.mov (.c i0))] [])
 .ret)
 .skip))
 (.region [Of 120 4 3,
 Ld 121 120,
 Of 122 5 1,
 Ld 123 122,
 It 124 (.iaddr 5 (.t 121) (.t 123)),
 It 125 (.load (some 5) (.t 124)),
 It 126 (.call 111 [(.t 125)]),
 ⟨none, (.store 5 (.t 6) (.t 126)), none, []⟩] []))
 (.region [It 7 (.mov (.c (.i .i64 (2))))] []))))))))))))))))
 (.seq (.region [It 127 (.load (some 5) (.t 6)),
 Mv 128 7,
 ⟨none, (.store 5 (.t 6) (.t 127)), none, []⟩,
 Mv 7 128,
 It 8 (.mov (.c i0))] [])
 .ret))))),
    129, 3, [.c 6 (some 5), .t 7, .t 8], 0⟩
theorem tr48 : trFunc Tryz.prog (hz [] I48.body) 0 Tryz.f48 = some (plain1 I48) := by kernel_rfl
theorem ck48 : ckC 2 I48.body = true := by kernel_rfl

/-- 'encore/arith.Unary'. -/
def I49 : IFunc :=
  ⟨(.seq (.region [It 3 (.box (.t 1)),
 It 4 (.alloc [i0, i0, (.s []), .ns, .ns]),
 It 5 (.mov (.c i0)),
 It 6 (.mov (.c i0))] [])
 (.seq (.seq (.region [It 9 (.load (some 5) (.t 3)),
 It 10 (.bsl 5 1 [i0, i0, (.s []), .ns, .ns] [(0, 5, (.t 9))]),
 It 11 (.call 106 [(.t 10)]),
 It 12 (.un .not (.t 11))] [])
 (.cond (.t 12)
 (.seq (.region [It 13 (.build [i0, i0, (.s []), .ns, .ns] []),
 ⟨none, (.store 5 (.t 4) (.t 13)), none, []⟩,
 It 5 (.mov (.c i0)),
 It 6 (.mov (.c (.i .i64 (2))))] [])
 .ret)
 .skip))
 (.seq (.region [It 14 (.build [i0, i0, (.s []), .ns, .ns] []),
 It 7 (.alloc [i0, i0, (.s []), .ns, .ns]),
 ⟨none, (.store 5 (.t 7) (.t 14)), none, []⟩,
 It 8 (.mov (.c (.b false)))] [])
 (.seq (.seq (.region [Mv 15 0] [])
 (.block 0
 (.seq (.region [It 18 (.bin .eql (.t 15) (.c (.i .i64 (6)))),
 Mv 17 18] [])
 (.cond (.t 17)
 (.region [Of 19 3 1,
 Ld 20 19,
 It 21 (.un .neg (.t 20)),
 Of 23 3 0,
 Ld 24 23,
 It 25 (.bin .eql (.t 24) (.c (.i .i64 (1)))),
 ⟨(some 22), (.call 112 [(.t 21)]), none, [(24, (.load none (.t 23)), none)]⟩,
 ⟨none, (.store 5 (.t 7) (.t 22)), none, [(24, (.load none (.t 23)), none)]⟩,
 Mv 8 25] [])
 (.seq (.region [It 27 (.bin .eql (.t 15) (.c (.i .i64 (7)))),
 Mv 26 27] [])
 (.cond (.t 26)
 (.region [Of 28 3 1,
 Ld 29 28,
 It 30 (.bin .eql (.t 29) (.c i0)),
 Of 32 3 0,
 Ld 33 32,
 It 34 (.bin .eql (.t 33) (.c (.i .i64 (2)))),
 ⟨(some 31), (.call 107 [(.t 30)]), none, [(33, (.load none (.t 32)), none)]⟩,
 ⟨none, (.store 5 (.t 7) (.t 31)), none, [(33, (.load none (.t 32)), none)]⟩,
 Mv 8 34] [])
 (.seq (.region [It 36 (.bin .eql (.t 15) (.c (.i .i64 (8)))),
 Mv 35 36] [])
 (.cond (.t 35)
 (.region [Of 37 3 2,
 Ld 38 37,
 It 39 (.lenk 1 (.t 38)),
 Of 40 3 3,
 Ld 41 40,
 It 42 (.lenk 0 (.t 41)),
 It 43 (.bin .add (.t 39) (.t 42)),
 Of 45 3 0,
 Ld 46 45,
 It 47 (.bin .eql (.t 46) (.c (.i .i64 (3)))),
 ⟨(some 44), (.call 112 [(.t 43)]), none, [(46, (.load none (.t 45)), none)]⟩,
 Mv 48 47,
 Ig 49 48 false (.off (.t 3) 0),
 Ig 50 48 false (.load none (.t 49)),
 Ig 51 48 false (.bin .eql (.t 50) (.c (.i .i64 (4)))),
 It 52 (.pick (.t 48) (.c (.b true)) (.t 51)),
 ⟨none, (.store 5 (.t 7) (.t 44)), none, [(50, (.load none (.t 49)), (some (48, false)))]⟩,
 Mv 8 52] [])
 (.seq (.region [It 16 (.build [i0, i0, (.s []), .ns, .ns] []),
 ⟨none, (.store 5 (.t 4) (.t 16)), none, []⟩,
 It 5 (.mov (.c i0)),
 It 6 (.mov (.c (.i .i64 (2))))] [])
 .ret)))))))))
 (.seq (.seq (.region [Mv 53 8,
 It 54 (.un .not (.t 53))] [])
 (.cond (.t 54)
 (.seq (.region [It 55 (.build [i0, i0, (.s []), .ns, .ns] []),
 ⟨none, (.store 5 (.t 4) (.t 55)), none, []⟩,
 It 5 (.mov (.c (.i .i64 (2)))),
 It 6 (.mov (.c i0))] [])
 .ret)
 .skip))
 (.seq (.region [It 56 (.load (some 5) (.t 7)),
 ⟨none, (.store 5 (.t 4) (.t 56)), none, []⟩,
 It 5 (.mov (.c i0)),
 It 6 (.mov (.c i0))] [])
 .ret)))))),
    57, 2, [.c 4 (some 5), .t 5, .t 6], 0⟩
theorem tr49 : trFunc Tryz.prog (hz [(7, [0, 1, 2, 4, 5, 6, 3, 7, 8]), (9, [0, 1, 2, 4, 5, 6, 3, 7, 8]), (11, [0, 1, 2, 3, 4, 5, 6, 8, 9, 10, 7, 11, 12, 13, 14, 15, 16, 17])] I49.body) 0 Tryz.f49 = some (plain1 I49) := by kernel_rfl
theorem ck49 : ckC 2 I49.body = true := by kernel_rfl

/-- 'encore/lift.own'. -/
def L50a : ICode :=
  (.seq (.region [It 16 (.bin .lss (.t 15) (.t 14))] [])
 (.seq (.cond (.t 16)
 .skip
 (.exit 0))
 (.seq (.block 1
 (.seq (.region [Mv 17 15,
 Mv 3 17] [])
 (.region [Of 18 1 3,
 Ld 19 18,
 Mv 20 3,
 Of 21 1 3,
 Ld 22 21,
 Mv 23 3,
 It 24 (.iaddr 5 (.t 22) (.t 23)),
 It 25 (.load (some 5) (.t 24)),
 ⟨(some 26), (.call 50 [(.t 25)]), none, [(19, (.load none (.t 18)), none)]⟩,
 It 27 (.iaddr 5 (.t 19) (.t 20)),
 ⟨none, (.store 5 (.t 27) (.t 26)), none, []⟩] [])))
 (.region [It 28 (.bin .add (.t 15) (.c (.i .i64 (1)))),
 Mv 15 28] []))))
def I50 : IFunc :=
  ⟨(.seq (.region [It 1 (.box (.t 0)),
 It 2 (.alloc [i0, i0, (.s []), .ns, .ns])] [])
 (.seq (.region [Of 4 1 4,
 Ld 5 4,
 Of 7 1 3,
 Ld 8 7,
 ⟨(some 6), (.call 113 [(.t 5)]), none, [(8, (.load none (.t 7)), none)]⟩,
 Of 10 1 4,
 It 9 (.call 114 [(.t 8)]),
 ⟨none, (.store 1 (.t 10) (.t 6)), none, []⟩,
 Of 11 1 3,
 ⟨none, (.store 1 (.t 11) (.t 9)), none, []⟩] [])
 (.seq (.seq (.region [Of 12 1 3,
 Ld 13 12,
 It 14 (.lenk 0 (.t 13)),
 It 15 (.mov (.c i0))] [])
 (.block 0
 (.loop L50a)))
 (.seq (.region [It 29 (.load (some 5) (.t 1)),
 ⟨none, (.store 5 (.t 2) (.t 29)), none, []⟩] [])
 .ret)))),
    30, 1, [.c 2 (some 5)], 0⟩
theorem tr50 : trFunc Tryz.prog (hz [(1, [0, 1, 3, 4, 2, 6, 5, 7, 8, 9]), (6, [0, 1, 2, 3, 4, 5, 6, 7, 8, 9, 10])] I50.body) 0 Tryz.f50 = some (plain1 I50) := by kernel_rfl
theorem ck50 : ckC 2 I50.body = true := by kernel_rfl

/-- 'encore/encoreref07.Compare'. -/
def L51a : ICode :=
  (.seq (.seq (.region [Mv 38 5,
 Of 39 2 4,
 Ld 40 39,
 It 41 (.lenk 0 (.t 40)),
 It 42 (.bin .lss (.t 38) (.t 41)),
 Mv 43 42,
 Ig 44 43 true (.mov (.t 5)),
 Ig 45 43 true (.off (.t 3) 4),
 Ig 46 43 true (.load none (.t 45)),
 Ig 47 43 true (.lenk 0 (.t 46)),
 Ig 48 43 true (.bin .lss (.t 44) (.t 47)),
 It 49 (.pick (.t 43) (.t 48) (.c (.b false)))] [])
 (.cond (.t 49)
 .skip
 (.exit 0)))
 (.seq (.block 1
 (.seq (.region [Of 52 2 4,
 Ld 53 52,
 Mv 54 5,
 It 55 (.iaddr 1 (.t 53) (.t 54)),
 Ld 56 55,
 Of 57 3 4,
 Ld 58 57,
 Mv 59 5,
 It 60 (.iaddr 1 (.t 58) (.t 59)),
 Ld 61 60,
 It 62 (.bin .neq (.t 56) (.t 61))] [])
 (.cond (.t 62)
 (.seq (.region [Of 63 2 4,
 Ld 64 63,
 Mv 65 5,
 It 66 (.iaddr 1 (.t 64) (.t 65)),
 Ld 67 66,
 Of 68 3 4,
 Ld 69 68,
 Mv 70 5,
 It 71 (.iaddr 1 (.t 69) (.t 70)),
 Ld 72 71,
 It 73 (.call 116 [(.t 67), (.t 72)]),
 Mv 4 73] [])
 .ret)
 .skip)))
 (.region [Mv 50 5,
 It 51 (.bin .add (.t 50) (.c (.i .i64 (1)))),
 Mv 5 51] [])))
def L51b : ICode :=
  (.seq (.seq (.region [Mv 88 6,
 Of 89 2 3,
 Ld 90 89,
 It 91 (.lenk 0 (.t 90)),
 It 92 (.bin .lss (.t 88) (.t 91)),
 Mv 93 92,
 Ig 94 93 true (.mov (.t 6)),
 Ig 95 93 true (.off (.t 3) 3),
 Ig 96 93 true (.load none (.t 95)),
 Ig 97 93 true (.lenk 0 (.t 96)),
 Ig 98 93 true (.bin .lss (.t 94) (.t 97)),
 It 99 (.pick (.t 93) (.t 98) (.c (.b false)))] [])
 (.cond (.t 99)
 .skip
 (.exit 2)))
 (.seq (.block 3
 (.seq (.region [Of 102 2 3,
 Ld 103 102,
 Mv 104 6,
 It 105 (.iaddr 5 (.t 103) (.t 104)),
 It 106 (.load (some 5) (.t 105)),
 Of 107 3 3,
 Ld 108 107,
 Mv 109 6,
 It 110 (.iaddr 5 (.t 108) (.t 109)),
 It 111 (.load (some 5) (.t 110)),
 It 112 (.call 51 [(.t 106), (.t 111)]),
 Mv 7 112] [])
 (.seq (.region [Mv 113 7,
 It 114 (.bin .neq (.t 113) (.c i0))] [])
 (.cond (.t 114)
 (.seq (.region [Mv 115 7,
 Mv 4 115] [])
 .ret)
 .skip))))
 (.region [Mv 100 6,
 It 101 (.bin .add (.t 100) (.c (.i .i64 (1)))),
 Mv 6 101] [])))
def I51 : IFunc :=
  ⟨(.seq (.region [It 2 (.box (.t 0)),
 It 3 (.box (.t 1)),
 It 4 (.mov (.c i0))] [])
 (.seq (.seq (.region [Of 8 2 0,
 Ld 9 8,
 Of 10 3 0,
 Ld 11 10,
 It 12 (.bin .neq (.t 9) (.t 11))] [])
 (.cond (.t 12)
 (.seq (.region [Of 13 2 0,
 Ld 14 13,
 Of 15 3 0,
 Ld 16 15,
 It 17 (.call 115 [(.t 14), (.t 16)]),
 Mv 4 17] [])
 .ret)
 .skip))
 (.seq (.seq (.region [Of 18 2 1,
 Ld 19 18,
 Of 20 3 1,
 Ld 21 20,
 It 22 (.bin .neq (.t 19) (.t 21))] [])
 (.cond (.t 22)
 (.seq (.region [Of 23 2 1,
 Ld 24 23,
 Of 25 3 1,
 Ld 26 25,
 It 27 (.call 115 [(.t 24), (.t 26)]),
 Mv 4 27] [])
 .ret)
 .skip))
 (.seq (.seq (.region [Of 28 2 2,
 Ld 29 28,
 Of 30 3 2,
 Ld 31 30,
 It 32 (.bin .neq (.t 29) (.t 31))] [])
 (.cond (.t 32)
 (.seq (.region [Of 33 2 2,
 Ld 34 33,
 Of 35 3 2,
 Ld 36 35,
 It 37 (.call 116 [(.t 34), (.t 36)]),
 Mv 4 37] [])
 .ret)
 .skip))
 (.seq (.seq (.region [It 5 (.mov (.c i0))] [])
 (.block 0
 (.loop L51a)))
 (.seq (.seq (.region [Of 74 2 4,
 Ld 75 74,
 It 76 (.lenk 0 (.t 75)),
 Of 77 3 4,
 Ld 78 77,
 It 79 (.lenk 0 (.t 78)),
 It 80 (.bin .neq (.t 76) (.t 79))] [])
 (.cond (.t 80)
 (.seq (.region [Of 81 2 4,
 Ld 82 81,
 It 83 (.lenk 0 (.t 82)),
 Of 84 3 4,
 Ld 85 84,
 It 86 (.lenk 0 (.t 85)),
 It 87 (.call 115 [(.t 83), (.t 86)]),
 Mv 4 87] [])
 .ret)
 .skip))
 (.seq (.seq (.region [It 6 (.mov (.c i0))] [])
 (.block 2
 (.loop L51b)))
 (.seq (.region [Of 116 2 3,
 Ld 117 116,
 It 118 (.lenk 0 (.t 117)),
 Of 119 3 3,
 Ld 120 119,
 It 121 (.lenk 0 (.t 120)),
 It 122 (.call 115 [(.t 118), (.t 121)]),
 Mv 4 122] [])
 .ret)))))))),
    123, 2, [.t 4], 0⟩
theorem tr51 : trFunc Tryz.prog (hz [(13, [0, 1, 2, 3, 4, 5, 6, 7, 8, 9, 10]), (14, [0, 1, 2, 3, 4, 5, 6, 7, 8, 9, 10, 11]), (23, [0, 1, 2, 3, 4, 5, 6, 7, 8, 9, 10, 11])] I51.body) 0 Tryz.f51 = some (plain1 I51) := by kernel_rfl
theorem ck51 : ckC 2 I51.body = true := by kernel_rfl

/-- 'encore/value.Same'. -/
def I52 : IFunc :=
  ⟨(.seq (.region [It 2 (.box (.t 0)),
 It 3 (.box (.t 1)),
 It 4 (.mov (.c (.b false)))] [])
 (.seq (.region [Of 5 2 0,
 Ld 6 5,
 Of 7 3 0,
 Ld 8 7,
 It 9 (.bin .eql (.t 6) (.t 8)),
 Mv 10 9,
 Ig 11 10 true (.off (.t 2) 1),
 Ig 12 10 true (.load none (.t 11)),
 Ig 13 10 true (.off (.t 3) 1),
 Ig 14 10 true (.load none (.t 13)),
 Ig 15 10 true (.bin .eql (.t 12) (.t 14)),
 It 16 (.pick (.t 10) (.t 15) (.c (.b false))),
 Mv 17 16,
 Ig 18 17 true (.off (.t 2) 2),
 Ig 19 17 true (.load none (.t 18)),
 Ig 20 17 true (.off (.t 3) 2),
 Ig 21 17 true (.load none (.t 20)),
 Ig 22 17 true (.bin .eql (.t 19) (.t 21)),
 It 23 (.pick (.t 17) (.t 22) (.c (.b false))),
 Mv 24 23,
 Ig 25 24 true (.off (.t 2) 4),
 Ig 26 24 true (.load none (.t 25)),
 Ig 27 24 true (.off (.t 3) 4),
 Ig 28 24 true (.load none (.t 27)),
 Ig 29 24 true (.call 117 [(.t 26), (.t 28)]),
 It 30 (.pick (.t 24) (.t 29) (.c (.b false))),
 Mv 31 30,
 Ig 32 31 true (.off (.t 2) 3),
 Ig 33 31 true (.load none (.t 32)),
 Ig 34 31 true (.off (.t 3) 3),
 Ig 35 31 true (.load none (.t 34)),
 Ig 36 31 true (.call 118 [(.t 33), (.t 35), (.f 52)]),
 It 37 (.pick (.t 31) (.t 36) (.c (.b false))),
 Mv 4 37] [])
 .ret)),
    38, 2, [.t 4], 0⟩
theorem tr52 : trFunc Tryz.prog (hz [] I52.body) 0 Tryz.f52 = some (plain1 I52) := by kernel_rfl
theorem ck52 : ckC 2 I52.body = true := by kernel_rfl

/-- 'slices.ContainsFunc[[]encore/lift.Operand,encore/lift.Operand]'. -/
def I53 : IFunc :=
  ⟨(.seq (.region [It 4 (.mov (.c (.b false)))] [])
 (.seq (.region [Mv 5 0,
 Mv 6 1,
 It 7 (.call 119 [(.t 5), (.t 6)]),
 It 8 (.bin .geq (.t 7) (.c i0)),
 Mv 4 8] [])
 .ret)),
    9, 2, [.t 4], 0⟩
theorem tr53 : trFunc Tryz.prog (hz [] I53.body) 0 Tryz.f53 = some (plain1 I53) := by kernel_rfl
theorem ck53 : ckC 2 I53.body = true := by kernel_rfl

/-- 'encore/lift.fit$1'. -/
def I54 : IFunc :=
  ⟨(.seq (.region [It 3 (.box (.t 0)),
 It 4 (.mov (.c (.b false)))] [])
 (.seq (.region [It 5 (.load (some 7) (.t 3)),
 Ld 6 1,
 Ld 7 2,
 It 8 (.call 22 [(.t 5), (.t 6), (.t 7)]),
 It 9 (.un .not (.t 8)),
 Mv 4 9] [])
 .ret)),
    10, 3, [.t 4], 0⟩
theorem tr54 : trFunc Tryz.prog (hz [] I54.body) 0 Tryz.f54 = some (plain1 I54) := by kernel_rfl
theorem ck54 : ckC 2 I54.body = true := by kernel_rfl

/-- 'encore/encoreref20.CopyIns'. -/
def I55 : IFunc :=
  ⟨(.seq (.region [It 1 (.box (.t 0)),
 It 2 (.alloc [i0, i0, .ns, (.s []), .ns])] [])
 (.seq (.region [Of 3 1 0,
 Ld 4 3,
 Of 5 1 1,
 Ld 6 5,
 Of 7 1 2,
 Ld 8 7,
 Of 10 1 3,
 Ld 11 10,
 Of 12 1 4,
 Ld 13 12,
 ⟨(some 9), (.call 56 [(.t 8)]), none, [(4, (.load none (.t 3)), none), (6, (.load none (.t 5)), none), (11, (.load none (.t 10)), none), (13, (.load none (.t 12)), none)]⟩,
 ⟨(some 14), (.call 120 [(.t 13)]), none, [(4, (.load none (.t 3)), none), (6, (.load none (.t 5)), none), (11, (.load none (.t 10)), none)]⟩,
 It 15 (.build [i0, i0, .ns, (.s []), .ns] [(0, 1, (.t 4)), (1, 1, (.t 6)), (2, 1, (.t 9)), (3, 1, (.t 11)), (4, 1, (.t 14))]),
 ⟨none, (.store 5 (.t 2) (.t 15)), none, []⟩] [])
 .ret)),
    16, 1, [.c 2 (some 5)], 0⟩
theorem tr55 : trFunc Tryz.prog (hz [(1, [0, 1, 2, 3, 4, 5, 7, 8, 9, 10, 6, 11, 12, 13])] I55.body) 0 Tryz.f55 = some (plain1 I55) := by kernel_rfl
theorem ck55 : ckC 2 I55.body = true := by kernel_rfl

/-- 'encore/encoreref20.copied'. -/
def L56a : ICode :=
  (.seq (.seq (.region [Mv 5 4,
 Mv 6 0,
 It 7 (.lenk 0 (.t 6)),
 It 8 (.bin .lss (.t 5) (.t 7))] [])
 (.cond (.t 8)
 .skip
 (.exit 0)))
 (.seq (.block 1
 (.region [Mv 11 3,
 Mv 12 0,
 Mv 13 4,
 It 14 (.iaddr 7 (.t 12) (.t 13)),
 Of 15 14 0,
 Ld 16 15,
 Mv 17 0,
 Mv 18 4,
 It 19 (.iaddr 7 (.t 17) (.t 18)),
 Of 20 19 1,
 Ld 21 20,
 Mv 22 0,
 Mv 23 4,
 It 24 (.iaddr 7 (.t 22) (.t 23)),
 Of 25 24 2,
 It 26 (.load (some 5) (.t 25)),
 ⟨(some 27), (.call 57 [(.t 26)]), none, [(16, (.load none (.t 15)), none), (21, (.load none (.t 20)), none)]⟩,
 It 28 (.build [i0, i0, i0, i0, (.s []), .ns, .ns] [(0, 1, (.t 16)), (1, 1, (.t 21)), (2, 5, (.t 27))]),
 It 29 (.bsl 7 1 [i0, i0, i0, i0, (.s []), .ns, .ns] [(0, 7, (.t 28))]),
 It 30 (.app 7 96 (.t 11) (.t 29)),
 Mv 3 30] []))
 (.region [Mv 9 4,
 It 10 (.bin .add (.t 9) (.c (.i .i64 (1)))),
 Mv 4 10] [])))
def I56 : IFunc :=
  ⟨(.seq (.region [It 2 (.mov (.c .ns))] [])
 (.seq (.region [It 3 (.mov (.c .ns))] [])
 (.seq (.seq (.region [It 4 (.mov (.c i0))] [])
 (.block 0
 (.loop L56a)))
 (.seq (.region [Mv 31 3,
 Mv 2 31] [])
 .ret)))),
    32, 1, [.t 2], 0⟩
theorem tr56 : trFunc Tryz.prog (hz [(5, [0, 1, 2, 3, 4, 5, 6, 7, 8, 9, 10, 11, 12, 13, 14, 15, 16, 17, 18, 19, 20])] I56.body) 0 Tryz.f56 = some (plain1 I56) := by kernel_rfl
theorem ck56 : ckC 2 I56.body = true := by kernel_rfl

/-- 'encore/encoreref07.Copy'. -/
def L57a : ICode :=
  (.seq (.seq (.region [Mv 15 4,
 Of 16 1 3,
 Ld 17 16,
 It 18 (.lenk 0 (.t 17)),
 It 19 (.bin .lss (.t 15) (.t 18))] [])
 (.cond (.t 19)
 .skip
 (.exit 0)))
 (.seq (.block 1
 (.region [Of 22 3 3,
 Ld 23 22,
 Of 24 1 3,
 Ld 25 24,
 Mv 26 4,
 It 27 (.iaddr 5 (.t 25) (.t 26)),
 It 28 (.load (some 5) (.t 27)),
 ⟨(some 29), (.call 57 [(.t 28)]), none, [(23, (.load none (.t 22)), none)]⟩,
 It 30 (.bsl 5 1 [i0, i0, (.s []), .ns, .ns] [(0, 5, (.t 29))]),
 It 31 (.app 5 80 (.t 23) (.t 30)),
 Of 32 3 3,
 ⟨none, (.store 1 (.t 32) (.t 31)), none, []⟩] []))
 (.region [Mv 20 4,
 It 21 (.bin .add (.t 20) (.c (.i .i64 (1)))),
 Mv 4 21] [])))
def I57 : IFunc :=
  ⟨(.seq (.region [It 1 (.box (.t 0)),
 It 2 (.alloc [i0, i0, (.s []), .ns, .ns])] [])
 (.seq (.region [Of 5 1 0,
 Ld 6 5,
 Of 7 1 1,
 Ld 8 7,
 Of 9 1 2,
 Ld 10 9,
 Of 11 1 4,
 Ld 12 11,
 It 3 (.alloc [i0, i0, (.s []), .ns, .ns]),
 ⟨(some 13), (.call 120 [(.t 12)]), none, [(6, (.load none (.t 5)), none), (8, (.load none (.t 7)), none), (10, (.load none (.t 9)), none)]⟩,
 It 14 (.build [i0, i0, (.s []), .ns, .ns] [(0, 1, (.t 6)), (1, 1, (.t 8)), (2, 1, (.t 10)), (4, 1, (.t 13))]),
 ⟨none, (.store 5 (.t 3) (.t 14)), none, []⟩] [])
 (.seq (.seq (.region [It 4 (.mov (.c i0))] [])
 (.block 0
 (.loop L57a)))
 (.seq (.region [It 33 (.load (some 5) (.t 3)),
 ⟨none, (.store 5 (.t 2) (.t 33)), none, []⟩] [])
 .ret)))),
    34, 1, [.c 2 (some 5)], 0⟩
theorem tr57 : trFunc Tryz.prog (hz [(1, [0, 1, 2, 3, 4, 5, 6, 7, 10, 8, 9, 11]), (5, [0, 1, 2, 3, 4, 5, 6, 7, 8, 9, 10, 11])] I57.body) 0 Tryz.f57 = some (plain1 I57) := by kernel_rfl
theorem ck57 : ckC 2 I57.body = true := by kernel_rfl

/-- 'encore/cuts.blocks'. -/
def I58 : IFunc :=
  ⟨(.seq (.region [It 2 (.box (.t 0)),
 It 3 (.box (.t 1)),
 It 4 (.mov (.c .nf))] [])
 (.seq (.region [It 5 (.mkf 121 [] [(.t 2), (.t 3)]),
 Mv 4 5] [])
 .ret)),
    6, 2, [.t 4], 0⟩
theorem tr58 : trFunc Tryz.prog (hz [] I58.body) 0 Tryz.f58 = some (plain1 I58) := by kernel_rfl
theorem ck58 : ckC 2 I58.body = true := by kernel_rfl

/-- 'encore/cuts.beginnings'. -/
def L59a : ICode :=
  (.seq (.region [It 13 (.bin .lss (.t 12) (.t 11))] [])
 (.seq (.cond (.t 13)
 .skip
 (.exit 0))
 (.seq (.block 1
 (.seq (.region [Mv 14 12,
 It 15 (.iaddr 3 (.t 10) (.t 12)),
 It 16 (.load (some 3) (.t 15)),
 It 7 (.alloc [i0, i0, i0]),
 Mv 6 14,
 ⟨none, (.store 3 (.t 7) (.t 16)), none, []⟩] [])
 (.seq (.seq (.region [Of 17 7 0,
 Ld 18 17,
 It 19 (.call 75 [(.t 18)]),
 Mv 20 19,
 Ig 21 20 false (.mov (.t 1)),
 Ig 22 20 false (.mov (.t 6)),
 Ig 23 20 false (.iaddr 3 (.t 21) (.t 22)),
 Ig 24 20 false (.off (.t 23) 0),
 Ig 25 20 false (.load none (.t 24)),
 Ig 26 20 false (.un .not (.t 25)),
 It 27 (.pick (.t 20) (.c (.b true)) (.t 26))] [])
 (.cond (.t 27)
 (.exit 1)
 .skip))
 (.seq (.seq (.region [It 28 (.load (some 3) (.t 7)),
 It 29 (.call 123 [(.t 28)]),
 Mv 30 29,
 Ig 31 30 false (.off (.t 7) 0),
 Ig 32 30 false (.load none (.t 31)),
 Ig 33 30 false (.bin .eql (.t 32) (.c (.i .i64 (26)))),
 It 34 (.pick (.t 30) (.c (.b true)) (.t 33))] [])
 (.cond (.t 34)
 (.region [Mv 35 5,
 Of 36 7 1,
 Ld 37 36,
 ⟨none, (.mapup false [1] (.t 35) (.t 37) (.c (.b true))), none, []⟩] [])
 .skip))
 (.seq (.region [Mv 38 6,
 It 39 (.bin .add (.t 38) (.c (.i .i64 (1)))),
 Mv 40 0,
 It 41 (.lenk 0 (.t 40)),
 It 42 (.bin .lss (.t 39) (.t 41)),
 Mv 43 42,
 Ig 44 43 true (.mov (.t 1)),
 Ig 45 43 true (.mov (.t 6)),
 Ig 46 43 true (.bin .add (.t 45) (.c (.i .i64 (1)))),
 Ig 47 43 true (.iaddr 3 (.t 44) (.t 46)),
 Ig 48 43 true (.off (.t 47) 0),
 Ig 49 43 true (.load none (.t 48)),
 It 50 (.pick (.t 43) (.t 49) (.c (.b false)))] [])
 (.cond (.t 50)
 (.region [Mv 51 5,
 Mv 52 6,
 It 53 (.bin .add (.t 52) (.c (.i .i64 (1)))),
 ⟨none, (.mapup false [1] (.t 51) (.t 53) (.c (.b true))), none, []⟩] [])
 .skip))))))
 (.region [It 54 (.bin .add (.t 12) (.c (.i .i64 (1)))),
 Mv 12 54] []))))
def I59 : IFunc :=
  ⟨(.seq (.region [It 4 (.mov (.c .nm))] [])
 (.seq (.region [It 8 .mkmap,
 ⟨none, (.mapup false [1] (.t 8) (.c i0) (.c (.b true))), none, []⟩,
 Mv 9 8,
 Mv 5 9] [])
 (.seq (.seq (.region [Mv 10 0,
 It 11 (.lenk 0 (.t 10)),
 It 12 (.mov (.c i0))] [])
 (.block 0
 (.loop L59a)))
 (.seq (.region [Mv 55 5,
 Mv 4 55] [])
 .ret)))),
    56, 2, [.t 4], 0⟩
theorem tr59 : trFunc Tryz.prog (hz [] I59.body) 0 Tryz.f59 = some (plain1 I59) := by kernel_rfl
theorem ck59 : ckC 2 I59.body = true := by kernel_rfl

/-- 'encore/code.Check'. -/
def L60a : ICode :=
  (.seq (.region [It 54 (.bin .lss (.t 53) (.t 52))] [])
 (.seq (.cond (.t 54)
 .skip
 (.exit 2))
 (.seq (.block 3
 (.seq (.region [It 55 (.iaddr 3 (.t 51) (.t 53)),
 It 56 (.load (some 3) (.t 55)),
 It 9 (.alloc [i0, i0, i0]),
 ⟨none, (.store 3 (.t 9) (.t 56)), none, []⟩] [])
 (.seq (.region [It 57 (.load (some 3) (.t 9)),
 It 58 (.build [.np, .np, i0, i0, i0] [(0, 1, (.t 1)), (1, 1, (.t 7)), (2, 3, (.t 57))]),
 It 59 (.call 129 [(.t 58)]),
 It 60 (.un .not (.t 59))] [])
 (.cond (.t 60)
 (.seq (.region [It 2 (.mov (.c (.i .i64 (150))))] [])
 .ret)
 .skip))))
 (.region [It 61 (.bin .add (.t 53) (.c (.i .i64 (1)))),
 Mv 53 61] []))))
def L60b : ICode :=
  (.seq (.region [It 47 (.bin .lss (.t 46) (.t 45))] [])
 (.seq (.cond (.t 47)
 .skip
 (.exit 0))
 (.seq (.block 1
 (.seq (.region [It 48 (.iaddr 4 (.t 44) (.t 46)),
 It 49 (.load (some 4) (.t 48)),
 It 7 (.alloc [(.s []), i0, i0, .ns]),
 ⟨none, (.store 4 (.t 7) (.t 49)), none, []⟩] [])
 (.seq (.region [Of 50 7 3,
 Ld 51 50,
 It 52 (.lenk 0 (.t 51)),
 It 53 (.mov (.c i0))] [])
 (.block 2
 (.loop L60a)))))
 (.region [It 62 (.bin .add (.t 46) (.c (.i .i64 (1)))),
 Mv 46 62] []))))
def I60 : IFunc :=
  ⟨(.seq (.region [It 1 (.box (.t 0)),
 It 2 (.mov (.c i0))] [])
 (.seq (.region [It 3 (.mov (.f 124))] [])
 (.seq (.seq (.region [Of 10 1 0,
 Ld 11 10,
 It 12 (.lenk 0 (.t 11)),
 It 13 (.bin .gtr (.t 12) (.c (.i .i64 (16)))),
 Mv 14 13,
 Ig 15 14 false (.off (.t 1) 1),
 Ig 16 14 false (.load none (.t 15)),
 Ig 17 14 false (.lenk 0 (.t 16)),
 Ig 18 14 false (.bin .gtr (.t 17) (.c (.i .i64 (256)))),
 It 19 (.pick (.t 14) (.c (.b true)) (.t 18)),
 Mv 20 19,
 Ig 21 20 false (.off (.t 1) 0),
 Ig 22 20 false (.load none (.t 21)),
 Ig 23 20 false (.mov (.t 3)),
 Ig 24 20 false (.call 125 [(.t 22), (.t 23)]),
 It 25 (.pick (.t 20) (.c (.b true)) (.t 24))] [])
 (.cond (.t 25)
 (.seq (.region [It 2 (.mov (.c (.i .i64 (5))))] [])
 .ret)
 .skip))
 (.seq (.region [It 4 (.mov (.f 126))] [])
 (.seq (.region [It 26 (.mkf 127 [] [(.t 1)]),
 Mv 5 26] [])
 (.seq (.seq (.region [Of 27 1 0,
 Ld 28 27,
 It 29 (.lenk 0 (.t 28)),
 It 30 (.bin .eql (.t 29) (.c i0)),
 Mv 31 30,
 Ig 32 31 false (.off (.t 1) 1),
 Ig 33 31 false (.load none (.t 32)),
 Ig 34 31 false (.mov (.t 4)),
 Ig 35 31 false (.call 43 [(.t 33), (.t 34)]),
 It 36 (.pick (.t 31) (.c (.b true)) (.t 35)),
 Mv 37 36,
 Ig 38 37 false (.off (.t 1) 0),
 Ig 39 37 false (.load none (.t 38)),
 Ig 40 37 false (.mov (.t 5)),
 Ig 41 37 false (.call 125 [(.t 39), (.t 40)]),
 It 42 (.pick (.t 37) (.c (.b true)) (.t 41))] [])
 (.cond (.t 42)
 (.seq (.region [It 2 (.mov (.c (.i .i64 (2))))] [])
 .ret)
 .skip))
 (.seq (.seq (.region [Of 43 1 0,
 Ld 44 43,
 It 45 (.lenk 0 (.t 44)),
 It 46 (.mov (.c i0))] [])
 (.block 0
 (.loop L60b)))
 (.seq (.region [It 2 (.mov (.c i0))] [])
 .ret)))))))),
    63, 1, [.t 2], 0⟩
theorem tr60 : trFunc Tryz.prog (hz [] I60.body) 0 Tryz.f60 = some (plain1 I60) := by kernel_rfl
theorem ck60 : ckC 2 I60.body = true := by kernel_rfl

/-- 'encore/verify.function'. -/
def L61a : ICode :=
  (.seq (.seq (.region [Mv 17 6,
 It 18 (.nck (.t 17)),
 Of 19 18 1,
 Ld 20 19,
 It 21 (.lenk 0 (.t 20)),
 It 22 (.bin .gtr (.t 21) (.c i0))] [])
 (.cond (.t 22)
 .skip
 (.exit 0)))
 (.block 1
 (.seq (.region [Mv 23 6,
 It 24 (.nck (.t 23)),
 Of 25 24 1,
 Ld 26 25,
 Mv 27 6,
 It 28 (.nck (.t 27)),
 Of 29 28 1,
 Ld 30 29,
 It 31 (.lenk 0 (.t 30)),
 It 32 (.bin .sub (.t 31) (.c (.i .i64 (1)))),
 It 33 (.iaddr 1 (.t 26) (.t 32)),
 Ld 34 33,
 Mv 7 34] [])
 (.seq (.region [Mv 35 6,
 Mv 36 6,
 It 37 (.nck (.t 36)),
 Of 38 37 1,
 Ld 39 38,
 Mv 40 6,
 It 41 (.nck (.t 40)),
 Of 42 41 1,
 Ld 43 42,
 It 44 (.lenk 0 (.t 43)),
 It 45 (.bin .sub (.t 44) (.c (.i .i64 (1)))),
 It 46 (.slq 1 (.t 39) none (some (.t 45)) none),
 It 47 (.nck (.t 35)),
 Of 48 47 1,
 ⟨none, (.store 1 (.t 48) (.t 46)), none, []⟩] [])
 (.seq (.region [Mv 49 6,
 It 50 (.load (some 2) (.t 2)),
 Of 51 3 3,
 Ld 52 51,
 Mv 53 7,
 It 54 (.iaddr 3 (.t 52) (.t 53)),
 It 55 (.load (some 3) (.t 54)),
 Mv 56 7,
 It 57 (.call 131 [(.t 49), (.t 50), (.t 55), (.t 56)])] [])
 (.seq (.region [Mv 58 6,
 It 59 (.nck (.t 58)),
 Of 60 59 2,
 Ld 61 60] [])
 (.cond (.t 61)
 (.exit 0)
 .skip)))))))
def L61b : ICode :=
  (.seq (.region [It 72 (.bin .lss (.t 71) (.t 70))] [])
 (.seq (.cond (.t 72)
 .skip
 (.exit 2))
 (.seq (.block 3
 (.seq (.region [Mv 73 71,
 Mv 8 73] [])
 (.region [Mv 74 6,
 It 75 (.nck (.t 74)),
 Of 76 75 0,
 Ld 77 76,
 Mv 78 8,
 Mv 79 6,
 It 80 (.nck (.t 79)),
 Of 81 80 0,
 Ld 82 81,
 Mv 83 8,
 It 84 (.iaddr 3 (.t 82) (.t 83)),
 Of 85 84 2,
 Ld 86 85,
 ⟨(some 87), (.call 132 [(.t 86)]), none, [(77, (.load none (.t 76)), none)]⟩,
 It 88 (.iaddr 3 (.t 77) (.t 78)),
 Of 89 88 2,
 ⟨none, (.store 1 (.t 89) (.t 87)), none, []⟩] [])))
 (.region [It 90 (.bin .add (.t 71) (.c (.i .i64 (1)))),
 Mv 71 90] []))))
def I61 : IFunc :=
  ⟨(.seq (.region [It 2 (.box (.t 0)),
 It 3 (.box (.t 1)),
 It 4 (.mov (.c .ns)),
 It 5 (.mov (.c i0))] [])
 (.seq .skip
 (.seq (.region [Of 9 3 3,
 Ld 10 9,
 It 11 (.lenk 0 (.t 10)),
 It 12 (.mksl 3 40 [(.b false), i0, .ns] (.t 11) (.t 11)),
 It 13 (.build [.ns, .ns, (.b false)] [(0, 1, (.t 12))]),
 It 14 (.box (.t 13)),
 Mv 6 14] [])
 (.seq (.region [Mv 15 6,
 It 16 (.call 130 [(.t 15), (.c i0), (.c i0), (.c .ns)])] [])
 (.seq .skip
 (.seq (.block 0
 (.loop L61a))
 (.seq (.seq (.region [Mv 62 6,
 It 63 (.nck (.t 62)),
 Of 64 63 2,
 Ld 65 64] [])
 (.cond (.t 65)
 (.seq (.region [It 4 (.mov (.c .ns)),
 It 5 (.mov (.c (.i .i64 (170))))] [])
 .ret)
 .skip))
 (.seq (.seq (.region [Mv 66 6,
 It 67 (.nck (.t 66)),
 Of 68 67 0,
 Ld 69 68,
 It 70 (.lenk 0 (.t 69)),
 It 71 (.mov (.c i0))] [])
 (.block 2
 (.loop L61b)))
 (.seq (.region [Mv 91 6,
 It 92 (.nck (.t 91)),
 Of 93 92 0,
 Ld 94 93,
 Mv 4 94,
 It 5 (.mov (.c i0))] [])
 .ret))))))))),
    95, 2, [.t 4, .t 5], 0⟩
theorem tr61 : trFunc Tryz.prog [([], []), ([], []), ([], []), ([], []), ([], []), ([0, 1, 2, 3, 4, 5, 6, 7, 8, 9, 10, 11, 12], []), ([0, 1, 2, 3, 4, 5, 6, 7, 8, 9, 10, 11, 12, 13, 14], []), ([0, 1, 2, 3, 4, 5, 6, 7, 8], []), ([], []), ([], []), ([], []), ([], []), ([], []), ([], []), ([], []), ([], []), ([], []), ([0, 1, 2, 3, 4, 5, 6, 7, 8, 9, 10, 11, 12, 13, 14, 15, 16], []), ([], []), ([], [])] 0 Tryz.f61 = some (plain1 I61) := by kernel_rfl
theorem ck61 : ckC 2 I61.body = true := by kernel_rfl

/-- 'slices.IndexFunc[[]encore/cuts.Block,encore/cuts.Block]'. -/
def L62a : ICode :=
  (.seq (.region [It 9 (.bin .lss (.t 8) (.t 7))] [])
 (.seq (.cond (.t 9)
 .skip
 (.exit 0))
 (.seq (.block 1
 (.seq (.region [Mv 10 8,
 Mv 5 10] [])
 (.seq (.region [Mv 11 1,
 Mv 12 0,
 Mv 13 5,
 It 14 (.iaddr 4 (.t 12) (.t 13)),
 It 15 (.load (some 4) (.t 14)),
 It 16 (.callv (.t 11) [(.t 15)])] [])
 (.cond (.t 16)
 (.seq (.region [Mv 17 5,
 Mv 4 17] [])
 .ret)
 .skip))))
 (.region [It 18 (.bin .add (.t 8) (.c (.i .i64 (1)))),
 Mv 8 18] []))))
def I62 : IFunc :=
  ⟨(.seq (.region [It 4 (.mov (.c i0))] [])
 (.seq (.seq (.region [Mv 6 0,
 It 7 (.lenk 0 (.t 6)),
 It 8 (.mov (.c i0))] [])
 (.block 0
 (.loop L62a)))
 (.seq (.region [It 4 (.mov (.c (.i .i64 (-1))))] [])
 .ret))),
    19, 2, [.t 4], 0⟩
theorem tr62 : trFunc Tryz.prog (hz [] I62.body) 0 Tryz.f62 = some (plain1 I62) := by kernel_rfl
theorem ck62 : ckC 2 I62.body = true := by kernel_rfl

/-- 'encore/cuts.At$1'. -/
def I63 : IFunc :=
  ⟨(.seq (.region [It 2 (.box (.t 0)),
 It 3 (.mov (.c (.b false)))] [])
 (.seq (.region [Of 4 2 0,
 Ld 5 4,
 Ld 6 1,
 It 7 (.bin .eql (.t 5) (.t 6)),
 Mv 3 7] [])
 .ret)),
    8, 2, [.t 3], 0⟩
theorem tr63 : trFunc Tryz.prog (hz [] I63.body) 0 Tryz.f63 = some (plain1 I63) := by kernel_rfl
theorem ck63 : ckC 2 I63.body = true := by kernel_rfl

/-- '(*encore/lift.maker).all'. -/
def L64a : ICode :=
  (.seq (.region [It 9 (.bin .lss (.t 8) (.t 7))] [])
 (.seq (.cond (.t 9)
 .skip
 (.exit 0))
 (.seq (.block 1
 (.seq (.region [It 10 (.iaddr 3 (.t 6) (.t 8)),
 It 11 (.load (some 3) (.t 10)),
 It 5 (.alloc [i0, i0, i0]),
 ⟨none, (.store 3 (.t 5) (.t 11)), none, []⟩] [])
 (.seq (.region [Of 12 5 0,
 Ld 13 12,
 It 14 (.call 75 [(.t 13)])] [])
 (.cond (.t 14)
 (.region [Mv 15 0,
 It 16 (.load (some 3) (.t 5)),
 It 17 (.call 133 [(.t 15), (.t 16)])] [])
 .skip))))
 (.region [It 18 (.bin .add (.t 8) (.c (.i .i64 (1)))),
 Mv 8 18] []))))
def I64 : IFunc :=
  ⟨(.seq (.region [Mv 6 1,
 It 7 (.lenk 0 (.t 6)),
 It 8 (.mov (.c i0))] [])
 (.block 0
 (.loop L64a))),
    19, 2, [], 0⟩
theorem tr64 : trFunc Tryz.prog (hz [] I64.body) 0 Tryz.f64 = some (plain1 I64) := by kernel_rfl
theorem ck64 : ckC 2 I64.body = true := by kernel_rfl

/-- '(*encore/lift.maker).off'. -/
def L65a : ICode :=
  (.seq (.seq (.region [Mv 31 6,
 It 32 (.lenk 0 (.t 31)),
 Mv 33 1,
 It 34 (.bin .lss (.t 32) (.t 33))] [])
 (.cond (.t 34)
 .skip
 (.exit 0)))
 (.block 1
 (.region [Mv 35 6,
 It 36 (.build [i0, i0, i0, i0, (.s []), .ns, .ns] [(0, 1, (.c (.i .i64 (3))))]),
 It 37 (.bsl 7 1 [i0, i0, i0, i0, (.s []), .ns, .ns] [(0, 7, (.t 36))]),
 It 38 (.app 7 96 (.t 35) (.t 37)),
 Mv 6 38] [])))
def I65 : IFunc :=
  ⟨(.seq (.region [It 4 (.mov (.c .ns))] [])
 (.seq (.region [Mv 7 0,
 It 8 (.nck (.t 7)),
 Of 9 8 19,
 Ld 10 9,
 It 11 (.lenk 0 (.t 10)),
 Mv 12 1,
 It 13 (.bin .sub (.t 11) (.t 12)),
 It 14 (.mm true (.t 13) [(.c i0)]),
 Mv 5 14] [])
 (.seq (.region [Mv 15 0,
 It 16 (.nck (.t 15)),
 Of 17 16 19,
 Ld 18 17,
 Mv 19 5,
 It 20 (.sl 7 (.t 18) (some (.t 19)) none none),
 It 21 (.call 32 [(.t 20)]),
 Mv 6 21] [])
 (.seq (.region [Mv 22 0,
 Mv 23 0,
 It 24 (.nck (.t 23)),
 Of 25 24 19,
 Ld 26 25,
 Mv 27 5,
 It 28 (.sl 7 (.t 26) none (some (.t 27)) none),
 It 29 (.nck (.t 22)),
 Of 30 29 19,
 ⟨none, (.store 1 (.t 30) (.t 28)), none, []⟩] [])
 (.seq (.block 0
 (.loop L65a))
 (.seq (.region [Mv 39 6,
 Mv 4 39] [])
 .ret)))))),
    40, 2, [.t 4], 0⟩
theorem tr65 : trFunc Tryz.prog (hz [] I65.body) 0 Tryz.f65 = some (plain1 I65) := by kernel_rfl
theorem ck65 : ckC 2 I65.body = true := by kernel_rfl

/-- 'encore/lift.Do$1'. -/
def I66 : IFunc :=
  ⟨(.seq (.region [It 1 (.box (.t 0)),
 It 2 (.mov (.c (.b false)))] [])
 (.seq (.region [It 3 (.load (some 5) (.t 1)),
 It 4 (.call 45 [(.t 3)]),
 It 5 (.un .not (.t 4)),
 Mv 2 5] [])
 .ret)),
    6, 1, [.t 2], 0⟩
theorem tr66 : trFunc Tryz.prog (hz [] I66.body) 0 Tryz.f66 = some (plain1 I66) := by kernel_rfl
theorem ck66 : ckC 2 I66.body = true := by kernel_rfl

/-- 'encore/lift.Do$2'. -/
def I67 : IFunc :=
  ⟨(.seq (.region [It 3 (.box (.t 0)),
 It 4 (.alloc [i0, i0, (.s []), .ns, .ns])] [])
 (.seq (.seq (.region [Of 5 3 0,
 Ld 6 5] [])
 (.block 0
 (.seq (.region [It 8 (.bin .eql (.t 6) (.c (.i .i64 (1)))),
 Mv 7 8] [])
 (.cond (.t 7)
 (.seq (.region [Ld 9 1,
 Of 10 3 1,
 Ld 11 10,
 It 12 (.iaddr 5 (.t 9) (.t 11)),
 It 13 (.load (some 5) (.t 12)),
 ⟨none, (.store 5 (.t 4) (.t 13)), none, []⟩] [])
 .ret)
 (.seq (.region [It 15 (.bin .eql (.t 6) (.c (.i .i64 (2)))),
 Mv 14 15] [])
 (.cond (.t 14)
 (.seq (.region [Ld 16 2,
 Of 17 3 1,
 Ld 18 17,
 It 19 (.iaddr 5 (.t 16) (.t 18)),
 It 20 (.load (some 5) (.t 19)),
 ⟨none, (.store 5 (.t 4) (.t 20)), none, []⟩] [])
 .ret)
 .skip))))))
 (.seq (.region [Of 21 3 2,
 It 22 (.load (some 5) (.t 21)),
 ⟨none, (.store 5 (.t 4) (.t 22)), none, []⟩] [])
 .ret))),
    23, 3, [.c 4 (some 5)], 0⟩
theorem tr67 : trFunc Tryz.prog (hz [] I67.body) 0 Tryz.f67 = some (plain1 I67) := by kernel_rfl
theorem ck67 : ckC 2 I67.body = true := by kernel_rfl

/-- 'encore/encoreref20.SameIns'. -/
def I68 : IFunc :=
  ⟨(.seq (.region [It 2 (.box (.t 0)),
 It 3 (.box (.t 1)),
 It 4 (.mov (.c (.b false)))] [])
 (.seq (.region [Of 5 2 0,
 Ld 6 5,
 Of 7 3 0,
 Ld 8 7,
 It 9 (.bin .eql (.t 6) (.t 8)),
 Mv 10 9,
 Ig 11 10 true (.off (.t 2) 1),
 Ig 12 10 true (.load none (.t 11)),
 Ig 13 10 true (.off (.t 3) 1),
 Ig 14 10 true (.load none (.t 13)),
 Ig 15 10 true (.bin .eql (.t 12) (.t 14)),
 It 16 (.pick (.t 10) (.t 15) (.c (.b false))),
 Mv 17 16,
 Ig 18 17 true (.off (.t 2) 3),
 Ig 19 17 true (.load none (.t 18)),
 Ig 20 17 true (.off (.t 3) 3),
 Ig 21 17 true (.load none (.t 20)),
 Ig 22 17 true (.bin .eql (.t 19) (.t 21)),
 It 23 (.pick (.t 17) (.t 22) (.c (.b false))),
 Mv 24 23,
 Ig 25 24 true (.off (.t 2) 2),
 Ig 26 24 true (.load none (.t 25)),
 Ig 27 24 true (.off (.t 3) 2),
 Ig 28 24 true (.load none (.t 27)),
 Ig 29 24 true (.call 69 [(.t 26), (.t 28)]),
 It 30 (.pick (.t 24) (.t 29) (.c (.b false))),
 Mv 31 30,
 Ig 32 31 true (.off (.t 2) 4),
 Ig 33 31 true (.load none (.t 32)),
 Ig 34 31 true (.off (.t 3) 4),
 Ig 35 31 true (.load none (.t 34)),
 Ig 36 31 true (.call 134 [(.t 33), (.t 35)]),
 It 37 (.pick (.t 31) (.t 36) (.c (.b false))),
 Mv 4 37] [])
 .ret)),
    38, 2, [.t 4], 0⟩
theorem tr68 : trFunc Tryz.prog (hz [] I68.body) 0 Tryz.f68 = some (plain1 I68) := by kernel_rfl
theorem ck68 : ckC 2 I68.body = true := by kernel_rfl

/-- 'encore/encoreref20.SameOperands'. -/
def L69a : ICode :=
  (.seq (.seq (.region [Mv 11 5,
 Mv 12 0,
 It 13 (.lenk 0 (.t 12)),
 It 14 (.bin .lss (.t 11) (.t 13))] [])
 (.cond (.t 14)
 .skip
 (.exit 0)))
 (.seq (.block 1
 (.seq (.region [Mv 17 0,
 Mv 18 5,
 It 19 (.iaddr 7 (.t 17) (.t 18)),
 It 20 (.load (some 7) (.t 19)),
 Mv 21 1,
 Mv 22 5,
 It 23 (.iaddr 7 (.t 21) (.t 22)),
 It 24 (.load (some 7) (.t 23)),
 It 25 (.call 70 [(.t 20), (.t 24)]),
 It 26 (.un .not (.t 25))] [])
 (.cond (.t 26)
 (.seq (.region [It 4 (.mov (.c (.b false)))] [])
 .ret)
 .skip)))
 (.region [Mv 15 5,
 It 16 (.bin .add (.t 15) (.c (.i .i64 (1)))),
 Mv 5 16] [])))
def I69 : IFunc :=
  ⟨(.seq (.region [It 4 (.mov (.c (.b false)))] [])
 (.seq (.seq (.region [Mv 6 0,
 It 7 (.lenk 0 (.t 6)),
 Mv 8 1,
 It 9 (.lenk 0 (.t 8)),
 It 10 (.bin .neq (.t 7) (.t 9))] [])
 (.cond (.t 10)
 (.seq (.region [It 4 (.mov (.c (.b false)))] [])
 .ret)
 .skip))
 (.seq (.seq (.region [It 5 (.mov (.c i0))] [])
 (.block 0
 (.loop L69a)))
 (.seq (.region [It 4 (.mov (.c (.b true)))] [])
 .ret)))),
    27, 2, [.t 4], 0⟩
theorem tr69 : trFunc Tryz.prog (hz [(7, [0, 1, 2, 3, 4, 5, 6, 7, 8, 9])] I69.body) 0 Tryz.f69 = some (plain1 I69) := by kernel_rfl
theorem ck69 : ckC 2 I69.body = true := by kernel_rfl

/-- 'encore/encoreref20.SameOperand'. -/
def I70 : IFunc :=
  ⟨(.seq (.region [It 2 (.box (.t 0)),
 It 3 (.box (.t 1)),
 It 4 (.mov (.c (.b false)))] [])
 (.seq (.region [Of 5 2 0,
 Ld 6 5,
 Of 7 3 0,
 Ld 8 7,
 It 9 (.bin .eql (.t 6) (.t 8)),
 Mv 10 9,
 Ig 11 10 true (.off (.t 2) 1),
 Ig 12 10 true (.load none (.t 11)),
 Ig 13 10 true (.off (.t 3) 1),
 Ig 14 10 true (.load none (.t 13)),
 Ig 15 10 true (.bin .eql (.t 12) (.t 14)),
 It 16 (.pick (.t 10) (.t 15) (.c (.b false))),
 Mv 17 16,
 Ig 18 17 true (.off (.t 2) 2),
 Ig 19 17 true (.load (some 5) (.t 18)),
 Ig 20 17 true (.off (.t 3) 2),
 Ig 21 17 true (.load (some 5) (.t 20)),
 Ig 22 17 true (.call 20 [(.t 19), (.t 21)]),
 It 23 (.pick (.t 17) (.t 22) (.c (.b false))),
 Mv 4 23] [])
 .ret)),
    24, 2, [.t 4], 0⟩
theorem tr70 : trFunc Tryz.prog (hz [] I70.body) 0 Tryz.f70 = some (plain1 I70) := by kernel_rfl
theorem ck70 : ckC 2 I70.body = true := by kernel_rfl

/-- 'encore/encorelaw20.operands'. -/
def L71a : ICode :=
  (.seq (.seq (.region [Mv 5 4,
 Mv 6 0,
 It 7 (.lenk 0 (.t 6)),
 It 8 (.bin .lss (.t 5) (.t 7))] [])
 (.cond (.t 8)
 .skip
 (.exit 0)))
 (.seq (.block 1
 (.region [Mv 11 3,
 Mv 12 0,
 Mv 13 4,
 It 14 (.iaddr 7 (.t 12) (.t 13)),
 Of 15 14 0,
 Ld 16 15,
 Mv 17 0,
 Mv 18 4,
 It 19 (.iaddr 7 (.t 17) (.t 18)),
 Of 20 19 1,
 Ld 21 20,
 Mv 22 0,
 Mv 23 4,
 It 24 (.iaddr 7 (.t 22) (.t 23)),
 Of 25 24 2,
 It 26 (.load (some 5) (.t 25)),
 It 27 (.build [i0, i0, i0, i0, (.s []), .ns, .ns] [(0, 1, (.t 16)), (1, 1, (.t 21)), (2, 5, (.t 26))]),
 It 28 (.bsl 7 1 [i0, i0, i0, i0, (.s []), .ns, .ns] [(0, 7, (.t 27))]),
 It 29 (.app 7 96 (.t 11) (.t 28)),
 Mv 3 29] []))
 (.region [Mv 9 4,
 It 10 (.bin .add (.t 9) (.c (.i .i64 (1)))),
 Mv 4 10] [])))
def I71 : IFunc :=
  ⟨(.seq (.region [It 2 (.mov (.c .ns))] [])
 (.seq (.region [It 3 (.mov (.c .ns))] [])
 (.seq (.seq (.region [It 4 (.mov (.c i0))] [])
 (.block 0
 (.loop L71a)))
 (.seq (.region [Mv 30 3,
 Mv 2 30] [])
 .ret)))),
    31, 1, [.t 2], 0⟩
theorem tr71 : trFunc Tryz.prog (hz [(5, [0, 1, 2, 3, 4, 5, 6, 7, 8, 9, 10, 11, 12, 13, 14, 15, 16, 17, 18, 19])] I71.body) 0 Tryz.f71 = some (plain1 I71) := by kernel_rfl
theorem ck71 : ckC 2 I71.body = true := by kernel_rfl

/-- 'encore/encoreref07.SameAll'. -/
def L72a : ICode :=
  (.seq (.seq (.region [Mv 11 5,
 Mv 12 0,
 It 13 (.lenk 0 (.t 12)),
 It 14 (.bin .lss (.t 11) (.t 13))] [])
 (.cond (.t 14)
 .skip
 (.exit 0)))
 (.seq (.block 1
 (.seq (.region [Mv 17 0,
 Mv 18 5,
 It 19 (.iaddr 5 (.t 17) (.t 18)),
 It 20 (.load (some 5) (.t 19)),
 Mv 21 1,
 Mv 22 5,
 It 23 (.iaddr 5 (.t 21) (.t 22)),
 It 24 (.load (some 5) (.t 23)),
 It 25 (.call 20 [(.t 20), (.t 24)]),
 It 26 (.un .not (.t 25))] [])
 (.cond (.t 26)
 (.seq (.region [It 4 (.mov (.c (.b false)))] [])
 .ret)
 .skip)))
 (.region [Mv 15 5,
 It 16 (.bin .add (.t 15) (.c (.i .i64 (1)))),
 Mv 5 16] [])))
def I72 : IFunc :=
  ⟨(.seq (.region [It 4 (.mov (.c (.b false)))] [])
 (.seq (.seq (.region [Mv 6 0,
 It 7 (.lenk 0 (.t 6)),
 Mv 8 1,
 It 9 (.lenk 0 (.t 8)),
 It 10 (.bin .neq (.t 7) (.t 9))] [])
 (.cond (.t 10)
 (.seq (.region [It 4 (.mov (.c (.b false)))] [])
 .ret)
 .skip))
 (.seq (.seq (.region [It 5 (.mov (.c i0))] [])
 (.block 0
 (.loop L72a)))
 (.seq (.region [It 4 (.mov (.c (.b true)))] [])
 .ret)))),
    27, 2, [.t 4], 2⟩
theorem tr72 : trFunc Tryz.prog (hz [(7, [0, 1, 2, 3, 4, 5, 6, 7, 8, 9])] I72.body) 1 Tryz.f72 = some (plain1 I72) := by kernel_rfl
theorem ck72 : ckC 2 I72.body = true := by kernel_rfl

/-- 'slices.ContainsFunc[[]encore/api.Instr,encore/api.Instr]'. -/
def I73 : IFunc :=
  ⟨(.seq (.region [It 4 (.mov (.c (.b false)))] [])
 (.seq (.region [Mv 5 0,
 Mv 6 1,
 It 7 (.call 135 [(.t 5), (.t 6)]),
 It 8 (.bin .geq (.t 7) (.c i0)),
 Mv 4 8] [])
 .ret)),
    9, 2, [.t 4], 0⟩
theorem tr73 : trFunc Tryz.prog (hz [] I73.body) 0 Tryz.f73 = some (plain1 I73) := by kernel_rfl
theorem ck73 : ckC 2 I73.body = true := by kernel_rfl

/-- 'encore/lift.Small$1'. -/
def I74 : IFunc :=
  ⟨(.seq (.region [It 1 (.box (.t 0)),
 It 2 (.mov (.c (.b false)))] [])
 (.seq (.region [Of 3 1 0,
 Ld 4 3,
 It 5 (.call 75 [(.t 4)]),
 It 6 (.un .not (.t 5)),
 Mv 2 6] [])
 .ret)),
    7, 1, [.t 2], 0⟩
theorem tr74 : trFunc Tryz.prog (hz [] I74.body) 0 Tryz.f74 = some (plain1 I74) := by kernel_rfl
theorem ck74 : ckC 2 I74.body = true := by kernel_rfl

/-- 'encore/code.Plain'. -/
def I75 : IFunc :=
  ⟨(.seq (.region [It 2 (.mov (.c (.b false)))] [])
 (.seq (.region [Mv 3 0,
 It 4 (.bin .geq (.t 3) (.c (.i .i64 (1)))),
 Mv 5 4,
 Ig 6 5 true (.mov (.t 0)),
 Ig 7 5 true (.bin .leq (.t 6) (.c (.i .i64 (23)))),
 It 8 (.pick (.t 5) (.t 7) (.c (.b false))),
 Mv 2 8] [])
 .ret)),
    9, 1, [.t 2], 2⟩
theorem tr75 : trFunc Tryz.prog (hz [] I75.body) 1 Tryz.f75 = some (plain1 I75) := by kernel_rfl
theorem ck75 : ckC 2 I75.body = true := by kernel_rfl

/-- 'encore/encorelaw20.begun'. -/
def L76a : ICode :=
  (.seq (.seq (.region [Mv 13 6,
 Of 14 2 0,
 Ld 15 14,
 It 16 (.iaddr 4 (.t 15) (.c i0)),
 Of 17 16 1,
 Ld 18 17,
 It 19 (.bin .lss (.t 13) (.t 18)),
 Mv 20 19,
 Ig 21 20 true (.mov (.t 6)),
 Ig 22 20 true (.bin .lss (.t 21) (.c (.i .i64 (8)))),
 It 23 (.pick (.t 20) (.t 22) (.c (.b false)))] [])
 (.cond (.t 23)
 .skip
 (.exit 0)))
 (.seq (.block 1
 (.region [Mv 26 5,
 Mv 27 1,
 Mv 28 6,
 It 29 (.bin .add (.t 27) (.t 28)),
 It 30 (.call 5 [(.t 29)]),
 It 31 (.bsl 5 1 [i0, i0, (.s []), .ns, .ns] [(0, 5, (.t 30))]),
 It 32 (.app 5 80 (.t 26) (.t 31)),
 Mv 5 32] []))
 (.region [Mv 24 6,
 It 25 (.bin .add (.t 24) (.c (.i .i64 (1)))),
 Mv 6 25] [])))
def I76 : IFunc :=
  ⟨(.seq (.region [It 2 (.box (.t 0)),
 It 4 (.mov (.c .np))] [])
 (.seq (.seq (.region [Of 9 2 0,
 Ld 10 9,
 It 11 (.lenk 0 (.t 10)),
 It 12 (.bin .eql (.t 11) (.c i0))] [])
 (.cond (.t 12)
 (.seq (.region [It 4 (.mov (.c .np))] [])
 .ret)
 .skip))
 (.seq (.region [It 5 (.mov (.c .ns))] [])
 (.seq (.seq (.region [It 6 (.mov (.c i0))] [])
 (.block 0
 (.loop L76a)))
 (.seq (.region [It 34 (.load (some 2) (.t 2)),
 Mv 35 5,
 It 36 (.call 136 [(.t 34), (.c i0), (.t 35)]),
 Mv 33 36,
 Ex 37 33 0,
 Ex 38 33 1,
 Mv 7 37,
 Mv 8 38] [])
 (.seq (.seq (.region [Mv 39 8,
 It 40 (.bin .neq (.t 39) (.c i0))] [])
 (.cond (.t 40)
 (.seq (.region [It 4 (.mov (.c .np))] [])
 .ret)
 .skip))
 (.seq (.region [Mv 41 7,
 Mv 4 41] [])
 .ret))))))),
    42, 2, [.t 4], 0⟩
theorem tr76 : trFunc Tryz.prog (hz [] I76.body) 0 Tryz.f76 = some (plain1 I76) := by kernel_rfl
theorem ck76 : ckC 2 I76.body = true := by kernel_rfl

/-- 'encore/encorelaw20.goes'. -/
def L77a : ICode :=
  (.seq (.seq (.region [Mv 9 1,
 It 10 (.bin .gtr (.t 9) (.c i0)),
 Mv 11 10,
 Ig 12 11 true (.mov (.t 0)),
 Ig 13 11 true (.call 79 [(.t 12)]),
 Ig 14 11 true (.bin .neq (.t 13) (.c (.i .i64 (2)))),
 It 15 (.pick (.t 11) (.t 14) (.c (.b false))),
 Mv 16 15,
 Ig 17 16 true (.mov (.t 0)),
 Ig 18 16 true (.call 79 [(.t 17)]),
 Ig 19 16 true (.bin .neq (.t 18) (.c (.i .i64 (3)))),
 It 20 (.pick (.t 16) (.t 19) (.c (.b false)))] [])
 (.cond (.t 20)
 .skip
 (.exit 0)))
 (.block 1
 (.seq (.seq (.region [Mv 21 0,
 It 22 (.call 79 [(.t 21)]),
 It 23 (.bin .eql (.t 22) (.c (.i .i64 (1))))] [])
 (.cond (.t 23)
 (.seq (.region [It 24 (.build [i0, i0, i0, (.s []), .ns, .ns] []),
 It 7 (.alloc [i0, i0, i0, (.s []), .ns, .ns]),
 ⟨none, (.store 6 (.t 7) (.t 24)), none, []⟩] [])
 (.seq (.seq (.region [Mv 25 6,
 Mv 26 2,
 It 27 (.lenk 0 (.t 26)),
 It 28 (.bin .lss (.t 25) (.t 27)),
 Mv 29 28,
 Ig 30 29 true (.mov (.t 2)),
 Ig 31 29 true (.mov (.t 6)),
 Ig 32 29 true (.iaddr 6 (.t 30) (.t 31)),
 Ig 33 29 true (.off (.t 32) 1),
 Ig 34 29 true (.load (some 5) (.t 33)),
 Ig 35 29 true (.call 86 [(.t 34)]),
 Ig 36 29 true (.bin .eql (.t 35) (.c i0)),
 It 37 (.pick (.t 29) (.t 36) (.c (.b false)))] [])
 (.cond (.t 37)
 (.region [Mv 38 2,
 Mv 39 6,
 It 40 (.iaddr 6 (.t 38) (.t 39)),
 It 41 (.load (some 6) (.t 40)),
 ⟨none, (.store 6 (.t 7) (.t 41)), none, []⟩] [])
 .skip))
 (.seq (.region [Mv 42 6,
 It 43 (.bin .add (.t 42) (.c (.i .i64 (1)))),
 Mv 6 43] [])
 (.seq (.seq (.region [Mv 44 0,
 It 45 (.load (some 6) (.t 7)),
 It 46 (.call 137 [(.t 44), (.t 45)]),
 It 47 (.bin .neq (.t 46) (.c i0))] [])
 (.cond (.t 47)
 .ret
 .skip))
 (.exit 1)))))
 .skip))
 (.seq (.region [Mv 48 0,
 Mv 49 1,
 It 50 (.call 138 [(.t 48), (.t 49)]),
 Mv 8 50] [])
 (.seq (.seq (.region [Mv 51 8,
 It 52 (.bin .leq (.t 51) (.c i0))] [])
 (.cond (.t 52)
 .ret
 .skip))
 (.region [Mv 53 1,
 Mv 54 8,
 It 55 (.bin .sub (.t 53) (.t 54)),
 Mv 1 55] []))))))
def I77 : IFunc :=
  ⟨(.seq (.region [It 6 (.mov (.c i0))] [])
 (.block 0
 (.loop L77a))),
    56, 3, [], 0⟩
theorem tr77 : trFunc Tryz.prog (hz [] I77.body) 0 Tryz.f77 = some (plain1 I77) := by kernel_rfl
theorem ck77 : ckC 2 I77.body = true := by kernel_rfl

/-- 'encore/encoreref00.Bring'. -/
def I78 : IFunc :=
  ⟨(.seq (.region [It 4 (.mov (.c i0))] [])
 (.seq (.seq (.region [Mv 5 1,
 It 6 (.bin .leq (.t 5) (.c i0))] [])
 (.cond (.t 6)
 (.seq (.region [It 4 (.mov (.c i0))] [])
 .ret)
 .skip))
 (.seq (.region [Mv 7 0,
 Mv 8 1,
 It 9 (.bin .rem (.t 7) (.t 8)),
 Mv 0 9] [])
 (.seq (.seq (.region [Mv 10 0,
 It 11 (.bin .lss (.t 10) (.c i0))] [])
 (.cond (.t 11)
 (.region [Mv 12 0,
 Mv 13 1,
 It 14 (.bin .add (.t 12) (.t 13)),
 Mv 0 14] [])
 .skip))
 (.seq (.region [Mv 15 0,
 Mv 4 15] [])
 .ret))))),
    16, 2, [.t 4], 0⟩
theorem tr78 : trFunc Tryz.prog (hz [] I78.body) 0 Tryz.f78 = some (plain1 I78) := by kernel_rfl
theorem ck78 : ckC 2 I78.body = true := by kernel_rfl

/-- '(*encore/base.Machine).Status'. -/
def I79 : IFunc :=
  ⟨(.seq (.region [It 2 (.mov (.c i0))] [])
 (.seq (.seq (.region [Mv 3 0,
 It 4 (.call 139 [(.t 3)])] [])
 (.cond (.t 4)
 (.seq (.region [It 2 (.mov (.c i0))] [])
 .ret)
 .skip))
 (.seq (.region [Mv 5 0,
 It 6 (.nck (.t 5)),
 Of 7 6 5,
 Ld 8 7,
 Mv 2 8] [])
 .ret))),
    9, 1, [.t 2], 0⟩
theorem tr79 : trFunc Tryz.prog (hz [] I79.body) 0 Tryz.f79 = some (plain1 I79) := by kernel_rfl
theorem ck79 : ckC 2 I79.body = true := by kernel_rfl

/-- '(*encore/base.Machine).Frames'. -/
def L80a : ICode :=
  (.seq (.region [It 28 (.bin .lss (.t 27) (.t 26))] [])
 (.seq (.cond (.t 28)
 .skip
 (.exit 0))
 (.seq (.block 1
 (.seq (.region [It 29 (.iaddr 1 (.t 25) (.t 27)),
 Ld 30 29,
 Mv 5 30] [])
 (.region [Mv 31 3,
 Mv 32 5,
 It 33 (.nck (.t 32)),
 Of 34 33 0,
 Of 35 34 0,
 Ld 36 35,
 Mv 37 5,
 It 38 (.nck (.t 37)),
 Of 39 38 0,
 Of 40 39 1,
 Ld 41 40,
 Mv 42 5,
 It 43 (.nck (.t 42)),
 Of 44 43 0,
 Of 45 44 2,
 Ld 46 45,
 Mv 48 5,
 It 49 (.nck (.t 48)),
 Of 50 49 0,
 Of 51 50 3,
 Ld 52 51,
 Mv 54 5,
 It 55 (.nck (.t 54)),
 Of 56 55 0,
 Of 57 56 4,
 Ld 58 57,
 ⟨(some 47), (.call 141 [(.t 46)]), none, [(36, (.load none (.t 35)), none), (41, (.load none (.t 40)), none), (52, (.load none (.t 51)), none), (58, (.load none (.t 57)), none)]⟩,
 ⟨(some 53), (.call 141 [(.t 52)]), none, [(36, (.load none (.t 35)), none), (41, (.load none (.t 40)), none), (58, (.load none (.t 57)), none)]⟩,
 ⟨(some 59), (.call 132 [(.t 58)]), none, [(36, (.load none (.t 35)), none), (41, (.load none (.t 40)), none)]⟩,
 It 60 (.build [i0, i0, .ns, .ns, .ns] [(0, 1, (.t 36)), (1, 1, (.t 41)), (2, 1, (.t 47)), (3, 1, (.t 53)), (4, 1, (.t 59))]),
 It 61 (.bsl 5 1 [i0, i0, .ns, .ns, .ns] [(0, 5, (.t 60))]),
 It 62 (.app 5 88 (.t 31) (.t 61)),
 Mv 3 62] [])))
 (.region [It 63 (.bin .add (.t 27) (.c (.i .i64 (1)))),
 Mv 27 63] []))))
def I80 : IFunc :=
  ⟨(.seq (.region [It 2 (.mov (.c .ns))] [])
 (.seq (.seq (.region [Mv 6 0,
 It 7 (.call 139 [(.t 6)]),
 Mv 8 7,
 Ig 9 8 false (.mov (.t 0)),
 Ig 10 8 false (.nck (.t 9)),
 Ig 11 8 false (.off (.t 10) 0),
 Ig 12 8 false (.load none (.t 11)),
 Ig 13 8 false (.eqNil 1 false (.t 12) (.c .np)),
 It 14 (.pick (.t 8) (.c (.b true)) (.t 13))] [])
 (.cond (.t 14)
 (.seq (.region [It 2 (.mov (.c .ns))] [])
 .ret)
 .skip))
 (.seq (.region [It 3 (.mov (.c .ns))] [])
 (.seq (.seq (.region [Mv 15 0,
 It 16 (.nck (.t 15)),
 Of 17 16 1,
 Ld 18 17,
 Mv 20 0,
 It 21 (.nck (.t 20)),
 Of 22 21 0,
 Ld 23 22,
 It 24 (.bsl 1 1 [.np] [(0, 1, (.t 23))]),
 It 27 (.mov (.c i0)),
 ⟨(some 19), (.call 140 [(.t 18)]), none, [(23, (.load none (.t 22)), none)]⟩,
 It 25 (.app 1 8 (.t 19) (.t 24)),
 It 26 (.lenk 0 (.t 25))] [])
 (.block 0
 (.loop L80a)))
 (.seq (.region [Mv 64 3,
 Mv 2 64] [])
 .ret))))),
    65, 1, [.t 2], 0⟩
theorem tr80 : trFunc Tryz.prog (hz [(5, [0, 1, 2, 3, 5, 6, 7, 8, 9, 12, 4, 10, 11]), (9, [0, 1, 2, 3, 4, 5, 6, 7, 8, 9, 10, 11, 12, 13, 14, 15, 17, 18, 19, 20, 21, 23, 24, 25, 26, 27, 16, 22, 28, 29, 30, 31, 32])] I80.body) 0 Tryz.f80 = some (plain1 I80) := by kernel_rfl
theorem ck80 : ckC 2 I80.body = true := by kernel_rfl

/-- 'encore/encorelaw20.held'. -/
def L81a : ICode :=
  (.seq (.seq (.region [Mv 36 11,
 Of 37 3 2,
 Ld 38 37,
 It 39 (.bin .lss (.t 36) (.t 38))] [])
 (.cond (.t 39)
 .skip
 (.exit 0)))
 (.seq (.block 1
 (.seq (.seq (.region [Mv 42 0,
 It 43 (.call 82 [(.t 42)]),
 It 44 (.bin .neq (.t 43) (.c i0))] [])
 (.cond (.t 44)
 (.seq (.region [It 4 (.mov (.c (.b false)))] [])
 .ret)
 .skip))
 (.seq (.region [Mv 45 0,
 Mv 46 5,
 It 47 (.lenk 0 (.t 46)),
 Of 48 6 4,
 Ld 49 48,
 It 50 (.lenk 0 (.t 49)),
 It 51 (.call 142 [(.t 45), (.t 47), (.t 50)])] [])
 (.cond (.t 51)
 (.seq (.region [Mv 52 10,
 It 53 (.un .not (.t 52)),
 Mv 4 53] [])
 .ret)
 .skip))))
 (.region [Mv 40 11,
 It 41 (.bin .add (.t 40) (.c (.i .i64 (1)))),
 Mv 11 41] [])))
def I81 : IFunc :=
  ⟨(.seq (.region [It 3 (.box (.t 1)),
 It 4 (.mov (.c (.b false)))] [])
 (.seq (.region [Mv 14 0,
 It 15 (.call 80 [(.t 14)]),
 Mv 5 15] [])
 (.seq (.region [Mv 16 5,
 Mv 17 5,
 It 18 (.lenk 0 (.t 17)),
 It 19 (.bin .sub (.t 18) (.c (.i .i64 (1)))),
 It 20 (.iaddr 5 (.t 16) (.t 19)),
 It 21 (.load (some 5) (.t 20)),
 It 6 (.alloc [i0, i0, .ns, .ns, .ns]),
 ⟨none, (.store 5 (.t 6) (.t 21)), none, []⟩] [])
 (.seq (.region [It 22 (.bsl 5 0 [] []),
 Of 23 6 2,
 Ld 24 23,
 Of 26 6 3,
 Ld 27 26,
 ⟨(some 25), (.app 5 80 (.t 22) (.t 24)), none, [(27, (.load none (.t 26)), none)]⟩,
 It 28 (.app 5 80 (.t 25) (.t 27)),
 Mv 7 28] [])
 (.seq (.region [It 30 (.load (some 16) (.t 3)),
 Mv 31 7,
 It 32 (.call 36 [(.t 30), (.t 31)]),
 Mv 29 32,
 Ex 33 29 0,
 Ex 34 29 1,
 Ex 35 29 2,
 Mv 8 33,
 Mv 9 34,
 Mv 10 35] [])
 (.seq (.seq (.region [It 11 (.mov (.c i0))] [])
 (.block 0
 (.loop L81a)))
 (.seq (.region [Mv 54 0,
 It 55 (.call 80 [(.t 54)]),
 Mv 12 55] [])
 (.seq (.seq (.region [Mv 56 10,
 It 57 (.un .not (.t 56)),
 Mv 58 57,
 Ig 59 58 false (.mov (.t 12)),
 Ig 60 58 false (.mov (.t 5)),
 Ig 61 58 false (.call 143 [(.t 59), (.t 60)]),
 Ig 62 58 false (.un .not (.t 61)),
 It 63 (.pick (.t 58) (.c (.b true)) (.t 62))] [])
 (.cond (.t 63)
 (.seq (.region [It 4 (.mov (.c (.b false)))] [])
 .ret)
 .skip))
 (.seq (.region [Mv 64 12,
 Mv 65 12,
 It 66 (.lenk 0 (.t 65)),
 It 67 (.bin .sub (.t 66) (.c (.i .i64 (1)))),
 It 68 (.iaddr 5 (.t 64) (.t 67)),
 It 69 (.load (some 5) (.t 68)),
 It 13 (.alloc [i0, i0, .ns, .ns, .ns]),
 ⟨none, (.store 5 (.t 13) (.t 69)), none, []⟩] [])
 (.seq (.region [Of 70 13 0,
 Ld 71 70,
 Of 72 6 0,
 Ld 73 72,
 It 74 (.bin .eql (.t 71) (.t 73)),
 Mv 75 74,
 Ig 76 75 true (.off (.t 13) 1),
 Ig 77 75 true (.load none (.t 76)),
 Ig 78 75 true (.mov (.t 9)),
 Ig 79 75 true (.bin .eql (.t 77) (.t 78)),
 It 80 (.pick (.t 75) (.t 79) (.c (.b false))),
 Mv 81 80,
 Ig 82 81 true (.bsl 5 0 [] []),
 Ig 83 81 true (.off (.t 13) 2),
 Ig 84 81 true (.load none (.t 83)),
 Ig 86 81 true (.off (.t 13) 3),
 Ig 87 81 true (.load none (.t 86)),
 Ig 89 81 true (.mov (.t 8)),
 ⟨(some 85), (.app 5 80 (.t 82) (.t 84)), (some (81, true)), [(87, (.load none (.t 86)), (some (81, true)))]⟩,
 Ig 88 81 true (.app 5 80 (.t 85) (.t 87)),
 Ig 90 81 true (.call 72 [(.t 88), (.t 89)]),
 It 91 (.pick (.t 81) (.t 90) (.c (.b false))),
 Mv 92 91,
 Ig 93 92 true (.off (.t 13) 2),
 Ig 94 92 true (.load none (.t 93)),
 Ig 95 92 true (.lenk 0 (.t 94)),
 Ig 96 92 true (.off (.t 6) 2),
 Ig 97 92 true (.load none (.t 96)),
 Ig 98 92 true (.lenk 0 (.t 97)),
 Ig 99 92 true (.bin .eql (.t 95) (.t 98)),
 It 100 (.pick (.t 92) (.t 99) (.c (.b false))),
 Mv 101 100,
 Ig 102 101 true (.mov (.t 0)),
 Ig 103 101 true (.call 79 [(.t 102)]),
 Ig 104 101 true (.bin .eql (.t 103) (.c i0)),
 It 105 (.pick (.t 101) (.t 104) (.c (.b false))),
 Mv 4 105] [])
 .ret)))))))))),
    106, 2, [.t 4], 0⟩
theorem tr81 : trFunc Tryz.prog (hz [(3, [0, 1, 2, 4, 5, 3, 6, 7]), (20, [0, 1, 2, 3, 4, 5, 6, 7, 8, 9, 10, 11, 12, 13, 14, 16, 17, 19, 15, 18, 20, 21, 22, 23, 24, 25, 26, 27, 28, 29, 30, 31, 32, 33, 34, 35, 36])] I81.body) 0 Tryz.f81 = some (plain1 I81) := by kernel_rfl
theorem ck81 : ckC 2 I81.body = true := by kernel_rfl

/-- '(*encore/base.Machine).Step'. -/
def I82 : IFunc :=
  ⟨(.seq (.region [It 2 (.mov (.c i0))] [])
 (.seq (.block 0
 (.seq (.region [Mv 5 0,
 It 6 (.call 139 [(.t 5)]),
 Mv 4 6] [])
 (.cond (.t 4)
 (.seq (.region [It 2 (.mov (.c (.i .i64 (1))))] [])
 .ret)
 (.seq (.region [Mv 8 0,
 It 9 (.nck (.t 8)),
 Of 10 9 5,
 Ld 11 10,
 It 12 (.bin .neq (.t 11) (.c i0)),
 Mv 7 12] [])
 (.cond (.t 7)
 (.seq (.region [It 2 (.mov (.c (.i .i64 (180))))] [])
 .ret)
 .skip)))))
 (.seq (.region [Mv 13 0,
 It 14 (.nck (.t 13)),
 Of 15 14 2,
 Of 16 15 0,
 Ld 17 16,
 Mv 18 0,
 It 19 (.nck (.t 18)),
 Of 20 19 0,
 Ld 21 20,
 It 22 (.nck (.t 21)),
 Of 23 22 0,
 Of 24 23 0,
 Ld 25 24,
 It 26 (.iaddr 4 (.t 17) (.t 25)),
 Of 27 26 3,
 Ld 28 27,
 Mv 29 0,
 It 30 (.nck (.t 29)),
 Of 31 30 0,
 Ld 32 31,
 It 33 (.nck (.t 32)),
 Of 34 33 0,
 Of 35 34 1,
 Ld 36 35,
 It 37 (.iaddr 3 (.t 28) (.t 36)),
 It 38 (.load (some 3) (.t 37)),
 It 3 (.alloc [i0, i0, i0]),
 ⟨none, (.store 3 (.t 3) (.t 38)), none, []⟩] [])
 (.seq (.region [Mv 39 0,
 It 40 (.nck (.t 39)),
 Of 41 40 0,
 Ld 42 41,
 It 43 (.nck (.t 42)),
 Of 44 43 0,
 Of 45 44 1,
 Ld 46 45,
 It 47 (.bin .add (.t 46) (.c (.i .i64 (1)))),
 It 48 (.nck (.t 42)),
 Of 49 48 0,
 Of 50 49 1,
 ⟨none, (.store 1 (.t 50) (.t 47)), none, []⟩] [])
 (.seq (.region [Mv 51 0,
 It 52 (.nck (.t 51)),
 Of 53 52 6,
 Ld 54 53,
 It 55 (.bin .add (.t 54) (.c (.i .i64 (1)))),
 It 56 (.nck (.t 51)),
 Of 57 56 6,
 ⟨none, (.store 1 (.t 57) (.t 55)), none, []⟩] [])
 (.seq (.region [Mv 58 0,
 Of 59 3 0,
 Ld 60 59,
 It 62 (.load (some 3) (.t 3)),
 ⟨(some 61), (.call 144 [(.t 58), (.t 60)]), none, [(62, (.load (some 3) (.t 3)), none)]⟩,
 It 63 (.callv (.t 61) [(.t 62)])] [])
 (.seq (.region [It 2 (.mov (.c i0))] [])
 .ret))))))),
    64, 1, [.t 2], 0⟩
theorem tr82 : trFunc Tryz.prog (hz [(6, [0, 1, 2, 3, 4, 5, 6, 7, 8, 9, 10, 11, 12, 13, 14, 15, 16, 17, 18, 19, 20, 21, 22, 23, 24, 25, 26, 27]), (9, [0, 1, 2, 4, 3, 5])] I82.body) 0 Tryz.f82 = some (plain1 I82) := by kernel_rfl
theorem ck82 : ckC 2 I82.body = true := by kernel_rfl

/-- 'encore/lift.record'. -/
def I83 : IFunc :=
  ⟨(.seq (.region [It 2 (.mov (.c (.b false)))] [])
 (.seq (.region [Mv 3 0,
 It 4 (.lenk 0 (.t 3)),
 It 5 (.bin .leq (.t 4) (.c (.i .i64 (8)))),
 Mv 6 5,
 Ig 7 6 true (.mov (.t 0)),
 Ig 8 6 true (.mov (.t 0)),
 Ig 9 6 true (.lenk 0 (.t 8)),
 Ig 10 6 true (.mksl 5 80 [i0, i0, (.s []), .ns, .ns] (.t 9) (.t 9)),
 Ig 11 6 true (.build [i0, i0, (.s []), .ns, .ns] [(0, 1, (.c (.i .i64 (5)))), (4, 1, (.t 7)), (3, 1, (.t 10))]),
 Ig 12 6 true (.call 45 [(.t 11)]),
 It 13 (.pick (.t 6) (.t 12) (.c (.b false))),
 Mv 2 13] [])
 .ret)),
    14, 1, [.t 2], 0⟩
theorem tr83 : trFunc Tryz.prog (hz [] I83.body) 0 Tryz.f83 = some (plain1 I83) := by kernel_rfl
theorem ck83 : ckC 2 I83.body = true := by kernel_rfl

/-- 'encore/value.Fits'. -/
def I84 : IFunc :=
  ⟨(.seq (.region [It 2 (.mov (.c (.b false)))] [])
 (.seq (.region [Mv 6 0,
 It 7 (.call 145 [(.t 6)]),
 Mv 5 7,
 Ex 8 5 0,
 Ex 9 5 1,
 It 3 (.alloc [i0, .ns, .ns]),
 ⟨none, (.store 3 (.t 3) (.t 8)), none, []⟩,
 Mv 4 9] [])
 (.seq (.region [Mv 10 4,
 Mv 2 10] [])
 .ret))),
    11, 1, [.t 2], 0⟩
theorem tr84 : trFunc Tryz.prog (hz [] I84.body) 0 Tryz.f84 = some (plain1 I84) := by kernel_rfl
theorem ck84 : ckC 2 I84.body = true := by kernel_rfl

/-- 'slices.IndexFunc[[]encore/api.Value,encore/api.Value]'. -/
def L85a : ICode :=
  (.seq (.region [It 9 (.bin .lss (.t 8) (.t 7))] [])
 (.seq (.cond (.t 9)
 .skip
 (.exit 0))
 (.seq (.block 1
 (.seq (.region [Mv 10 8,
 Mv 5 10] [])
 (.seq (.region [Mv 11 1,
 Mv 12 0,
 Mv 13 5,
 It 14 (.iaddr 5 (.t 12) (.t 13)),
 It 15 (.load (some 5) (.t 14)),
 It 16 (.callv (.t 11) [(.t 15)])] [])
 (.cond (.t 16)
 (.seq (.region [Mv 17 5,
 Mv 4 17] [])
 .ret)
 .skip))))
 (.region [It 18 (.bin .add (.t 8) (.c (.i .i64 (1)))),
 Mv 8 18] []))))
def I85 : IFunc :=
  ⟨(.seq (.region [It 4 (.mov (.c i0))] [])
 (.seq (.seq (.region [Mv 6 0,
 It 7 (.lenk 0 (.t 6)),
 It 8 (.mov (.c i0))] [])
 (.block 0
 (.loop L85a)))
 (.seq (.region [It 4 (.mov (.c (.i .i64 (-1))))] [])
 .ret))),
    19, 2, [.t 4], 0⟩
theorem tr85 : trFunc Tryz.prog (hz [] I85.body) 0 Tryz.f85 = some (plain1 I85) := by kernel_rfl
theorem ck85 : ckC 2 I85.body = true := by kernel_rfl

/-- 'encore/value.Check'. -/
def I86 : IFunc :=
  ⟨(.seq (.region [It 1 (.box (.t 0)),
 It 2 (.mov (.c i0))] [])
 (.seq (.seq (.region [It 6 (.load (some 5) (.t 1)),
 It 7 (.call 146 [(.t 6), (.c i0), (.c (.i .i64 (256)))]),
 Mv 5 7,
 Ex 8 5 0,
 Ex 9 5 1,
 Mv 3 8,
 Mv 4 9] [])
 (.seq (.region [Mv 10 4,
 It 11 (.un .not (.t 10))] [])
 (.cond (.t 11)
 (.seq (.region [It 2 (.mov (.c (.i .i64 (2))))] [])
 .ret)
 .skip)))
 (.seq (.region [It 2 (.mov (.c i0))] [])
 .ret))),
    12, 1, [.t 2], 2⟩
theorem tr86 : trFunc Tryz.prog (hz [] I86.body) 1 Tryz.f86 = some (plain1 I86) := by kernel_rfl
theorem ck86 : ckC 2 I86.body = true := by kernel_rfl

/-- 'encore/lift.makers$1'. -/
def I87 : IFunc :=
  ⟨(.seq (.region [It 1 (.alloc [i0, i0, (.s []), .ns, .ns]),
 It 2 (.mov (.c (.b false)))] [])
 (.seq (.region [Ld 3 0,
 It 4 (.call 88 [(.t 3)]),
 Ex 5 4 0,
 Ex 6 4 1,
 Ex 7 4 2,
 It 8 (.call 47 [(.t 5), (.t 6), (.t 7)]),
 Ex 9 8 0,
 Ex 10 8 1,
 ⟨none, (.store 5 (.t 1) (.t 9)), none, []⟩,
 Mv 2 10] [])
 .ret)),
    11, 1, [.c 1 (some 5), .t 2], 0⟩
theorem tr87 : trFunc Tryz.prog (hz [] I87.body) 0 Tryz.f87 = some (plain1 I87) := by kernel_rfl
theorem ck87 : ckC 2 I87.body = true := by kernel_rfl

/-- 'encore/arith.List'. -/
def I88 : IFunc :=
  ⟨(.seq (.region [It 2 (.alloc [i0, i0, (.s []), .ns, .ns]),
 It 3 (.mov (.c i0)),
 It 4 (.mov (.c i0))] [])
 (.seq (.seq (.region [Mv 5 0,
 It 6 (.call 106 [(.t 5)]),
 It 7 (.un .not (.t 6))] [])
 (.cond (.t 7)
 (.seq (.region [It 8 (.build [i0, i0, (.s []), .ns, .ns] []),
 ⟨none, (.store 5 (.t 2) (.t 8)), none, []⟩,
 It 3 (.mov (.c i0)),
 It 4 (.mov (.c (.i .i64 (2))))] [])
 .ret)
 .skip))
 (.seq (.region [Mv 10 0,
 It 11 (.build [i0, i0, (.s []), .ns, .ns] [(0, 1, (.c (.i .i64 (4)))), (3, 1, (.t 10))]),
 It 12 (.call 147 [(.t 11)]),
 Mv 9 12,
 Ex 13 9 0,
 Ex 14 9 1,
 ⟨none, (.store 5 (.t 2) (.t 13)), none, []⟩,
 Mv 3 14] [])
 (.seq (.region [It 15 (.load (some 5) (.t 2)),
 Mv 16 3,
 ⟨none, (.store 5 (.t 2) (.t 15)), none, []⟩,
 Mv 3 16,
 It 4 (.mov (.c i0))] [])
 .ret)))),
    17, 1, [.c 2 (some 5), .t 3, .t 4], 0⟩
theorem tr88 : trFunc Tryz.prog (hz [] I88.body) 0 Tryz.f88 = some (plain1 I88) := by kernel_rfl
theorem ck88 : ckC 2 I88.body = true := by kernel_rfl

/-- 'encore/lift.makers$2'. -/
def I89 : IFunc :=
  ⟨(.seq (.region [It 2 (.alloc [i0, i0, (.s []), .ns, .ns]),
 It 3 (.mov (.c (.b false)))] [])
 (.seq (.region [Of 4 0 4,
 Ld 5 4,
 Ld 6 1,
 It 7 (.call 90 [(.t 5), (.t 6)]),
 Ex 8 7 0,
 Ex 9 7 1,
 Ex 10 7 2,
 It 11 (.call 47 [(.t 8), (.t 9), (.t 10)]),
 Ex 12 11 0,
 Ex 13 11 1,
 ⟨none, (.store 5 (.t 2) (.t 12)), none, []⟩,
 Mv 3 13] [])
 .ret)),
    14, 2, [.c 2 (some 5), .t 3], 0⟩
theorem tr89 : trFunc Tryz.prog (hz [] I89.body) 0 Tryz.f89 = some (plain1 I89) := by kernel_rfl
theorem ck89 : ckC 2 I89.body = true := by kernel_rfl

/-- 'encore/arith.Rec'. -/
def I90 : IFunc :=
  ⟨(.seq (.region [It 4 (.alloc [i0, i0, (.s []), .ns, .ns]),
 It 5 (.mov (.c i0)),
 It 6 (.mov (.c i0))] [])
 (.seq (.seq (.region [Mv 7 0,
 It 8 (.call 148 [(.t 7)]),
 It 9 (.un .not (.t 8)),
 Mv 10 9,
 Ig 11 10 false (.mov (.t 1)),
 Ig 12 10 false (.lenk 0 (.t 11)),
 Ig 13 10 false (.mov (.t 0)),
 Ig 14 10 false (.lenk 0 (.t 13)),
 Ig 15 10 false (.bin .neq (.t 12) (.t 14)),
 It 16 (.pick (.t 10) (.c (.b true)) (.t 15)),
 Mv 17 16,
 Ig 18 17 false (.mov (.t 1)),
 Ig 19 17 false (.call 106 [(.t 18)]),
 Ig 20 17 false (.un .not (.t 19)),
 It 21 (.pick (.t 17) (.c (.b true)) (.t 20))] [])
 (.cond (.t 21)
 (.seq (.region [It 22 (.build [i0, i0, (.s []), .ns, .ns] []),
 ⟨none, (.store 5 (.t 4) (.t 22)), none, []⟩,
 It 5 (.mov (.c i0)),
 It 6 (.mov (.c (.i .i64 (2))))] [])
 .ret)
 .skip))
 (.seq (.region [Mv 24 0,
 Mv 25 1,
 It 26 (.build [i0, i0, (.s []), .ns, .ns] [(0, 1, (.c (.i .i64 (5)))), (4, 1, (.t 24)), (3, 1, (.t 25))]),
 It 27 (.call 147 [(.t 26)]),
 Mv 23 27,
 Ex 28 23 0,
 Ex 29 23 1,
 ⟨none, (.store 5 (.t 4) (.t 28)), none, []⟩,
 Mv 5 29] [])
 (.seq (.region [It 30 (.load (some 5) (.t 4)),
 Mv 31 5,
 ⟨none, (.store 5 (.t 4) (.t 30)), none, []⟩,
 Mv 5 31,
 It 6 (.mov (.c i0))] [])
 .ret)))),
    32, 2, [.c 4 (some 5), .t 5, .t 6], 0⟩
theorem tr90 : trFunc Tryz.prog (hz [] I90.body) 0 Tryz.f90 = some (plain1 I90) := by kernel_rfl
theorem ck90 : ckC 2 I90.body = true := by kernel_rfl

/-- 'encore/lift.makers$3'. -/
def I91 : IFunc :=
  ⟨(.seq (.region [It 2 (.alloc [i0, i0, (.s []), .ns, .ns]),
 It 3 (.mov (.c (.b false)))] [])
 (.seq (.region [Ld 4 0,
 It 5 (.iaddr 5 (.t 4) (.c i0)),
 It 6 (.load (some 5) (.t 5)),
 Of 7 1 3,
 Ld 8 7,
 It 9 (.call 92 [(.t 6), (.t 8)]),
 Ex 10 9 0,
 Ex 11 9 1,
 Ex 12 9 2,
 It 13 (.call 47 [(.t 10), (.t 11), (.t 12)]),
 Ex 14 13 0,
 Ex 15 13 1,
 ⟨none, (.store 5 (.t 2) (.t 14)), none, []⟩,
 Mv 3 15] [])
 .ret)),
    16, 2, [.c 2 (some 5), .t 3], 0⟩
theorem tr91 : trFunc Tryz.prog (hz [(1, [0, 1, 2, 3, 4, 5, 6, 7, 8, 9, 10, 11, 12, 13])] I91.body) 0 Tryz.f91 = some (plain1 I91) := by kernel_rfl
theorem ck91 : ckC 2 I91.body = true := by kernel_rfl

/-- 'encore/arith.Field'. -/
def I92 : IFunc :=
  ⟨(.seq (.region [It 2 (.box (.t 0)),
 It 4 (.alloc [i0, i0, (.s []), .ns, .ns]),
 It 5 (.mov (.c i0)),
 It 6 (.mov (.c i0))] [])
 (.seq (.seq (.region [It 9 (.load (some 5) (.t 2)),
 It 10 (.bsl 5 1 [i0, i0, (.s []), .ns, .ns] [(0, 5, (.t 9))]),
 It 11 (.call 106 [(.t 10)]),
 It 12 (.un .not (.t 11)),
 Mv 13 12,
 Ig 14 13 false (.mov (.t 1)),
 Ig 15 13 false (.bsl 1 1 [(.s [])] [(0, 1, (.t 14))]),
 Ig 16 13 false (.call 148 [(.t 15)]),
 Ig 17 13 false (.un .not (.t 16)),
 It 18 (.pick (.t 13) (.c (.b true)) (.t 17))] [])
 (.cond (.t 18)
 (.seq (.region [It 19 (.build [i0, i0, (.s []), .ns, .ns] []),
 ⟨none, (.store 5 (.t 4) (.t 19)), none, []⟩,
 It 5 (.mov (.c i0)),
 It 6 (.mov (.c (.i .i64 (2))))] [])
 .ret)
 .skip))
 (.seq (.seq (.region [Of 20 2 0,
 Ld 21 20,
 It 22 (.bin .neq (.t 21) (.c (.i .i64 (5))))] [])
 (.cond (.t 22)
 (.seq (.region [It 23 (.build [i0, i0, (.s []), .ns, .ns] []),
 ⟨none, (.store 5 (.t 4) (.t 23)), none, []⟩,
 It 5 (.mov (.c (.i .i64 (2)))),
 It 6 (.mov (.c i0))] [])
 .ret)
 .skip))
 (.seq (.region [Of 25 2 4,
 Ld 26 25,
 Mv 27 1,
 It 28 (.call 149 [(.t 26), (.t 27)]),
 Mv 24 28,
 Ex 29 24 0,
 Ex 30 24 1,
 Mv 7 29,
 Mv 8 30] [])
 (.seq (.seq (.region [Mv 31 8,
 It 32 (.un .not (.t 31))] [])
 (.cond (.t 32)
 (.seq (.region [It 33 (.build [i0, i0, (.s []), .ns, .ns] []),
 ⟨none, (.store 5 (.t 4) (.t 33)), none, []⟩,
 It 5 (.mov (.c (.i .i64 (6)))),
 It 6 (.mov (.c i0))] [])
 .ret)
 .skip))
 (.seq (.region [Of 34 2 3,
 Ld 35 34,
 Mv 36 7,
 It 37 (.iaddr 5 (.t 35) (.t 36)),
 It 38 (.load (some 5) (.t 37)),
 It 39 (.call 111 [(.t 38)]),
 ⟨none, (.store 5 (.t 4) (.t 39)), none, []⟩,
 It 5 (.mov (.c i0)),
 It 6 (.mov (.c i0))] [])
 .ret)))))),
    40, 2, [.c 4 (some 5), .t 5, .t 6], 0⟩
theorem tr92 : trFunc Tryz.prog (hz [] I92.body) 0 Tryz.f92 = some (plain1 I92) := by kernel_rfl
theorem ck92 : ckC 2 I92.body = true := by kernel_rfl

/-- 'encore/lift.makers$4'. -/
def I93 : IFunc :=
  ⟨(.seq (.region [It 2 (.alloc [i0, i0, (.s []), .ns, .ns]),
 It 3 (.mov (.c (.b false)))] [])
 (.seq (.region [Ld 4 0,
 It 5 (.iaddr 5 (.t 4) (.c i0)),
 It 6 (.load (some 5) (.t 5)),
 Ld 7 0,
 It 8 (.iaddr 5 (.t 7) (.c i0)),
 It 9 (.load (some 5) (.t 8)),
 Of 10 1 3,
 Ld 11 10,
 ⟨(some 12), (.call 94 [(.t 9), (.t 11)]), none, [(4, (.load none (.t 0)), none), (6, (.load (some 5) (.t 5)), none)]⟩,
 ⟨none, (.store 5 (.t 2) (.t 6)), none, []⟩,
 Mv 3 12] [])
 .ret)),
    13, 2, [.c 2 (some 5), .t 3], 0⟩
theorem tr93 : trFunc Tryz.prog (hz [(1, [0, 1, 2, 3, 4, 5, 6, 7, 8, 9, 10])] I93.body) 0 Tryz.f93 = some (plain1 I93) := by kernel_rfl
theorem ck93 : ckC 2 I93.body = true := by kernel_rfl

/-- 'encore/value.Is'. -/
def I94 : IFunc :=
  ⟨(.seq (.region [It 2 (.box (.t 0)),
 It 4 (.mov (.c (.b false)))] [])
 (.seq (.region [Mv 8 1,
 It 9 (.call 145 [(.t 8)]),
 Mv 7 9,
 Ex 10 7 0,
 Ex 11 7 1,
 It 5 (.alloc [i0, .ns, .ns]),
 ⟨none, (.store 3 (.t 5) (.t 10)), none, []⟩,
 Mv 6 11] [])
 (.seq (.region [Mv 12 6,
 Mv 13 12,
 Ig 14 13 true (.load (some 5) (.t 2)),
 Ig 15 13 true (.call 86 [(.t 14)]),
 Ig 16 13 true (.bin .eql (.t 15) (.c i0)),
 It 17 (.pick (.t 13) (.t 16) (.c (.b false))),
 Mv 18 17,
 Ig 19 18 true (.load (some 3) (.t 5)),
 Ig 20 18 true (.load (some 5) (.t 2)),
 Ig 21 18 true (.call 150 [(.t 19), (.t 20)]),
 It 22 (.pick (.t 18) (.t 21) (.c (.b false))),
 Mv 4 22] [])
 .ret))),
    23, 2, [.t 4], 0⟩
theorem tr94 : trFunc Tryz.prog (hz [] I94.body) 0 Tryz.f94 = some (plain1 I94) := by kernel_rfl
theorem ck94 : ckC 2 I94.body = true := by kernel_rfl

/-- 'encore/lift.makers$5'. -/
def I95 : IFunc :=
  ⟨(.seq (.region [It 2 (.alloc [i0, i0, (.s []), .ns, .ns]),
 It 3 (.mov (.c (.b false)))] [])
 (.seq (.region [Ld 4 0,
 It 5 (.iaddr 5 (.t 4) (.c i0)),
 It 6 (.load (some 5) (.t 5)),
 Ld 7 0,
 It 8 (.iaddr 5 (.t 7) (.c i0)),
 Of 9 8 0,
 Ld 10 9,
 Of 11 1 1,
 Ld 12 11,
 It 13 (.bin .eql (.t 10) (.t 12)),
 ⟨none, (.store 5 (.t 2) (.t 6)), none, [(7, (.load none (.t 0)), none), (10, (.load none (.t 9)), none), (12, (.load none (.t 11)), none)]⟩,
 Mv 3 13] [])
 .ret)),
    14, 2, [.c 2 (some 5), .t 3], 0⟩
theorem tr95 : trFunc Tryz.prog (hz [(1, [0, 1, 2, 3, 4, 5, 6, 7, 8, 9, 10, 11])] I95.body) 0 Tryz.f95 = some (plain1 I95) := by kernel_rfl
theorem ck95 : ckC 2 I95.body = true := by kernel_rfl

/-- 'encore/lift.makers$6'. -/
def I96 : IFunc :=
  ⟨(.seq (.region [It 1 (.alloc [i0, i0, (.s []), .ns, .ns]),
 It 2 (.mov (.c (.b false)))] [])
 (.seq (.region [Ld 3 0,
 It 4 (.iaddr 5 (.t 3) (.c i0)),
 It 5 (.load (some 5) (.t 4)),
 It 6 (.call 49 [(.c (.i .i64 (6))), (.t 5)]),
 Ex 7 6 0,
 Ex 8 6 1,
 Ex 9 6 2,
 It 10 (.call 47 [(.t 7), (.t 8), (.t 9)]),
 Ex 11 10 0,
 Ex 12 10 1,
 ⟨none, (.store 5 (.t 1) (.t 11)), none, []⟩,
 Mv 2 12] [])
 .ret)),
    13, 1, [.c 1 (some 5), .t 2], 0⟩
theorem tr96 : trFunc Tryz.prog (hz [] I96.body) 0 Tryz.f96 = some (plain1 I96) := by kernel_rfl
theorem ck96 : ckC 2 I96.body = true := by kernel_rfl

/-- 'encore/lift.makers$7'. -/
def I97 : IFunc :=
  ⟨(.seq (.region [It 1 (.alloc [i0, i0, (.s []), .ns, .ns]),
 It 2 (.mov (.c (.b false)))] [])
 (.seq (.region [Ld 3 0,
 It 4 (.iaddr 5 (.t 3) (.c i0)),
 It 5 (.load (some 5) (.t 4)),
 It 6 (.call 49 [(.c (.i .i64 (7))), (.t 5)]),
 Ex 7 6 0,
 Ex 8 6 1,
 Ex 9 6 2,
 It 10 (.call 47 [(.t 7), (.t 8), (.t 9)]),
 Ex 11 10 0,
 Ex 12 10 1,
 ⟨none, (.store 5 (.t 1) (.t 11)), none, []⟩,
 Mv 2 12] [])
 .ret)),
    13, 1, [.c 1 (some 5), .t 2], 0⟩
theorem tr97 : trFunc Tryz.prog (hz [] I97.body) 0 Tryz.f97 = some (plain1 I97) := by kernel_rfl
theorem ck97 : ckC 2 I97.body = true := by kernel_rfl

/-- 'encore/lift.makers$8'. -/
def I98 : IFunc :=
  ⟨(.seq (.region [It 1 (.alloc [i0, i0, (.s []), .ns, .ns]),
 It 2 (.mov (.c (.b false)))] [])
 (.seq (.region [Ld 3 0,
 It 4 (.call 99 [(.c (.i .i64 (9))), (.t 3)]),
 Ex 5 4 0,
 Ex 6 4 1,
 ⟨none, (.store 5 (.t 1) (.t 5)), none, []⟩,
 Mv 2 6] [])
 .ret)),
    7, 1, [.c 1 (some 5), .t 2], 0⟩
theorem tr98 : trFunc Tryz.prog (hz [] I98.body) 0 Tryz.f98 = some (plain1 I98) := by kernel_rfl
theorem ck98 : ckC 2 I98.body = true := by kernel_rfl

/-- 'encore/lift.ints'. -/
def I99 : IFunc :=
  ⟨(.seq (.region [It 4 (.alloc [i0, i0, (.s []), .ns, .ns]),
 It 5 (.mov (.c (.b false)))] [])
 (.seq (.seq (.region [Mv 6 1,
 It 7 (.call 43 [(.t 6), (.f 151)])] [])
 (.cond (.t 7)
 (.seq (.region [It 8 (.build [i0, i0, (.s []), .ns, .ns] []),
 ⟨none, (.store 5 (.t 4) (.t 8)), none, []⟩,
 It 5 (.mov (.c (.b false)))] [])
 .ret)
 .skip))
 (.seq (.region [Mv 9 0,
 Mv 10 1,
 It 11 (.iaddr 5 (.t 10) (.c i0)),
 It 12 (.load (some 5) (.t 11)),
 Mv 13 1,
 It 14 (.iaddr 5 (.t 13) (.c (.i .i64 (1)))),
 It 15 (.load (some 5) (.t 14)),
 It 16 (.call 48 [(.t 9), (.t 12), (.t 15)]),
 Ex 17 16 0,
 Ex 18 16 1,
 Ex 19 16 2,
 It 20 (.call 47 [(.t 17), (.t 18), (.t 19)]),
 Ex 21 20 0,
 Ex 22 20 1,
 ⟨none, (.store 5 (.t 4) (.t 21)), none, []⟩,
 Mv 5 22] [])
 .ret))),
    23, 2, [.c 4 (some 5), .t 5], 0⟩
theorem tr99 : trFunc Tryz.prog (hz [(4, [0, 1, 2, 3, 4, 5, 6, 7, 8, 9, 10, 11, 12, 13, 14, 15])] I99.body) 0 Tryz.f99 = some (plain1 I99) := by kernel_rfl
theorem ck99 : ckC 2 I99.body = true := by kernel_rfl

/-- 'encore/lift.makers$9'. -/
def I100 : IFunc :=
  ⟨(.seq (.region [It 1 (.alloc [i0, i0, (.s []), .ns, .ns]),
 It 2 (.mov (.c (.b false)))] [])
 (.seq (.region [Ld 3 0,
 It 4 (.call 99 [(.c (.i .i64 (10))), (.t 3)]),
 Ex 5 4 0,
 Ex 6 4 1,
 ⟨none, (.store 5 (.t 1) (.t 5)), none, []⟩,
 Mv 2 6] [])
 .ret)),
    7, 1, [.c 1 (some 5), .t 2], 0⟩
theorem tr100 : trFunc Tryz.prog (hz [] I100.body) 0 Tryz.f100 = some (plain1 I100) := by kernel_rfl
theorem ck100 : ckC 2 I100.body = true := by kernel_rfl

/-- 'encore/lift.makers$10'. -/
def I101 : IFunc :=
  ⟨(.seq (.region [It 1 (.alloc [i0, i0, (.s []), .ns, .ns]),
 It 2 (.mov (.c (.b false)))] [])
 (.seq (.region [Ld 3 0,
 It 4 (.call 99 [(.c (.i .i64 (11))), (.t 3)]),
 Ex 5 4 0,
 Ex 6 4 1,
 ⟨none, (.store 5 (.t 1) (.t 5)), none, []⟩,
 Mv 2 6] [])
 .ret)),
    7, 1, [.c 1 (some 5), .t 2], 0⟩
theorem tr101 : trFunc Tryz.prog (hz [] I101.body) 0 Tryz.f101 = some (plain1 I101) := by kernel_rfl
theorem ck101 : ckC 2 I101.body = true := by kernel_rfl

/-- 'encore/lift.makers$11'. -/
def I102 : IFunc :=
  ⟨(.seq (.region [It 1 (.alloc [i0, i0, (.s []), .ns, .ns]),
 It 2 (.mov (.c (.b false)))] [])
 (.seq (.region [Ld 3 0,
 It 4 (.call 99 [(.c (.i .i64 (16))), (.t 3)]),
 Ex 5 4 0,
 Ex 6 4 1,
 ⟨none, (.store 5 (.t 1) (.t 5)), none, []⟩,
 Mv 2 6] [])
 .ret)),
    7, 1, [.c 1 (some 5), .t 2], 0⟩
theorem tr102 : trFunc Tryz.prog (hz [] I102.body) 0 Tryz.f102 = some (plain1 I102) := by kernel_rfl
theorem ck102 : ckC 2 I102.body = true := by kernel_rfl

/-- 'encore/lift.makers$12'. -/
def I103 : IFunc :=
  ⟨(.seq (.region [It 1 (.alloc [i0, i0, (.s []), .ns, .ns]),
 It 2 (.mov (.c (.b false)))] [])
 (.seq (.region [Ld 3 0,
 It 4 (.call 99 [(.c (.i .i64 (17))), (.t 3)]),
 Ex 5 4 0,
 Ex 6 4 1,
 ⟨none, (.store 5 (.t 1) (.t 5)), none, []⟩,
 Mv 2 6] [])
 .ret)),
    7, 1, [.c 1 (some 5), .t 2], 0⟩
theorem tr103 : trFunc Tryz.prog (hz [] I103.body) 0 Tryz.f103 = some (plain1 I103) := by kernel_rfl
theorem ck103 : ckC 2 I103.body = true := by kernel_rfl

/-- 'encore/lift.makers$13'. -/
def I104 : IFunc :=
  ⟨(.seq (.region [It 2 (.alloc [i0, i0, (.s []), .ns, .ns]),
 It 3 (.mov (.c (.b false)))] [])
 (.seq (.region [Ld 4 0,
 It 5 (.iaddr 5 (.t 4) (.c i0)),
 It 6 (.load (some 5) (.t 5)),
 It 7 (.load (some 5) (.t 1)),
 It 8 (.bsl 5 2 [i0, i0, (.s []), .ns, .ns, i0, i0, (.s []), .ns, .ns] [(0, 5, (.t 6)), (5, 5, (.t 7))]),
 It 9 (.call 99 [(.c (.i .i64 (9))), (.t 8)]),
 Ex 10 9 0,
 Ex 11 9 1,
 ⟨none, (.store 5 (.t 2) (.t 10)), none, []⟩,
 Mv 3 11] [])
 .ret)),
    12, 2, [.c 2 (some 5), .t 3], 0⟩
theorem tr104 : trFunc Tryz.prog (hz [(1, [0, 1, 2, 3, 4, 5, 6, 7, 8, 9])] I104.body) 0 Tryz.f104 = some (plain1 I104) := by kernel_rfl
theorem ck104 : ckC 2 I104.body = true := by kernel_rfl

/-- 'encore/lift.makers$14'. -/
def I105 : IFunc :=
  ⟨(.seq (.region [It 2 (.alloc [i0, i0, (.s []), .ns, .ns]),
 It 3 (.mov (.c (.b false)))] [])
 (.seq (.region [Ld 4 0,
 It 5 (.iaddr 5 (.t 4) (.c i0)),
 It 6 (.load (some 5) (.t 5)),
 It 7 (.load (some 5) (.t 1)),
 It 8 (.bsl 5 2 [i0, i0, (.s []), .ns, .ns, i0, i0, (.s []), .ns, .ns] [(0, 5, (.t 6)), (5, 5, (.t 7))]),
 It 9 (.call 99 [(.c (.i .i64 (16))), (.t 8)]),
 Ex 10 9 0,
 Ex 11 9 1,
 ⟨none, (.store 5 (.t 2) (.t 10)), none, []⟩,
 Mv 3 11] [])
 .ret)),
    12, 2, [.c 2 (some 5), .t 3], 0⟩
theorem tr105 : trFunc Tryz.prog (hz [(1, [0, 1, 2, 3, 4, 5, 6, 7, 8, 9])] I105.body) 0 Tryz.f105 = some (plain1 I105) := by kernel_rfl
theorem ck105 : ckC 2 I105.body = true := by kernel_rfl

/-- 'encore/arith.may'. -/
def I106 : IFunc :=
  ⟨(.seq (.region [It 2 (.mov (.c (.b false)))] [])
 (.seq (.region [Mv 3 0,
 It 4 (.call 43 [(.t 3), (.f 152)]),
 It 5 (.un .not (.t 4)),
 Mv 2 5] [])
 .ret)),
    6, 1, [.t 2], 0⟩
theorem tr106 : trFunc Tryz.prog (hz [] I106.body) 0 Tryz.f106 = some (plain1 I106) := by kernel_rfl
theorem ck106 : ckC 2 I106.body = true := by kernel_rfl

/-- 'encore/arith.yes'. -/
def I107 : IFunc :=
  ⟨(.seq (.region [It 2 (.alloc [i0, i0, (.s []), .ns, .ns])] [])
 (.seq (.region [It 4 (.build [i0, i0, (.s []), .ns, .ns] [(0, 1, (.c (.i .i64 (2))))]),
 It 3 (.alloc [i0, i0, (.s []), .ns, .ns]),
 ⟨none, (.store 5 (.t 3) (.t 4)), none, []⟩] [])
 (.seq (.seq (.region [Mv 5 0] [])
 (.cond (.t 5)
 (.region [Of 6 3 1,
 ⟨none, (.store 1 (.t 6) (.c (.i .i64 (1)))), none, []⟩] [])
 .skip))
 (.seq (.region [It 7 (.load (some 5) (.t 3)),
 ⟨none, (.store 5 (.t 2) (.t 7)), none, []⟩] [])
 .ret)))),
    8, 1, [.c 2 (some 5)], 0⟩
theorem tr107 : trFunc Tryz.prog (hz [] I107.body) 0 Tryz.f107 = some (plain1 I107) := by kernel_rfl
theorem ck107 : ckC 2 I107.body = true := by kernel_rfl

/-- 'encore/arith.ints'. -/
def I108 : IFunc :=
  ⟨(.seq (.region [It 6 (.alloc [i0, i0, (.s []), .ns, .ns]),
 It 7 (.mov (.c i0))] [])
 (.seq (.seq (.region [Mv 8 0] [])
 (.block 0
 (.seq (.block 6
 (.seq (.block 5
 (.seq (.block 4
 (.seq (.block 3
 (.seq (.block 2
 (.seq (.block 1
 (.seq (.seq (.seq (.region [It 10 (.bin .eql (.t 8) (.c (.i .i64 (9)))),
 Mv 9 10] [])
 (.cond (.t 9)
 (.exit 1)
 .skip))
 (.seq (.seq (.region [It 12 (.bin .eql (.t 8) (.c (.i .i64 (10)))),
 Mv 11 12] [])
 (.cond (.t 11)
 (.exit 2)
 .skip))
 (.seq (.seq (.region [It 14 (.bin .eql (.t 8) (.c (.i .i64 (11)))),
 Mv 13 14] [])
 (.cond (.t 13)
 (.exit 3)
 .skip))
 (.seq (.seq (.region [It 16 (.bin .eql (.t 8) (.c (.i .i64 (17)))),
 Mv 15 16] [])
 (.cond (.t 15)
 (.exit 4)
 .skip))
 (.seq (.seq (.region [It 18 (.bin .eql (.t 8) (.c (.i .i64 (16)))),
 Mv 17 18] [])
 (.cond (.t 17)
 (.exit 5)
 .skip))
 (.seq (.seq (.region [It 20 (.bin .eql (.t 8) (.c (.i .i64 (12)))),
 Mv 19 20] [])
 (.cond (.t 19)
 .skip
 (.region [It 21 (.bin .eql (.t 8) (.c (.i .i64 (13)))),
 Mv 19 21] [])))
 (.cond (.t 19)
 (.exit 6)
 .skip)))))))
 (.exit 0)))
 (.seq (.seq (.region [Mv 22 1,
 Mv 23 2,
 It 24 (.bin .add (.t 22) (.t 23)),
 It 25 (.call 112 [(.t 24)]),
 ⟨none, (.store 5 (.t 6) (.t 25)), none, []⟩,
 It 7 (.mov (.c i0))] [])
 .ret)
 (.exit 0))))
 (.seq (.seq (.region [Mv 26 1,
 Mv 27 2,
 It 28 (.bin .sub (.t 26) (.t 27)),
 It 29 (.call 112 [(.t 28)]),
 ⟨none, (.store 5 (.t 6) (.t 29)), none, []⟩,
 It 7 (.mov (.c i0))] [])
 .ret)
 (.exit 0))))
 (.seq (.seq (.region [Mv 30 1,
 Mv 31 2,
 It 32 (.bin .mul (.t 30) (.t 31)),
 It 33 (.call 112 [(.t 32)]),
 ⟨none, (.store 5 (.t 6) (.t 33)), none, []⟩,
 It 7 (.mov (.c i0))] [])
 .ret)
 (.exit 0))))
 (.seq (.region [Mv 34 1,
 Mv 35 2,
 It 36 (.bin .eql (.t 34) (.t 35))] [])
 (.cond (.t 36)
 (.seq (.region [It 37 (.call 107 [(.c (.b true))]),
 ⟨none, (.store 5 (.t 6) (.t 37)), none, []⟩,
 It 7 (.mov (.c i0))] [])
 .ret)
 .skip))))
 (.seq (.seq (.region [Mv 38 1,
 Mv 39 2,
 It 40 (.bin .lss (.t 38) (.t 39)),
 It 41 (.call 107 [(.t 40)]),
 ⟨none, (.store 5 (.t 6) (.t 41)), none, []⟩,
 It 7 (.mov (.c i0))] [])
 .ret)
 (.exit 0))))
 (.seq (.seq (.seq (.region [Mv 42 2,
 It 43 (.bin .eql (.t 42) (.c i0))] [])
 (.cond (.t 43)
 (.seq (.region [It 44 (.build [i0, i0, (.s []), .ns, .ns] []),
 ⟨none, (.store 5 (.t 6) (.t 44)), none, []⟩,
 It 7 (.mov (.c (.i .i64 (1))))] [])
 .ret)
 .skip))
 (.seq (.seq (.region [Mv 45 0,
 It 46 (.bin .eql (.t 45) (.c (.i .i64 (12))))] [])
 (.cond (.t 46)
 (.seq (.region [Mv 47 1,
 Mv 48 2,
 It 49 (.bin .quo (.t 47) (.t 48)),
 It 50 (.call 112 [(.t 49)]),
 ⟨none, (.store 5 (.t 6) (.t 50)), none, []⟩,
 It 7 (.mov (.c i0))] [])
 .ret)
 .skip))
 (.seq (.region [Mv 51 1,
 Mv 52 2,
 It 53 (.bin .rem (.t 51) (.t 52)),
 It 54 (.call 112 [(.t 53)]),
 ⟨none, (.store 5 (.t 6) (.t 54)), none, []⟩,
 It 7 (.mov (.c i0))] [])
 .ret)))
 (.exit 0)))))
 (.seq (.region [It 55 (.build [i0, i0, (.s []), .ns, .ns] []),
 ⟨none, (.store 5 (.t 6) (.t 55)), none, []⟩,
 It 7 (.mov (.c (.i .i64 (2))))] [])
 .ret))),
    56, 3, [.c 6 (some 5), .t 7], 0⟩
theorem tr108 : trFunc Tryz.prog (hz [] I108.body) 0 Tryz.f108 = some (plain1 I108) := by kernel_rfl
theorem ck108 : ckC 2 I108.body = true := by kernel_rfl

/-- 'encore/arith.texts'. -/
def I109 : IFunc :=
  ⟨(.seq (.region [It 6 (.alloc [i0, i0, (.s []), .ns, .ns]),
 It 7 (.mov (.c i0))] [])
 (.seq (.seq (.region [Mv 8 0] [])
 (.block 0
 (.seq (.block 3
 (.seq (.block 2
 (.seq (.block 1
 (.seq (.seq (.seq (.region [It 10 (.bin .eql (.t 8) (.c (.i .i64 (9)))),
 Mv 9 10] [])
 (.cond (.t 9)
 (.exit 1)
 .skip))
 (.seq (.seq (.region [It 12 (.bin .eql (.t 8) (.c (.i .i64 (17)))),
 Mv 11 12] [])
 (.cond (.t 11)
 (.exit 2)
 .skip))
 (.seq (.region [It 14 (.bin .eql (.t 8) (.c (.i .i64 (16)))),
 Mv 13 14] [])
 (.cond (.t 13)
 (.exit 3)
 .skip))))
 (.exit 0)))
 (.seq (.seq (.region [Mv 15 1,
 Mv 16 2,
 It 17 (.bin .add (.t 15) (.t 16)),
 It 18 (.build [i0, i0, (.s []), .ns, .ns] [(0, 1, (.c (.i .i64 (3)))), (2, 1, (.t 17))]),
 It 19 (.call 147 [(.t 18)]),
 Ex 20 19 0,
 Ex 21 19 1,
 ⟨none, (.store 5 (.t 6) (.t 20)), none, []⟩,
 Mv 7 21] [])
 .ret)
 (.exit 0))))
 (.seq (.region [Mv 22 1,
 Mv 23 2,
 It 24 (.bin .eql (.t 22) (.t 23))] [])
 (.cond (.t 24)
 (.seq (.region [It 25 (.call 107 [(.c (.b true))]),
 ⟨none, (.store 5 (.t 6) (.t 25)), none, []⟩,
 It 7 (.mov (.c i0))] [])
 .ret)
 .skip))))
 (.seq (.seq (.region [Mv 26 1,
 Mv 27 2,
 It 28 (.bin .lss (.t 26) (.t 27)),
 It 29 (.call 107 [(.t 28)]),
 ⟨none, (.store 5 (.t 6) (.t 29)), none, []⟩,
 It 7 (.mov (.c i0))] [])
 .ret)
 (.exit 0)))))
 (.seq (.region [It 30 (.build [i0, i0, (.s []), .ns, .ns] []),
 ⟨none, (.store 5 (.t 6) (.t 30)), none, []⟩,
 It 7 (.mov (.c (.i .i64 (2))))] [])
 .ret))),
    31, 3, [.c 6 (some 5), .t 7], 0⟩
theorem tr109 : trFunc Tryz.prog (hz [] I109.body) 0 Tryz.f109 = some (plain1 I109) := by kernel_rfl
theorem ck109 : ckC 2 I109.body = true := by kernel_rfl

/-- 'encore/arith.longer'. -/
def I110 : IFunc :=
  ⟨(.seq (.region [It 2 (.box (.t 0)),
 It 4 (.alloc [i0, i0, (.s []), .ns, .ns]),
 It 5 (.mov (.c i0))] [])
 (.seq (.region [Of 6 2 3,
 Ld 7 6,
 It 8 (.call 114 [(.t 7)]),
 Mv 9 1,
 It 10 (.app 5 80 (.t 8) (.t 9)),
 It 11 (.build [i0, i0, (.s []), .ns, .ns] [(0, 1, (.c (.i .i64 (4)))), (3, 1, (.t 10))]),
 It 12 (.call 147 [(.t 11)]),
 Ex 13 12 0,
 Ex 14 12 1,
 ⟨none, (.store 5 (.t 4) (.t 13)), none, []⟩,
 Mv 5 14] [])
 .ret)),
    15, 2, [.c 4 (some 5), .t 5], 0⟩
theorem tr110 : trFunc Tryz.prog (hz [] I110.body) 0 Tryz.f110 = some (plain1 I110) := by kernel_rfl
theorem ck110 : ckC 2 I110.body = true := by kernel_rfl

/-- 'encore/arith.own'. -/
def L111a : ICode :=
  (.seq (.region [It 16 (.bin .lss (.t 15) (.t 14))] [])
 (.seq (.cond (.t 16)
 .skip
 (.exit 0))
 (.seq (.block 1
 (.seq (.region [Mv 17 15,
 Mv 3 17] [])
 (.region [Of 18 1 3,
 Ld 19 18,
 Mv 20 3,
 Of 21 1 3,
 Ld 22 21,
 Mv 23 3,
 It 24 (.iaddr 5 (.t 22) (.t 23)),
 It 25 (.load (some 5) (.t 24)),
 ⟨(some 26), (.call 111 [(.t 25)]), none, [(19, (.load none (.t 18)), none)]⟩,
 It 27 (.iaddr 5 (.t 19) (.t 20)),
 ⟨none, (.store 5 (.t 27) (.t 26)), none, []⟩] [])))
 (.region [It 28 (.bin .add (.t 15) (.c (.i .i64 (1)))),
 Mv 15 28] []))))
def I111 : IFunc :=
  ⟨(.seq (.region [It 1 (.box (.t 0)),
 It 2 (.alloc [i0, i0, (.s []), .ns, .ns])] [])
 (.seq (.region [Of 4 1 4,
 Ld 5 4,
 Of 7 1 3,
 Ld 8 7,
 ⟨(some 6), (.call 113 [(.t 5)]), none, [(8, (.load none (.t 7)), none)]⟩,
 Of 10 1 4,
 It 9 (.call 114 [(.t 8)]),
 ⟨none, (.store 1 (.t 10) (.t 6)), none, []⟩,
 Of 11 1 3,
 ⟨none, (.store 1 (.t 11) (.t 9)), none, []⟩] [])
 (.seq (.seq (.region [Of 12 1 3,
 Ld 13 12,
 It 14 (.lenk 0 (.t 13)),
 It 15 (.mov (.c i0))] [])
 (.block 0
 (.loop L111a)))
 (.seq (.region [It 29 (.load (some 5) (.t 1)),
 ⟨none, (.store 5 (.t 2) (.t 29)), none, []⟩] [])
 .ret)))),
    30, 1, [.c 2 (some 5)], 0⟩
theorem tr111 : trFunc Tryz.prog (hz [(1, [0, 1, 3, 4, 2, 6, 5, 7, 8, 9]), (6, [0, 1, 2, 3, 4, 5, 6, 7, 8, 9, 10])] I111.body) 0 Tryz.f111 = some (plain1 I111) := by kernel_rfl
theorem ck111 : ckC 2 I111.body = true := by kernel_rfl

/-- 'encore/arith.num'. -/
def I112 : IFunc :=
  ⟨(.seq (.region [It 2 (.alloc [i0, i0, (.s []), .ns, .ns])] [])
 (.seq (.region [Mv 3 0,
 It 4 (.build [i0, i0, (.s []), .ns, .ns] [(0, 1, (.c (.i .i64 (1)))), (1, 1, (.t 3))]),
 ⟨none, (.store 5 (.t 2) (.t 4)), none, []⟩] [])
 .ret)),
    5, 1, [.c 2 (some 5)], 0⟩
theorem tr112 : trFunc Tryz.prog (hz [] I112.body) 0 Tryz.f112 = some (plain1 I112) := by kernel_rfl
theorem ck112 : ckC 2 I112.body = true := by kernel_rfl

/-- 'slices.Clone[[]string,string]'. -/
def I113 : IFunc := ⟨cloneCode 1 16, 8, 1, [.t 2], 4⟩
theorem tr113 : trFunc Tryz.prog [([], []), ([], []), ([], []), ([], []), ([], [])] 1 Tryz.f113 = some (plain1 I113) := by kernel_rfl
theorem ck113 : ckC 2 (cloneCode 1 16) = true := by kernel_rfl

/-- 'slices.Clone[[]encore/api.Value,encore/api.Value]'. -/
def I114 : IFunc := ⟨cloneCode 5 80, 8, 1, [.t 2], 4⟩
theorem tr114 : trFunc Tryz.prog [([], []), ([], []), ([], []), ([], []), ([], [])] 1 Tryz.f114 = some (plain1 I114) := by kernel_rfl
theorem ck114 : ckC 2 (cloneCode 5 80) = true := by kernel_rfl

/-- 'encore/encoreref07.number'. -/
def I115 : IFunc :=
  ⟨(.seq (.region [It 4 (.mov (.c i0))] [])
 (.seq (.seq (.region [Mv 5 0,
 Mv 6 1,
 It 7 (.bin .lss (.t 5) (.t 6))] [])
 (.cond (.t 7)
 (.seq (.region [It 4 (.mov (.c (.i .i64 (-1))))] [])
 .ret)
 .skip))
 (.seq (.seq (.region [Mv 8 0,
 Mv 9 1,
 It 10 (.bin .gtr (.t 8) (.t 9))] [])
 (.cond (.t 10)
 (.seq (.region [It 4 (.mov (.c (.i .i64 (1))))] [])
 .ret)
 .skip))
 (.seq (.region [It 4 (.mov (.c i0))] [])
 .ret)))),
    11, 2, [.t 4], 0⟩
theorem tr115 : trFunc Tryz.prog (hz [] I115.body) 0 Tryz.f115 = some (plain1 I115) := by kernel_rfl
theorem ck115 : ckC 2 I115.body = true := by kernel_rfl

/-- 'encore/encoreref07.text'. -/
def I116 : IFunc :=
  ⟨(.seq (.region [It 4 (.mov (.c i0))] [])
 (.seq (.seq (.region [Mv 5 0,
 Mv 6 1,
 It 7 (.bin .lss (.t 5) (.t 6))] [])
 (.cond (.t 7)
 (.seq (.region [It 4 (.mov (.c (.i .i64 (-1))))] [])
 .ret)
 .skip))
 (.seq (.seq (.region [Mv 8 0,
 Mv 9 1,
 It 10 (.bin .gtr (.t 8) (.t 9))] [])
 (.cond (.t 10)
 (.seq (.region [It 4 (.mov (.c (.i .i64 (1))))] [])
 .ret)
 .skip))
 (.seq (.region [It 4 (.mov (.c i0))] [])
 .ret)))),
    11, 2, [.t 4], 0⟩
theorem tr116 : trFunc Tryz.prog (hz [] I116.body) 0 Tryz.f116 = some (plain1 I116) := by kernel_rfl
theorem ck116 : ckC 2 I116.body = true := by kernel_rfl

/-- 'slices.Equal[[]string,string]'. -/
def L117a : ICode :=
  (.seq (.region [It 14 (.bin .lss (.t 13) (.t 12))] [])
 (.seq (.cond (.t 14)
 .skip
 (.exit 0))
 (.seq (.block 1
 (.seq (.region [Mv 15 13,
 Mv 5 15] [])
 (.seq (.region [Mv 16 0,
 Mv 17 5,
 It 18 (.iaddr 1 (.t 16) (.t 17)),
 Ld 19 18,
 Mv 20 1,
 Mv 21 5,
 It 22 (.iaddr 1 (.t 20) (.t 21)),
 Ld 23 22,
 It 24 (.bin .neq (.t 19) (.t 23))] [])
 (.cond (.t 24)
 (.seq (.region [It 4 (.mov (.c (.b false)))] [])
 .ret)
 .skip))))
 (.region [It 25 (.bin .add (.t 13) (.c (.i .i64 (1)))),
 Mv 13 25] []))))
def I117 : IFunc :=
  ⟨(.seq (.region [It 4 (.mov (.c (.b false)))] [])
 (.seq (.seq (.region [Mv 6 0,
 It 7 (.lenk 0 (.t 6)),
 Mv 8 1,
 It 9 (.lenk 0 (.t 8)),
 It 10 (.bin .neq (.t 7) (.t 9))] [])
 (.cond (.t 10)
 (.seq (.region [It 4 (.mov (.c (.b false)))] [])
 .ret)
 .skip))
 (.seq (.seq (.region [Mv 11 0,
 It 12 (.lenk 0 (.t 11)),
 It 13 (.mov (.c i0))] [])
 (.block 0
 (.loop L117a)))
 (.seq (.region [It 4 (.mov (.c (.b true)))] [])
 .ret)))),
    26, 2, [.t 4], 0⟩
theorem tr117 : trFunc Tryz.prog (hz [(8, [0, 1, 2, 3, 4, 5, 6, 7, 8])] I117.body) 0 Tryz.f117 = some (plain1 I117) := by kernel_rfl
theorem ck117 : ckC 2 I117.body = true := by kernel_rfl

/-- 'slices.EqualFunc[[]encore/api.Value,[]encore/api.Value,encore/api.Value,encore/api.Value]'. -/
def L118a : ICode :=
  (.seq (.region [It 18 (.bin .lss (.t 17) (.t 16))] [])
 (.seq (.cond (.t 18)
 .skip
 (.exit 0))
 (.seq (.block 1
 (.seq (.region [Mv 19 17,
 It 20 (.iaddr 5 (.t 15) (.t 17)),
 It 21 (.load (some 5) (.t 20)),
 It 8 (.alloc [i0, i0, (.s []), .ns, .ns]),
 Mv 7 19,
 ⟨none, (.store 5 (.t 8) (.t 21)), none, []⟩] [])
 (.seq (.region [Mv 22 1,
 Mv 23 7,
 It 24 (.iaddr 5 (.t 22) (.t 23)),
 It 25 (.load (some 5) (.t 24)),
 It 9 (.alloc [i0, i0, (.s []), .ns, .ns]),
 ⟨none, (.store 5 (.t 9) (.t 25)), none, []⟩] [])
 (.seq (.region [Mv 26 2,
 It 27 (.load (some 5) (.t 8)),
 It 28 (.load (some 5) (.t 9)),
 It 29 (.callv (.t 26) [(.t 27), (.t 28)]),
 It 30 (.un .not (.t 29))] [])
 (.cond (.t 30)
 (.seq (.region [It 6 (.mov (.c (.b false)))] [])
 .ret)
 .skip)))))
 (.region [It 31 (.bin .add (.t 17) (.c (.i .i64 (1)))),
 Mv 17 31] []))))
def I118 : IFunc :=
  ⟨(.seq (.region [It 6 (.mov (.c (.b false)))] [])
 (.seq (.seq (.region [Mv 10 0,
 It 11 (.lenk 0 (.t 10)),
 Mv 12 1,
 It 13 (.lenk 0 (.t 12)),
 It 14 (.bin .neq (.t 11) (.t 13))] [])
 (.cond (.t 14)
 (.seq (.region [It 6 (.mov (.c (.b false)))] [])
 .ret)
 .skip))
 (.seq (.seq (.region [Mv 15 0,
 It 16 (.lenk 0 (.t 15)),
 It 17 (.mov (.c i0))] [])
 (.block 0
 (.loop L118a)))
 (.seq (.region [It 6 (.mov (.c (.b true)))] [])
 .ret)))),
    32, 3, [.t 6], 0⟩
theorem tr118 : trFunc Tryz.prog (hz [] I118.body) 0 Tryz.f118 = some (plain1 I118) := by kernel_rfl
theorem ck118 : ckC 2 I118.body = true := by kernel_rfl

/-- 'slices.IndexFunc[[]encore/lift.Operand,encore/lift.Operand]'. -/
def L119a : ICode :=
  (.seq (.region [It 9 (.bin .lss (.t 8) (.t 7))] [])
 (.seq (.cond (.t 9)
 .skip
 (.exit 0))
 (.seq (.block 1
 (.seq (.region [Mv 10 8,
 Mv 5 10] [])
 (.seq (.region [Mv 11 1,
 Mv 12 0,
 Mv 13 5,
 It 14 (.iaddr 7 (.t 12) (.t 13)),
 It 15 (.load (some 7) (.t 14)),
 It 16 (.callv (.t 11) [(.t 15)])] [])
 (.cond (.t 16)
 (.seq (.region [Mv 17 5,
 Mv 4 17] [])
 .ret)
 .skip))))
 (.region [It 18 (.bin .add (.t 8) (.c (.i .i64 (1)))),
 Mv 8 18] []))))
def I119 : IFunc :=
  ⟨(.seq (.region [It 4 (.mov (.c i0))] [])
 (.seq (.seq (.region [Mv 6 0,
 It 7 (.lenk 0 (.t 6)),
 It 8 (.mov (.c i0))] [])
 (.block 0
 (.loop L119a)))
 (.seq (.region [It 4 (.mov (.c (.i .i64 (-1))))] [])
 .ret))),
    19, 2, [.t 4], 0⟩
theorem tr119 : trFunc Tryz.prog (hz [] I119.body) 0 Tryz.f119 = some (plain1 I119) := by kernel_rfl
theorem ck119 : ckC 2 I119.body = true := by kernel_rfl

/-- 'encore/encoreref00.CopyTexts'. -/
def I120 : IFunc :=
  ⟨(.seq (.region [It 2 (.mov (.c .ns))] [])
 (.seq (.region [It 3 (.mov (.c .ns))] [])
 (.seq (.region [Mv 4 3,
 Mv 5 0,
 It 6 (.app 1 16 (.t 4) (.t 5)),
 Mv 3 6] [])
 (.seq (.region [Mv 7 3,
 Mv 2 7] [])
 .ret)))),
    8, 1, [.t 2], 0⟩
theorem tr120 : trFunc Tryz.prog (hz [] I120.body) 0 Tryz.f120 = some (plain1 I120) := by kernel_rfl
theorem ck120 : ckC 2 I120.body = true := by kernel_rfl

/-- 'encore/cuts.blocks$1'. -/
def L121a : ICode :=
  (.seq (.region [It 9 (.bin .lss (.t 8) (.t 7))] [])
 (.seq (.cond (.t 9)
 .skip
 (.exit 0))
 (.seq (.block 1
 (.seq (.region [Mv 10 8,
 Mv 4 10] [])
 (.seq (.seq (.region [Ld 11 2,
 Mv 12 4,
 It 13 (.look false [1] (.b false) false (.t 11) (.t 12)),
 It 14 (.un .not (.t 13))] [])
 (.cond (.t 14)
 (.exit 1)
 .skip))
 (.seq (.region [Ld 15 1,
 Ld 16 2,
 Mv 17 4,
 It 18 (.call 122 [(.t 15), (.t 16), (.t 17)]),
 It 5 (.alloc [i0, i0, i0, i0]),
 ⟨none, (.store 4 (.t 5) (.t 18)), none, []⟩] [])
 (.seq (.region [Of 19 5 1,
 Ld 20 19,
 It 21 (.bin .gtr (.t 20) (.c i0)),
 Mv 22 21,
 Ig 23 22 true (.mov (.t 0)),
 Ig 24 22 true (.load (some 4) (.t 5)),
 Ig 25 22 true (.callv (.t 23) [(.t 24)]),
 Ig 26 22 true (.un .not (.t 25)),
 It 27 (.pick (.t 22) (.t 26) (.c (.b false)))] [])
 (.cond (.t 27)
 .ret
 .skip))))))
 (.region [It 28 (.bin .add (.t 8) (.c (.i .i64 (1)))),
 Mv 8 28] []))))
def I121 : IFunc :=
  ⟨(.seq (.region [Ld 6 1,
 It 7 (.lenk 0 (.t 6)),
 It 8 (.mov (.c i0))] [])
 (.block 0
 (.loop L121a))),
    29, 3, [], 0⟩
theorem tr121 : trFunc Tryz.prog (hz [] I121.body) 0 Tryz.f121 = some (plain1 I121) := by kernel_rfl
theorem ck121 : ckC 2 I121.body = true := by kernel_rfl

/-- 'encore/cuts.block'. -/
def L122a : ICode :=
  (.seq (.seq (.region [Mv 13 8,
 Mv 14 0,
 It 15 (.lenk 0 (.t 14)),
 It 16 (.bin .lss (.t 13) (.t 15))] [])
 (.cond (.t 16)
 .skip
 (.exit 0)))
 (.seq (.block 1
 (.seq (.region [Mv 19 0,
 Mv 20 8,
 It 21 (.iaddr 3 (.t 19) (.t 20)),
 It 22 (.load (some 3) (.t 21)),
 It 9 (.alloc [i0, i0, i0]),
 ⟨none, (.store 3 (.t 9) (.t 22)), none, []⟩] [])
 (.seq (.block 2
 (.seq (.region [Mv 24 8,
 Mv 25 2,
 It 26 (.bin .gtr (.t 24) (.t 25)),
 Mv 27 26,
 Ig 28 27 true (.mov (.t 1)),
 Ig 29 27 true (.mov (.t 8)),
 Ig 30 27 true (.look false [1] (.b false) false (.t 28) (.t 29)),
 It 31 (.pick (.t 27) (.t 30) (.c (.b false))),
 Mv 23 31] [])
 (.cond (.t 23)
 (.seq (.region [Mv 32 8,
 Of 33 7 3,
 ⟨none, (.store 1 (.t 33) (.t 32)), none, []⟩] [])
 (.seq (.region [It 34 (.load (some 4) (.t 7)),
 ⟨none, (.store 4 (.t 6) (.t 34)), none, []⟩] [])
 .ret))
 (.seq (.region [It 36 (.load (some 3) (.t 9)),
 It 37 (.call 123 [(.t 36)]),
 Mv 35 37] [])
 (.cond (.t 35)
 (.seq (.region [Of 38 7 1,
 Ld 39 38,
 It 40 (.bin .add (.t 39) (.c (.i .i64 (1)))),
 Of 41 7 1,
 ⟨none, (.store 1 (.t 41) (.t 40)), none, []⟩] [])
 (.seq (.region [Of 42 9 1,
 Ld 43 42,
 Of 44 7 2,
 ⟨none, (.store 1 (.t 44) (.c (.i .i64 (1)))), none, [(43, (.load none (.t 42)), none)]⟩,
 Of 45 7 3,
 ⟨none, (.store 1 (.t 45) (.t 43)), none, []⟩] [])
 (.seq (.seq (.region [Of 46 9 0,
 Ld 47 46,
 It 48 (.bin .eql (.t 47) (.c (.i .i64 (25))))] [])
 (.cond (.t 48)
 (.region [Of 49 7 2,
 ⟨none, (.store 1 (.t 49) (.c (.i .i64 (2)))), none, []⟩] [])
 .skip))
 (.seq (.region [It 50 (.load (some 4) (.t 7)),
 ⟨none, (.store 4 (.t 6) (.t 50)), none, []⟩] [])
 .ret))))
 (.seq (.region [Of 52 9 0,
 Ld 53 52,
 It 54 (.call 75 [(.t 53)]),
 It 55 (.un .not (.t 54)),
 Mv 51 55] [])
 (.cond (.t 51)
 (.seq (.region [Mv 56 8,
 Of 57 7 2,
 ⟨none, (.store 1 (.t 57) (.c (.i .i64 (3)))), none, []⟩,
 Of 58 7 3,
 ⟨none, (.store 1 (.t 58) (.t 56)), none, []⟩] [])
 (.seq (.region [It 59 (.load (some 4) (.t 7)),
 ⟨none, (.store 4 (.t 6) (.t 59)), none, []⟩] [])
 .ret))
 .skip)))))))
 (.region [Of 60 7 1,
 Ld 61 60,
 It 62 (.bin .add (.t 61) (.c (.i .i64 (1)))),
 Of 63 7 1,
 ⟨none, (.store 1 (.t 63) (.t 62)), none, []⟩] []))))
 (.region [Mv 17 8,
 It 18 (.bin .add (.t 17) (.c (.i .i64 (1)))),
 Mv 8 18] [])))
def I122 : IFunc :=
  ⟨(.seq (.region [It 6 (.alloc [i0, i0, i0, i0])] [])
 (.seq (.region [Mv 10 2,
 It 11 (.build [i0, i0, i0, i0] [(0, 1, (.t 10))]),
 It 7 (.alloc [i0, i0, i0, i0]),
 ⟨none, (.store 4 (.t 7) (.t 11)), none, []⟩] [])
 (.seq (.seq (.region [Mv 12 2,
 Mv 8 12] [])
 (.block 0
 (.loop L122a)))
 (.seq (.region [It 64 (.load (some 4) (.t 7)),
 ⟨none, (.store 4 (.t 6) (.t 64)), none, []⟩] [])
 .ret)))),
    65, 3, [.c 6 (some 4)], 0⟩
theorem tr122 : trFunc Tryz.prog (hz [(11, [0, 1, 2, 3, 4, 5])] I122.body) 0 Tryz.f122 = some (plain1 I122) := by kernel_rfl
theorem ck122 : ckC 2 I122.body = true := by kernel_rfl

/-- 'encore/cuts.turn'. -/
def I123 : IFunc :=
  ⟨(.seq (.region [It 1 (.box (.t 0)),
 It 2 (.mov (.c (.b false)))] [])
 (.seq (.region [Of 3 1 0,
 Ld 4 3,
 It 5 (.bin .eql (.t 4) (.c (.i .i64 (24)))),
 Mv 6 5,
 Ig 7 6 false (.off (.t 1) 0),
 Ig 8 6 false (.load none (.t 7)),
 Ig 9 6 false (.bin .eql (.t 8) (.c (.i .i64 (25)))),
 It 10 (.pick (.t 6) (.c (.b true)) (.t 9)),
 Mv 2 10] [])
 .ret)),
    11, 1, [.t 2], 0⟩
theorem tr123 : trFunc Tryz.prog (hz [] I123.body) 0 Tryz.f123 = some (plain1 I123) := by kernel_rfl
theorem ck123 : ckC 2 I123.body = true := by kernel_rfl

/-- 'encore/code.Check$1'. -/
def I124 : IFunc :=
  ⟨(.seq (.region [It 1 (.box (.t 0)),
 It 2 (.mov (.c (.b false)))] [])
 (.seq (.region [Of 3 1 3,
 Ld 4 3,
 It 5 (.lenk 0 (.t 4)),
 It 6 (.bin .gtr (.t 5) (.c (.i .i64 (512)))),
 Mv 2 6] [])
 .ret)),
    7, 1, [.t 2], 0⟩
theorem tr124 : trFunc Tryz.prog (hz [] I124.body) 0 Tryz.f124 = some (plain1 I124) := by kernel_rfl
theorem ck124 : ckC 2 I124.body = true := by kernel_rfl

/-- 'slices.ContainsFunc[[]encore/api.Func,encore/api.Func]'. -/
def I125 : IFunc :=
  ⟨(.seq (.region [It 4 (.mov (.c (.b false)))] [])
 (.seq (.region [Mv 5 0,
 Mv 6 1,
 It 7 (.call 153 [(.t 5), (.t 6)]),
 It 8 (.bin .geq (.t 7) (.c i0)),
 Mv 4 8] [])
 .ret)),
    9, 2, [.t 4], 0⟩
theorem tr125 : trFunc Tryz.prog (hz [] I125.body) 0 Tryz.f125 = some (plain1 I125) := by kernel_rfl
theorem ck125 : ckC 2 I125.body = true := by kernel_rfl

/-- 'encore/code.Check$2'. -/
def I126 : IFunc :=
  ⟨(.seq (.region [It 1 (.box (.t 0)),
 It 2 (.mov (.c (.b false)))] [])
 (.seq (.region [It 3 (.load (some 5) (.t 1)),
 It 4 (.call 86 [(.t 3)]),
 It 5 (.bin .neq (.t 4) (.c i0)),
 Mv 2 5] [])
 .ret)),
    6, 1, [.t 2], 0⟩
theorem tr126 : trFunc Tryz.prog (hz [] I126.body) 0 Tryz.f126 = some (plain1 I126) := by kernel_rfl
theorem ck126 : ckC 2 I126.body = true := by kernel_rfl

/-- 'encore/code.Check$3'. -/
def I127 : IFunc :=
  ⟨(.seq (.region [It 2 (.box (.t 0)),
 It 3 (.mov (.c (.b false)))] [])
 (.seq (.region [It 4 (.load (some 4) (.t 2)),
 It 5 (.call 128 [(.t 1), (.t 4)]),
 It 6 (.un .not (.t 5)),
 Mv 3 6] [])
 .ret)),
    7, 2, [.t 3], 0⟩
theorem tr127 : trFunc Tryz.prog (hz [] I127.body) 0 Tryz.f127 = some (plain1 I127) := by kernel_rfl
theorem ck127 : ckC 2 I127.body = true := by kernel_rfl

/-- 'encore/code.head'. -/
def L128a : ICode :=
  (.seq (.region [It 14 (.bin .lss (.t 13) (.t 12))] [])
 (.seq (.cond (.t 14)
 .skip
 (.exit 0))
 (.seq (.block 1
 (.seq (.region [It 15 (.iaddr 4 (.t 11) (.t 13)),
 It 16 (.load (some 4) (.t 15)),
 It 7 (.alloc [(.s []), i0, i0, .ns]),
 ⟨none, (.store 4 (.t 7) (.t 16)), none, []⟩] [])
 (.seq (.region [Of 17 7 0,
 Ld 18 17,
 Of 19 3 0,
 Ld 20 19,
 It 21 (.bin .eql (.t 18) (.t 20))] [])
 (.cond (.t 21)
 (.region [Mv 22 5,
 It 23 (.bin .add (.t 22) (.c (.i .i64 (1)))),
 Mv 5 23] [])
 .skip))))
 (.region [It 24 (.bin .add (.t 13) (.c (.i .i64 (1)))),
 Mv 13 24] []))))
def I128 : IFunc :=
  ⟨(.seq (.region [It 3 (.box (.t 1)),
 It 4 (.mov (.c (.b false)))] [])
 (.seq (.region [It 5 (.mov (.c i0))] [])
 (.seq (.seq (.region [Mv 8 0,
 It 9 (.nck (.t 8)),
 Of 10 9 0,
 Ld 11 10,
 It 12 (.lenk 0 (.t 11)),
 It 13 (.mov (.c i0))] [])
 (.block 0
 (.loop L128a)))
 (.seq (.region [Mv 25 5,
 It 26 (.bin .eql (.t 25) (.c (.i .i64 (1)))),
 Mv 27 26,
 Ig 28 27 true (.off (.t 3) 0),
 Ig 29 27 true (.load none (.t 28)),
 Ig 30 27 true (.call 154 [(.t 29)]),
 It 31 (.pick (.t 27) (.t 30) (.c (.b false))),
 Mv 32 31,
 Ig 33 32 true (.off (.t 3) 1),
 Ig 34 32 true (.load none (.t 33)),
 Ig 35 32 true (.bin .geq (.t 34) (.c i0)),
 It 36 (.pick (.t 32) (.t 35) (.c (.b false))),
 Mv 37 36,
 Ig 38 37 true (.off (.t 3) 1),
 Ig 39 37 true (.load none (.t 38)),
 Ig 40 37 true (.bin .leq (.t 39) (.c (.i .i64 (8)))),
 It 41 (.pick (.t 37) (.t 40) (.c (.b false))),
 Mv 42 41,
 Ig 43 42 true (.off (.t 3) 2),
 Ig 44 42 true (.load none (.t 43)),
 Ig 45 42 true (.off (.t 3) 1),
 Ig 46 42 true (.load none (.t 45)),
 Ig 47 42 true (.bin .geq (.t 44) (.t 46)),
 It 48 (.pick (.t 42) (.t 47) (.c (.b false))),
 Mv 49 48,
 Ig 50 49 true (.off (.t 3) 2),
 Ig 51 49 true (.load none (.t 50)),
 Ig 52 49 true (.bin .leq (.t 51) (.c (.i .i64 (32)))),
 It 53 (.pick (.t 49) (.t 52) (.c (.b false))),
 Mv 54 53,
 Ig 55 54 true (.off (.t 3) 3),
 Ig 56 54 true (.load none (.t 55)),
 Ig 57 54 true (.lenk 0 (.t 56)),
 Ig 58 54 true (.bin .gtr (.t 57) (.c i0)),
 It 59 (.pick (.t 54) (.t 58) (.c (.b false))),
 Mv 4 59] [])
 .ret)))),
    60, 2, [.t 4], 0⟩
theorem tr128 : trFunc Tryz.prog (hz [] I128.body) 0 Tryz.f128 = some (plain1 I128) := by kernel_rfl
theorem ck128 : ckC 2 I128.body = true := by kernel_rfl

/-- '(encore/code.site).fits'. -/
def I129 : IFunc :=
  ⟨(.seq (.region [It 1 (.box (.t 0)),
 It 2 (.mov (.c (.b false)))] [])
 (.seq (.region [Of 4 1 2,
 Of 5 4 0,
 Ld 6 5,
 It 7 (.bin .geq (.t 6) (.c (.i .i64 (1)))),
 Mv 8 7,
 Ig 9 8 true (.off (.t 1) 2),
 Ig 10 8 true (.off (.t 9) 0),
 Ig 11 8 true (.load none (.t 10)),
 Ig 12 8 true (.bin .leq (.t 11) (.c (.i .i64 (31)))),
 It 13 (.pick (.t 8) (.t 12) (.c (.b false))),
 Mv 3 13] [])
 (.seq (.region [Mv 14 3,
 Mv 15 14,
 Ig 16 15 true (.off (.t 1) 2),
 Ig 17 15 true (.off (.t 16) 2),
 Ig 18 15 true (.load none (.t 17)),
 Ig 19 15 true (.bin .eql (.t 18) (.c i0)),
 Ig 20 15 true (.mov (.t 19)),
 Ig 21 20 false (.off (.t 1) 2),
 Ig 22 20 false (.off (.t 21) 0),
 Ig 23 20 false (.load none (.t 22)),
 Ig 24 20 false (.bin .eql (.t 23) (.c (.i .i64 (31)))),
 Ig 25 15 true (.pick (.t 20) (.c (.b true)) (.t 24)),
 It 26 (.pick (.t 15) (.t 25) (.c (.b false))),
 Mv 27 26,
 Ig 28 27 true (.load (some 5) (.t 1)),
 Ig 29 27 true (.call 155 [(.t 28)]),
 Ig 30 27 true (.callv (.t 29) []),
 It 31 (.pick (.t 27) (.t 30) (.c (.b false))),
 Mv 2 31] [])
 .ret))),
    32, 1, [.t 2], 0⟩
theorem tr129 : trFunc Tryz.prog (hz [] I129.body) 0 Tryz.f129 = some (plain1 I129) := by kernel_rfl
theorem ck129 : ckC 2 I129.body = true := by kernel_rfl

/-- '(*encore/verify.look).come'. -/
def I130 : IFunc :=
  ⟨(.seq (.seq (.region [Mv 9 1,
 Mv 10 0,
 It 11 (.nck (.t 10)),
 Of 12 11 0,
 Ld 13 12,
 It 14 (.lenk 0 (.t 13)),
 It 15 (.bin .geq (.t 9) (.t 14)),
 Mv 16 15,
 Ig 17 16 false (.mov (.t 2)),
 Ig 18 16 false (.bin .gtr (.t 17) (.c (.i .i64 (32)))),
 It 19 (.pick (.t 16) (.c (.b true)) (.t 18))] [])
 (.cond (.t 19)
 (.seq (.region [Mv 20 0,
 It 21 (.nck (.t 20)),
 Of 22 21 2,
 ⟨none, (.store 1 (.t 22) (.c (.b true))), none, []⟩] [])
 .ret)
 .skip))
 (.seq (.region [Mv 23 0,
 It 24 (.nck (.t 23)),
 Of 25 24 0,
 Ld 26 25,
 Mv 27 1,
 It 28 (.iaddr 3 (.t 26) (.t 27)),
 Mv 8 28] [])
 (.seq (.seq (.region [Mv 29 8,
 It 30 (.nck (.t 29)),
 Of 31 30 0,
 Ld 32 31] [])
 (.cond (.t 32)
 (.seq (.region [Mv 33 0,
 Mv 34 0,
 It 35 (.nck (.t 34)),
 Of 36 35 2,
 Ld 37 36,
 Mv 38 37,
 Ig 39 38 false (.mov (.t 8)),
 Ig 40 38 false (.nck (.t 39)),
 Ig 41 38 false (.off (.t 40) 1),
 Ig 42 38 false (.load none (.t 41)),
 Ig 43 38 false (.mov (.t 2)),
 Ig 44 38 false (.bin .neq (.t 42) (.t 43)),
 It 45 (.pick (.t 38) (.c (.b true)) (.t 44)),
 Mv 46 45,
 Ig 47 46 false (.mov (.t 8)),
 Ig 48 46 false (.nck (.t 47)),
 Ig 49 46 false (.off (.t 48) 2),
 Ig 50 46 false (.load none (.t 49)),
 Ig 51 46 false (.mov (.t 3)),
 Ig 52 46 false (.call 156 [(.t 50), (.t 51)]),
 Ig 53 46 false (.un .not (.t 52)),
 It 54 (.pick (.t 46) (.c (.b true)) (.t 53)),
 It 55 (.nck (.t 33)),
 Of 56 55 2,
 ⟨none, (.store 1 (.t 56) (.t 54)), none, []⟩] [])
 .ret)
 .skip))
 (.seq (.region [Mv 57 8,
 Mv 58 2,
 Mv 59 3,
 Mv 60 3,
 It 61 (.lenk 0 (.t 60)),
 Mv 62 3,
 It 63 (.lenk 0 (.t 62)),
 It 64 (.sl 2 (.t 59) none (some (.t 61)) (some (.t 63))),
 It 65 (.build [(.b false), i0, .ns] [(0, 1, (.c (.b true))), (1, 1, (.t 58)), (2, 1, (.t 64))]),
 It 66 (.nck (.t 57)),
 ⟨none, (.store 3 (.t 66) (.t 65)), none, []⟩] [])
 (.region [Mv 67 0,
 Mv 68 0,
 It 69 (.nck (.t 68)),
 Of 70 69 1,
 Ld 71 70,
 Mv 72 1,
 It 73 (.bsl 1 1 [i0] [(0, 1, (.t 72))]),
 It 74 (.app 1 8 (.t 71) (.t 73)),
 It 75 (.nck (.t 67)),
 Of 76 75 1,
 ⟨none, (.store 1 (.t 76) (.t 74)), none, []⟩] []))))),
    77, 4, [], 0⟩
theorem tr130 : trFunc Tryz.prog (hz [] I130.body) 0 Tryz.f130 = some (plain1 I130) := by kernel_rfl
theorem ck130 : ckC 2 I130.body = true := by kernel_rfl

/-- '(*encore/verify.look).step'. -/
def I131 : IFunc :=
  ⟨(.seq (.region [It 5 (.box (.t 1)),
 It 6 (.box (.t 2))] [])
 (.seq (.region [Mv 14 0,
 It 15 (.nck (.t 14)),
 Of 16 15 0,
 Ld 17 16,
 Mv 18 3,
 It 19 (.iaddr 3 (.t 17) (.t 18)),
 It 20 (.load (some 3) (.t 19)),
 It 8 (.alloc [(.b false), i0, .ns]),
 ⟨none, (.store 3 (.t 8) (.t 20)), none, []⟩] [])
 (.seq (.region [It 22 (.load (some 2) (.t 5)),
 It 23 (.load (some 3) (.t 6)),
 It 24 (.call 157 [(.t 22), (.t 23)]),
 Mv 21 24,
 Ex 25 21 0,
 Ex 26 21 1,
 Mv 9 25,
 Mv 10 26] [])
 (.seq (.region [Of 27 8 1,
 Ld 28 27,
 Mv 29 9,
 It 30 (.bin .sub (.t 28) (.t 29)),
 Mv 31 10,
 It 32 (.bin .add (.t 30) (.t 31)),
 Of 33 8 2,
 Ld 34 33,
 Mv 11 32,
 Mv 12 34] [])
 (.seq (.seq (.region [Mv 35 9,
 Of 36 8 1,
 Ld 37 36,
 It 38 (.bin .gtr (.t 35) (.t 37)),
 Mv 39 38,
 Ig 40 39 false (.mov (.t 11)),
 Ig 41 39 false (.bin .gtr (.t 40) (.c (.i .i64 (32)))),
 It 42 (.pick (.t 39) (.c (.b true)) (.t 41))] [])
 (.cond (.t 42)
 (.seq (.region [Mv 43 0,
 It 44 (.nck (.t 43)),
 Of 45 44 2,
 ⟨none, (.store 1 (.t 45) (.c (.b true))), none, []⟩] [])
 .ret)
 .skip))
 (.seq (.seq (.region [Mv 46 12,
 It 47 (.lenk 0 (.t 46)),
 Mv 13 47] [])
 (.seq (.region [Mv 48 13,
 It 49 (.bin .gtr (.t 48) (.c i0)),
 Mv 50 49,
 Ig 51 50 true (.off (.t 8) 1),
 Ig 52 50 true (.load none (.t 51)),
 Ig 53 50 true (.mov (.t 9)),
 Ig 54 50 true (.bin .sub (.t 52) (.t 53)),
 Ig 55 50 true (.mov (.t 12)),
 Ig 56 50 true (.mov (.t 13)),
 Ig 57 50 true (.bin .sub (.t 56) (.c (.i .i64 (1)))),
 Ig 58 50 true (.iaddr 2 (.t 55) (.t 57)),
 Ig 59 50 true (.off (.t 58) 1),
 Ig 60 50 true (.load none (.t 59)),
 Ig 61 50 true (.bin .lss (.t 54) (.t 60)),
 It 62 (.pick (.t 50) (.t 61) (.c (.b false)))] [])
 (.cond (.t 62)
 (.seq (.region [Mv 63 0,
 It 64 (.nck (.t 63)),
 Of 65 64 2,
 ⟨none, (.store 1 (.t 65) (.c (.b true))), none, []⟩] [])
 .ret)
 .skip)))
 (.seq (.seq (.region [Of 66 6 0,
 Ld 67 66] [])
 (.block 0
 (.seq (.seq (.region [It 69 (.bin .eql (.t 67) (.c (.i .i64 (28)))),
 Mv 68 69] [])
 (.cond (.t 68)
 .skip
 (.region [It 70 (.bin .eql (.t 67) (.c (.i .i64 (30)))),
 Mv 68 70] [])))
 (.cond (.t 68)
 .ret
 (.seq (.region [It 72 (.bin .eql (.t 67) (.c (.i .i64 (24)))),
 Mv 71 72] [])
 (.cond (.t 71)
 (.seq (.region [Mv 73 0,
 Of 74 6 1,
 Ld 75 74,
 Mv 76 11,
 Mv 77 12,
 It 78 (.call 130 [(.t 73), (.t 75), (.t 76), (.t 77)])] [])
 .ret)
 (.seq (.region [It 80 (.bin .eql (.t 67) (.c (.i .i64 (25)))),
 Mv 79 80] [])
 (.cond (.t 79)
 (.region [Mv 81 0,
 Of 82 6 1,
 Ld 83 82,
 Mv 84 11,
 Mv 85 12,
 It 86 (.call 130 [(.t 81), (.t 83), (.t 84), (.t 85)])] [])
 (.seq (.region [It 88 (.bin .eql (.t 67) (.c (.i .i64 (26)))),
 Mv 87 88] [])
 (.cond (.t 87)
 (.seq (.region [Mv 89 0,
 Mv 90 0,
 It 91 (.nck (.t 90)),
 Of 92 91 2,
 Ld 93 92,
 Mv 94 93,
 Ig 95 94 false (.mov (.t 12)),
 Ig 96 94 false (.lenk 0 (.t 95)),
 Ig 97 94 false (.bin .geq (.t 96) (.c (.i .i64 (8)))),
 It 98 (.pick (.t 94) (.c (.b true)) (.t 97)),
 It 99 (.nck (.t 89)),
 Of 100 99 2,
 ⟨none, (.store 1 (.t 100) (.t 98)), none, []⟩] [])
 (.seq (.region [Mv 101 0,
 Of 102 6 1,
 Ld 103 102,
 Mv 104 11,
 It 105 (.bin .add (.t 104) (.c (.i .i64 (1)))),
 Mv 106 12,
 It 107 (.call 130 [(.t 101), (.t 103), (.t 105), (.t 106)])] [])
 (.region [Mv 108 12,
 Of 109 6 1,
 Ld 110 109,
 Mv 111 11,
 It 112 (.build [i0, i0] [(0, 1, (.t 110)), (1, 1, (.t 111))]),
 It 113 (.bsl 2 1 [i0, i0] [(0, 2, (.t 112))]),
 It 114 (.app 2 16 (.t 108) (.t 113)),
 Mv 12 114] [])))
 (.seq (.region [It 116 (.bin .eql (.t 67) (.c (.i .i64 (27)))),
 Mv 115 116] [])
 (.cond (.t 115)
 (.seq (.seq (.region [Mv 117 12,
 It 118 (.lenk 0 (.t 117)),
 It 119 (.bin .eql (.t 118) (.c i0))] [])
 (.cond (.t 119)
 (.seq (.region [Mv 120 0,
 It 121 (.nck (.t 120)),
 Of 122 121 2,
 ⟨none, (.store 1 (.t 122) (.c (.b true))), none, []⟩] [])
 .ret)
 .skip))
 (.region [Mv 123 12,
 Mv 124 12,
 It 125 (.lenk 0 (.t 124)),
 It 126 (.bin .sub (.t 125) (.c (.i .i64 (1)))),
 It 127 (.sl 2 (.t 123) none (some (.t 126)) none),
 Mv 12 127] []))
 .skip))))))))))))
 (.region [Mv 128 0,
 Mv 129 3,
 It 130 (.bin .add (.t 129) (.c (.i .i64 (1)))),
 Mv 131 11,
 Mv 132 12,
 It 133 (.call 130 [(.t 128), (.t 130), (.t 131), (.t 132)])] [])))))))),
    134, 4, [], 0⟩
theorem tr131 : trFunc Tryz.prog (hz [(3, [0, 1, 2, 3, 4, 5, 6, 7, 8, 9]), (8, [0, 1, 2, 3, 4, 5, 6, 7, 8, 9, 10, 11, 12, 13, 14])] I131.body) 0 Tryz.f131 = some (plain1 I131) := by kernel_rfl
theorem ck131 : ckC 2 I131.body = true := by kernel_rfl

/-- 'slices.Clone[[]encore/verify.Try,encore/verify.Try]'. -/
def I132 : IFunc := ⟨cloneCode 2 16, 8, 1, [.t 2], 4⟩
theorem tr132 : trFunc Tryz.prog [([], []), ([], []), ([], []), ([], []), ([], [])] 1 Tryz.f132 = some (plain1 I132) := by kernel_rfl
theorem ck132 : ckC 2 (cloneCode 2 16) = true := by kernel_rfl

/-- '(*encore/lift.maker).plain'. -/
def L133a : ICode :=
  (.seq (.region [It 149 (.bin .lss (.t 148) (.t 147))] [])
 (.seq (.cond (.t 149)
 .skip
 (.exit 1))
 (.seq (.block 2
 (.seq (.region [It 150 (.iaddr 5 (.t 146) (.t 148)),
 It 151 (.load (some 5) (.t 150)),
 It 9 (.alloc [i0, i0, (.s []), .ns, .ns]),
 ⟨none, (.store 5 (.t 9) (.t 151)), none, []⟩] [])
 (.region [Mv 152 7,
 Of 153 9 2,
 Ld 154 153,
 It 155 (.bsl 1 1 [(.s [])] [(0, 1, (.t 154))]),
 It 156 (.app 1 16 (.t 152) (.t 155)),
 Mv 7 156] [])))
 (.region [It 157 (.bin .add (.t 148) (.c (.i .i64 (1)))),
 Mv 148 157] []))))
def I133 : IFunc :=
  ⟨(.seq (.region [It 3 (.box (.t 1))] [])
 (.seq (.region [Mv 11 0,
 It 12 (.nck (.t 11)),
 Of 13 12 0,
 It 14 (.load (some 2) (.t 13)),
 It 15 (.load (some 3) (.t 3)),
 It 16 (.call 157 [(.t 14), (.t 15)]),
 Mv 10 16,
 Ex 17 10 0,
 Ex 18 10 1,
 Mv 4 17,
 Mv 5 18] [])
 (.seq (.region [Mv 19 0,
 Mv 20 4,
 It 21 (.call 65 [(.t 19), (.t 20)]),
 Mv 6 21] [])
 (.seq (.region [Of 22 3 0,
 Ld 23 22] [])
 (.block 0
 (.seq (.region [It 31 (.bin .eql (.t 23) (.c (.i .i64 (1)))),
 Mv 30 31] [])
 (.cond (.t 30)
 (.region [Mv 32 0,
 Mv 33 0,
 It 34 (.nck (.t 33)),
 Of 35 34 0,
 Of 36 35 1,
 Ld 37 36,
 Of 38 3 1,
 Ld 39 38,
 It 40 (.iaddr 5 (.t 37) (.t 39)),
 It 41 (.load (some 5) (.t 40)),
 It 42 (.call 50 [(.t 41)]),
 It 43 (.build [i0, i0, i0, i0, (.s []), .ns, .ns] [(0, 1, (.c (.i .i64 (3)))), (2, 5, (.t 42))]),
 It 44 (.bsl 7 1 [i0, i0, i0, i0, (.s []), .ns, .ns] [(0, 7, (.t 43))]),
 It 45 (.call 31 [(.t 32), (.t 44)])] [])
 (.seq (.region [It 47 (.bin .eql (.t 23) (.c (.i .i64 (2)))),
 Mv 46 47] [])
 (.cond (.t 46)
 (.region [Mv 48 0,
 Mv 49 0,
 It 50 (.nck (.t 49)),
 Of 51 50 18,
 Ld 52 51,
 Of 53 3 1,
 Ld 54 53,
 It 55 (.iaddr 7 (.t 52) (.t 54)),
 It 56 (.load (some 7) (.t 55)),
 It 57 (.bsl 7 1 [i0, i0, i0, i0, (.s []), .ns, .ns] [(0, 7, (.t 56))]),
 It 58 (.call 31 [(.t 48), (.t 57)])] [])
 (.seq (.region [It 60 (.bin .eql (.t 23) (.c (.i .i64 (3)))),
 Mv 59 60] [])
 (.cond (.t 59)
 (.region [Mv 61 0,
 It 62 (.nck (.t 61)),
 Of 63 62 18,
 Ld 64 63,
 Of 65 3 1,
 Ld 66 65,
 Mv 67 6,
 It 68 (.iaddr 7 (.t 67) (.c i0)),
 It 69 (.load (some 7) (.t 68)),
 It 70 (.iaddr 7 (.t 64) (.t 66)),
 ⟨none, (.store 7 (.t 70) (.t 69)), none, []⟩] [])
 (.seq (.region [It 72 (.bin .eql (.t 23) (.c (.i .i64 (4)))),
 Mv 71 72] [])
 (.cond (.t 71)
 .skip
 (.seq (.region [It 74 (.bin .eql (.t 23) (.c (.i .i64 (5)))),
 Mv 73 74] [])
 (.cond (.t 73)
 (.region [Mv 75 0,
 Mv 76 6,
 It 77 (.iaddr 7 (.t 76) (.c i0)),
 It 78 (.load (some 7) (.t 77)),
 Mv 79 6,
 It 80 (.iaddr 7 (.t 79) (.c i0)),
 It 81 (.load (some 7) (.t 80)),
 It 82 (.bsl 7 2 [i0, i0, i0, i0, (.s []), .ns, .ns, i0, i0, i0, i0, (.s []), .ns, .ns] [(0, 7, (.t 78)), (7, 7, (.t 81))]),
 It 83 (.call 31 [(.t 75), (.t 82)])] [])
 (.seq (.region [It 85 (.bin .eql (.t 23) (.c (.i .i64 (23)))),
 Mv 84 85] [])
 (.cond (.t 84)
 (.seq (.region [Mv 86 0,
 Mv 87 0,
 It 88 (.nck (.t 87)),
 Of 89 88 2,
 Of 90 89 4,
 Ld 91 90,
 Of 92 3 0,
 Ld 93 92,
 Mv 94 6,
 Mv 95 0,
 It 96 (.nck (.t 95)),
 Of 97 96 0,
 Of 98 97 1,
 Ld 99 98,
 Of 100 3 1,
 Ld 101 100,
 It 102 (.iaddr 5 (.t 99) (.t 101)),
 Of 103 102 2,
 Ld 104 103,
 It 105 (.build [i0, i0, .ns, (.s []), .ns] [(0, 1, (.t 93)), (2, 1, (.t 94)), (3, 1, (.t 104))]),
 It 106 (.bsl 5 1 [i0, i0, .ns, (.s []), .ns] [(0, 5, (.t 105))]),
 It 107 (.app 5 80 (.t 91) (.t 106)),
 It 108 (.nck (.t 86)),
 Of 109 108 2,
 Of 110 109 4,
 ⟨none, (.store 1 (.t 110) (.t 107)), none, []⟩] [])
 (.region [Mv 111 0,
 Mv 112 6,
 It 113 (.iaddr 7 (.t 112) (.c i0)),
 It 114 (.load (some 7) (.t 113)),
 It 115 (.bsl 7 1 [i0, i0, i0, i0, (.s []), .ns, .ns] [(0, 7, (.t 114))]),
 It 116 (.call 31 [(.t 111), (.t 115)])] []))
 (.seq (.region [It 118 (.bin .eql (.t 23) (.c (.i .i64 (22)))),
 Mv 117 118] [])
 (.cond (.t 117)
 (.region [Mv 119 0,
 Of 120 3 0,
 Ld 121 120,
 Mv 122 6,
 Mv 123 0,
 It 124 (.nck (.t 123)),
 Of 125 124 0,
 Of 126 125 1,
 Ld 127 126,
 Of 128 3 1,
 Ld 129 128,
 It 130 (.iaddr 5 (.t 127) (.t 129)),
 Of 131 130 2,
 Ld 132 131,
 It 133 (.build [i0, i0, .ns, (.s []), .ns] [(0, 1, (.t 121)), (2, 1, (.t 122)), (3, 1, (.t 132))]),
 It 134 (.call 158 [(.t 119), (.t 133)])] [])
 (.seq (.region [It 136 (.bin .eql (.t 23) (.c (.i .i64 (21)))),
 Mv 135 136] [])
 (.cond (.t 135)
 (.seq (.region [It 7 (.mov (.c .ns))] [])
 (.seq (.seq (.region [Mv 137 0,
 It 138 (.nck (.t 137)),
 Of 139 138 0,
 Of 140 139 1,
 Ld 141 140,
 Of 142 3 1,
 Ld 143 142,
 It 144 (.iaddr 5 (.t 141) (.t 143)),
 Of 145 144 3,
 Ld 146 145,
 It 147 (.lenk 0 (.t 146)),
 It 148 (.mov (.c i0))] [])
 (.block 1
 (.loop L133a)))
 (.region [Mv 158 0,
 Of 159 3 0,
 Ld 160 159,
 Mv 161 6,
 Mv 162 7,
 It 163 (.build [i0, i0, .ns, (.s []), .ns] [(0, 1, (.t 160)), (2, 1, (.t 161)), (4, 1, (.t 162))]),
 It 164 (.call 158 [(.t 158), (.t 163)])] [])))
 (.region [Mv 24 0,
 Of 25 3 0,
 Ld 26 25,
 Mv 27 6,
 It 28 (.build [i0, i0, .ns, (.s []), .ns] [(0, 1, (.t 26)), (2, 1, (.t 27))]),
 It 29 (.call 158 [(.t 24), (.t 28)])] [])))))))))))))))))))))),
    165, 2, [], 0⟩
theorem tr133 : trFunc Tryz.prog (hz [(1, [0, 1, 2, 3, 4, 5, 6, 7, 8, 9, 10]), (5, [0, 1, 2, 3, 4, 5, 6, 7, 8, 9, 10, 11, 12, 13]), (7, [0, 1, 2, 3, 4, 5, 6, 7, 8, 9, 10]), (9, [0, 1, 2, 3, 4, 5, 6, 7, 8, 9, 10]), (13, [0, 1, 2, 3, 4, 5, 6, 7, 8]), (15, [0, 1, 2, 3, 4, 5, 6, 7, 8, 9, 10, 11, 12, 13, 14, 15, 16, 17, 18, 19, 20, 21, 22, 23, 24, 25]), (18, [0, 1, 2, 3, 4, 5, 6, 7, 8, 9, 10, 11, 12, 13, 14, 15]), (21, [0, 1, 2, 3, 4, 5, 6, 7, 8, 9, 10, 11])] I133.body) 0 Tryz.f133 = some (plain1 I133) := by kernel_rfl
theorem ck133 : ckC 2 I133.body = true := by kernel_rfl

/-- 'encore/encoreref00.EqTexts'. -/
def L134a : ICode :=
  (.seq (.seq (.region [Mv 11 5,
 Mv 12 0,
 It 13 (.lenk 0 (.t 12)),
 It 14 (.bin .lss (.t 11) (.t 13))] [])
 (.cond (.t 14)
 .skip
 (.exit 0)))
 (.seq (.block 1
 (.seq (.region [Mv 17 0,
 Mv 18 5,
 It 19 (.iaddr 1 (.t 17) (.t 18)),
 Ld 20 19,
 Mv 21 1,
 Mv 22 5,
 It 23 (.iaddr 1 (.t 21) (.t 22)),
 Ld 24 23,
 It 25 (.bin .neq (.t 20) (.t 24))] [])
 (.cond (.t 25)
 (.seq (.region [It 4 (.mov (.c (.b false)))] [])
 .ret)
 .skip)))
 (.region [Mv 15 5,
 It 16 (.bin .add (.t 15) (.c (.i .i64 (1)))),
 Mv 5 16] [])))
def I134 : IFunc :=
  ⟨(.seq (.region [It 4 (.mov (.c (.b false)))] [])
 (.seq (.seq (.region [Mv 6 0,
 It 7 (.lenk 0 (.t 6)),
 Mv 8 1,
 It 9 (.lenk 0 (.t 8)),
 It 10 (.bin .neq (.t 7) (.t 9))] [])
 (.cond (.t 10)
 (.seq (.region [It 4 (.mov (.c (.b false)))] [])
 .ret)
 .skip))
 (.seq (.seq (.region [It 5 (.mov (.c i0))] [])
 (.block 0
 (.loop L134a)))
 (.seq (.region [It 4 (.mov (.c (.b true)))] [])
 .ret)))),
    26, 2, [.t 4], 0⟩
theorem tr134 : trFunc Tryz.prog (hz [(7, [0, 1, 2, 3, 4, 5, 6, 7, 8])] I134.body) 0 Tryz.f134 = some (plain1 I134) := by kernel_rfl
theorem ck134 : ckC 2 I134.body = true := by kernel_rfl

/-- 'slices.IndexFunc[[]encore/api.Instr,encore/api.Instr]'. -/
def L135a : ICode :=
  (.seq (.region [It 9 (.bin .lss (.t 8) (.t 7))] [])
 (.seq (.cond (.t 9)
 .skip
 (.exit 0))
 (.seq (.block 1
 (.seq (.region [Mv 10 8,
 Mv 5 10] [])
 (.seq (.region [Mv 11 1,
 Mv 12 0,
 Mv 13 5,
 It 14 (.iaddr 3 (.t 12) (.t 13)),
 It 15 (.load (some 3) (.t 14)),
 It 16 (.callv (.t 11) [(.t 15)])] [])
 (.cond (.t 16)
 (.seq (.region [Mv 17 5,
 Mv 4 17] [])
 .ret)
 .skip))))
 (.region [It 18 (.bin .add (.t 8) (.c (.i .i64 (1)))),
 Mv 8 18] []))))
def I135 : IFunc :=
  ⟨(.seq (.region [It 4 (.mov (.c i0))] [])
 (.seq (.seq (.region [Mv 6 0,
 It 7 (.lenk 0 (.t 6)),
 It 8 (.mov (.c i0))] [])
 (.block 0
 (.loop L135a)))
 (.seq (.region [It 4 (.mov (.c (.i .i64 (-1))))] [])
 .ret))),
    19, 2, [.t 4], 0⟩
theorem tr135 : trFunc Tryz.prog (hz [] I135.body) 0 Tryz.f135 = some (plain1 I135) := by kernel_rfl
theorem ck135 : ckC 2 I135.body = true := by kernel_rfl


end Go.Proofs.YtpkhhphpjhfoiaaGreatDoor

