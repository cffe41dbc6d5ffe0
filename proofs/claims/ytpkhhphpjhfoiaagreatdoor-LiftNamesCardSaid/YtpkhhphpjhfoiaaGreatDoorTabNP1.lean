import Derived.Test.YtpkhhphpjhfoiaaGreatDoorRows
import Derived.Test.YtpkhhphpjhfoiaaGreatDoorM06
import Derived.Test.YtpkhhphpjhfoiaaGreatDoorM07
set_option linter.unusedVariables false
set_option linter.unusedSimpArgs false
set_option linter.unusedSectionVars false
/- The functions that the statement reaches, as the interpreter has them, with modes. Conditions: none. -/
namespace Go.Proofs.YtpkhhphpjhfoiaaGreatDoor
open Go Go.RI
set_option maxRecDepth 100000
/-- 'encore/base.New'. -/
def L136a : ICode :=
  (.seq (.region [It 56 (.bin .lss (.t 55) (.t 54))] [])
 (.seq (.cond (.t 56)
 .skip
 (.exit 0))
 (.seq (.block 1
 (.seq (.region [Mv 57 55,
 Mv 10 57] [])
 (.seq (.region [Of 58 3 0,
 Ld 59 58,
 Mv 60 10,
 Of 61 3 0,
 Ld 62 61,
 Mv 63 10,
 It 64 (.iaddr 4 (.t 62) (.t 63)),
 Of 65 64 3,
 Ld 66 65,
 ⟨(some 67), (.call 162 [(.t 66)]), none, [(59, (.load none (.t 58)), none)]⟩,
 It 68 (.iaddr 4 (.t 59) (.t 60)),
 Of 69 68 3,
 ⟨none, (.store 1 (.t 69) (.t 67)), none, []⟩] [])
 (.seq (.region [It 71 (.load (some 2) (.t 3)),
 Mv 72 10,
 It 73 (.call 29 [(.t 71), (.t 72)]),
 Mv 70 73,
 Ex 74 70 0,
 Ex 75 70 1,
 Mv 11 74,
 Mv 12 75] [])
 (.seq (.seq (.region [Mv 76 12,
 It 77 (.bin .neq (.t 76) (.c i0))] [])
 (.cond (.t 77)
 (.seq (.region [Mv 78 12,
 It 6 (.mov (.c .np)),
 Mv 7 78] [])
 .ret)
 .skip))
 (.region [Mv 79 9,
 Mv 80 9,
 It 81 (.nck (.t 80)),
 Of 82 81 4,
 Ld 83 82,
 Mv 84 11,
 It 85 (.bsl 1 1 [.ns] [(0, 1, (.t 84))]),
 It 86 (.app 1 24 (.t 83) (.t 85)),
 It 87 (.nck (.t 79)),
 Of 88 87 4,
 ⟨none, (.store 1 (.t 88) (.t 86)), none, []⟩] []))))))
 (.region [It 89 (.bin .add (.t 55) (.c (.i .i64 (1)))),
 Mv 55 89] []))))
def I136 : IFunc :=
  ⟨(.seq (.region [It 3 (.box (.t 0)),
 It 6 (.mov (.c .np)),
 It 7 (.mov (.c i0))] [])
 (.seq (.seq (.region [It 13 (.load (some 2) (.t 3)),
 It 14 (.call 159 [(.t 13)]),
 Mv 8 14] [])
 (.seq (.region [Mv 15 8,
 It 16 (.bin .neq (.t 15) (.c i0))] [])
 (.cond (.t 16)
 (.seq (.region [Mv 17 8,
 It 6 (.mov (.c .np)),
 Mv 7 17] [])
 .ret)
 .skip)))
 (.seq (.seq (.region [Mv 18 1,
 It 19 (.bin .lss (.t 18) (.c i0)),
 Mv 20 19,
 Ig 21 20 false (.mov (.t 1)),
 Ig 22 20 false (.off (.t 3) 0),
 Ig 23 20 false (.load none (.t 22)),
 Ig 24 20 false (.lenk 0 (.t 23)),
 Ig 25 20 false (.bin .geq (.t 21) (.t 24)),
 It 26 (.pick (.t 20) (.c (.b true)) (.t 25))] [])
 (.cond (.t 26)
 (.seq (.region [It 6 (.mov (.c .np)),
 It 7 (.mov (.c (.i .i64 (9))))] [])
 .ret)
 .skip))
 (.seq (.seq (.region [Mv 27 2,
 It 28 (.lenk 0 (.t 27)),
 Of 29 3 0,
 Ld 30 29,
 Mv 31 1,
 It 32 (.iaddr 4 (.t 30) (.t 31)),
 Of 33 32 1,
 Ld 34 33,
 It 35 (.bin .neq (.t 28) (.t 34)),
 Mv 36 35,
 Ig 37 36 false (.mov (.t 2)),
 Ig 38 36 false (.call 160 [(.t 37)]),
 Ig 39 36 false (.un .not (.t 38)),
 It 40 (.pick (.t 36) (.c (.b true)) (.t 39))] [])
 (.cond (.t 40)
 (.seq (.region [It 6 (.mov (.c .np)),
 It 7 (.mov (.c (.i .i64 (2))))] [])
 .ret)
 .skip))
 (.seq (.region [Of 41 3 1,
 Ld 42 41,
 Of 44 3 0,
 Ld 45 44,
 ⟨(some 43), (.call 141 [(.t 42)]), none, [(45, (.load none (.t 44)), none)]⟩,
 Of 47 3 1,
 It 46 (.call 161 [(.t 45)]),
 ⟨none, (.store 1 (.t 47) (.t 43)), none, []⟩,
 Of 48 3 0,
 ⟨none, (.store 1 (.t 48) (.t 46)), none, []⟩] [])
 (.seq (.region [It 49 (.load (some 2) (.t 3)),
 It 50 (.build [.np, .ns, .ns, .ns, .ns, i0, i0, i0, (.s []), i0, i0, (.s []), .ns, .ns, .ns, i0, i0, (.s []), .ns, .ns, i0] [(2, 2, (.t 49))]),
 It 51 (.box (.t 50)),
 Mv 9 51] [])
 (.seq (.seq (.region [Of 52 3 0,
 Ld 53 52,
 It 54 (.lenk 0 (.t 53)),
 It 55 (.mov (.c i0))] [])
 (.block 0
 (.loop L136a)))
 (.seq (.region [Mv 90 9,
 Mv 91 9,
 Mv 92 1,
 Mv 93 2,
 It 94 (.call 141 [(.t 93)]),
 It 95 (.call 163 [(.t 91), (.t 92), (.t 94)]),
 It 96 (.nck (.t 90)),
 Of 97 96 0,
 ⟨none, (.store 1 (.t 97) (.t 95)), none, []⟩] [])
 (.seq (.region [Mv 98 9,
 Mv 6 98,
 It 7 (.mov (.c i0))] [])
 .ret))))))))),
    99, 3, [.t 6, .t 7], 0⟩
theorem tr136 : trFunc Tryz.prog (hz [(11, [0, 1, 3, 4, 2, 6, 5, 7, 8, 9]), (17, [0, 1, 2, 3, 4, 5, 6, 7, 8, 9, 10, 11, 12])] I136.body) 0 Tryz.f136 = some (plain1 I136) := by kernel_rfl
theorem ck136 : ckC 2 I136.body = true := by kernel_rfl

/-- '(*encore/base.Machine).Answer'. -/
def I137 : IFunc :=
  ⟨(.seq (.region [It 3 (.box (.t 1)),
 It 4 (.mov (.c i0))] [])
 (.seq (.block 0
 (.seq (.region [Mv 6 0,
 It 7 (.call 139 [(.t 6)]),
 Mv 5 7] [])
 (.cond (.t 5)
 (.seq (.region [It 4 (.mov (.c (.i .i64 (1))))] [])
 .ret)
 (.seq (.region [Mv 9 0,
 It 10 (.nck (.t 9)),
 Of 11 10 5,
 Ld 12 11,
 It 13 (.bin .neq (.t 12) (.c (.i .i64 (1)))),
 Mv 8 13] [])
 (.cond (.t 8)
 (.seq (.region [It 4 (.mov (.c (.i .i64 (180))))] [])
 .ret)
 (.seq (.region [Of 15 3 1,
 It 16 (.load (some 5) (.t 15)),
 It 17 (.call 86 [(.t 16)]),
 It 18 (.bin .neq (.t 17) (.c i0)),
 Mv 14 18] [])
 (.cond (.t 14)
 (.seq (.region [It 4 (.mov (.c (.i .i64 (2))))] [])
 .ret)
 .skip)))))))
 (.seq (.region [Mv 19 0,
 Mv 20 0,
 It 21 (.build [i0, (.s []), i0, i0, (.s []), .ns, .ns, .ns] []),
 It 22 (.nck (.t 19)),
 Of 23 22 5,
 ⟨none, (.store 1 (.t 23) (.c i0)), none, []⟩,
 It 24 (.nck (.t 20)),
 Of 25 24 7,
 ⟨none, (.store 8 (.t 25) (.t 21)), none, []⟩] [])
 (.seq (.region [Mv 26 0,
 Of 27 3 1,
 It 28 (.load (some 5) (.t 27)),
 Of 30 3 0,
 Ld 31 30,
 ⟨(some 29), (.call 165 [(.t 28)]), none, [(31, (.load none (.t 30)), none)]⟩,
 It 32 (.call 164 [(.t 26), (.t 29), (.t 31), (.c i0)])] [])
 (.seq (.region [It 4 (.mov (.c i0))] [])
 .ret))))),
    33, 2, [.t 4], 0⟩
theorem tr137 : trFunc Tryz.prog (hz [(9, [0, 1, 2, 4, 5, 3, 6])] I137.body) 0 Tryz.f137 = some (plain1 I137) := by kernel_rfl
theorem ck137 : ckC 2 I137.body = true := by kernel_rfl

/-- '(*encore/base.Machine).Run'. -/
def L138a : ICode :=
  (.seq (.seq (.region [Mv 6 5,
 Mv 7 1,
 It 8 (.bin .lss (.t 6) (.t 7)),
 Mv 9 8,
 Ig 10 9 true (.mov (.t 0)),
 Ig 11 9 true (.call 82 [(.t 10)]),
 Ig 12 9 true (.bin .eql (.t 11) (.c i0)),
 It 13 (.pick (.t 9) (.t 12) (.c (.b false)))] [])
 (.cond (.t 13)
 .skip
 (.exit 0)))
 (.block 1
 (.region [Mv 14 5,
 It 15 (.bin .add (.t 14) (.c (.i .i64 (1)))),
 Mv 5 15] [])))
def I138 : IFunc :=
  ⟨(.seq (.region [It 4 (.mov (.c i0))] [])
 (.seq (.region [It 5 (.mov (.c i0))] [])
 (.seq (.block 0
 (.loop L138a))
 (.seq (.region [Mv 16 5,
 Mv 4 16] [])
 .ret)))),
    17, 2, [.t 4], 0⟩
theorem tr138 : trFunc Tryz.prog (hz [] I138.body) 0 Tryz.f138 = some (plain1 I138) := by kernel_rfl
theorem ck138 : ckC 2 I138.body = true := by kernel_rfl

/-- '(*encore/base.Machine).none'. -/
def I139 : IFunc :=
  ⟨(.seq (.region [It 2 (.mov (.c (.b false)))] [])
 (.seq (.region [Mv 3 0,
 It 4 (.eqNil 1 false (.t 3) (.c .np)),
 Mv 5 4,
 Ig 6 5 false (.mov (.t 0)),
 Ig 7 5 false (.nck (.t 6)),
 Ig 8 5 false (.off (.t 7) 4),
 Ig 9 5 false (.load none (.t 8)),
 Ig 10 5 false (.lenk 0 (.t 9)),
 Ig 11 5 false (.bin .eql (.t 10) (.c i0)),
 It 12 (.pick (.t 5) (.c (.b true)) (.t 11)),
 Mv 2 12] [])
 .ret)),
    13, 1, [.t 2], 0⟩
theorem tr139 : trFunc Tryz.prog (hz [] I139.body) 0 Tryz.f139 = some (plain1 I139) := by kernel_rfl
theorem ck139 : ckC 2 I139.body = true := by kernel_rfl

/-- 'slices.Clone[[]*encore/base.frame,*encore/base.frame]'. -/
def I140 : IFunc := ⟨cloneCode 1 8, 8, 1, [.t 2], 4⟩
theorem tr140 : trFunc Tryz.prog [([], []), ([], []), ([], []), ([], []), ([], [])] 1 Tryz.f140 = some (plain1 I140) := by kernel_rfl
theorem ck140 : ckC 2 (cloneCode 1 8) = true := by kernel_rfl

/-- 'encore/base.all'. -/
def L141a : ICode :=
  (.seq (.region [It 10 (.bin .lss (.t 9) (.t 8))] [])
 (.seq (.cond (.t 10)
 .skip
 (.exit 0))
 (.seq (.block 1
 (.seq (.region [Mv 11 9,
 Mv 4 11] [])
 (.region [Mv 12 3,
 Mv 13 4,
 Mv 14 3,
 Mv 15 4,
 It 16 (.iaddr 5 (.t 14) (.t 15)),
 It 17 (.load (some 5) (.t 16)),
 It 18 (.call 165 [(.t 17)]),
 It 19 (.iaddr 5 (.t 12) (.t 13)),
 ⟨none, (.store 5 (.t 19) (.t 18)), none, []⟩] [])))
 (.region [It 20 (.bin .add (.t 9) (.c (.i .i64 (1)))),
 Mv 9 20] []))))
def I141 : IFunc :=
  ⟨(.seq (.region [It 2 (.mov (.c .ns))] [])
 (.seq (.region [Mv 5 0,
 It 6 (.call 114 [(.t 5)]),
 Mv 3 6] [])
 (.seq (.seq (.region [Mv 7 3,
 It 8 (.lenk 0 (.t 7)),
 It 9 (.mov (.c i0))] [])
 (.block 0
 (.loop L141a)))
 (.seq (.region [Mv 21 3,
 Mv 2 21] [])
 .ret)))),
    22, 1, [.t 2], 0⟩
theorem tr141 : trFunc Tryz.prog (hz [] I141.body) 0 Tryz.f141 = some (plain1 I141) := by kernel_rfl
theorem ck141 : ckC 2 I141.body = true := by kernel_rfl

/-- 'encore/encorelaw20.fell'. -/
def I142 : IFunc :=
  ⟨(.seq (.region [It 6 (.mov (.c (.b false)))] [])
 (.seq (.region [Mv 8 0,
 It 9 (.call 80 [(.t 8)]),
 Mv 7 9] [])
 (.seq (.region [Mv 10 7,
 It 11 (.lenk 0 (.t 10)),
 Mv 12 1,
 It 13 (.bin .lss (.t 11) (.t 12)),
 Mv 14 13,
 Ig 15 14 false (.mov (.t 7)),
 Ig 16 14 false (.lenk 0 (.t 15)),
 Ig 17 14 false (.mov (.t 1)),
 Ig 18 14 false (.bin .eql (.t 16) (.t 17)),
 Ig 19 14 false (.mov (.t 18)),
 Ig 20 19 true (.mov (.t 7)),
 Ig 21 19 true (.lenk 0 (.t 20)),
 Ig 22 19 true (.bin .gtr (.t 21) (.c i0)),
 Ig 23 14 false (.pick (.t 19) (.t 22) (.c (.b false))),
 Ig 24 14 false (.mov (.t 23)),
 Ig 25 24 true (.mov (.t 7)),
 Ig 26 24 true (.mov (.t 7)),
 Ig 27 24 true (.lenk 0 (.t 26)),
 Ig 28 24 true (.bin .sub (.t 27) (.c (.i .i64 (1)))),
 Ig 29 24 true (.iaddr 5 (.t 25) (.t 28)),
 Ig 30 24 true (.off (.t 29) 4),
 Ig 31 24 true (.load none (.t 30)),
 Ig 32 24 true (.lenk 0 (.t 31)),
 Ig 33 24 true (.mov (.t 2)),
 Ig 34 24 true (.bin .lss (.t 32) (.t 33)),
 Ig 35 14 false (.pick (.t 24) (.t 34) (.c (.b false))),
 It 36 (.pick (.t 14) (.c (.b true)) (.t 35)),
 Mv 6 36] [])
 .ret))),
    37, 3, [.t 6], 0⟩
theorem tr142 : trFunc Tryz.prog (hz [] I142.body) 0 Tryz.f142 = some (plain1 I142) := by kernel_rfl
theorem ck142 : ckC 2 I142.body = true := by kernel_rfl

/-- 'encore/encorelaw20.sameBelow'. -/
def L143a : ICode :=
  (.seq (.seq (.region [Mv 6 5,
 It 7 (.bin .add (.t 6) (.c (.i .i64 (1)))),
 Mv 8 0,
 It 9 (.lenk 0 (.t 8)),
 It 10 (.bin .lss (.t 7) (.t 9)),
 Mv 11 10,
 Ig 12 11 true (.mov (.t 5)),
 Ig 13 11 true (.bin .add (.t 12) (.c (.i .i64 (1)))),
 Ig 14 11 true (.mov (.t 1)),
 Ig 15 11 true (.lenk 0 (.t 14)),
 Ig 16 11 true (.bin .lss (.t 13) (.t 15)),
 It 17 (.pick (.t 11) (.t 16) (.c (.b false)))] [])
 (.cond (.t 17)
 .skip
 (.exit 0)))
 (.seq (.block 1
 (.seq (.region [Mv 20 0,
 Mv 21 5,
 It 22 (.iaddr 5 (.t 20) (.t 21)),
 Of 23 22 0,
 Ld 24 23,
 Mv 25 1,
 Mv 26 5,
 It 27 (.iaddr 5 (.t 25) (.t 26)),
 Of 28 27 0,
 Ld 29 28,
 It 30 (.bin .neq (.t 24) (.t 29)),
 Mv 31 30,
 Ig 32 31 false (.mov (.t 0)),
 Ig 33 31 false (.mov (.t 5)),
 Ig 34 31 false (.iaddr 5 (.t 32) (.t 33)),
 Ig 35 31 false (.off (.t 34) 1),
 Ig 36 31 false (.load none (.t 35)),
 Ig 37 31 false (.mov (.t 1)),
 Ig 38 31 false (.mov (.t 5)),
 Ig 39 31 false (.iaddr 5 (.t 37) (.t 38)),
 Ig 40 31 false (.off (.t 39) 1),
 Ig 41 31 false (.load none (.t 40)),
 Ig 42 31 false (.bin .neq (.t 36) (.t 41)),
 It 43 (.pick (.t 31) (.c (.b true)) (.t 42)),
 Mv 44 43,
 Ig 45 44 false (.mov (.t 0)),
 Ig 46 44 false (.mov (.t 5)),
 Ig 47 44 false (.iaddr 5 (.t 45) (.t 46)),
 Ig 48 44 false (.off (.t 47) 2),
 Ig 49 44 false (.load none (.t 48)),
 Ig 50 44 false (.mov (.t 1)),
 Ig 51 44 false (.mov (.t 5)),
 Ig 52 44 false (.iaddr 5 (.t 50) (.t 51)),
 Ig 53 44 false (.off (.t 52) 2),
 Ig 54 44 false (.load none (.t 53)),
 Ig 55 44 false (.call 72 [(.t 49), (.t 54)]),
 Ig 56 44 false (.un .not (.t 55)),
 It 57 (.pick (.t 44) (.c (.b true)) (.t 56)),
 Mv 58 57,
 Ig 59 58 false (.mov (.t 0)),
 Ig 60 58 false (.mov (.t 5)),
 Ig 61 58 false (.iaddr 5 (.t 59) (.t 60)),
 Ig 62 58 false (.off (.t 61) 3),
 Ig 63 58 false (.load none (.t 62)),
 Ig 64 58 false (.mov (.t 1)),
 Ig 65 58 false (.mov (.t 5)),
 Ig 66 58 false (.iaddr 5 (.t 64) (.t 65)),
 Ig 67 58 false (.off (.t 66) 3),
 Ig 68 58 false (.load none (.t 67)),
 Ig 69 58 false (.call 72 [(.t 63), (.t 68)]),
 Ig 70 58 false (.un .not (.t 69)),
 It 71 (.pick (.t 58) (.c (.b true)) (.t 70))] [])
 (.cond (.t 71)
 (.seq (.region [It 4 (.mov (.c (.b false)))] [])
 .ret)
 .skip)))
 (.region [Mv 18 5,
 It 19 (.bin .add (.t 18) (.c (.i .i64 (1)))),
 Mv 5 19] [])))
def I143 : IFunc :=
  ⟨(.seq (.region [It 4 (.mov (.c (.b false)))] [])
 (.seq (.seq (.region [It 5 (.mov (.c i0))] [])
 (.block 0
 (.loop L143a)))
 (.seq (.region [Mv 72 0,
 It 73 (.lenk 0 (.t 72)),
 Mv 74 1,
 It 75 (.lenk 0 (.t 74)),
 It 76 (.bin .eql (.t 73) (.t 75)),
 Mv 77 76,
 Ig 78 77 true (.mov (.t 0)),
 Ig 79 77 true (.lenk 0 (.t 78)),
 Ig 80 77 true (.bin .gtr (.t 79) (.c i0)),
 It 81 (.pick (.t 77) (.t 80) (.c (.b false))),
 Mv 4 81] [])
 .ret))),
    82, 2, [.t 4], 0⟩
theorem tr143 : trFunc Tryz.prog (hz [(4, [0, 1, 2, 3, 4, 5, 6, 7, 8, 9, 10, 11, 12, 13, 14, 15, 16, 17, 18, 19, 20, 21, 22, 23, 24, 25, 26, 27, 28, 29, 30, 31, 32, 33, 34, 35, 36, 37, 38, 39, 40, 41, 42, 43, 44, 45, 46, 47, 48, 49, 50, 51])] I143.body) 0 Tryz.f143 = some (plain1 I143) := by kernel_rfl
theorem ck143 : ckC 2 I143.body = true := by kernel_rfl

/-- '(*encore/base.Machine).does'. -/
def I144 : IFunc :=
  ⟨(.seq (.region [It 4 (.mov (.c .nf))] [])
 (.seq (.block 0
 (.seq (.region [Mv 6 1,
 It 7 (.bin .eql (.t 6) (.c (.i .i64 (1)))),
 Mv 8 7,
 Ig 9 8 false (.mov (.t 1)),
 Ig 10 8 false (.bin .eql (.t 9) (.c (.i .i64 (2)))),
 It 11 (.pick (.t 8) (.c (.b true)) (.t 10)),
 Mv 5 11] [])
 (.cond (.t 5)
 (.seq (.region [Mv 12 0,
 It 13 (.mkf 166 [(.t 12)] []),
 Mv 4 13] [])
 .ret)
 (.seq (.region [Mv 15 1,
 It 16 (.bin .eql (.t 15) (.c (.i .i64 (3)))),
 Mv 17 16,
 Ig 18 17 false (.mov (.t 1)),
 Ig 19 17 false (.bin .eql (.t 18) (.c (.i .i64 (4)))),
 It 20 (.pick (.t 17) (.c (.b true)) (.t 19)),
 Mv 14 20] [])
 (.cond (.t 14)
 (.seq (.region [Mv 21 0,
 It 22 (.mkf 167 [(.t 21)] []),
 Mv 4 22] [])
 .ret)
 (.seq (.region [Mv 24 1,
 It 25 (.bin .eql (.t 24) (.c (.i .i64 (5)))),
 Mv 23 25] [])
 (.cond (.t 23)
 (.seq (.region [Mv 26 0,
 It 27 (.mkf 168 [(.t 26)] []),
 Mv 4 27] [])
 .ret)
 (.seq (.region [Mv 29 1,
 It 30 (.bin .leq (.t 29) (.c (.i .i64 (8)))),
 Mv 28 30] [])
 (.cond (.t 28)
 (.seq (.region [Mv 31 0,
 It 32 (.mkf 169 [(.t 31)] []),
 Mv 4 32] [])
 .ret)
 (.seq (.region [Mv 34 1,
 It 35 (.bin .leq (.t 34) (.c (.i .i64 (19)))),
 Mv 33 35] [])
 (.cond (.t 33)
 (.seq (.region [Mv 36 0,
 It 37 (.mkf 170 [(.t 36)] []),
 Mv 4 37] [])
 .ret)
 .skip)))))))))))
 (.seq (.seq (.region [Mv 38 1] [])
 (.block 1
 (.seq (.region [It 40 (.bin .eql (.t 38) (.c (.i .i64 (20)))),
 Mv 39 40] [])
 (.cond (.t 39)
 (.seq (.region [Mv 41 0,
 It 42 (.mkf 171 [(.t 41)] []),
 Mv 4 42] [])
 .ret)
 (.seq (.region [It 44 (.bin .eql (.t 38) (.c (.i .i64 (21)))),
 Mv 43 44] [])
 (.cond (.t 43)
 (.seq (.region [Mv 45 0,
 It 46 (.mkf 172 [(.t 45)] []),
 Mv 4 46] [])
 .ret)
 (.seq (.region [It 48 (.bin .eql (.t 38) (.c (.i .i64 (22)))),
 Mv 47 48] [])
 (.cond (.t 47)
 (.seq (.region [Mv 49 0,
 It 50 (.mkf 173 [(.t 49)] []),
 Mv 4 50] [])
 .ret)
 (.seq (.region [It 52 (.bin .eql (.t 38) (.c (.i .i64 (23)))),
 Mv 51 52] [])
 (.cond (.t 51)
 (.seq (.region [Mv 53 0,
 It 54 (.mkf 174 [(.t 53)] []),
 Mv 4 54] [])
 .ret)
 (.seq (.region [It 56 (.bin .eql (.t 38) (.c (.i .i64 (24)))),
 Mv 55 56] [])
 (.cond (.t 55)
 (.seq (.region [Mv 57 0,
 It 58 (.mkf 175 [(.t 57)] []),
 Mv 4 58] [])
 .ret)
 (.seq (.region [It 60 (.bin .eql (.t 38) (.c (.i .i64 (25)))),
 Mv 59 60] [])
 (.cond (.t 59)
 (.seq (.region [Mv 61 0,
 It 62 (.mkf 176 [(.t 61)] []),
 Mv 4 62] [])
 .ret)
 (.seq (.region [It 64 (.bin .eql (.t 38) (.c (.i .i64 (26)))),
 Mv 63 64] [])
 (.cond (.t 63)
 (.seq (.region [Mv 65 0,
 It 66 (.mkf 177 [(.t 65)] []),
 Mv 4 66] [])
 .ret)
 (.seq (.region [It 68 (.bin .eql (.t 38) (.c (.i .i64 (27)))),
 Mv 67 68] [])
 (.cond (.t 67)
 (.seq (.region [Mv 69 0,
 It 70 (.mkf 178 [(.t 69)] []),
 Mv 4 70] [])
 .ret)
 (.seq (.region [It 72 (.bin .eql (.t 38) (.c (.i .i64 (28)))),
 Mv 71 72] [])
 (.cond (.t 71)
 (.seq (.region [Mv 73 0,
 It 74 (.mkf 179 [(.t 73)] []),
 Mv 4 74] [])
 .ret)
 (.seq (.region [It 76 (.bin .eql (.t 38) (.c (.i .i64 (29)))),
 Mv 75 76] [])
 (.cond (.t 75)
 (.seq (.region [Mv 77 0,
 It 78 (.mkf 180 [(.t 77)] []),
 Mv 4 78] [])
 .ret)
 (.seq (.region [It 80 (.bin .eql (.t 38) (.c (.i .i64 (30)))),
 Mv 79 80] [])
 (.cond (.t 79)
 (.seq (.region [Mv 81 0,
 It 82 (.mkf 181 [(.t 81)] []),
 Mv 4 82] [])
 .ret)
 .skip))))))))))))))))))))))))
 (.seq (.region [Mv 83 0,
 It 84 (.mkf 182 [(.t 83)] []),
 Mv 4 84] [])
 .ret)))),
    85, 2, [.t 4], 0⟩
theorem tr144 : trFunc Tryz.prog (hz [] I144.body) 0 Tryz.f144 = some (plain1 I144) := by kernel_rfl
theorem ck144 : ckC 2 I144.body = true := by kernel_rfl

/-- 'encore/value.typed'. -/
def I145 : IFunc :=
  ⟨(.seq (.region [It 2 (.alloc [i0, .ns, .ns]),
 It 3 (.mov (.c (.b false)))] [])
 (.seq (.seq (.region [Mv 7 0,
 It 8 (.lenk 1 (.t 7)),
 It 9 (.bin .gtr (.t 8) (.c (.i .i64 (64))))] [])
 (.cond (.t 9)
 (.seq (.region [It 10 (.build [i0, .ns, .ns] []),
 ⟨none, (.store 3 (.t 2) (.t 10)), none, []⟩,
 It 3 (.mov (.c (.b false)))] [])
 .ret)
 .skip))
 (.seq (.region [Mv 12 0,
 It 13 (.call 183 [(.t 12)]),
 Mv 11 13,
 Ex 14 11 0,
 Ex 15 11 1,
 Ex 16 11 2,
 It 4 (.alloc [i0, .ns, .ns]),
 ⟨none, (.store 3 (.t 4) (.t 14)), none, []⟩,
 Mv 5 15,
 Mv 6 16] [])
 (.seq (.region [It 17 (.load (some 3) (.t 4)),
 Mv 18 6,
 Mv 19 18,
 Ig 20 19 true (.mov (.t 5)),
 Ig 21 19 true (.bin .eql (.t 20) (.c (.s []))),
 It 22 (.pick (.t 19) (.t 21) (.c (.b false))),
 ⟨none, (.store 3 (.t 2) (.t 17)), none, []⟩,
 Mv 3 22] [])
 .ret)))),
    23, 1, [.c 2 (some 3), .t 3], 0⟩
theorem tr145 : trFunc Tryz.prog (hz [] I145.body) 0 Tryz.f145 = some (plain1 I145) := by kernel_rfl
theorem ck145 : ckC 2 I145.body = true := by kernel_rfl

/-- 'encore/value.fits'. -/
def L146a : ICode :=
  (.seq (.region [It 22 (.bin .lss (.t 21) (.t 20))] [])
 (.seq (.cond (.t 22)
 .skip
 (.exit 0))
 (.seq (.block 1
 (.seq (.region [It 23 (.iaddr 1 (.t 19) (.t 21)),
 Ld 24 23,
 Mv 9 24] [])
 (.region [Mv 25 2,
 Mv 26 9,
 It 27 (.lenk 1 (.t 26)),
 It 28 (.bin .sub (.t 25) (.t 27)),
 Mv 2 28] [])))
 (.region [It 29 (.bin .add (.t 21) (.c (.i .i64 (1)))),
 Mv 21 29] []))))
def L146b : ICode :=
  (.seq (.region [It 45 (.bin .lss (.t 44) (.t 43))] [])
 (.seq (.cond (.t 45)
 .skip
 (.exit 2))
 (.seq (.block 3
 (.seq (.region [Mv 46 44,
 Mv 11 46] [])
 (.seq (.region [Of 48 3 3,
 Ld 49 48,
 Mv 50 11,
 It 51 (.iaddr 5 (.t 49) (.t 50)),
 It 52 (.load (some 5) (.t 51)),
 Mv 53 1,
 It 54 (.bin .add (.t 53) (.c (.i .i64 (1)))),
 Mv 55 2,
 It 56 (.call 146 [(.t 52), (.t 54), (.t 55)]),
 Mv 47 56,
 Ex 57 47 0,
 Ex 58 47 1,
 Mv 2 57,
 Mv 10 58] [])
 (.seq (.region [Mv 59 10,
 It 60 (.un .not (.t 59))] [])
 (.cond (.t 60)
 (.seq (.region [It 6 (.mov (.c i0)),
 It 7 (.mov (.c (.b false)))] [])
 .ret)
 .skip)))))
 (.region [It 61 (.bin .add (.t 44) (.c (.i .i64 (1)))),
 Mv 44 61] []))))
def I146 : IFunc :=
  ⟨(.seq (.region [It 3 (.box (.t 0)),
 It 6 (.mov (.c i0)),
 It 7 (.mov (.c (.b false)))] [])
 (.seq (.region [Mv 12 2,
 Of 13 3 2,
 Ld 14 13,
 It 15 (.lenk 1 (.t 14)),
 It 16 (.bin .add (.c (.i .i64 (1))) (.t 15)),
 It 17 (.bin .sub (.t 12) (.t 16)),
 Mv 2 17] [])
 (.seq (.seq (.region [Of 18 3 4,
 Ld 19 18,
 It 20 (.lenk 0 (.t 19)),
 It 21 (.mov (.c i0))] [])
 (.block 0
 (.loop L146a)))
 (.seq (.seq (.region [Mv 30 1,
 It 31 (.bin .geq (.t 30) (.c (.i .i64 (8)))),
 Mv 32 31,
 Ig 33 32 false (.mov (.t 2)),
 Ig 34 32 false (.bin .lss (.t 33) (.c i0)),
 It 35 (.pick (.t 32) (.c (.b true)) (.t 34)),
 Mv 36 35,
 Ig 37 36 false (.load (some 5) (.t 3)),
 Ig 38 36 false (.call 184 [(.t 37)]),
 Ig 39 36 false (.un .not (.t 38)),
 It 40 (.pick (.t 36) (.c (.b true)) (.t 39))] [])
 (.cond (.t 40)
 (.seq (.region [It 6 (.mov (.c i0)),
 It 7 (.mov (.c (.b false)))] [])
 .ret)
 .skip))
 (.seq (.region [It 10 (.mov (.c (.b true)))] [])
 (.seq (.seq (.region [Of 41 3 3,
 Ld 42 41,
 It 43 (.lenk 0 (.t 42)),
 It 44 (.mov (.c i0))] [])
 (.block 2
 (.loop L146b)))
 (.seq (.region [Mv 62 2,
 Mv 6 62,
 It 7 (.mov (.c (.b true)))] [])
 .ret))))))),
    63, 3, [.t 6, .t 7], 0⟩
theorem tr146 : trFunc Tryz.prog (hz [] I146.body) 0 Tryz.f146 = some (plain1 I146) := by kernel_rfl
theorem ck146 : ckC 2 I146.body = true := by kernel_rfl

/-- 'encore/arith.made'. -/
def I147 : IFunc :=
  ⟨(.seq (.region [It 1 (.box (.t 0)),
 It 2 (.alloc [i0, i0, (.s []), .ns, .ns]),
 It 3 (.mov (.c i0))] [])
 (.seq (.seq (.region [It 4 (.load (some 5) (.t 1)),
 It 5 (.call 86 [(.t 4)]),
 It 6 (.bin .neq (.t 5) (.c i0))] [])
 (.cond (.t 6)
 (.seq (.region [It 7 (.build [i0, i0, (.s []), .ns, .ns] []),
 ⟨none, (.store 5 (.t 2) (.t 7)), none, []⟩,
 It 3 (.mov (.c (.i .i64 (4))))] [])
 .ret)
 .skip))
 (.seq (.region [It 8 (.load (some 5) (.t 1)),
 It 9 (.call 111 [(.t 8)]),
 ⟨none, (.store 5 (.t 2) (.t 9)), none, []⟩,
 It 3 (.mov (.c i0))] [])
 .ret))),
    10, 1, [.c 2 (some 5), .t 3], 0⟩
theorem tr147 : trFunc Tryz.prog (hz [] I147.body) 0 Tryz.f147 = some (plain1 I147) := by kernel_rfl
theorem ck147 : ckC 2 I147.body = true := by kernel_rfl

/-- 'encore/arith.named'. -/
def I148 : IFunc :=
  ⟨(.seq (.region [It 2 (.mov (.c (.b false)))] [])
 (.seq (.region [Mv 4 0,
 Mv 5 0,
 It 6 (.lenk 0 (.t 5)),
 It 7 (.mksl 5 80 [i0, i0, (.s []), .ns, .ns] (.t 6) (.t 6)),
 It 8 (.build [i0, i0, (.s []), .ns, .ns] [(0, 1, (.c (.i .i64 (5)))), (4, 1, (.t 4)), (3, 1, (.t 7))]),
 It 3 (.alloc [i0, i0, (.s []), .ns, .ns]),
 ⟨none, (.store 5 (.t 3) (.t 8)), none, []⟩] [])
 (.seq (.region [Mv 9 0,
 It 10 (.lenk 0 (.t 9)),
 It 11 (.bin .leq (.t 10) (.c (.i .i64 (8)))),
 Mv 12 11,
 Ig 13 12 true (.load (some 5) (.t 3)),
 Ig 14 12 true (.call 86 [(.t 13)]),
 Ig 15 12 true (.bin .eql (.t 14) (.c i0)),
 It 16 (.pick (.t 12) (.t 15) (.c (.b false))),
 Mv 2 16] [])
 .ret))),
    17, 1, [.t 2], 0⟩
theorem tr148 : trFunc Tryz.prog (hz [] I148.body) 0 Tryz.f148 = some (plain1 I148) := by kernel_rfl
theorem ck148 : ckC 2 I148.body = true := by kernel_rfl

/-- 'slices.BinarySearch[[]string,string]'. -/
def L149a : ICode :=
  (.seq (.seq (.region [Mv 13 7,
 Mv 14 8,
 It 15 (.bin .lss (.t 13) (.t 14))] [])
 (.cond (.t 15)
 .skip
 (.exit 0)))
 (.block 1
 (.seq (.region [Mv 16 7,
 Mv 17 8,
 It 18 (.bin .add (.t 16) (.t 17)),
 It 19 (.conv .u64 (.t 18)),
 It 20 (.bin .shr (.t 19) (.c (.i .u64 (1)))),
 It 21 (.conv .i64 (.t 20)),
 Mv 9 21] [])
 (.seq (.region [Mv 22 0,
 Mv 23 9,
 It 24 (.iaddr 1 (.t 22) (.t 23)),
 Ld 25 24,
 Mv 26 1,
 It 27 (.call 185 [(.t 25), (.t 26)])] [])
 (.cond (.t 27)
 (.region [Mv 28 9,
 It 29 (.bin .add (.t 28) (.c (.i .i64 (1)))),
 Mv 7 29] [])
 (.region [Mv 30 9,
 Mv 8 30] []))))))
def I149 : IFunc :=
  ⟨(.seq (.region [It 4 (.mov (.c i0)),
 It 5 (.mov (.c (.b false)))] [])
 (.seq (.region [Mv 10 0,
 It 11 (.lenk 0 (.t 10)),
 Mv 6 11] [])
 (.seq (.region [Mv 12 6,
 It 7 (.mov (.c i0)),
 Mv 8 12] [])
 (.seq (.block 0
 (.loop L149a))
 (.seq (.region [Mv 31 7,
 Mv 32 7,
 Mv 33 6,
 It 34 (.bin .lss (.t 32) (.t 33)),
 Mv 35 34,
 Ig 36 35 true (.mov (.t 0)),
 Ig 37 35 true (.mov (.t 7)),
 Ig 38 35 true (.iaddr 1 (.t 36) (.t 37)),
 Ig 39 35 true (.load none (.t 38)),
 Ig 40 35 true (.mov (.t 1)),
 Ig 41 35 true (.bin .eql (.t 39) (.t 40)),
 Ig 42 35 true (.mov (.t 41)),
 Ig 43 42 false (.mov (.t 0)),
 Ig 44 42 false (.mov (.t 7)),
 Ig 45 42 false (.iaddr 1 (.t 43) (.t 44)),
 Ig 46 42 false (.load none (.t 45)),
 Ig 47 42 false (.call 186 [(.t 46)]),
 Ig 48 42 false (.mov (.t 47)),
 Ig 49 48 true (.mov (.t 1)),
 Ig 50 48 true (.call 186 [(.t 49)]),
 Ig 51 42 false (.pick (.t 48) (.t 50) (.c (.b false))),
 Ig 52 35 true (.pick (.t 42) (.c (.b true)) (.t 51)),
 It 53 (.pick (.t 35) (.t 52) (.c (.b false))),
 Mv 4 31,
 Mv 5 53] [])
 .ret))))),
    54, 2, [.t 4, .t 5], 0⟩
theorem tr149 : trFunc Tryz.prog (hz [] I149.body) 0 Tryz.f149 = some (plain1 I149) := by kernel_rfl
theorem ck149 : ckC 2 I149.body = true := by kernel_rfl

/-- '(encore/value.shape).has'. -/
def L150a : ICode :=
  (.seq (.region [It 24 (.bin .lss (.t 23) (.t 22))] [])
 (.seq (.cond (.t 24)
 .skip
 (.exit 0))
 (.seq (.block 1
 (.seq (.region [Mv 25 23,
 It 26 (.iaddr 5 (.t 21) (.t 23)),
 It 27 (.load (some 5) (.t 26)),
 It 6 (.alloc [i0, i0, (.s []), .ns, .ns]),
 Mv 5 25,
 ⟨none, (.store 5 (.t 6) (.t 27)), none, []⟩] [])
 (.seq (.seq (.region [Of 28 2 0,
 Ld 29 28,
 It 30 (.bin .eql (.t 29) (.c (.i .i64 (4))))] [])
 (.cond (.t 30)
 (.region [It 5 (.mov (.c i0))] [])
 .skip))
 (.seq (.region [Of 31 2 2,
 Ld 32 31,
 Mv 33 5,
 It 34 (.iaddr 3 (.t 32) (.t 33)),
 It 35 (.load (some 3) (.t 34)),
 It 36 (.load (some 5) (.t 6)),
 It 37 (.call 150 [(.t 35), (.t 36)]),
 It 38 (.un .not (.t 37))] [])
 (.cond (.t 38)
 (.seq (.region [It 4 (.mov (.c (.b false)))] [])
 .ret)
 .skip)))))
 (.region [It 39 (.bin .add (.t 23) (.c (.i .i64 (1)))),
 Mv 23 39] []))))
def I150 : IFunc :=
  ⟨(.seq (.region [It 2 (.box (.t 0)),
 It 3 (.box (.t 1)),
 It 4 (.mov (.c (.b false)))] [])
 (.seq (.seq (.region [Of 7 3 0,
 Ld 8 7,
 Of 9 2 0,
 Ld 10 9,
 It 11 (.bin .neq (.t 8) (.t 10)),
 Mv 12 11,
 Ig 13 12 false (.off (.t 3) 4),
 Ig 14 12 false (.load none (.t 13)),
 Ig 15 12 false (.off (.t 2) 1),
 Ig 16 12 false (.load none (.t 15)),
 Ig 17 12 false (.call 117 [(.t 14), (.t 16)]),
 Ig 18 12 false (.un .not (.t 17)),
 It 19 (.pick (.t 12) (.c (.b true)) (.t 18))] [])
 (.cond (.t 19)
 (.seq (.region [It 4 (.mov (.c (.b false)))] [])
 .ret)
 .skip))
 (.seq (.seq (.region [Of 20 3 3,
 Ld 21 20,
 It 22 (.lenk 0 (.t 21)),
 It 23 (.mov (.c i0))] [])
 (.block 0
 (.loop L150a)))
 (.seq (.region [It 4 (.mov (.c (.b true)))] [])
 .ret)))),
    40, 2, [.t 4], 0⟩
theorem tr150 : trFunc Tryz.prog (hz [(11, [0, 1, 2, 3, 4, 5, 6, 7])] I150.body) 0 Tryz.f150 = some (plain1 I150) := by kernel_rfl
theorem ck150 : ckC 2 I150.body = true := by kernel_rfl

/-- 'encore/lift.ints$1'. -/
def I151 : IFunc :=
  ⟨(.seq (.region [It 1 (.box (.t 0)),
 It 2 (.mov (.c (.b false)))] [])
 (.seq (.region [Of 3 1 0,
 Ld 4 3,
 It 5 (.bin .neq (.t 4) (.c (.i .i64 (1)))),
 Mv 2 5] [])
 .ret)),
    6, 1, [.t 2], 0⟩
theorem tr151 : trFunc Tryz.prog (hz [] I151.body) 0 Tryz.f151 = some (plain1 I151) := by kernel_rfl
theorem ck151 : ckC 2 I151.body = true := by kernel_rfl

/-- 'encore/arith.may$1'. -/
def I152 : IFunc :=
  ⟨(.seq (.region [It 1 (.box (.t 0)),
 It 2 (.mov (.c (.b false)))] [])
 (.seq (.region [It 3 (.load (some 5) (.t 1)),
 It 4 (.call 86 [(.t 3)]),
 It 5 (.bin .neq (.t 4) (.c i0)),
 Mv 2 5] [])
 .ret)),
    6, 1, [.t 2], 0⟩
theorem tr152 : trFunc Tryz.prog (hz [] I152.body) 0 Tryz.f152 = some (plain1 I152) := by kernel_rfl
theorem ck152 : ckC 2 I152.body = true := by kernel_rfl

/-- 'slices.IndexFunc[[]encore/api.Func,encore/api.Func]'. -/
def L153a : ICode :=
  (.seq (.region [It 9 (.bin .lss (.t 8) (.t 7))] [])
 (.seq (.cond (.t 9)
 .skip
 (.exit 0))
 (.seq (.block 1
 (.seq (.region [Mv 10 8,
 Mv 5 10] [])
 (.seq (.region [Mv 11 1,
 Mv 12 0,
 Mv 13 5,
 It 14 (.iaddr 4 (.t 12) (.t 13)),
 It 15 (.load (some 4) (.t 14)),
 It 16 (.callv (.t 11) [(.t 15)])] [])
 (.cond (.t 16)
 (.seq (.region [Mv 17 5,
 Mv 4 17] [])
 .ret)
 .skip))))
 (.region [It 18 (.bin .add (.t 8) (.c (.i .i64 (1)))),
 Mv 8 18] []))))
def I153 : IFunc :=
  ⟨(.seq (.region [It 4 (.mov (.c i0))] [])
 (.seq (.seq (.region [Mv 6 0,
 It 7 (.lenk 0 (.t 6)),
 It 8 (.mov (.c i0))] [])
 (.block 0
 (.loop L153a)))
 (.seq (.region [It 4 (.mov (.c (.i .i64 (-1))))] [])
 .ret))),
    19, 2, [.t 4], 0⟩
theorem tr153 : trFunc Tryz.prog (hz [] I153.body) 0 Tryz.f153 = some (plain1 I153) := by kernel_rfl
theorem ck153 : ckC 2 I153.body = true := by kernel_rfl

/-- 'encore/code.name'. -/
def I154 : IFunc :=
  ⟨(.seq (.region [It 2 (.mov (.c (.b false)))] [])
 (.seq (.region [Mv 3 0,
 It 4 (.bsl 1 1 [(.s [])] [(0, 1, (.t 3))]),
 It 5 (.mksl 5 80 [i0, i0, (.s []), .ns, .ns] (.c (.i .i64 (1))) (.c (.i .i64 (1)))),
 It 6 (.build [i0, i0, (.s []), .ns, .ns] [(0, 1, (.c (.i .i64 (5)))), (4, 1, (.t 4)), (3, 1, (.t 5))]),
 It 7 (.call 86 [(.t 6)]),
 It 8 (.bin .eql (.t 7) (.c i0)),
 Mv 2 8] [])
 .ret)),
    9, 1, [.t 2], 0⟩
theorem tr154 : trFunc Tryz.prog (hz [] I154.body) 0 Tryz.f154 = some (plain1 I154) := by kernel_rfl
theorem ck154 : ckC 2 I154.body = true := by kernel_rfl

/-- '(encore/code.site).may'. -/
def I155 : IFunc :=
  ⟨(.seq (.region [It 1 (.box (.t 0)),
 It 2 (.mov (.c .nf))] [])
 (.seq (.seq (.region [Of 3 1 2,
 Of 4 3 0,
 Ld 5 4] [])
 (.block 0
 (.seq (.region [It 7 (.bin .eql (.t 5) (.c (.i .i64 (1)))),
 Mv 6 7] [])
 (.cond (.t 6)
 (.seq (.region [It 8 (.load (some 5) (.t 1)),
 It 9 (.mkf 187 [(.t 8)] []),
 Mv 2 9] [])
 .ret)
 (.seq (.seq (.region [It 11 (.bin .eql (.t 5) (.c (.i .i64 (2)))),
 Mv 10 11] [])
 (.cond (.t 10)
 .skip
 (.region [It 12 (.bin .eql (.t 5) (.c (.i .i64 (3)))),
 Mv 10 12] [])))
 (.cond (.t 10)
 (.seq (.region [It 13 (.load (some 5) (.t 1)),
 It 14 (.mkf 188 [(.t 13)] []),
 Mv 2 14] [])
 .ret)
 (.seq (.region [It 16 (.bin .eql (.t 5) (.c (.i .i64 (20)))),
 Mv 15 16] [])
 (.cond (.t 15)
 (.seq (.region [It 17 (.load (some 5) (.t 1)),
 It 18 (.mkf 189 [(.t 17)] []),
 Mv 2 18] [])
 .ret)
 (.seq (.region [It 20 (.bin .eql (.t 5) (.c (.i .i64 (21)))),
 Mv 19 20] [])
 (.cond (.t 19)
 (.seq (.region [It 21 (.load (some 5) (.t 1)),
 It 22 (.mkf 190 [(.t 21)] []),
 Mv 2 22] [])
 .ret)
 (.seq (.region [It 24 (.bin .eql (.t 5) (.c (.i .i64 (22)))),
 Mv 23 24] [])
 (.cond (.t 23)
 (.seq (.region [It 25 (.load (some 5) (.t 1)),
 It 26 (.mkf 191 [(.t 25)] []),
 Mv 2 26] [])
 .ret)
 (.seq (.region [It 28 (.bin .eql (.t 5) (.c (.i .i64 (23)))),
 Mv 27 28] [])
 (.cond (.t 27)
 (.seq (.region [It 29 (.load (some 5) (.t 1)),
 It 30 (.mkf 192 [(.t 29)] []),
 Mv 2 30] [])
 .ret)
 (.seq (.seq (.region [It 32 (.bin .eql (.t 5) (.c (.i .i64 (24)))),
 Mv 31 32] [])
 (.cond (.t 31)
 .skip
 (.seq (.region [It 33 (.bin .eql (.t 5) (.c (.i .i64 (25)))),
 Mv 31 33] [])
 (.cond (.t 31)
 .skip
 (.region [It 34 (.bin .eql (.t 5) (.c (.i .i64 (26)))),
 Mv 31 34] [])))))
 (.cond (.t 31)
 (.seq (.region [It 35 (.load (some 5) (.t 1)),
 It 36 (.mkf 193 [(.t 35)] []),
 Mv 2 36] [])
 .ret)
 (.seq (.region [It 38 (.bin .eql (.t 5) (.c (.i .i64 (29)))),
 Mv 37 38] [])
 (.cond (.t 37)
 (.seq (.region [It 39 (.load (some 5) (.t 1)),
 It 40 (.mkf 194 [(.t 39)] []),
 Mv 2 40] [])
 .ret)
 (.seq (.region [It 42 (.bin .eql (.t 5) (.c (.i .i64 (31)))),
 Mv 41 42] [])
 (.cond (.t 41)
 (.seq (.region [It 43 (.load (some 5) (.t 1)),
 It 44 (.mkf 195 [(.t 43)] []),
 Mv 2 44] [])
 .ret)
 .skip))))))))))))))))))))
 (.seq (.region [It 45 (.load (some 5) (.t 1)),
 It 46 (.mkf 196 [(.t 45)] []),
 Mv 2 46] [])
 .ret))),
    47, 1, [.t 2], 0⟩
theorem tr155 : trFunc Tryz.prog (hz [] I155.body) 0 Tryz.f155 = some (plain1 I155) := by kernel_rfl
theorem ck155 : ckC 2 I155.body = true := by kernel_rfl

/-- 'slices.Equal[[]encore/verify.Try,encore/verify.Try]'. -/
def L156a : ICode :=
  (.seq (.region [It 14 (.bin .lss (.t 13) (.t 12))] [])
 (.seq (.cond (.t 14)
 .skip
 (.exit 0))
 (.seq (.block 1
 (.seq (.region [Mv 15 13,
 Mv 5 15] [])
 (.seq (.region [Mv 16 0,
 Mv 17 5,
 It 18 (.iaddr 2 (.t 16) (.t 17)),
 It 19 (.load (some 2) (.t 18)),
 Mv 20 1,
 Mv 21 5,
 It 22 (.iaddr 2 (.t 20) (.t 21)),
 It 23 (.load (some 2) (.t 22)),
 It 24 (.eqAg [1, 1] true (.t 19) (.t 23))] [])
 (.cond (.t 24)
 (.seq (.region [It 4 (.mov (.c (.b false)))] [])
 .ret)
 .skip))))
 (.region [It 25 (.bin .add (.t 13) (.c (.i .i64 (1)))),
 Mv 13 25] []))))
def I156 : IFunc :=
  ⟨(.seq (.region [It 4 (.mov (.c (.b false)))] [])
 (.seq (.seq (.region [Mv 6 0,
 It 7 (.lenk 0 (.t 6)),
 Mv 8 1,
 It 9 (.lenk 0 (.t 8)),
 It 10 (.bin .neq (.t 7) (.t 9))] [])
 (.cond (.t 10)
 (.seq (.region [It 4 (.mov (.c (.b false)))] [])
 .ret)
 .skip))
 (.seq (.seq (.region [Mv 11 0,
 It 12 (.lenk 0 (.t 11)),
 It 13 (.mov (.c i0))] [])
 (.block 0
 (.loop L156a)))
 (.seq (.region [It 4 (.mov (.c (.b true)))] [])
 .ret)))),
    26, 2, [.t 4], 0⟩
theorem tr156 : trFunc Tryz.prog (hz [(8, [0, 1, 2, 3, 4, 5, 6, 7, 8])] I156.body) 0 Tryz.f156 = some (plain1 I156) := by kernel_rfl
theorem ck156 : ckC 2 I156.body = true := by kernel_rfl

/-- 'encore/code.Moves'. -/
def I157 : IFunc :=
  ⟨(.seq (.region [It 2 (.box (.t 0)),
 It 3 (.box (.t 1)),
 It 4 (.mov (.c i0)),
 It 5 (.mov (.c i0))] [])
 (.seq (.block 0
 (.seq (.region [Of 7 3 0,
 Ld 8 7,
 It 9 (.bin .eql (.t 8) (.c (.i .i64 (1)))),
 Mv 10 9,
 Ig 11 10 false (.off (.t 3) 0),
 Ig 12 10 false (.load none (.t 11)),
 Ig 13 10 false (.bin .eql (.t 12) (.c (.i .i64 (2)))),
 It 14 (.pick (.t 10) (.c (.b true)) (.t 13)),
 Mv 6 14] [])
 (.cond (.t 6)
 (.seq (.region [It 4 (.mov (.c i0)),
 It 5 (.mov (.c (.i .i64 (1))))] [])
 .ret)
 (.seq (.region [Of 16 3 0,
 Ld 17 16,
 It 18 (.bin .eql (.t 17) (.c (.i .i64 (5)))),
 Mv 15 18] [])
 (.cond (.t 15)
 (.seq (.region [It 4 (.mov (.c (.i .i64 (1)))),
 It 5 (.mov (.c (.i .i64 (2))))] [])
 .ret)
 (.seq (.seq (.region [Of 20 3 0,
 Ld 21 20,
 It 22 (.bin .eql (.t 21) (.c (.i .i64 (3)))),
 Mv 19 22] [])
 (.cond (.t 19)
 .skip
 (.seq (.region [Of 23 3 0,
 Ld 24 23,
 It 25 (.bin .eql (.t 24) (.c (.i .i64 (4)))),
 Mv 19 25] [])
 (.cond (.t 19)
 .skip
 (.seq (.region [Of 26 3 0,
 Ld 27 26,
 It 28 (.bin .eql (.t 27) (.c (.i .i64 (25)))),
 Mv 19 28] [])
 (.cond (.t 19)
 .skip
 (.seq (.region [Of 29 3 0,
 Ld 30 29,
 It 31 (.bin .eql (.t 30) (.c (.i .i64 (28)))),
 Mv 19 31] [])
 (.cond (.t 19)
 .skip
 (.region [Of 32 3 0,
 Ld 33 32,
 It 34 (.bin .eql (.t 33) (.c (.i .i64 (30)))),
 Mv 19 34] [])))))))))
 (.cond (.t 19)
 (.seq (.region [It 4 (.mov (.c (.i .i64 (1)))),
 It 5 (.mov (.c i0))] [])
 .ret)
 (.seq (.seq (.region [Of 36 3 0,
 Ld 37 36,
 It 38 (.bin .geq (.t 37) (.c (.i .i64 (6)))),
 Mv 39 38,
 Ig 40 39 true (.off (.t 3) 0),
 Ig 41 39 true (.load none (.t 40)),
 Ig 42 39 true (.bin .leq (.t 41) (.c (.i .i64 (8)))),
 It 43 (.pick (.t 39) (.t 42) (.c (.b false))),
 Mv 35 43] [])
 (.cond (.t 35)
 .skip
 (.seq (.region [Of 44 3 0,
 Ld 45 44,
 It 46 (.bin .eql (.t 45) (.c (.i .i64 (22)))),
 Mv 35 46] [])
 (.cond (.t 35)
 .skip
 (.region [Of 47 3 0,
 Ld 48 47,
 It 49 (.bin .eql (.t 48) (.c (.i .i64 (23)))),
 Mv 35 49] [])))))
 (.cond (.t 35)
 (.seq (.region [It 4 (.mov (.c (.i .i64 (1)))),
 It 5 (.mov (.c (.i .i64 (1))))] [])
 .ret)
 (.seq (.region [Of 51 3 0,
 Ld 52 51,
 It 53 (.bin .geq (.t 52) (.c (.i .i64 (9)))),
 Mv 54 53,
 Ig 55 54 true (.off (.t 3) 0),
 Ig 56 54 true (.load none (.t 55)),
 Ig 57 54 true (.bin .leq (.t 56) (.c (.i .i64 (19)))),
 It 58 (.pick (.t 54) (.t 57) (.c (.b false))),
 Mv 50 58] [])
 (.cond (.t 50)
 (.seq (.region [It 4 (.mov (.c (.i .i64 (2)))),
 It 5 (.mov (.c (.i .i64 (1))))] [])
 .ret)
 (.seq (.region [Of 60 3 0,
 Ld 61 60,
 It 62 (.bin .eql (.t 61) (.c (.i .i64 (20)))),
 Mv 59 62] [])
 (.cond (.t 59)
 (.seq (.region [Of 63 3 1,
 Ld 64 63,
 Mv 4 64,
 It 5 (.mov (.c (.i .i64 (1))))] [])
 .ret)
 (.seq (.region [Of 66 3 0,
 Ld 67 66,
 It 68 (.bin .eql (.t 67) (.c (.i .i64 (21)))),
 Mv 65 68] [])
 (.cond (.t 65)
 (.seq (.seq (.region [Of 69 3 1,
 Ld 70 69,
 It 71 (.bin .geq (.t 70) (.c i0)),
 Mv 72 71,
 Ig 73 72 true (.off (.t 3) 1),
 Ig 74 72 true (.load none (.t 73)),
 Ig 75 72 true (.off (.t 2) 1),
 Ig 76 72 true (.load none (.t 75)),
 Ig 77 72 true (.lenk 0 (.t 76)),
 Ig 78 72 true (.bin .lss (.t 74) (.t 77)),
 It 79 (.pick (.t 72) (.t 78) (.c (.b false)))] [])
 (.cond (.t 79)
 (.region [Of 80 2 1,
 Ld 81 80,
 Of 82 3 1,
 Ld 83 82,
 It 84 (.iaddr 5 (.t 81) (.t 83)),
 Of 85 84 3,
 Ld 86 85,
 It 87 (.lenk 0 (.t 86)),
 Mv 4 87] [])
 .skip))
 (.seq (.region [Mv 88 4,
 Mv 4 88,
 It 5 (.mov (.c (.i .i64 (1))))] [])
 .ret))
 (.seq (.region [Of 90 3 0,
 Ld 91 90,
 It 92 (.bin .eql (.t 91) (.c (.i .i64 (29)))),
 Mv 89 92] [])
 (.cond (.t 89)
 (.seq (.seq (.region [Of 93 3 1,
 Ld 94 93,
 It 95 (.bin .geq (.t 94) (.c i0)),
 Mv 96 95,
 Ig 97 96 true (.off (.t 3) 1),
 Ig 98 96 true (.load none (.t 97)),
 Ig 99 96 true (.off (.t 2) 0),
 Ig 100 96 true (.load none (.t 99)),
 Ig 101 96 true (.lenk 0 (.t 100)),
 Ig 102 96 true (.bin .lss (.t 98) (.t 101)),
 It 103 (.pick (.t 96) (.t 102) (.c (.b false)))] [])
 (.cond (.t 103)
 (.region [Of 104 2 0,
 Ld 105 104,
 Of 106 3 1,
 Ld 107 106,
 It 108 (.iaddr 4 (.t 105) (.t 107)),
 Of 109 108 1,
 Ld 110 109,
 Mv 4 110] [])
 .skip))
 (.seq (.region [Mv 111 4,
 Mv 4 111,
 It 5 (.mov (.c (.i .i64 (1))))] [])
 .ret))
 (.seq (.region [Of 113 3 0,
 Ld 114 113,
 It 115 (.bin .eql (.t 114) (.c (.i .i64 (31)))),
 Mv 112 115] [])
 (.cond (.t 112)
 (.seq (.seq (.region [Of 116 3 1,
 Ld 117 116,
 It 118 (.bin .neq (.t 117) (.c (.i .i64 (3)))),
 Mv 119 118,
 Ig 120 119 true (.off (.t 3) 1),
 Ig 121 119 true (.load none (.t 120)),
 Ig 122 119 true (.bin .neq (.t 121) (.c (.i .i64 (5)))),
 It 123 (.pick (.t 119) (.t 122) (.c (.b false))),
 Mv 124 123,
 Ig 125 124 true (.off (.t 3) 1),
 Ig 126 124 true (.load none (.t 125)),
 Ig 127 124 true (.bin .neq (.t 126) (.c (.i .i64 (6)))),
 It 128 (.pick (.t 124) (.t 127) (.c (.b false)))] [])
 (.cond (.t 128)
 (.region [It 4 (.mov (.c (.i .i64 (1))))] [])
 .skip))
 (.seq (.region [Mv 129 4,
 Mv 4 129,
 It 5 (.mov (.c (.i .i64 (1))))] [])
 .ret))
 .skip)))))))))))))))))))
 (.seq (.region [It 4 (.mov (.c i0)),
 It 5 (.mov (.c i0))] [])
 .ret))),
    130, 2, [.t 4, .t 5], 2⟩
theorem tr157 : trFunc Tryz.prog (hz [] I157.body) 1 Tryz.f157 = some (plain1 I157) := by kernel_rfl
theorem ck157 : ckC 2 I157.body = true := by kernel_rfl

/-- '(*encore/lift.maker).step'. -/
def I158 : IFunc :=
  ⟨(.seq (.region [It 3 (.box (.t 1))] [])
 (.seq (.region [Mv 4 0,
 Mv 5 0,
 It 6 (.nck (.t 5)),
 Of 7 6 2,
 Of 8 7 4,
 Ld 9 8,
 It 10 (.lenk 0 (.t 9)),
 It 11 (.build [i0, i0, i0, i0, (.s []), .ns, .ns] [(0, 1, (.c (.i .i64 (2)))), (1, 1, (.t 10))]),
 It 12 (.bsl 7 1 [i0, i0, i0, i0, (.s []), .ns, .ns] [(0, 7, (.t 11))]),
 It 13 (.call 31 [(.t 4), (.t 12)])] [])
 (.region [Mv 14 0,
 Mv 15 0,
 It 16 (.nck (.t 15)),
 Of 17 16 2,
 Of 18 17 4,
 Ld 19 18,
 It 20 (.load (some 5) (.t 3)),
 It 21 (.bsl 5 1 [i0, i0, .ns, (.s []), .ns] [(0, 5, (.t 20))]),
 It 22 (.app 5 80 (.t 19) (.t 21)),
 It 23 (.nck (.t 14)),
 Of 24 23 2,
 Of 25 24 4,
 ⟨none, (.store 1 (.t 25) (.t 22)), none, []⟩] []))),
    26, 2, [], 0⟩
theorem tr158 : trFunc Tryz.prog (hz [(2, [0, 1, 2, 3, 4, 5, 6, 7, 8, 9, 10, 11, 12])] I158.body) 0 Tryz.f158 = some (plain1 I158) := by kernel_rfl
theorem ck158 : ckC 2 I158.body = true := by kernel_rfl

/-- 'encore/verify.Program'. -/
def L159a : ICode :=
  (.seq (.region [It 17 (.bin .lss (.t 16) (.t 15))] [])
 (.seq (.cond (.t 17)
 .skip
 (.exit 0))
 (.seq (.block 1
 (.seq (.region [It 18 (.iaddr 4 (.t 14) (.t 16)),
 It 19 (.load (some 4) (.t 18)),
 It 5 (.alloc [(.s []), i0, i0, .ns]),
 ⟨none, (.store 4 (.t 5) (.t 19)), none, []⟩] [])
 (.seq (.region [It 21 (.load (some 2) (.t 1)),
 It 22 (.load (some 4) (.t 5)),
 It 23 (.call 61 [(.t 21), (.t 22)]),
 Mv 20 23,
 Ex 24 20 0,
 Ex 25 20 1,
 Mv 6 24,
 Mv 7 25] [])
 (.seq (.region [Mv 26 7,
 It 27 (.bin .neq (.t 26) (.c i0))] [])
 (.cond (.t 27)
 (.seq (.region [Mv 28 7,
 Mv 2 28] [])
 .ret)
 .skip)))))
 (.region [It 29 (.bin .add (.t 16) (.c (.i .i64 (1)))),
 Mv 16 29] []))))
def I159 : IFunc :=
  ⟨(.seq (.region [It 1 (.box (.t 0)),
 It 2 (.mov (.c i0))] [])
 (.seq (.seq (.region [It 8 (.load (some 2) (.t 1)),
 It 9 (.call 60 [(.t 8)]),
 Mv 3 9] [])
 (.seq (.region [Mv 10 3,
 It 11 (.bin .neq (.t 10) (.c i0))] [])
 (.cond (.t 11)
 (.seq (.region [Mv 12 3,
 Mv 2 12] [])
 .ret)
 .skip)))
 (.seq (.seq (.region [Of 13 1 0,
 Ld 14 13,
 It 15 (.lenk 0 (.t 14)),
 It 16 (.mov (.c i0))] [])
 (.block 0
 (.loop L159a)))
 (.seq (.region [It 2 (.mov (.c i0))] [])
 .ret)))),
    30, 1, [.t 2], 2⟩
theorem tr159 : trFunc Tryz.prog (hz [] I159.body) 1 Tryz.f159 = some (plain1 I159) := by kernel_rfl
theorem ck159 : ckC 2 I159.body = true := by kernel_rfl

/-- 'encore/base.may'. -/
def I160 : IFunc :=
  ⟨(.seq (.region [It 2 (.mov (.c (.b false)))] [])
 (.seq (.region [Mv 3 0,
 It 4 (.call 43 [(.t 3), (.f 197)]),
 It 5 (.un .not (.t 4)),
 Mv 2 5] [])
 .ret)),
    6, 1, [.t 2], 0⟩
theorem tr160 : trFunc Tryz.prog (hz [] I160.body) 0 Tryz.f160 = some (plain1 I160) := by kernel_rfl
theorem ck160 : ckC 2 I160.body = true := by kernel_rfl

/-- 'slices.Clone[[]encore/api.Func,encore/api.Func]'. -/
def I161 : IFunc := ⟨cloneCode 4 56, 8, 1, [.t 2], 4⟩
theorem tr161 : trFunc Tryz.prog [([], []), ([], []), ([], []), ([], []), ([], [])] 1 Tryz.f161 = some (plain1 I161) := by kernel_rfl
theorem ck161 : ckC 2 (cloneCode 4 56) = true := by kernel_rfl

/-- 'slices.Clone[[]encore/api.Instr,encore/api.Instr]'. -/
def I162 : IFunc := ⟨cloneCode 3 24, 8, 1, [.t 2], 4⟩
theorem tr162 : trFunc Tryz.prog [([], []), ([], []), ([], []), ([], []), ([], [])] 1 Tryz.f162 = some (plain1 I162) := by kernel_rfl
theorem ck162 : ckC 2 (cloneCode 3 24) = true := by kernel_rfl

/-- '(*encore/base.Machine).framed'. -/
def I163 : IFunc :=
  ⟨(.seq (.region [It 6 (.mov (.c .np))] [])
 (.seq (.region [Mv 8 2,
 Mv 9 0,
 It 10 (.nck (.t 9)),
 Of 11 10 2,
 Of 12 11 0,
 Ld 13 12,
 Mv 14 1,
 It 15 (.iaddr 4 (.t 13) (.t 14)),
 Of 16 15 2,
 Ld 17 16,
 Mv 18 2,
 It 19 (.lenk 0 (.t 18)),
 It 20 (.bin .sub (.t 17) (.t 19)),
 It 21 (.appz 5 80 [i0, i0, (.s []), .ns, .ns] (.t 8) (.t 20)),
 Mv 7 21] [])
 (.seq (.region [Mv 22 1,
 Mv 23 7,
 It 24 (.build [i0, i0, .ns, .ns, .ns] [(0, 1, (.t 22)), (2, 1, (.t 23))]),
 It 25 (.build [i0, i0, .ns, .ns, .ns] [(0, 5, (.t 24))]),
 It 26 (.box (.t 25)),
 Mv 6 26] [])
 .ret))),
    27, 3, [.t 6], 0⟩
theorem tr163 : trFunc Tryz.prog (hz [] I163.body) 0 Tryz.f163 = some (plain1 I163) := by kernel_rfl
theorem ck163 : ckC 2 I163.body = true := by kernel_rfl

/-- '(*encore/base.Machine).made'. -/
def I164 : IFunc :=
  ⟨(.seq (.region [It 5 (.box (.t 1))] [])
 (.seq (.seq (.region [Mv 8 2,
 It 9 (.bin .neq (.t 8) (.c i0)),
 Mv 10 9,
 Ig 11 10 false (.mov (.t 3)),
 Ig 12 10 false (.bin .neq (.t 11) (.c i0)),
 It 13 (.pick (.t 10) (.c (.b true)) (.t 12))] [])
 (.cond (.t 13)
 (.seq (.region [Mv 14 0,
 Mv 15 2,
 It 16 (.call 198 [(.t 14), (.t 15)])] [])
 .ret)
 .skip))
 (.region [Mv 17 0,
 It 18 (.nck (.t 17)),
 Of 19 18 0,
 Ld 20 19,
 It 21 (.load (some 5) (.t 5)),
 It 22 (.call 199 [(.t 20), (.t 21)])] []))),
    23, 4, [], 0⟩
theorem tr164 : trFunc Tryz.prog (hz [(4, [0, 1, 2, 3, 4, 5])] I164.body) 0 Tryz.f164 = some (plain1 I164) := by kernel_rfl
theorem ck164 : ckC 2 I164.body = true := by kernel_rfl

/-- 'encore/base.own'. -/
def I165 : IFunc :=
  ⟨(.seq (.region [It 1 (.box (.t 0)),
 It 2 (.alloc [i0, i0, (.s []), .ns, .ns])] [])
 (.seq (.region [Of 3 1 4,
 Ld 4 3,
 It 5 (.call 113 [(.t 4)]),
 Of 6 1 4,
 ⟨none, (.store 1 (.t 6) (.t 5)), none, []⟩] [])
 (.seq (.region [Of 7 1 3,
 Ld 8 7,
 It 9 (.call 141 [(.t 8)]),
 Of 10 1 3,
 ⟨none, (.store 1 (.t 10) (.t 9)), none, []⟩] [])
 (.seq (.region [It 11 (.load (some 5) (.t 1)),
 ⟨none, (.store 5 (.t 2) (.t 11)), none, []⟩] [])
 .ret)))),
    12, 1, [.c 2 (some 5)], 0⟩
theorem tr165 : trFunc Tryz.prog (hz [] I165.body) 0 Tryz.f165 = some (plain1 I165) := by kernel_rfl
theorem ck165 : ckC 2 I165.body = true := by kernel_rfl

/-- '(*encore/base.Machine).load'. -/
def I166 : IFunc :=
  ⟨(.seq (.region [It 3 (.box (.t 1))] [])
 (.seq (.seq (.region [Of 4 3 0,
 Ld 5 4,
 It 6 (.bin .eql (.t 5) (.c (.i .i64 (1))))] [])
 (.cond (.t 6)
 (.seq (.region [Mv 7 0,
 It 8 (.nck (.t 7)),
 Of 9 8 0,
 Ld 10 9,
 Mv 11 0,
 It 12 (.nck (.t 11)),
 Of 13 12 2,
 Of 14 13 1,
 Ld 15 14,
 Of 16 3 1,
 Ld 17 16,
 It 18 (.iaddr 5 (.t 15) (.t 17)),
 It 19 (.load (some 5) (.t 18)),
 It 20 (.call 199 [(.t 10), (.t 19)])] [])
 .ret)
 .skip))
 (.region [Mv 21 0,
 It 22 (.nck (.t 21)),
 Of 23 22 0,
 Ld 24 23,
 Mv 25 0,
 It 26 (.nck (.t 25)),
 Of 27 26 0,
 Ld 28 27,
 It 29 (.nck (.t 28)),
 Of 30 29 0,
 Of 31 30 2,
 Ld 32 31,
 Of 33 3 1,
 Ld 34 33,
 It 35 (.iaddr 5 (.t 32) (.t 34)),
 It 36 (.load (some 5) (.t 35)),
 It 37 (.call 199 [(.t 24), (.t 36)])] []))),
    38, 2, [], 0⟩
theorem tr166 : trFunc Tryz.prog (hz [(2, [0, 1, 2, 3, 4, 5, 6, 7, 8, 9, 10, 11, 12, 13]), (4, [0, 1, 2, 3, 4, 5, 6, 7, 8, 9, 10, 11, 12, 13, 14, 15, 16])] I166.body) 0 Tryz.f166 = some (plain1 I166) := by kernel_rfl
theorem ck166 : ckC 2 I166.body = true := by kernel_rfl

/-- '(*encore/base.Machine).store'. -/
def I167 : IFunc :=
  ⟨(.seq (.region [It 3 (.box (.t 1))] [])
 (.seq (.region [Mv 5 0,
 It 6 (.nck (.t 5)),
 Of 7 6 0,
 Ld 8 7,
 It 9 (.call 200 [(.t 8)]),
 It 4 (.alloc [i0, i0, (.s []), .ns, .ns]),
 ⟨none, (.store 5 (.t 4) (.t 9)), none, []⟩] [])
 (.seq (.region [Of 10 3 0,
 Ld 11 10,
 It 12 (.bin .eql (.t 11) (.c (.i .i64 (3))))] [])
 (.cond (.t 12)
 (.region [Mv 13 0,
 It 14 (.nck (.t 13)),
 Of 15 14 0,
 Ld 16 15,
 It 17 (.nck (.t 16)),
 Of 18 17 0,
 Of 19 18 2,
 Ld 20 19,
 Of 21 3 1,
 Ld 22 21,
 It 23 (.load (some 5) (.t 4)),
 It 24 (.iaddr 5 (.t 20) (.t 22)),
 ⟨none, (.store 5 (.t 24) (.t 23)), none, []⟩] [])
 .skip)))),
    25, 2, [], 0⟩
theorem tr167 : trFunc Tryz.prog (hz [(3, [0, 1, 2, 3, 4, 5, 6, 7, 8, 9, 10, 11, 12])] I167.body) 0 Tryz.f167 = some (plain1 I167) := by kernel_rfl
theorem ck167 : ckC 2 I167.body = true := by kernel_rfl

/-- '(*encore/base.Machine).dup'. -/
def I168 : IFunc :=
  ⟨(.seq (.region [It 3 (.box (.t 1))] [])
 (.seq (.region [Mv 5 0,
 It 6 (.nck (.t 5)),
 Of 7 6 0,
 Ld 8 7,
 It 9 (.call 200 [(.t 8)]),
 It 4 (.alloc [i0, i0, (.s []), .ns, .ns]),
 ⟨none, (.store 5 (.t 4) (.t 9)), none, []⟩] [])
 (.seq (.region [Mv 10 0,
 It 11 (.nck (.t 10)),
 Of 12 11 0,
 Ld 13 12,
 It 14 (.load (some 5) (.t 4)),
 It 15 (.call 199 [(.t 13), (.t 14)])] [])
 (.region [Mv 16 0,
 It 17 (.nck (.t 16)),
 Of 18 17 0,
 Ld 19 18,
 It 20 (.load (some 5) (.t 4)),
 It 21 (.call 199 [(.t 19), (.t 20)])] [])))),
    22, 2, [], 0⟩
theorem tr168 : trFunc Tryz.prog (hz [(2, [0, 1, 2, 3, 4, 5]), (3, [0, 1, 2, 3, 4, 5])] I168.body) 0 Tryz.f168 = some (plain1 I168) := by kernel_rfl
theorem ck168 : ckC 2 I168.body = true := by kernel_rfl

/-- '(*encore/base.Machine).unary'. -/
def I169 : IFunc :=
  ⟨(.seq (.region [It 3 (.box (.t 1))] [])
 (.region [Mv 4 0,
 Of 5 3 0,
 Ld 6 5,
 Mv 7 0,
 It 8 (.nck (.t 7)),
 Of 9 8 0,
 Ld 10 9,
 ⟨(some 11), (.call 200 [(.t 10)]), none, [(6, (.load none (.t 5)), none)]⟩,
 It 12 (.call 49 [(.t 6), (.t 11)]),
 Ex 13 12 0,
 Ex 14 12 1,
 Ex 15 12 2,
 It 16 (.call 164 [(.t 4), (.t 13), (.t 14), (.t 15)])] [])),
    17, 2, [], 0⟩
theorem tr169 : trFunc Tryz.prog (hz [(1, [0, 1, 2, 3, 4, 5, 6, 7, 8, 9, 10, 11, 12])] I169.body) 0 Tryz.f169 = some (plain1 I169) := by kernel_rfl
theorem ck169 : ckC 2 I169.body = true := by kernel_rfl

/-- '(*encore/base.Machine).binary'. -/
def I170 : IFunc :=
  ⟨(.seq (.region [It 3 (.box (.t 1))] [])
 (.seq (.region [Mv 5 0,
 It 6 (.nck (.t 5)),
 Of 7 6 0,
 Ld 8 7,
 It 9 (.call 201 [(.t 8), (.c (.i .i64 (2)))]),
 Mv 4 9] [])
 (.region [Mv 10 0,
 Of 11 3 0,
 Ld 12 11,
 Mv 13 4,
 It 14 (.iaddr 5 (.t 13) (.c i0)),
 It 15 (.load (some 5) (.t 14)),
 Mv 16 4,
 It 17 (.iaddr 5 (.t 16) (.c (.i .i64 (1)))),
 It 18 (.load (some 5) (.t 17)),
 It 19 (.call 48 [(.t 12), (.t 15), (.t 18)]),
 Ex 20 19 0,
 Ex 21 19 1,
 Ex 22 19 2,
 It 23 (.call 164 [(.t 10), (.t 20), (.t 21), (.t 22)])] []))),
    24, 2, [], 0⟩
theorem tr170 : trFunc Tryz.prog (hz [(2, [0, 1, 2, 3, 4, 5, 6, 7, 8, 9, 10, 11, 12, 13])] I170.body) 0 Tryz.f170 = some (plain1 I170) := by kernel_rfl
theorem ck170 : ckC 2 I170.body = true := by kernel_rfl

/-- '(*encore/base.Machine).list'. -/
def I171 : IFunc :=
  ⟨(.seq (.region [It 3 (.box (.t 1))] [])
 (.region [Mv 4 0,
 Mv 5 0,
 It 6 (.nck (.t 5)),
 Of 7 6 0,
 Ld 8 7,
 Of 9 3 1,
 Ld 10 9,
 It 11 (.call 201 [(.t 8), (.t 10)]),
 It 12 (.call 88 [(.t 11)]),
 Ex 13 12 0,
 Ex 14 12 1,
 Ex 15 12 2,
 It 16 (.call 164 [(.t 4), (.t 13), (.t 14), (.t 15)])] [])),
    17, 2, [], 0⟩
theorem tr171 : trFunc Tryz.prog (hz [(1, [0, 1, 2, 3, 4, 5, 6, 7, 8, 9, 10, 11, 12])] I171.body) 0 Tryz.f171 = some (plain1 I171) := by kernel_rfl
theorem ck171 : ckC 2 I171.body = true := by kernel_rfl

/-- '(*encore/base.Machine).record'. -/
def L172a : ICode :=
  (.seq (.region [It 19 (.bin .lss (.t 18) (.t 17))] [])
 (.seq (.cond (.t 19)
 .skip
 (.exit 0))
 (.seq (.block 1
 (.seq (.region [It 20 (.iaddr 5 (.t 16) (.t 18)),
 It 21 (.load (some 5) (.t 20)),
 It 6 (.alloc [i0, i0, (.s []), .ns, .ns]),
 ⟨none, (.store 5 (.t 6) (.t 21)), none, []⟩] [])
 (.region [Mv 22 4,
 Of 23 6 2,
 Ld 24 23,
 It 25 (.bsl 1 1 [(.s [])] [(0, 1, (.t 24))]),
 It 26 (.app 1 16 (.t 22) (.t 25)),
 Mv 4 26] [])))
 (.region [It 27 (.bin .add (.t 18) (.c (.i .i64 (1)))),
 Mv 18 27] []))))
def I172 : IFunc :=
  ⟨(.seq (.region [It 3 (.box (.t 1))] [])
 (.seq (.region [It 4 (.mov (.c .ns))] [])
 (.seq (.seq (.region [Mv 7 0,
 It 8 (.nck (.t 7)),
 Of 9 8 2,
 Of 10 9 1,
 Ld 11 10,
 Of 12 3 1,
 Ld 13 12,
 It 14 (.iaddr 5 (.t 11) (.t 13)),
 Of 15 14 3,
 Ld 16 15,
 It 17 (.lenk 0 (.t 16)),
 It 18 (.mov (.c i0))] [])
 (.block 0
 (.loop L172a)))
 (.region [Mv 28 0,
 Mv 29 4,
 Mv 30 0,
 It 31 (.nck (.t 30)),
 Of 32 31 0,
 Ld 33 32,
 Mv 34 4,
 It 35 (.lenk 0 (.t 34)),
 It 36 (.call 201 [(.t 33), (.t 35)]),
 It 37 (.call 90 [(.t 29), (.t 36)]),
 Ex 38 37 0,
 Ex 39 37 1,
 Ex 40 37 2,
 It 41 (.call 164 [(.t 28), (.t 38), (.t 39), (.t 40)])] [])))),
    42, 2, [], 0⟩
theorem tr172 : trFunc Tryz.prog (hz [(2, [0, 1, 2, 3, 4, 5, 6, 7, 8, 9, 10, 11])] I172.body) 0 Tryz.f172 = some (plain1 I172) := by kernel_rfl
theorem ck172 : ckC 2 I172.body = true := by kernel_rfl

/-- '(*encore/base.Machine).field'. -/
def I173 : IFunc :=
  ⟨(.seq (.region [It 3 (.box (.t 1))] [])
 (.region [Mv 4 0,
 Mv 5 0,
 It 6 (.nck (.t 5)),
 Of 7 6 0,
 Ld 8 7,
 Mv 10 0,
 It 11 (.nck (.t 10)),
 Of 12 11 2,
 Of 13 12 1,
 Ld 14 13,
 Of 15 3 1,
 Ld 16 15,
 It 17 (.iaddr 5 (.t 14) (.t 16)),
 Of 18 17 2,
 Ld 19 18,
 ⟨(some 9), (.call 200 [(.t 8)]), none, [(14, (.load none (.t 13)), none), (16, (.load none (.t 15)), none), (19, (.load none (.t 18)), none)]⟩,
 It 20 (.call 92 [(.t 9), (.t 19)]),
 Ex 21 20 0,
 Ex 22 20 1,
 Ex 23 20 2,
 It 24 (.call 164 [(.t 4), (.t 21), (.t 22), (.t 23)])] [])),
    25, 2, [], 0⟩
theorem tr173 : trFunc Tryz.prog (hz [(1, [0, 1, 2, 3, 4, 6, 7, 8, 9, 10, 11, 12, 13, 14, 15, 5, 16, 17, 18, 19, 20])] I173.body) 0 Tryz.f173 = some (plain1 I173) := by kernel_rfl
theorem ck173 : ckC 2 I173.body = true := by kernel_rfl

/-- '(*encore/base.Machine).typed'. -/
def I174 : IFunc :=
  ⟨(.seq (.region [It 3 (.box (.t 1))] [])
 (.seq (.region [Mv 5 0,
 It 6 (.nck (.t 5)),
 Of 7 6 0,
 Ld 8 7,
 It 9 (.call 200 [(.t 8)]),
 It 4 (.alloc [i0, i0, (.s []), .ns, .ns]),
 ⟨none, (.store 5 (.t 4) (.t 9)), none, []⟩] [])
 (.seq (.seq (.region [It 10 (.load (some 5) (.t 4)),
 Mv 11 0,
 It 12 (.nck (.t 11)),
 Of 13 12 2,
 Of 14 13 1,
 Ld 15 14,
 Of 16 3 1,
 Ld 17 16,
 It 18 (.iaddr 5 (.t 15) (.t 17)),
 Of 19 18 2,
 Ld 20 19,
 It 21 (.call 94 [(.t 10), (.t 20)]),
 It 22 (.un .not (.t 21))] [])
 (.cond (.t 22)
 (.seq (.region [Mv 23 0,
 It 24 (.call 198 [(.t 23), (.c (.i .i64 (2)))])] [])
 .ret)
 .skip))
 (.region [Mv 25 0,
 It 26 (.nck (.t 25)),
 Of 27 26 0,
 Ld 28 27,
 It 29 (.load (some 5) (.t 4)),
 It 30 (.call 199 [(.t 28), (.t 29)])] [])))),
    31, 2, [], 0⟩
theorem tr174 : trFunc Tryz.prog (hz [(2, [0, 1, 2, 3, 4, 5, 6, 7, 8, 9, 10, 11, 12]), (5, [0, 1, 2, 3, 4, 5])] I174.body) 0 Tryz.f174 = some (plain1 I174) := by kernel_rfl
theorem ck174 : ckC 2 I174.body = true := by kernel_rfl

/-- '(*encore/base.Machine).jump'. -/
def I175 : IFunc :=
  ⟨(.seq (.region [It 3 (.box (.t 1))] [])
 (.region [Mv 4 0,
 It 5 (.nck (.t 4)),
 Of 6 5 0,
 Ld 7 6,
 Of 8 3 1,
 Ld 9 8,
 It 10 (.nck (.t 7)),
 Of 11 10 0,
 Of 12 11 1,
 ⟨none, (.store 1 (.t 12) (.t 9)), none, []⟩] [])),
    13, 2, [], 0⟩
theorem tr175 : trFunc Tryz.prog (hz [(1, [0, 1, 2, 3, 4, 5, 6, 7, 8, 9])] I175.body) 0 Tryz.f175 = some (plain1 I175) := by kernel_rfl
theorem ck175 : ckC 2 I175.body = true := by kernel_rfl

/-- '(*encore/base.Machine).turn'. -/
def I176 : IFunc :=
  ⟨(.seq (.region [It 3 (.box (.t 1))] [])
 (.seq (.region [Mv 5 0,
 It 6 (.nck (.t 5)),
 Of 7 6 0,
 Ld 8 7,
 It 9 (.call 200 [(.t 8)]),
 It 4 (.alloc [i0, i0, (.s []), .ns, .ns]),
 ⟨none, (.store 5 (.t 4) (.t 9)), none, []⟩] [])
 (.block 0
 (.seq (.region [Of 11 4 0,
 Ld 12 11,
 It 13 (.bin .neq (.t 12) (.c (.i .i64 (2)))),
 Mv 10 13] [])
 (.cond (.t 10)
 (.region [Mv 14 0,
 It 15 (.call 198 [(.t 14), (.c (.i .i64 (2)))])] [])
 (.seq (.region [Of 17 4 1,
 Ld 18 17,
 It 19 (.bin .eql (.t 18) (.c i0)),
 Mv 16 19] [])
 (.cond (.t 16)
 (.region [Mv 20 0,
 It 21 (.nck (.t 20)),
 Of 22 21 0,
 Ld 23 22,
 Of 24 3 1,
 Ld 25 24,
 It 26 (.nck (.t 23)),
 Of 27 26 0,
 Of 28 27 1,
 ⟨none, (.store 1 (.t 28) (.t 25)), none, []⟩] [])
 .skip))))))),
    29, 2, [], 0⟩
theorem tr176 : trFunc Tryz.prog (hz [(5, [0, 1, 2, 3, 4, 5, 6, 7, 8, 9])] I176.body) 0 Tryz.f176 = some (plain1 I176) := by kernel_rfl
theorem ck176 : ckC 2 I176.body = true := by kernel_rfl

/-- '(*encore/base.Machine).try'. -/
def I177 : IFunc :=
  ⟨(.seq (.region [It 3 (.box (.t 1))] [])
 (.region [Mv 4 0,
 It 5 (.nck (.t 4)),
 Of 6 5 0,
 Ld 7 6,
 Mv 8 0,
 It 9 (.nck (.t 8)),
 Of 10 9 0,
 Ld 11 10,
 It 12 (.nck (.t 11)),
 Of 13 12 0,
 Of 14 13 4,
 Ld 15 14,
 Of 17 3 1,
 Ld 18 17,
 Mv 19 0,
 It 20 (.nck (.t 19)),
 Of 21 20 0,
 Ld 22 21,
 It 23 (.nck (.t 22)),
 Of 24 23 0,
 Of 25 24 3,
 Ld 26 25,
 It 27 (.lenk 0 (.t 26)),
 It 28 (.build [i0, i0] [(0, 1, (.t 18)), (1, 1, (.t 27))]),
 It 29 (.bsl 2 1 [i0, i0] [(0, 2, (.t 28))]),
 ⟨(some 16), (.call 132 [(.t 15)]), none, [(7, (.load none (.t 6)), none), (18, (.load none (.t 17)), none), (22, (.load none (.t 21)), none), (26, (.load none (.t 25)), none), (27, (.lenk 0 (.t 26)), none)]⟩,
 ⟨(some 30), (.app 2 16 (.t 16) (.t 29)), none, [(7, (.load none (.t 6)), none)]⟩,
 It 31 (.nck (.t 7)),
 Of 32 31 0,
 Of 33 32 4,
 ⟨none, (.store 1 (.t 33) (.t 30)), none, []⟩] [])),
    34, 2, [], 0⟩
theorem tr177 : trFunc Tryz.prog (hz [(1, [0, 1, 2, 3, 4, 5, 6, 7, 8, 9, 10, 11, 13, 14, 15, 16, 17, 18, 19, 20, 21, 22, 23, 24, 25, 12, 26, 27, 28, 29, 30])] I177.body) 0 Tryz.f177 = some (plain1 I177) := by kernel_rfl
theorem ck177 : ckC 2 I177.body = true := by kernel_rfl

/-- '(*encore/base.Machine).done'. -/
def I178 : IFunc :=
  ⟨(.seq (.region [It 3 (.box (.t 1))] [])
 (.region [Mv 4 0,
 It 5 (.nck (.t 4)),
 Of 6 5 0,
 Ld 7 6,
 Mv 8 0,
 It 9 (.nck (.t 8)),
 Of 10 9 0,
 Ld 11 10,
 It 12 (.nck (.t 11)),
 Of 13 12 0,
 Of 14 13 4,
 Ld 15 14,
 Mv 16 0,
 It 17 (.nck (.t 16)),
 Of 18 17 0,
 Ld 19 18,
 It 20 (.nck (.t 19)),
 Of 21 20 0,
 Of 22 21 4,
 Ld 23 22,
 It 24 (.lenk 0 (.t 23)),
 It 25 (.bin .sub (.t 24) (.c (.i .i64 (1)))),
 It 26 (.mm true (.t 25) [(.c i0)]),
 It 27 (.slq 2 (.t 15) none (some (.t 26)) none),
 It 28 (.nck (.t 7)),
 Of 29 28 0,
 Of 30 29 4,
 ⟨none, (.store 1 (.t 30) (.t 27)), none, []⟩] [])),
    31, 2, [], 0⟩
theorem tr178 : trFunc Tryz.prog (hz [(1, [0, 1, 2, 3, 4, 5, 6, 7, 8, 9, 10, 11, 12, 13, 14, 15, 16, 17, 18, 19, 20, 21, 22, 23, 24, 25, 26, 27])] I178.body) 0 Tryz.f178 = some (plain1 I178) := by kernel_rfl
theorem ck178 : ckC 2 I178.body = true := by kernel_rfl

/-- '(*encore/base.Machine).raise'. -/
def I179 : IFunc :=
  ⟨(.seq (.region [It 3 (.box (.t 1))] [])
 (.seq (.region [Mv 5 0,
 It 6 (.nck (.t 5)),
 Of 7 6 0,
 Ld 8 7,
 It 9 (.call 200 [(.t 8)]),
 It 4 (.alloc [i0, i0, (.s []), .ns, .ns]),
 ⟨none, (.store 5 (.t 4) (.t 9)), none, []⟩] [])
 (.seq (.seq (.region [Of 10 4 0,
 Ld 11 10,
 It 12 (.bin .neq (.t 11) (.c (.i .i64 (1)))),
 Mv 13 12,
 Ig 14 13 false (.off (.t 4) 1),
 Ig 15 13 false (.load none (.t 14)),
 Ig 16 13 false (.bin .eql (.t 15) (.c i0)),
 It 17 (.pick (.t 13) (.c (.b true)) (.t 16))] [])
 (.cond (.t 17)
 (.seq (.region [Mv 18 0,
 It 19 (.call 198 [(.t 18), (.c (.i .i64 (2)))])] [])
 .ret)
 .skip))
 (.region [Mv 20 0,
 Of 21 4 1,
 Ld 22 21,
 It 23 (.call 198 [(.t 20), (.t 22)])] [])))),
    24, 2, [], 0⟩
theorem tr179 : trFunc Tryz.prog (hz [] I179.body) 0 Tryz.f179 = some (plain1 I179) := by kernel_rfl
theorem ck179 : ckC 2 I179.body = true := by kernel_rfl

/-- '(*encore/base.Machine).call'. -/
def I180 : IFunc :=
  ⟨(.seq (.region [It 3 (.box (.t 1))] [])
 (.seq (.region [Mv 5 0,
 It 6 (.nck (.t 5)),
 Of 7 6 0,
 Ld 8 7,
 Mv 9 0,
 It 10 (.nck (.t 9)),
 Of 11 10 2,
 Of 12 11 0,
 Ld 13 12,
 Of 14 3 1,
 Ld 15 14,
 It 16 (.iaddr 4 (.t 13) (.t 15)),
 Of 17 16 1,
 Ld 18 17,
 It 19 (.call 201 [(.t 8), (.t 18)]),
 Mv 4 19] [])
 (.seq (.seq (.region [Mv 20 0,
 It 21 (.nck (.t 20)),
 Of 22 21 1,
 Ld 23 22,
 It 24 (.lenk 0 (.t 23)),
 It 25 (.bin .add (.t 24) (.c (.i .i64 (1)))),
 It 26 (.bin .geq (.t 25) (.c (.i .i64 (32))))] [])
 (.cond (.t 26)
 (.seq (.region [Mv 27 0,
 It 28 (.call 198 [(.t 27), (.c (.i .i64 (5)))])] [])
 .ret)
 .skip))
 (.seq (.region [Mv 29 0,
 Mv 30 0,
 It 31 (.nck (.t 30)),
 Of 32 31 1,
 Ld 33 32,
 Mv 34 0,
 It 35 (.nck (.t 34)),
 Of 36 35 0,
 Ld 37 36,
 It 38 (.bsl 1 1 [.np] [(0, 1, (.t 37))]),
 It 39 (.app 1 8 (.t 33) (.t 38)),
 It 40 (.nck (.t 29)),
 Of 41 40 1,
 ⟨none, (.store 1 (.t 41) (.t 39)), none, []⟩] [])
 (.region [Mv 42 0,
 Mv 43 0,
 Of 44 3 1,
 Ld 45 44,
 Mv 46 4,
 It 47 (.call 163 [(.t 43), (.t 45), (.t 46)]),
 It 48 (.nck (.t 42)),
 Of 49 48 0,
 ⟨none, (.store 1 (.t 49) (.t 47)), none, []⟩] []))))),
    50, 2, [], 0⟩
theorem tr180 : trFunc Tryz.prog (hz [(1, [0, 1, 2, 3, 4, 5, 6, 7, 8, 9, 10, 11, 12, 13, 14, 15]), (5, [0, 1, 2, 3, 4, 5, 6, 7, 8, 9, 10, 11, 12, 13])] I180.body) 0 Tryz.f180 = some (plain1 I180) := by kernel_rfl
theorem ck180 : ckC 2 I180.body = true := by kernel_rfl

/-- '(*encore/base.Machine).ret'. -/
def I181 : IFunc :=
  ⟨(.seq (.region [It 3 (.box (.t 1))] [])
 (.seq (.region [Mv 5 0,
 It 6 (.nck (.t 5)),
 Of 7 6 0,
 Ld 8 7,
 It 9 (.call 200 [(.t 8)]),
 It 4 (.alloc [i0, i0, (.s []), .ns, .ns]),
 ⟨none, (.store 5 (.t 4) (.t 9)), none, []⟩] [])
 (.seq (.seq (.region [Mv 10 0,
 It 11 (.call 202 [(.t 10)])] [])
 (.cond (.t 11)
 (.seq (.region [Mv 12 0,
 It 13 (.nck (.t 12)),
 Of 14 13 0,
 Ld 15 14,
 It 16 (.load (some 5) (.t 4)),
 It 17 (.call 199 [(.t 15), (.t 16)])] [])
 .ret)
 .skip))
 (.region [Mv 18 0,
 Mv 19 0,
 It 20 (.load (some 5) (.t 4)),
 It 21 (.nck (.t 18)),
 Of 22 21 5,
 ⟨none, (.store 1 (.t 22) (.c (.i .i64 (2)))), none, [(20, (.load (some 5) (.t 4)), none)]⟩,
 It 23 (.nck (.t 19)),
 Of 24 23 15,
 ⟨none, (.store 5 (.t 24) (.t 20)), none, []⟩] [])))),
    25, 2, [], 0⟩
theorem tr181 : trFunc Tryz.prog (hz [(3, [0, 1, 2, 3, 4, 5]), (5, [0, 1, 2, 3, 4, 5, 6, 7, 8])] I181.body) 0 Tryz.f181 = some (plain1 I181) := by kernel_rfl
theorem ck181 : ckC 2 I181.body = true := by kernel_rfl

/-- '(*encore/base.Machine).ask'. -/
def I182 : IFunc :=
  ⟨(.seq (.region [It 3 (.box (.t 1))] [])
 (.seq (.region [Of 7 3 1,
 Ld 8 7,
 It 9 (.build [i0, (.s []), i0, i0, (.s []), .ns, .ns, .ns] [(0, 1, (.t 8))]),
 It 4 (.alloc [i0, (.s []), i0, i0, (.s []), .ns, .ns, .ns]),
 ⟨none, (.store 8 (.t 4) (.t 9)), none, []⟩] [])
 (.seq (.region [It 5 (.mov (.c (.b true)))] [])
 (.seq (.seq (.region [Of 10 3 1,
 Ld 11 10] [])
 (.block 0
 (.seq (.seq (.region [It 13 (.bin .eql (.t 11) (.c (.i .i64 (1)))),
 Mv 12 13] [])
 (.cond (.t 12)
 .skip
 (.region [It 14 (.bin .eql (.t 11) (.c (.i .i64 (4)))),
 Mv 12 14] [])))
 (.cond (.t 12)
 (.region [Mv 15 0,
 It 16 (.nck (.t 15)),
 Of 17 16 2,
 Of 18 17 1,
 Ld 19 18,
 Of 20 3 2,
 Ld 21 20,
 It 22 (.iaddr 5 (.t 19) (.t 21)),
 Of 23 22 2,
 Ld 24 23,
 Mv 25 0,
 It 26 (.nck (.t 25)),
 Of 27 26 0,
 Ld 28 27,
 Of 30 4 1,
 ⟨(some 29), (.call 200 [(.t 28)]), none, [(19, (.load none (.t 18)), none), (21, (.load none (.t 20)), none), (24, (.load none (.t 23)), none)]⟩,
 ⟨none, (.store 1 (.t 30) (.t 24)), none, []⟩,
 Of 31 4 2,
 ⟨none, (.store 5 (.t 31) (.t 29)), none, []⟩] [])
 (.seq (.region [It 33 (.bin .eql (.t 11) (.c (.i .i64 (2)))),
 Mv 32 33] [])
 (.cond (.t 32)
 (.seq (.region [Mv 34 0,
 It 35 (.nck (.t 34)),
 Of 36 35 0,
 Ld 37 36,
 It 38 (.call 200 [(.t 37)]),
 Of 39 4 2,
 ⟨none, (.store 5 (.t 39) (.t 38)), none, []⟩] [])
 (.region [Of 40 4 2,
 Of 41 40 0,
 Ld 42 41,
 It 43 (.bin .eql (.t 42) (.c (.i .i64 (1)))),
 Mv 5 43] []))
 (.seq (.region [It 45 (.bin .eql (.t 11) (.c (.i .i64 (3)))),
 Mv 44 45] [])
 (.cond (.t 44)
 (.region [Mv 46 0,
 It 47 (.nck (.t 46)),
 Of 48 47 2,
 Of 49 48 1,
 Ld 50 49,
 Of 51 3 2,
 Ld 52 51,
 It 53 (.iaddr 5 (.t 50) (.t 52)),
 Of 54 53 2,
 Ld 55 54,
 Of 56 4 1,
 ⟨none, (.store 1 (.t 56) (.t 55)), none, []⟩] [])
 (.seq (.region [It 58 (.bin .eql (.t 11) (.c (.i .i64 (7)))),
 Mv 57 58] [])
 (.cond (.t 57)
 (.region [Mv 60 0,
 It 61 (.nck (.t 60)),
 Of 62 61 0,
 Ld 63 62,
 It 64 (.call 200 [(.t 63)]),
 It 65 (.bsl 5 1 [i0, i0, (.s []), .ns, .ns] [(0, 5, (.t 64))]),
 It 66 (.call 203 [(.t 65)]),
 Mv 59 66,
 Ex 67 59 0,
 Ex 68 59 1,
 Of 69 4 7,
 ⟨none, (.store 1 (.t 69) (.t 67)), none, []⟩,
 Mv 5 68] [])
 (.seq (.region [It 71 (.bin .eql (.t 11) (.c (.i .i64 (8)))),
 Mv 70 71] [])
 (.cond (.t 70)
 (.seq (.region [Mv 72 0,
 It 73 (.nck (.t 72)),
 Of 74 73 0,
 Ld 75 74,
 It 76 (.call 200 [(.t 75)]),
 It 6 (.alloc [i0, i0, (.s []), .ns, .ns]),
 ⟨none, (.store 5 (.t 6) (.t 76)), none, []⟩] [])
 (.seq (.region [Of 78 6 3,
 Ld 79 78,
 It 80 (.call 203 [(.t 79)]),
 Mv 77 80,
 Ex 81 77 0,
 Ex 82 77 1,
 Of 83 4 7,
 ⟨none, (.store 1 (.t 83) (.t 81)), none, []⟩,
 Mv 5 82] [])
 (.region [Mv 84 5,
 Mv 85 84,
 Ig 86 85 true (.off (.t 6) 0),
 Ig 87 85 true (.load none (.t 86)),
 Ig 88 85 true (.bin .eql (.t 87) (.c (.i .i64 (4)))),
 It 89 (.pick (.t 85) (.t 88) (.c (.b false))),
 Mv 90 89,
 Ig 91 90 true (.off (.t 6) 3),
 Ig 92 90 true (.load none (.t 91)),
 Ig 93 90 true (.lenk 0 (.t 92)),
 Ig 94 90 true (.bin .leq (.t 93) (.c (.i .i64 (8)))),
 It 95 (.pick (.t 90) (.t 94) (.c (.b false))),
 Mv 5 95] [])))
 .skip))))))))))))
 (.seq (.seq (.region [Mv 96 5,
 It 97 (.un .not (.t 96))] [])
 (.cond (.t 97)
 (.seq (.region [Mv 98 0,
 It 99 (.call 198 [(.t 98), (.c (.i .i64 (2)))])] [])
 .ret)
 .skip))
 (.region [Mv 100 0,
 Mv 101 0,
 It 102 (.load (some 8) (.t 4)),
 It 103 (.nck (.t 100)),
 Of 104 103 5,
 ⟨none, (.store 1 (.t 104) (.c (.i .i64 (1)))), none, [(102, (.load (some 8) (.t 4)), none)]⟩,
 It 105 (.nck (.t 101)),
 Of 106 105 7,
 ⟨none, (.store 8 (.t 106) (.t 102)), none, []⟩] [])))))),
    107, 2, [], 0⟩
theorem tr182 : trFunc Tryz.prog (hz [(7, [0, 1, 2, 3, 4, 5, 6, 7, 8, 9, 10, 11, 12, 13, 15, 14, 16, 17, 18]), (12, [0, 1, 2, 3, 4, 5, 6, 7, 8, 9, 10, 11]), (23, [0, 1, 2, 3, 4, 5, 6, 7, 8])] I182.body) 0 Tryz.f182 = some (plain1 I182) := by kernel_rfl
theorem ck182 : ckC 2 I182.body = true := by kernel_rfl

/-- 'encore/value.read'. -/
def L183a : ICode :=
  (.seq (.seq (.region [Mv 49 9,
 Mv 50 0,
 It 51 (.lenk 1 (.t 50)),
 It 52 (.bin .lss (.t 49) (.t 51)),
 Mv 53 52,
 Ig 54 53 true (.mov (.t 0)),
 Ig 55 53 true (.mov (.t 9)),
 Ig 56 53 true (.idxS (.t 54) (.t 55)),
 Ig 57 53 true (.bin .geq (.t 56) (.c (.i .u8 (97)))),
 It 58 (.pick (.t 53) (.t 57) (.c (.b false))),
 Mv 59 58,
 Ig 60 59 true (.mov (.t 0)),
 Ig 61 59 true (.mov (.t 9)),
 Ig 62 59 true (.idxS (.t 60) (.t 61)),
 Ig 63 59 true (.bin .leq (.t 62) (.c (.i .u8 (122)))),
 It 64 (.pick (.t 59) (.t 63) (.c (.b false)))] [])
 (.cond (.t 64)
 .skip
 (.exit 1)))
 (.block 2
 (.region [Mv 65 9,
 It 66 (.bin .add (.t 65) (.c (.i .i64 (1)))),
 Mv 9 66] [])))
def I183 : IFunc :=
  ⟨(.seq (.region [It 2 (.alloc [i0, .ns, .ns]),
 It 3 (.mov (.c (.s []))),
 It 4 (.mov (.c (.b false)))] [])
 (.seq (.block 0
 (.seq (.region [Mv 12 0,
 It 13 (.call 204 [(.t 12), (.c (.s [91]))]),
 Mv 11 13] [])
 (.cond (.t 11)
 (.seq (.region [Mv 15 0,
 It 16 (.slS (.t 15) (some (.c (.i .i64 (1)))) none),
 It 17 (.call 183 [(.t 16)]),
 Mv 14 17,
 Ex 18 14 0,
 Ex 19 14 1,
 Ex 20 14 2,
 It 5 (.alloc [i0, .ns, .ns]),
 ⟨none, (.store 3 (.t 5) (.t 18)), none, []⟩,
 Mv 6 19,
 Mv 7 20] [])
 (.seq (.region [Mv 22 6,
 It 23 (.call 205 [(.t 22), (.c (.s [93]))]),
 Mv 21 23,
 Ex 24 21 0,
 Ex 25 21 1,
 Mv 6 24,
 Mv 8 25] [])
 (.seq (.region [It 26 (.load (some 3) (.t 5)),
 It 27 (.bsl 3 1 [i0, .ns, .ns] [(0, 3, (.t 26))]),
 It 28 (.build [i0, .ns, .ns] [(0, 1, (.c (.i .i64 (4)))), (2, 1, (.t 27))]),
 Mv 29 6,
 Mv 30 7,
 Mv 31 30,
 Ig 32 31 true (.mov (.t 8)),
 It 33 (.pick (.t 31) (.t 32) (.c (.b false))),
 ⟨none, (.store 3 (.t 2) (.t 28)), none, []⟩,
 Mv 3 29,
 Mv 4 33] [])
 .ret)))
 (.seq (.region [Mv 35 0,
 It 36 (.call 204 [(.t 35), (.c (.s [123, 125]))]),
 Mv 34 36] [])
 (.cond (.t 34)
 (.seq (.region [It 37 (.build [i0, .ns, .ns] [(0, 1, (.c (.i .i64 (5))))]),
 Mv 38 0,
 It 39 (.slS (.t 38) (some (.c (.i .i64 (2)))) none),
 ⟨none, (.store 3 (.t 2) (.t 37)), none, []⟩,
 Mv 3 39,
 It 4 (.mov (.c (.b true)))] [])
 .ret)
 (.seq (.region [Mv 41 0,
 It 42 (.call 204 [(.t 41), (.c (.s [123]))]),
 Mv 40 42] [])
 (.cond (.t 40)
 (.seq (.region [Mv 43 0,
 It 44 (.slS (.t 43) (some (.c (.i .i64 (1)))) none),
 It 45 (.call 206 [(.t 44)]),
 Ex 46 45 0,
 Ex 47 45 1,
 Ex 48 45 2,
 ⟨none, (.store 3 (.t 2) (.t 46)), none, []⟩,
 Mv 3 47,
 Mv 4 48] [])
 .ret)
 .skip)))))))
 (.seq (.region [It 9 (.mov (.c i0))] [])
 (.seq (.block 1
 (.loop L183a))
 (.seq (.region [Mv 67 0,
 Mv 68 9,
 It 69 (.slS (.t 67) none (some (.t 68))),
 It 70 (.call 207 [(.t 69)]),
 Mv 10 70] [])
 (.seq (.region [Mv 71 10,
 It 72 (.build [i0, .ns, .ns] [(0, 1, (.t 71))]),
 Mv 73 0,
 Mv 74 9,
 It 75 (.slS (.t 73) (some (.t 74)) none),
 Mv 76 10,
 It 77 (.bin .geq (.t 76) (.c i0)),
 ⟨none, (.store 3 (.t 2) (.t 72)), none, []⟩,
 Mv 3 75,
 Mv 4 77] [])
 .ret)))))),
    78, 1, [.c 2 (some 3), .t 3, .t 4], 0⟩
theorem tr183 : trFunc Tryz.prog (hz [(6, [0, 1, 2, 3, 4, 5]), (15, [0, 1, 2, 3, 4, 5, 6, 7, 8, 9])] I183.body) 0 Tryz.f183 = some (plain1 I183) := by kernel_rfl
theorem ck183 : ckC 2 I183.body = true := by kernel_rfl

/-- 'encore/value.own'. -/
def I184 : IFunc :=
  ⟨(.seq (.region [It 1 (.box (.t 0)),
 It 2 (.mov (.c (.b false)))] [])
 (.seq (.seq (.region [Of 3 1 0,
 Ld 4 3] [])
 (.block 0
 (.seq (.region [It 6 (.bin .eql (.t 4) (.c i0)),
 Mv 5 6] [])
 (.cond (.t 5)
 (.seq (.region [Of 7 1 1,
 Ld 8 7,
 It 9 (.bin .eql (.t 8) (.c i0)),
 Mv 10 9,
 Ig 11 10 true (.build [(.b false), (.b false), (.b false)] []),
 Ig 12 10 true (.load (some 5) (.t 1)),
 Ig 13 10 true (.call 208 [(.t 11), (.t 12)]),
 It 14 (.pick (.t 10) (.t 13) (.c (.b false))),
 Mv 2 14] [])
 .ret)
 (.seq (.region [It 16 (.bin .eql (.t 4) (.c (.i .i64 (1)))),
 Mv 15 16] [])
 (.cond (.t 15)
 (.seq (.region [It 17 (.build [(.b false), (.b false), (.b false)] []),
 It 18 (.load (some 5) (.t 1)),
 It 19 (.call 208 [(.t 17), (.t 18)]),
 Mv 2 19] [])
 .ret)
 (.seq (.region [It 21 (.bin .eql (.t 4) (.c (.i .i64 (2)))),
 Mv 20 21] [])
 (.cond (.t 20)
 (.seq (.region [Of 22 1 1,
 Ld 23 22,
 It 24 (.bin .andNot (.t 23) (.c (.i .i64 (1)))),
 It 25 (.bin .eql (.t 24) (.c i0)),
 Mv 26 25,
 Ig 27 26 true (.build [(.b false), (.b false), (.b false)] []),
 Ig 28 26 true (.load (some 5) (.t 1)),
 Ig 29 26 true (.call 208 [(.t 27), (.t 28)]),
 It 30 (.pick (.t 26) (.t 29) (.c (.b false))),
 Mv 2 30] [])
 .ret)
 (.seq (.region [It 32 (.bin .eql (.t 4) (.c (.i .i64 (6)))),
 Mv 31 32] [])
 (.cond (.t 31)
 (.seq (.region [Of 33 1 1,
 Ld 34 33,
 It 35 (.bin .geq (.t 34) (.c (.i .i64 (1)))),
 Mv 36 35,
 Ig 37 36 true (.off (.t 1) 1),
 Ig 38 36 true (.load none (.t 37)),
 Ig 39 36 true (.bin .leq (.t 38) (.c (.i .i64 (64)))),
 It 40 (.pick (.t 36) (.t 39) (.c (.b false))),
 Mv 41 40,
 Ig 42 41 true (.build [(.b false), (.b false), (.b false)] []),
 Ig 43 41 true (.load (some 5) (.t 1)),
 Ig 44 41 true (.call 208 [(.t 42), (.t 43)]),
 It 45 (.pick (.t 41) (.t 44) (.c (.b false))),
 Mv 2 45] [])
 .ret)
 (.seq (.region [It 47 (.bin .eql (.t 4) (.c (.i .i64 (3)))),
 Mv 46 47] [])
 (.cond (.t 46)
 (.seq (.region [Of 48 1 1,
 Ld 49 48,
 It 50 (.bin .eql (.t 49) (.c i0)),
 Mv 51 50,
 Ig 52 51 true (.off (.t 1) 2),
 Ig 53 51 true (.load none (.t 52)),
 Ig 54 51 true (.lenk 1 (.t 53)),
 Ig 55 51 true (.bin .leq (.t 54) (.c (.i .i64 (64)))),
 It 56 (.pick (.t 51) (.t 55) (.c (.b false))),
 Mv 57 56,
 Ig 58 57 true (.build [(.b false), (.b false), (.b false)] [(0, 1, (.c (.b true)))]),
 Ig 59 57 true (.load (some 5) (.t 1)),
 Ig 60 57 true (.call 208 [(.t 58), (.t 59)]),
 It 61 (.pick (.t 57) (.t 60) (.c (.b false))),
 Mv 2 61] [])
 .ret)
 (.seq (.region [It 63 (.bin .eql (.t 4) (.c (.i .i64 (4)))),
 Mv 62 63] [])
 (.cond (.t 62)
 (.seq (.region [Of 64 1 1,
 Ld 65 64,
 It 66 (.bin .eql (.t 65) (.c i0)),
 Mv 67 66,
 Ig 68 67 true (.off (.t 1) 3),
 Ig 69 67 true (.load none (.t 68)),
 Ig 70 67 true (.lenk 0 (.t 69)),
 Ig 71 67 true (.bin .leq (.t 70) (.c (.i .i64 (32)))),
 It 72 (.pick (.t 67) (.t 71) (.c (.b false))),
 Mv 73 72,
 Ig 74 73 true (.build [(.b false), (.b false), (.b false)] [(1, 1, (.c (.b true)))]),
 Ig 75 73 true (.load (some 5) (.t 1)),
 Ig 76 73 true (.call 208 [(.t 74), (.t 75)]),
 It 77 (.pick (.t 73) (.t 76) (.c (.b false))),
 Mv 2 77] [])
 .ret)
 (.seq (.region [It 79 (.bin .eql (.t 4) (.c (.i .i64 (5)))),
 Mv 78 79] [])
 (.cond (.t 78)
 (.seq (.region [Of 80 1 1,
 Ld 81 80,
 It 82 (.bin .eql (.t 81) (.c i0)),
 Mv 83 82,
 Ig 84 83 true (.off (.t 1) 3),
 Ig 85 83 true (.load none (.t 84)),
 Ig 86 83 true (.lenk 0 (.t 85)),
 Ig 87 83 true (.off (.t 1) 4),
 Ig 88 83 true (.load none (.t 87)),
 Ig 89 83 true (.lenk 0 (.t 88)),
 Ig 90 83 true (.bin .eql (.t 86) (.t 89)),
 It 91 (.pick (.t 83) (.t 90) (.c (.b false))),
 Mv 92 91,
 Ig 93 92 true (.off (.t 1) 3),
 Ig 94 92 true (.load none (.t 93)),
 Ig 95 92 true (.lenk 0 (.t 94)),
 Ig 96 92 true (.bin .leq (.t 95) (.c (.i .i64 (8)))),
 It 97 (.pick (.t 92) (.t 96) (.c (.b false))),
 Mv 98 97,
 Ig 99 98 true (.build [(.b false), (.b false), (.b false)] [(1, 1, (.c (.b true))), (2, 1, (.c (.b true)))]),
 Ig 100 98 true (.load (some 5) (.t 1)),
 Ig 101 98 true (.call 208 [(.t 99), (.t 100)]),
 It 102 (.pick (.t 98) (.t 101) (.c (.b false))),
 Mv 103 102,
 Ig 104 103 true (.off (.t 1) 4),
 Ig 105 103 true (.load none (.t 104)),
 Ig 106 103 true (.call 209 [(.t 105)]),
 It 107 (.pick (.t 103) (.t 106) (.c (.b false))),
 Mv 2 107] [])
 .ret)
 .skip))))))))))))))))
 (.seq (.region [It 2 (.mov (.c (.b false)))] [])
 .ret))),
    108, 1, [.t 2], 0⟩
theorem tr184 : trFunc Tryz.prog (hz [] I184.body) 0 Tryz.f184 = some (plain1 I184) := by kernel_rfl
theorem ck184 : ckC 2 I184.body = true := by kernel_rfl

/-- 'cmp.Less[string]'. -/
def I185 : IFunc :=
  ⟨(.seq (.region [It 4 (.mov (.c (.b false)))] [])
 (.seq (.region [Mv 5 0,
 It 6 (.call 210 [(.t 5)]),
 Mv 7 6,
 Ig 8 7 true (.mov (.t 1)),
 Ig 9 7 true (.call 210 [(.t 8)]),
 Ig 10 7 true (.un .not (.t 9)),
 It 11 (.pick (.t 7) (.t 10) (.c (.b false))),
 Mv 12 11,
 Ig 13 12 false (.mov (.t 0)),
 Ig 14 12 false (.mov (.t 1)),
 Ig 15 12 false (.bin .lss (.t 13) (.t 14)),
 It 16 (.pick (.t 12) (.c (.b true)) (.t 15)),
 Mv 4 16] [])
 .ret)),
    17, 2, [.t 4], 0⟩
theorem tr185 : trFunc Tryz.prog (hz [] I185.body) 0 Tryz.f185 = some (plain1 I185) := by kernel_rfl
theorem ck185 : ckC 2 I185.body = true := by kernel_rfl

/-- 'slices.isNaN[string]'. -/
def I186 : IFunc :=
  ⟨(.seq (.region [It 2 (.mov (.c (.b false)))] [])
 (.seq (.region [Mv 3 0,
 Mv 4 0,
 It 5 (.bin .neq (.t 3) (.t 4)),
 Mv 2 5] [])
 .ret)),
    6, 1, [.t 2], 0⟩
theorem tr186 : trFunc Tryz.prog (hz [] I186.body) 0 Tryz.f186 = some (plain1 I186) := by kernel_rfl
theorem ck186 : ckC 2 I186.body = true := by kernel_rfl

/-- '(encore/code.site).value'. -/
def I187 : IFunc :=
  ⟨(.seq (.region [It 1 (.box (.t 0)),
 It 2 (.mov (.c (.b false)))] [])
 (.seq (.region [Of 3 1 2,
 Of 4 3 1,
 Ld 5 4,
 It 6 (.bin .geq (.t 5) (.c i0)),
 Mv 7 6,
 Ig 8 7 true (.off (.t 1) 2),
 Ig 9 7 true (.off (.t 8) 1),
 Ig 10 7 true (.load none (.t 9)),
 Ig 11 7 true (.off (.t 1) 0),
 Ig 12 7 true (.load none (.t 11)),
 Ig 13 7 true (.nck (.t 12)),
 Ig 14 7 true (.off (.t 13) 1),
 Ig 15 7 true (.load none (.t 14)),
 Ig 16 7 true (.lenk 0 (.t 15)),
 Ig 17 7 true (.bin .lss (.t 10) (.t 16)),
 It 18 (.pick (.t 7) (.t 17) (.c (.b false))),
 Mv 2 18] [])
 .ret)),
    19, 1, [.t 2], 0⟩
theorem tr187 : trFunc Tryz.prog (hz [(1, [0, 1, 2, 3, 4, 5, 6, 7, 8, 9, 10, 11, 12, 13, 14, 15, 16])] I187.body) 0 Tryz.f187 = some (plain1 I187) := by kernel_rfl
theorem ck187 : ckC 2 I187.body = true := by kernel_rfl

/-- '(encore/code.site).local'. -/
def I188 : IFunc :=
  ⟨(.seq (.region [It 1 (.box (.t 0)),
 It 2 (.mov (.c (.b false)))] [])
 (.seq (.region [Of 3 1 2,
 Of 4 3 1,
 Ld 5 4,
 It 6 (.bin .geq (.t 5) (.c i0)),
 Mv 7 6,
 Ig 8 7 true (.off (.t 1) 2),
 Ig 9 7 true (.off (.t 8) 1),
 Ig 10 7 true (.load none (.t 9)),
 Ig 11 7 true (.off (.t 1) 1),
 Ig 12 7 true (.load none (.t 11)),
 Ig 13 7 true (.nck (.t 12)),
 Ig 14 7 true (.off (.t 13) 2),
 Ig 15 7 true (.load none (.t 14)),
 Ig 16 7 true (.bin .lss (.t 10) (.t 15)),
 It 17 (.pick (.t 7) (.t 16) (.c (.b false))),
 Mv 2 17] [])
 .ret)),
    18, 1, [.t 2], 0⟩
theorem tr188 : trFunc Tryz.prog (hz [(1, [0, 1, 2, 3, 4, 5, 6, 7, 8, 9, 10, 11, 12, 13, 14, 15])] I188.body) 0 Tryz.f188 = some (plain1 I188) := by kernel_rfl
theorem ck188 : ckC 2 I188.body = true := by kernel_rfl

/-- '(encore/code.site).count'. -/
def I189 : IFunc :=
  ⟨(.seq (.region [It 1 (.box (.t 0)),
 It 2 (.mov (.c (.b false)))] [])
 (.seq (.region [Of 3 1 2,
 Of 4 3 1,
 Ld 5 4,
 It 6 (.bin .geq (.t 5) (.c i0)),
 Mv 7 6,
 Ig 8 7 true (.off (.t 1) 2),
 Ig 9 7 true (.off (.t 8) 1),
 Ig 10 7 true (.load none (.t 9)),
 Ig 11 7 true (.bin .leq (.t 10) (.c (.i .i64 (8)))),
 It 12 (.pick (.t 7) (.t 11) (.c (.b false))),
 Mv 2 12] [])
 .ret)),
    13, 1, [.t 2], 0⟩
theorem tr189 : trFunc Tryz.prog (hz [] I189.body) 0 Tryz.f189 = some (plain1 I189) := by kernel_rfl
theorem ck189 : ckC 2 I189.body = true := by kernel_rfl

/-- '(encore/code.site).fields'. -/
def I190 : IFunc :=
  ⟨(.seq (.region [It 1 (.box (.t 0)),
 It 2 (.mov (.c (.b false)))] [])
 (.seq (.region [It 3 (.load (some 5) (.t 1)),
 It 4 (.call 187 [(.t 3)]),
 Mv 5 4,
 Ig 6 5 true (.off (.t 1) 0),
 Ig 7 5 true (.load none (.t 6)),
 Ig 8 5 true (.nck (.t 7)),
 Ig 9 5 true (.off (.t 8) 1),
 Ig 10 5 true (.load none (.t 9)),
 Ig 11 5 true (.off (.t 1) 2),
 Ig 12 5 true (.off (.t 11) 1),
 Ig 13 5 true (.load none (.t 12)),
 Ig 14 5 true (.iaddr 5 (.t 10) (.t 13)),
 Ig 15 5 true (.load (some 5) (.t 14)),
 Ig 16 5 true (.call 211 [(.t 15)]),
 It 17 (.pick (.t 5) (.t 16) (.c (.b false))),
 Mv 2 17] [])
 .ret)),
    18, 1, [.t 2], 0⟩
theorem tr190 : trFunc Tryz.prog (hz [(1, [0, 1, 2, 3, 4, 5, 6, 7, 8, 9, 10, 11, 12, 13, 14, 15])] I190.body) 0 Tryz.f190 = some (plain1 I190) := by kernel_rfl
theorem ck190 : ckC 2 I190.body = true := by kernel_rfl

/-- '(encore/code.site).field'. -/
def I191 : IFunc :=
  ⟨(.seq (.region [It 1 (.box (.t 0)),
 It 2 (.mov (.c (.b false)))] [])
 (.seq (.region [Of 3 1 0,
 Ld 4 3,
 Of 5 1 2,
 Of 6 5 1,
 Ld 7 6,
 It 8 (.call 212 [(.t 4), (.t 7)]),
 Mv 2 8] [])
 .ret)),
    9, 1, [.t 2], 0⟩
theorem tr191 : trFunc Tryz.prog (hz [] I191.body) 0 Tryz.f191 = some (plain1 I191) := by kernel_rfl
theorem ck191 : ckC 2 I191.body = true := by kernel_rfl

/-- '(encore/code.site).typed'. -/
def I192 : IFunc :=
  ⟨(.seq (.region [It 1 (.box (.t 0)),
 It 2 (.mov (.c (.b false)))] [])
 (.seq (.region [Of 6 1 0,
 Ld 7 6,
 Of 8 1 2,
 Of 9 8 1,
 Ld 10 9,
 It 11 (.call 213 [(.t 7), (.t 10)]),
 Mv 5 11,
 Ex 12 5 0,
 Ex 13 5 1,
 Mv 3 12,
 Mv 4 13] [])
 (.seq (.region [Mv 14 4,
 Mv 15 14,
 Ig 16 15 true (.mov (.t 3)),
 Ig 17 15 true (.call 84 [(.t 16)]),
 It 18 (.pick (.t 15) (.t 17) (.c (.b false))),
 Mv 2 18] [])
 .ret))),
    19, 1, [.t 2], 0⟩
theorem tr192 : trFunc Tryz.prog (hz [] I192.body) 0 Tryz.f192 = some (plain1 I192) := by kernel_rfl
theorem ck192 : ckC 2 I192.body = true := by kernel_rfl

/-- '(encore/code.site).place'. -/
def I193 : IFunc :=
  ⟨(.seq (.region [It 1 (.box (.t 0)),
 It 2 (.mov (.c (.b false)))] [])
 (.seq (.region [Of 3 1 2,
 Of 4 3 1,
 Ld 5 4,
 It 6 (.bin .geq (.t 5) (.c i0)),
 Mv 7 6,
 Ig 8 7 true (.off (.t 1) 2),
 Ig 9 7 true (.off (.t 8) 1),
 Ig 10 7 true (.load none (.t 9)),
 Ig 11 7 true (.off (.t 1) 1),
 Ig 12 7 true (.load none (.t 11)),
 Ig 13 7 true (.nck (.t 12)),
 Ig 14 7 true (.off (.t 13) 3),
 Ig 15 7 true (.load none (.t 14)),
 Ig 16 7 true (.lenk 0 (.t 15)),
 Ig 17 7 true (.bin .lss (.t 10) (.t 16)),
 It 18 (.pick (.t 7) (.t 17) (.c (.b false))),
 Mv 2 18] [])
 .ret)),
    19, 1, [.t 2], 0⟩
theorem tr193 : trFunc Tryz.prog (hz [(1, [0, 1, 2, 3, 4, 5, 6, 7, 8, 9, 10, 11, 12, 13, 14, 15, 16])] I193.body) 0 Tryz.f193 = some (plain1 I193) := by kernel_rfl
theorem ck193 : ckC 2 I193.body = true := by kernel_rfl

/-- '(encore/code.site).fn'. -/
def I194 : IFunc :=
  ⟨(.seq (.region [It 1 (.box (.t 0)),
 It 2 (.mov (.c (.b false)))] [])
 (.seq (.region [Of 3 1 2,
 Of 4 3 1,
 Ld 5 4,
 It 6 (.bin .geq (.t 5) (.c i0)),
 Mv 7 6,
 Ig 8 7 true (.off (.t 1) 2),
 Ig 9 7 true (.off (.t 8) 1),
 Ig 10 7 true (.load none (.t 9)),
 Ig 11 7 true (.off (.t 1) 0),
 Ig 12 7 true (.load none (.t 11)),
 Ig 13 7 true (.nck (.t 12)),
 Ig 14 7 true (.off (.t 13) 0),
 Ig 15 7 true (.load none (.t 14)),
 Ig 16 7 true (.lenk 0 (.t 15)),
 Ig 17 7 true (.bin .lss (.t 10) (.t 16)),
 It 18 (.pick (.t 7) (.t 17) (.c (.b false))),
 Mv 2 18] [])
 .ret)),
    19, 1, [.t 2], 0⟩
theorem tr194 : trFunc Tryz.prog (hz [(1, [0, 1, 2, 3, 4, 5, 6, 7, 8, 9, 10, 11, 12, 13, 14, 15, 16])] I194.body) 0 Tryz.f194 = some (plain1 I194) := by kernel_rfl
theorem ck194 : ckC 2 I194.body = true := by kernel_rfl

/-- '(encore/code.site).ask'. -/
def I195 : IFunc :=
  ⟨(.seq (.region [It 1 (.box (.t 0)),
 It 2 (.mov (.c (.b false)))] [])
 (.seq (.seq (.region [Of 7 1 2,
 Of 8 7 1,
 Ld 9 8] [])
 (.block 0
 (.seq (.seq (.region [It 11 (.bin .eql (.t 9) (.c (.i .i64 (1)))),
 Mv 10 11] [])
 (.cond (.t 10)
 .skip
 (.region [It 12 (.bin .eql (.t 9) (.c (.i .i64 (3)))),
 Mv 10 12] [])))
 (.cond (.t 10)
 (.seq (.region [Of 13 1 0,
 Ld 14 13,
 Of 15 1 2,
 Of 16 15 2,
 Ld 17 16,
 It 18 (.call 212 [(.t 14), (.t 17)]),
 Mv 2 18] [])
 .ret)
 (.seq (.region [It 20 (.bin .eql (.t 9) (.c (.i .i64 (4)))),
 Mv 19 20] [])
 (.cond (.t 19)
 (.seq (.region [Of 22 1 0,
 Ld 23 22,
 Of 24 1 2,
 Of 25 24 2,
 Ld 26 25,
 It 27 (.call 213 [(.t 23), (.t 26)]),
 Mv 21 27,
 Ex 28 21 0,
 Ex 29 21 1,
 Mv 3 28,
 Mv 4 29] [])
 (.seq (.region [Of 31 1 0,
 Ld 32 31,
 It 33 (.nck (.t 32)),
 It 34 (.load (some 2) (.t 33)),
 Mv 35 3,
 It 36 (.call 214 [(.t 34), (.t 35)]),
 Mv 30 36,
 Ex 37 30 0,
 Ex 38 30 1,
 Mv 5 37,
 Mv 6 38] [])
 (.seq (.region [Mv 39 4,
 Mv 40 39,
 Ig 41 40 true (.mov (.t 6)),
 It 42 (.pick (.t 40) (.t 41) (.c (.b false))),
 Mv 43 42,
 Ig 44 43 true (.off (.t 1) 0),
 Ig 45 43 true (.load none (.t 44)),
 Ig 46 43 true (.nck (.t 45)),
 Ig 47 43 true (.off (.t 46) 0),
 Ig 48 43 true (.load none (.t 47)),
 Ig 49 43 true (.mov (.t 5)),
 Ig 50 43 true (.iaddr 4 (.t 48) (.t 49)),
 Ig 51 43 true (.off (.t 50) 1),
 Ig 52 43 true (.load none (.t 51)),
 Ig 53 43 true (.bin .eql (.t 52) (.c (.i .i64 (1)))),
 It 54 (.pick (.t 43) (.t 53) (.c (.b false))),
 Mv 2 54] [])
 .ret)))
 (.seq (.seq (.region [It 56 (.bin .eql (.t 9) (.c (.i .i64 (2)))),
 Mv 55 56] [])
 (.cond (.t 55)
 .skip
 (.seq (.region [It 57 (.bin .eql (.t 9) (.c (.i .i64 (5)))),
 Mv 55 57] [])
 (.cond (.t 55)
 .skip
 (.seq (.region [It 58 (.bin .eql (.t 9) (.c (.i .i64 (6)))),
 Mv 55 58] [])
 (.cond (.t 55)
 .skip
 (.seq (.region [It 59 (.bin .eql (.t 9) (.c (.i .i64 (7)))),
 Mv 55 59] [])
 (.cond (.t 55)
 .skip
 (.region [It 60 (.bin .eql (.t 9) (.c (.i .i64 (8)))),
 Mv 55 60] [])))))))))
 (.cond (.t 55)
 (.seq (.region [Of 61 1 2,
 Of 62 61 2,
 Ld 63 62,
 It 64 (.bin .eql (.t 63) (.c i0)),
 Mv 2 64] [])
 .ret)
 .skip))))))))
 (.seq (.region [It 2 (.mov (.c (.b false)))] [])
 .ret))),
    65, 1, [.t 2], 0⟩
theorem tr195 : trFunc Tryz.prog (hz [] I195.body) 0 Tryz.f195 = some (plain1 I195) := by kernel_rfl
theorem ck195 : ckC 2 I195.body = true := by kernel_rfl

/-- '(encore/code.site).none'. -/
def I196 : IFunc :=
  ⟨(.seq (.region [It 1 (.box (.t 0)),
 It 2 (.mov (.c (.b false)))] [])
 (.seq (.region [Of 3 1 2,
 Of 4 3 1,
 Ld 5 4,
 It 6 (.bin .eql (.t 5) (.c i0)),
 Mv 2 6] [])
 .ret)),
    7, 1, [.t 2], 0⟩
theorem tr196 : trFunc Tryz.prog (hz [] I196.body) 0 Tryz.f196 = some (plain1 I196) := by kernel_rfl
theorem ck196 : ckC 2 I196.body = true := by kernel_rfl

/-- 'encore/base.may$1'. -/
def I197 : IFunc :=
  ⟨(.seq (.region [It 1 (.box (.t 0)),
 It 2 (.mov (.c (.b false)))] [])
 (.seq (.region [It 3 (.load (some 5) (.t 1)),
 It 4 (.call 86 [(.t 3)]),
 It 5 (.bin .neq (.t 4) (.c i0)),
 Mv 2 5] [])
 .ret)),
    6, 1, [.t 2], 0⟩
theorem tr197 : trFunc Tryz.prog (hz [] I197.body) 0 Tryz.f197 = some (plain1 I197) := by kernel_rfl
theorem ck197 : ckC 2 I197.body = true := by kernel_rfl

/-- '(*encore/base.Machine).throw'. -/
def L198a : ICode :=
  (.seq (.seq (.region [Mv 6 0,
 It 7 (.nck (.t 6)),
 Of 8 7 0,
 Ld 9 8,
 It 10 (.nck (.t 9)),
 Of 11 10 0,
 Of 12 11 4,
 Ld 13 12,
 It 14 (.lenk 0 (.t 13)),
 It 15 (.bin .eql (.t 14) (.c i0))] [])
 (.cond (.t 15)
 .skip
 (.exit 0)))
 (.block 1
 (.seq (.region [Mv 16 0,
 It 17 (.call 202 [(.t 16)]),
 It 18 (.un .not (.t 17))] [])
 (.cond (.t 18)
 (.seq (.region [Mv 19 0,
 Mv 20 0,
 Mv 21 1,
 It 22 (.nck (.t 19)),
 Of 23 22 5,
 ⟨none, (.store 1 (.t 23) (.c (.i .i64 (3)))), none, []⟩,
 It 24 (.nck (.t 20)),
 Of 25 24 20,
 ⟨none, (.store 1 (.t 25) (.t 21)), none, []⟩] [])
 .ret)
 .skip))))
def I198 : IFunc :=
  ⟨(.seq (.block 0
 (.loop L198a))
 (.seq (.region [Mv 26 0,
 It 27 (.nck (.t 26)),
 Of 28 27 0,
 Ld 29 28,
 It 30 (.nck (.t 29)),
 Of 31 30 0,
 Of 32 31 4,
 Ld 33 32,
 It 34 (.lenk 0 (.t 33)),
 It 35 (.bin .sub (.t 34) (.c (.i .i64 (1)))),
 Mv 4 35] [])
 (.seq (.region [Mv 36 0,
 It 37 (.nck (.t 36)),
 Of 38 37 0,
 Ld 39 38,
 It 40 (.nck (.t 39)),
 Of 41 40 0,
 Of 42 41 4,
 Ld 43 42,
 Mv 44 4,
 It 45 (.iaddr 2 (.t 43) (.t 44)),
 It 46 (.load (some 2) (.t 45)),
 It 5 (.alloc [i0, i0]),
 ⟨none, (.store 2 (.t 5) (.t 46)), none, []⟩] [])
 (.seq (.region [Mv 47 0,
 It 48 (.nck (.t 47)),
 Of 49 48 0,
 Ld 50 49,
 Mv 51 0,
 It 52 (.nck (.t 51)),
 Of 53 52 0,
 Ld 54 53,
 It 55 (.nck (.t 54)),
 Of 56 55 0,
 Of 57 56 4,
 Ld 58 57,
 Mv 59 4,
 It 60 (.slq 2 (.t 58) none (some (.t 59)) none),
 It 61 (.nck (.t 50)),
 Of 62 61 0,
 Of 63 62 4,
 ⟨none, (.store 1 (.t 63) (.t 60)), none, []⟩] [])
 (.seq (.region [Mv 64 0,
 It 65 (.nck (.t 64)),
 Of 66 65 0,
 Ld 67 66,
 Mv 68 0,
 It 69 (.nck (.t 68)),
 Of 70 69 0,
 Ld 71 70,
 It 72 (.nck (.t 71)),
 Of 73 72 0,
 Of 74 73 3,
 Ld 75 74,
 Of 76 5 1,
 Ld 77 76,
 Mv 78 0,
 It 79 (.nck (.t 78)),
 Of 80 79 0,
 Ld 81 80,
 It 82 (.nck (.t 81)),
 Of 83 82 0,
 Of 84 83 3,
 Ld 85 84,
 It 86 (.lenk 0 (.t 85)),
 It 87 (.mm false (.t 77) [(.t 86)]),
 It 88 (.slq 5 (.t 75) none (some (.t 87)) none),
 It 89 (.nck (.t 67)),
 Of 90 89 0,
 Of 91 90 3,
 ⟨none, (.store 1 (.t 91) (.t 88)), none, []⟩] [])
 (.seq (.region [Mv 92 0,
 It 93 (.nck (.t 92)),
 Of 94 93 0,
 Ld 95 94,
 Of 96 5 0,
 Ld 97 96,
 It 98 (.nck (.t 95)),
 Of 99 98 0,
 Of 100 99 1,
 ⟨none, (.store 1 (.t 100) (.t 97)), none, []⟩] [])
 (.region [Mv 101 0,
 It 102 (.nck (.t 101)),
 Of 103 102 0,
 Ld 104 103,
 Mv 105 1,
 It 106 (.build [i0, i0, (.s []), .ns, .ns] [(0, 1, (.c (.i .i64 (1)))), (1, 1, (.t 105))]),
 It 107 (.call 199 [(.t 104), (.t 106)])] []))))))),
    108, 2, [], 0⟩
theorem tr198 : trFunc Tryz.prog (hz [(7, [0, 1, 2, 3, 4, 5, 6, 7, 8, 9, 10, 11, 12, 13, 14, 15, 16, 17]), (8, [0, 1, 2, 3, 4, 5, 6, 7, 8, 9, 10, 11, 12, 13, 14, 15, 16, 17, 18, 19, 20, 21, 22, 23, 24, 25, 26, 27, 28]), (9, [0, 1, 2, 3, 4, 5, 6, 7, 8, 9])] I198.body) 0 Tryz.f198 = some (plain1 I198) := by kernel_rfl
theorem ck198 : ckC 2 I198.body = true := by kernel_rfl

/-- '(*encore/base.frame).on'. -/
def I199 : IFunc :=
  ⟨(.seq (.region [It 3 (.box (.t 1))] [])
 (.region [Mv 4 0,
 It 5 (.nck (.t 4)),
 Of 6 5 0,
 Of 7 6 3,
 Ld 8 7,
 It 9 (.load (some 5) (.t 3)),
 It 10 (.lenk 0 (.t 8)),
 It 11 (.bsl 5 1 [i0, i0, (.s []), .ns, .ns] [(0, 5, (.c (.ag [i0, i0, (.s []), .ns, .ns])))]),
 It 12 (.app 5 80 (.t 8) (.t 11)),
 It 13 (.iaddr 5 (.t 12) (.t 10)),
 It 14 (.nck (.t 4)),
 Of 15 14 0,
 Of 16 15 3,
 ⟨none, (.store 5 (.t 13) (.t 9)), none, []⟩,
 ⟨none, (.store 1 (.t 16) (.t 12)), none, [(9, (.load (some 5) (.t 13)), none)]⟩] [])),
    17, 2, [], 0⟩
theorem tr199 : trFunc Tryz.prog (hz [(1, [0, 1, 2, 3, 4, 5, 6, 7, 8, 9, 11, 12, 13, 10, 14])] I199.body) 0 Tryz.f199 = some (plain1 I199) := by kernel_rfl
theorem ck199 : ckC 2 I199.body = true := by kernel_rfl

/-- '(*encore/base.frame).one'. -/
def I200 : IFunc :=
  ⟨(.seq (.region [It 2 (.alloc [i0, i0, (.s []), .ns, .ns])] [])
 (.seq (.region [Mv 3 0,
 It 4 (.call 201 [(.t 3), (.c (.i .i64 (1)))]),
 It 5 (.iaddr 5 (.t 4) (.c i0)),
 It 6 (.load (some 5) (.t 5)),
 ⟨none, (.store 5 (.t 2) (.t 6)), none, []⟩] [])
 .ret)),
    7, 1, [.c 2 (some 5)], 0⟩
theorem tr200 : trFunc Tryz.prog (hz [] I200.body) 0 Tryz.f200 = some (plain1 I200) := by kernel_rfl
theorem ck200 : ckC 2 I200.body = true := by kernel_rfl

/-- '(*encore/base.frame).off'. -/
def L201a : ICode :=
  (.seq (.seq (.region [Mv 35 6,
 It 36 (.lenk 0 (.t 35)),
 Mv 37 1,
 It 38 (.bin .lss (.t 36) (.t 37))] [])
 (.cond (.t 38)
 .skip
 (.exit 0)))
 (.block 1
 (.region [Mv 39 6,
 It 40 (.build [i0, i0, (.s []), .ns, .ns] []),
 It 41 (.bsl 5 1 [i0, i0, (.s []), .ns, .ns] [(0, 5, (.t 40))]),
 It 42 (.app 5 80 (.t 39) (.t 41)),
 Mv 6 42] [])))
def I201 : IFunc :=
  ⟨(.seq (.region [It 4 (.mov (.c .ns))] [])
 (.seq (.region [Mv 7 0,
 It 8 (.nck (.t 7)),
 Of 9 8 0,
 Of 10 9 3,
 Ld 11 10,
 It 12 (.lenk 0 (.t 11)),
 Mv 13 1,
 It 14 (.bin .sub (.t 12) (.t 13)),
 It 15 (.mm true (.t 14) [(.c i0)]),
 Mv 5 15] [])
 (.seq (.region [Mv 16 0,
 It 17 (.nck (.t 16)),
 Of 18 17 0,
 Of 19 18 3,
 Ld 20 19,
 Mv 21 5,
 It 22 (.sl 5 (.t 20) (some (.t 21)) none none),
 It 23 (.call 114 [(.t 22)]),
 Mv 6 23] [])
 (.seq (.region [Mv 24 0,
 Mv 25 0,
 It 26 (.nck (.t 25)),
 Of 27 26 0,
 Of 28 27 3,
 Ld 29 28,
 Mv 30 5,
 It 31 (.sl 5 (.t 29) none (some (.t 30)) none),
 It 32 (.nck (.t 24)),
 Of 33 32 0,
 Of 34 33 3,
 ⟨none, (.store 1 (.t 34) (.t 31)), none, []⟩] [])
 (.seq (.block 0
 (.loop L201a))
 (.seq (.region [Mv 43 6,
 Mv 4 43] [])
 .ret)))))),
    44, 2, [.t 4], 0⟩
theorem tr201 : trFunc Tryz.prog (hz [] I201.body) 0 Tryz.f201 = some (plain1 I201) := by kernel_rfl
theorem ck201 : ckC 2 I201.body = true := by kernel_rfl

/-- '(*encore/base.Machine).drop'. -/
def I202 : IFunc :=
  ⟨(.seq (.region [It 2 (.mov (.c (.b false)))] [])
 (.seq (.region [Mv 4 0,
 It 5 (.nck (.t 4)),
 Of 6 5 1,
 Ld 7 6,
 It 8 (.lenk 0 (.t 7)),
 Mv 3 8] [])
 (.seq (.seq (.region [Mv 9 3,
 It 10 (.bin .eql (.t 9) (.c i0))] [])
 (.cond (.t 10)
 (.seq (.region [Mv 11 0,
 It 12 (.nck (.t 11)),
 Of 13 12 0,
 ⟨none, (.store 1 (.t 13) (.c .np)), none, []⟩] [])
 (.seq (.region [It 2 (.mov (.c (.b false)))] [])
 .ret))
 .skip))
 (.seq (.region [Mv 14 0,
 Mv 15 0,
 Mv 16 0,
 It 17 (.nck (.t 16)),
 Of 18 17 1,
 Ld 19 18,
 Mv 20 3,
 It 21 (.bin .sub (.t 20) (.c (.i .i64 (1)))),
 It 22 (.iaddr 1 (.t 19) (.t 21)),
 Ld 23 22,
 Mv 24 0,
 It 25 (.nck (.t 24)),
 Of 26 25 1,
 Ld 27 26,
 Mv 28 3,
 It 29 (.bin .sub (.t 28) (.c (.i .i64 (1)))),
 It 30 (.slq 1 (.t 27) none (some (.t 29)) none),
 It 31 (.nck (.t 14)),
 Of 32 31 0,
 ⟨none, (.store 1 (.t 32) (.t 23)), none, [(30, (.slq 1 (.t 27) none (some (.t 29)) none), none)]⟩,
 It 33 (.nck (.t 15)),
 Of 34 33 1,
 ⟨none, (.store 1 (.t 34) (.t 30)), none, []⟩] [])
 (.seq (.region [It 2 (.mov (.c (.b true)))] [])
 .ret))))),
    35, 1, [.t 2], 0⟩
theorem tr202 : trFunc Tryz.prog (hz [(6, [0, 1, 2, 3, 4, 5, 6, 7, 8, 9, 10, 11, 12, 13, 14, 15, 16, 17, 18, 19, 20, 21, 22])] I202.body) 0 Tryz.f202 = some (plain1 I202) := by kernel_rfl
theorem ck202 : ckC 2 I202.body = true := by kernel_rfl

/-- 'encore/base.futures'. -/
def L203a : ICode :=
  (.seq (.region [It 9 (.bin .lss (.t 8) (.t 7))] [])
 (.seq (.cond (.t 9)
 .skip
 (.exit 0))
 (.seq (.block 1
 (.seq (.region [It 10 (.iaddr 5 (.t 6) (.t 8)),
 It 11 (.load (some 5) (.t 10)),
 It 5 (.alloc [i0, i0, (.s []), .ns, .ns]),
 ⟨none, (.store 5 (.t 5) (.t 11)), none, []⟩] [])
 (.seq (.seq (.region [Of 12 5 0,
 Ld 13 12,
 It 14 (.bin .neq (.t 13) (.c (.i .i64 (6))))] [])
 (.cond (.t 14)
 (.seq (.region [It 2 (.mov (.c .ns)),
 It 3 (.mov (.c (.b false)))] [])
 .ret)
 .skip))
 (.region [Mv 15 2,
 Of 16 5 1,
 Ld 17 16,
 It 18 (.bsl 1 1 [i0] [(0, 1, (.t 17))]),
 It 19 (.app 1 8 (.t 15) (.t 18)),
 Mv 2 19] []))))
 (.region [It 20 (.bin .add (.t 8) (.c (.i .i64 (1)))),
 Mv 8 20] []))))
def I203 : IFunc :=
  ⟨(.seq (.region [It 2 (.mov (.c .ns)),
 It 3 (.mov (.c (.b false)))] [])
 (.seq (.seq (.region [Mv 6 0,
 It 7 (.lenk 0 (.t 6)),
 It 8 (.mov (.c i0))] [])
 (.block 0
 (.loop L203a)))
 (.seq (.region [Mv 21 2,
 Mv 22 2,
 It 23 (.lenk 0 (.t 22)),
 It 24 (.bin .gtr (.t 23) (.c i0)),
 Mv 2 21,
 Mv 3 24] [])
 .ret))),
    25, 1, [.t 2, .t 3], 0⟩
theorem tr203 : trFunc Tryz.prog (hz [] I203.body) 0 Tryz.f203 = some (plain1 I203) := by kernel_rfl
theorem ck203 : ckC 2 I203.body = true := by kernel_rfl

/-- 'strings.HasPrefix'. -/
def I204 : IFunc :=
  ⟨(.seq (.region [It 4 (.mov (.c (.b false)))] [])
 (.seq (.region [Mv 5 0,
 Mv 6 1,
 It 7 (.call 215 [(.t 5), (.t 6)]),
 Mv 4 7] [])
 .ret)),
    8, 2, [.t 4], 0⟩
theorem tr204 : trFunc Tryz.prog (hz [] I204.body) 0 Tryz.f204 = some (plain1 I204) := by kernel_rfl
theorem ck204 : ckC 2 I204.body = true := by kernel_rfl

/-- 'strings.CutPrefix'. -/
def I205 : IFunc :=
  ⟨(.seq (.region [It 4 (.mov (.c (.s []))),
 It 5 (.mov (.c (.b false)))] [])
 (.seq (.region [Mv 6 0,
 Mv 7 1,
 It 8 (.call 216 [(.t 6), (.t 7)]),
 Ex 9 8 0,
 Ex 10 8 1,
 Mv 4 9,
 Mv 5 10] [])
 .ret)),
    11, 2, [.t 4, .t 5], 0⟩
theorem tr205 : trFunc Tryz.prog (hz [] I205.body) 0 Tryz.f205 = some (plain1 I205) := by kernel_rfl
theorem ck205 : ckC 2 I205.body = true := by kernel_rfl

/-- 'encore/value.readRec'. -/
def L206a : ICode :=
  (.block 1
 (.seq (.region [Mv 13 0,
 It 14 (.call 217 [(.t 13), (.c (.s [58]))]),
 Mv 12 14,
 Ex 15 12 0,
 Ex 16 12 1,
 Ex 17 12 2,
 Mv 5 15,
 Mv 6 16,
 Mv 7 17] [])
 (.seq (.region [Mv 19 6,
 It 20 (.call 183 [(.t 19)]),
 Mv 18 20,
 Ex 21 18 0,
 Ex 22 18 1,
 Ex 23 18 2,
 It 8 (.alloc [i0, .ns, .ns]),
 ⟨none, (.store 3 (.t 8) (.t 21)), none, []⟩,
 Mv 9 22,
 Mv 10 23] [])
 (.seq (.seq (.region [Mv 24 7,
 It 25 (.un .not (.t 24)),
 Mv 26 25,
 Ig 27 26 false (.mov (.t 10)),
 Ig 28 26 false (.un .not (.t 27)),
 It 29 (.pick (.t 26) (.c (.b true)) (.t 28)),
 Mv 30 29,
 Ig 31 30 false (.mov (.t 9)),
 Ig 32 30 false (.bin .eql (.t 31) (.c (.s []))),
 It 33 (.pick (.t 30) (.c (.b true)) (.t 32))] [])
 (.cond (.t 33)
 (.seq (.region [It 34 (.build [i0, .ns, .ns] []),
 ⟨none, (.store 3 (.t 2) (.t 34)), none, []⟩,
 It 3 (.mov (.c (.s []))),
 It 4 (.mov (.c (.b false)))] [])
 .ret)
 .skip))
 (.seq (.region [Of 35 2 1,
 Ld 36 35,
 Mv 37 5,
 It 38 (.bsl 1 1 [(.s [])] [(0, 1, (.t 37))]),
 Of 40 2 2,
 Ld 41 40,
 It 42 (.load (some 3) (.t 8)),
 It 43 (.bsl 3 1 [i0, .ns, .ns] [(0, 3, (.t 42))]),
 ⟨(some 39), (.app 1 16 (.t 36) (.t 38)), none, [(41, (.load none (.t 40)), none), (42, (.load (some 3) (.t 8)), none)]⟩,
 Of 45 2 1,
 It 44 (.app 3 56 (.t 41) (.t 43)),
 ⟨none, (.store 1 (.t 45) (.t 39)), none, []⟩,
 Of 46 2 2,
 ⟨none, (.store 1 (.t 46) (.t 44)), none, []⟩] [])
 (.seq (.region [Mv 47 9,
 It 48 (.slS (.t 47) (some (.c (.i .i64 (1)))) none),
 Mv 0 48] [])
 (.seq (.seq (.region [Mv 49 9,
 It 50 (.idxS (.t 49) (.c i0))] [])
 (.block 2
 (.seq (.region [It 52 (.bin .eql (.t 50) (.c (.i .u8 (125)))),
 Mv 51 52] [])
 (.cond (.t 51)
 (.seq (.region [It 53 (.load (some 3) (.t 2)),
 Mv 54 0,
 Of 55 2 1,
 Ld 56 55,
 ⟨(some 57), (.call 209 [(.t 56)]), none, [(53, (.load (some 3) (.t 2)), none)]⟩,
 ⟨none, (.store 3 (.t 2) (.t 53)), none, []⟩,
 Mv 3 54,
 Mv 4 57] [])
 .ret)
 (.seq (.region [It 59 (.bin .eql (.t 50) (.c (.i .u8 (44)))),
 Mv 58 59] [])
 (.cond (.t 58)
 (.exit 1)
 .skip))))))
 (.seq (.region [It 60 (.build [i0, .ns, .ns] []),
 ⟨none, (.store 3 (.t 2) (.t 60)), none, []⟩,
 It 3 (.mov (.c (.s []))),
 It 4 (.mov (.c (.b false)))] [])
 .ret))))))))
def I206 : IFunc :=
  ⟨(.seq (.region [It 2 (.alloc [i0, .ns, .ns]),
 It 3 (.mov (.c (.s []))),
 It 4 (.mov (.c (.b false)))] [])
 (.seq (.region [Of 11 2 0,
 ⟨none, (.store 1 (.t 11) (.c (.i .i64 (5)))), none, []⟩] [])
 (.block 0
 (.loop L206a)))),
    61, 1, [.c 2 (some 3), .t 3, .t 4], 0⟩
theorem tr206 : trFunc Tryz.prog (hz [(7, [0, 1, 2, 3, 5, 6, 7, 8, 4, 10, 9, 11, 12, 13]), (11, [0, 1, 2, 3, 4, 5, 6, 7])] I206.body) 0 Tryz.f206 = some (plain1 I206) := by kernel_rfl
theorem ck206 : ckC 2 I206.body = true := by kernel_rfl

/-- 'encore/value.kindOf'. -/
def I207 : IFunc :=
  ⟨(.seq (.region [It 2 (.mov (.c i0))] [])
 (.seq (.seq (.region [Mv 3 0] [])
 (.block 0
 (.seq (.region [It 5 (.bin .eql (.t 3) (.c (.s [110, 111, 110, 101]))),
 Mv 4 5] [])
 (.cond (.t 4)
 (.seq (.region [It 2 (.mov (.c i0))] [])
 .ret)
 (.seq (.region [It 7 (.bin .eql (.t 3) (.c (.s [105, 110, 116]))),
 Mv 6 7] [])
 (.cond (.t 6)
 (.seq (.region [It 2 (.mov (.c (.i .i64 (1))))] [])
 .ret)
 (.seq (.region [It 9 (.bin .eql (.t 3) (.c (.s [98, 111, 111, 108]))),
 Mv 8 9] [])
 (.cond (.t 8)
 (.seq (.region [It 2 (.mov (.c (.i .i64 (2))))] [])
 .ret)
 (.seq (.region [It 11 (.bin .eql (.t 3) (.c (.s [116, 101, 120, 116]))),
 Mv 10 11] [])
 (.cond (.t 10)
 (.seq (.region [It 2 (.mov (.c (.i .i64 (3))))] [])
 .ret)
 (.seq (.region [It 13 (.bin .eql (.t 3) (.c (.s [102, 117, 116, 117, 114, 101]))),
 Mv 12 13] [])
 (.cond (.t 12)
 (.seq (.region [It 2 (.mov (.c (.i .i64 (6))))] [])
 .ret)
 .skip))))))))))))
 (.seq (.region [It 2 (.mov (.c (.i .i64 (-1))))] [])
 .ret))),
    14, 1, [.t 2], 0⟩
theorem tr207 : trFunc Tryz.prog (hz [] I207.body) 0 Tryz.f207 = some (plain1 I207) := by kernel_rfl
theorem ck207 : ckC 2 I207.body = true := by kernel_rfl

/-- '(encore/value.plain).bare'. -/
def I208 : IFunc :=
  ⟨(.seq (.region [It 2 (.box (.t 0)),
 It 3 (.box (.t 1)),
 It 4 (.mov (.c (.b false)))] [])
 (.seq (.region [Of 5 2 0,
 Ld 6 5,
 Mv 7 6,
 Ig 8 7 false (.off (.t 3) 2),
 Ig 9 7 false (.load none (.t 8)),
 Ig 10 7 false (.bin .eql (.t 9) (.c (.s []))),
 It 11 (.pick (.t 7) (.c (.b true)) (.t 10)),
 Mv 12 11,
 Ig 13 12 true (.off (.t 2) 1),
 Ig 14 12 true (.load none (.t 13)),
 Ig 15 12 true (.mov (.t 14)),
 Ig 16 15 false (.off (.t 3) 3),
 Ig 17 15 false (.load none (.t 16)),
 Ig 18 15 false (.lenk 0 (.t 17)),
 Ig 19 15 false (.bin .eql (.t 18) (.c i0)),
 Ig 20 12 true (.pick (.t 15) (.c (.b true)) (.t 19)),
 It 21 (.pick (.t 12) (.t 20) (.c (.b false))),
 Mv 22 21,
 Ig 23 22 true (.off (.t 2) 2),
 Ig 24 22 true (.load none (.t 23)),
 Ig 25 22 true (.mov (.t 24)),
 Ig 26 25 false (.off (.t 3) 4),
 Ig 27 25 false (.load none (.t 26)),
 Ig 28 25 false (.lenk 0 (.t 27)),
 Ig 29 25 false (.bin .eql (.t 28) (.c i0)),
 Ig 30 22 true (.pick (.t 25) (.c (.b true)) (.t 29)),
 It 31 (.pick (.t 22) (.t 30) (.c (.b false))),
 Mv 4 31] [])
 .ret)),
    32, 2, [.t 4], 0⟩
theorem tr208 : trFunc Tryz.prog (hz [] I208.body) 0 Tryz.f208 = some (plain1 I208) := by kernel_rfl
theorem ck208 : ckC 2 I208.body = true := by kernel_rfl

/-- 'encore/value.rising'. -/
def L209a : ICode :=
  (.seq (.region [It 9 (.bin .lss (.t 8) (.t 7))] [])
 (.seq (.cond (.t 9)
 .skip
 (.exit 0))
 (.seq (.block 1
 (.seq (.region [It 10 (.iaddr 1 (.t 6) (.t 8)),
 Ld 11 10,
 Mv 5 11] [])
 (.seq (.seq (.region [Mv 12 5,
 Mv 13 3,
 It 14 (.bin .leq (.t 12) (.t 13)),
 Mv 15 14,
 Ig 16 15 false (.mov (.t 5)),
 Ig 17 15 false (.call 218 [(.t 16)]),
 Ig 18 15 false (.un .not (.t 17)),
 It 19 (.pick (.t 15) (.c (.b true)) (.t 18))] [])
 (.cond (.t 19)
 (.seq (.region [It 2 (.mov (.c (.b false)))] [])
 .ret)
 .skip))
 (.region [Mv 20 5,
 Mv 3 20] []))))
 (.region [It 21 (.bin .add (.t 8) (.c (.i .i64 (1)))),
 Mv 8 21] []))))
def I209 : IFunc :=
  ⟨(.seq (.region [It 2 (.mov (.c (.b false)))] [])
 (.seq (.region [It 3 (.mov (.c (.s [])))] [])
 (.seq (.seq (.region [Mv 6 0,
 It 7 (.lenk 0 (.t 6)),
 It 8 (.mov (.c i0))] [])
 (.block 0
 (.loop L209a)))
 (.seq (.region [It 2 (.mov (.c (.b true)))] [])
 .ret)))),
    22, 1, [.t 2], 0⟩
theorem tr209 : trFunc Tryz.prog (hz [] I209.body) 0 Tryz.f209 = some (plain1 I209) := by kernel_rfl
theorem ck209 : ckC 2 I209.body = true := by kernel_rfl

/-- 'cmp.isNaN[string]'. -/
def I210 : IFunc :=
  ⟨(.seq (.region [It 2 (.mov (.c (.b false)))] [])
 (.seq (.region [Mv 3 0,
 Mv 4 0,
 It 5 (.bin .neq (.t 3) (.t 4)),
 Mv 2 5] [])
 .ret)),
    6, 1, [.t 2], 0⟩
theorem tr210 : trFunc Tryz.prog (hz [] I210.body) 0 Tryz.f210 = some (plain1 I210) := by kernel_rfl
theorem ck210 : ckC 2 I210.body = true := by kernel_rfl

/-- 'encore/code.record'. -/
def L211a : ICode :=
  (.seq (.region [It 15 (.bin .lss (.t 14) (.t 13))] [])
 (.seq (.cond (.t 15)
 .skip
 (.exit 0))
 (.seq (.block 1
 (.seq (.region [It 16 (.iaddr 5 (.t 12) (.t 14)),
 It 17 (.load (some 5) (.t 16)),
 It 5 (.alloc [i0, i0, (.s []), .ns, .ns]),
 ⟨none, (.store 5 (.t 5) (.t 17)), none, []⟩] [])
 (.seq (.seq (.region [Of 18 5 0,
 Ld 19 18,
 It 20 (.bin .neq (.t 19) (.c (.i .i64 (3))))] [])
 (.cond (.t 20)
 (.seq (.region [It 2 (.mov (.c (.b false)))] [])
 .ret)
 .skip))
 (.region [Of 21 3 4,
 Ld 22 21,
 Of 23 5 2,
 Ld 24 23,
 It 25 (.bsl 1 1 [(.s [])] [(0, 1, (.t 24))]),
 It 26 (.app 1 16 (.t 22) (.t 25)),
 Of 27 3 4,
 ⟨none, (.store 1 (.t 27) (.t 26)), none, []⟩] []))))
 (.region [It 28 (.bin .add (.t 14) (.c (.i .i64 (1)))),
 Mv 14 28] []))))
def I211 : IFunc :=
  ⟨(.seq (.region [It 1 (.box (.t 0)),
 It 2 (.mov (.c (.b false)))] [])
 (.seq (.region [Of 6 1 3,
 Ld 7 6,
 It 8 (.lenk 0 (.t 7)),
 It 9 (.mksl 5 80 [i0, i0, (.s []), .ns, .ns] (.t 8) (.t 8)),
 It 10 (.build [i0, i0, (.s []), .ns, .ns] [(0, 1, (.c (.i .i64 (5)))), (3, 1, (.t 9))]),
 It 3 (.alloc [i0, i0, (.s []), .ns, .ns]),
 ⟨none, (.store 5 (.t 3) (.t 10)), none, []⟩] [])
 (.seq (.seq (.region [Of 11 1 3,
 Ld 12 11,
 It 13 (.lenk 0 (.t 12)),
 It 14 (.mov (.c i0))] [])
 (.block 0
 (.loop L211a)))
 (.seq (.region [Of 29 1 0,
 Ld 30 29,
 It 31 (.bin .eql (.t 30) (.c (.i .i64 (4)))),
 Mv 32 31,
 Ig 33 32 true (.off (.t 1) 3),
 Ig 34 32 true (.load none (.t 33)),
 Ig 35 32 true (.lenk 0 (.t 34)),
 Ig 36 32 true (.bin .leq (.t 35) (.c (.i .i64 (8)))),
 It 37 (.pick (.t 32) (.t 36) (.c (.b false))),
 Mv 38 37,
 Ig 39 38 true (.load (some 5) (.t 3)),
 Ig 40 38 true (.call 86 [(.t 39)]),
 Ig 41 38 true (.bin .eql (.t 40) (.c i0)),
 It 42 (.pick (.t 38) (.t 41) (.c (.b false))),
 Mv 2 42] [])
 .ret)))),
    43, 1, [.t 2], 0⟩
theorem tr211 : trFunc Tryz.prog (hz [] I211.body) 0 Tryz.f211 = some (plain1 I211) := by kernel_rfl
theorem ck211 : ckC 2 I211.body = true := by kernel_rfl

/-- 'encore/code.named'. -/
def I212 : IFunc :=
  ⟨(.seq (.region [It 4 (.mov (.c (.b false)))] [])
 (.seq (.region [Mv 8 0,
 Mv 9 1,
 It 10 (.call 213 [(.t 8), (.t 9)]),
 Mv 7 10,
 Ex 11 7 0,
 Ex 12 7 1,
 Mv 5 11,
 Mv 6 12] [])
 (.seq (.region [Mv 13 6,
 Mv 14 13,
 Ig 15 14 true (.mov (.t 5)),
 Ig 16 14 true (.call 154 [(.t 15)]),
 It 17 (.pick (.t 14) (.t 16) (.c (.b false))),
 Mv 4 17] [])
 .ret))),
    18, 2, [.t 4], 0⟩
theorem tr212 : trFunc Tryz.prog (hz [] I212.body) 0 Tryz.f212 = some (plain1 I212) := by kernel_rfl
theorem ck212 : ckC 2 I212.body = true := by kernel_rfl

/-- 'encore/code.text'. -/
def I213 : IFunc :=
  ⟨(.seq (.region [It 4 (.mov (.c (.s []))),
 It 5 (.mov (.c (.b false)))] [])
 (.seq (.seq (.region [Mv 7 1,
 It 8 (.bin .lss (.t 7) (.c i0)),
 Mv 9 8,
 Ig 10 9 false (.mov (.t 1)),
 Ig 11 9 false (.mov (.t 0)),
 Ig 12 9 false (.nck (.t 11)),
 Ig 13 9 false (.off (.t 12) 1),
 Ig 14 9 false (.load none (.t 13)),
 Ig 15 9 false (.lenk 0 (.t 14)),
 Ig 16 9 false (.bin .geq (.t 10) (.t 15)),
 It 17 (.pick (.t 9) (.c (.b true)) (.t 16))] [])
 (.cond (.t 17)
 (.seq (.region [It 4 (.mov (.c (.s []))),
 It 5 (.mov (.c (.b false)))] [])
 .ret)
 .skip))
 (.seq (.region [Mv 18 0,
 It 19 (.nck (.t 18)),
 Of 20 19 1,
 Ld 21 20,
 Mv 22 1,
 It 23 (.iaddr 5 (.t 21) (.t 22)),
 It 24 (.load (some 5) (.t 23)),
 It 6 (.alloc [i0, i0, (.s []), .ns, .ns]),
 ⟨none, (.store 5 (.t 6) (.t 24)), none, []⟩] [])
 (.seq (.region [Of 25 6 2,
 Ld 26 25,
 Of 27 6 0,
 Ld 28 27,
 It 29 (.bin .eql (.t 28) (.c (.i .i64 (3)))),
 Mv 4 26,
 Mv 5 29] [])
 .ret)))),
    30, 2, [.t 4, .t 5], 0⟩
theorem tr213 : trFunc Tryz.prog (hz [(5, [0, 1, 2, 3, 4, 5, 6])] I213.body) 0 Tryz.f213 = some (plain1 I213) := by kernel_rfl
theorem ck213 : ckC 2 I213.body = true := by kernel_rfl

/-- 'encore/code.Find'. -/
def I214 : IFunc :=
  ⟨(.seq (.region [It 2 (.box (.t 0)),
 It 3 (.box (.t 1)),
 It 4 (.mov (.c i0)),
 It 5 (.mov (.c (.b false)))] [])
 (.seq (.region [Of 7 2 0,
 Ld 8 7,
 It 9 (.mkf 219 [] [(.t 3)]),
 It 10 (.call 153 [(.t 8), (.t 9)]),
 Mv 6 10] [])
 (.seq (.region [Mv 11 6,
 It 12 (.mm true (.t 11) [(.c i0)]),
 Mv 13 6,
 It 14 (.bin .geq (.t 13) (.c i0)),
 Mv 4 12,
 Mv 5 14] [])
 .ret))),
    15, 2, [.t 4, .t 5], 0⟩
theorem tr214 : trFunc Tryz.prog (hz [] I214.body) 0 Tryz.f214 = some (plain1 I214) := by kernel_rfl
theorem ck214 : ckC 2 I214.body = true := by kernel_rfl

/-- 'internal/stringslite.HasPrefix'. -/
def I215 : IFunc :=
  ⟨(.seq (.region [It 4 (.mov (.c (.b false)))] [])
 (.seq (.region [Mv 5 0,
 It 6 (.lenk 1 (.t 5)),
 Mv 7 1,
 It 8 (.lenk 1 (.t 7)),
 It 9 (.bin .geq (.t 6) (.t 8)),
 Mv 10 9,
 Ig 11 10 true (.mov (.t 0)),
 Ig 12 10 true (.mov (.t 1)),
 Ig 13 10 true (.lenk 1 (.t 12)),
 Ig 14 10 true (.slS (.t 11) none (some (.t 13))),
 Ig 15 10 true (.mov (.t 1)),
 Ig 16 10 true (.bin .eql (.t 14) (.t 15)),
 It 17 (.pick (.t 10) (.t 16) (.c (.b false))),
 Mv 4 17] [])
 .ret)),
    18, 2, [.t 4], 0⟩
theorem tr215 : trFunc Tryz.prog (hz [] I215.body) 0 Tryz.f215 = some (plain1 I215) := by kernel_rfl
theorem ck215 : ckC 2 I215.body = true := by kernel_rfl

/-- 'internal/stringslite.CutPrefix'. -/
def I216 : IFunc :=
  ⟨(.seq (.region [It 4 (.mov (.c (.s []))),
 It 5 (.mov (.c (.b false)))] [])
 (.seq (.seq (.region [Mv 6 0,
 Mv 7 1,
 It 8 (.call 215 [(.t 6), (.t 7)]),
 It 9 (.un .not (.t 8))] [])
 (.cond (.t 9)
 (.seq (.region [Mv 10 0,
 Mv 4 10,
 It 5 (.mov (.c (.b false)))] [])
 .ret)
 .skip))
 (.seq (.region [Mv 11 0,
 Mv 12 1,
 It 13 (.lenk 1 (.t 12)),
 It 14 (.slS (.t 11) (some (.t 13)) none),
 Mv 4 14,
 It 5 (.mov (.c (.b true)))] [])
 .ret))),
    15, 2, [.t 4, .t 5], 0⟩
theorem tr216 : trFunc Tryz.prog (hz [] I216.body) 0 Tryz.f216 = some (plain1 I216) := by kernel_rfl
theorem ck216 : ckC 2 I216.body = true := by kernel_rfl

/-- 'strings.Cut'. -/
def I217 : IFunc :=
  ⟨(.seq (.region [It 4 (.mov (.c (.s []))),
 It 5 (.mov (.c (.s []))),
 It 6 (.mov (.c (.b false)))] [])
 (.seq (.region [Mv 7 0,
 Mv 8 1,
 It 9 (.call 220 [(.t 7), (.t 8)]),
 Ex 10 9 0,
 Ex 11 9 1,
 Ex 12 9 2,
 Mv 4 10,
 Mv 5 11,
 Mv 6 12] [])
 .ret)),
    13, 2, [.t 4, .t 5, .t 6], 0⟩
theorem tr217 : trFunc Tryz.prog (hz [] I217.body) 0 Tryz.f217 = some (plain1 I217) := by kernel_rfl
theorem ck217 : ckC 2 I217.body = true := by kernel_rfl

/-- 'encore/value.named'. -/
def L218a : ICode :=
  (.seq (.region [It 17 (.bin .lss (.t 16) (.t 15))] [])
 (.seq (.cond (.t 17)
 .skip
 (.exit 0))
 (.seq (.block 1
 (.seq (.region [Mv 18 16,
 It 19 (.iaddr 1 (.t 14) (.t 16)),
 Ld 20 19,
 Mv 3 18,
 Mv 4 20] [])
 (.seq (.region [Mv 21 4,
 It 22 (.bin .geq (.t 21) (.c (.i .u8 (97)))),
 Mv 23 22,
 Ig 24 23 true (.mov (.t 4)),
 Ig 25 23 true (.bin .leq (.t 24) (.c (.i .u8 (122)))),
 It 26 (.pick (.t 23) (.t 25) (.c (.b false))),
 Mv 5 26] [])
 (.seq (.region [Mv 27 5,
 It 28 (.un .not (.t 27)),
 Mv 29 28,
 Ig 30 29 true (.mov (.t 3)),
 Ig 31 29 true (.bin .eql (.t 30) (.c i0)),
 Ig 32 29 true (.mov (.t 31)),
 Ig 33 32 false (.mov (.t 4)),
 Ig 34 32 false (.bin .neq (.t 33) (.c (.i .u8 (95)))),
 Ig 35 32 false (.mov (.t 34)),
 Ig 36 35 true (.mov (.t 4)),
 Ig 37 35 true (.bin .lss (.t 36) (.c (.i .u8 (48)))),
 Ig 38 35 true (.mov (.t 37)),
 Ig 39 38 false (.mov (.t 4)),
 Ig 40 38 false (.bin .gtr (.t 39) (.c (.i .u8 (57)))),
 Ig 41 35 true (.pick (.t 38) (.c (.b true)) (.t 40)),
 Ig 42 32 false (.pick (.t 35) (.t 41) (.c (.b false))),
 Ig 43 29 true (.pick (.t 32) (.c (.b true)) (.t 42)),
 It 44 (.pick (.t 29) (.t 43) (.c (.b false)))] [])
 (.cond (.t 44)
 (.seq (.region [It 2 (.mov (.c (.b false)))] [])
 .ret)
 .skip)))))
 (.region [It 45 (.bin .add (.t 16) (.c (.i .i64 (1)))),
 Mv 16 45] []))))
def I218 : IFunc :=
  ⟨(.seq (.region [It 2 (.mov (.c (.b false)))] [])
 (.seq (.seq (.region [Mv 6 0,
 It 7 (.bin .eql (.t 6) (.c (.s []))),
 Mv 8 7,
 Ig 9 8 false (.mov (.t 0)),
 Ig 10 8 false (.lenk 1 (.t 9)),
 Ig 11 8 false (.bin .gtr (.t 10) (.c (.i .i64 (16)))),
 It 12 (.pick (.t 8) (.c (.b true)) (.t 11))] [])
 (.cond (.t 12)
 (.seq (.region [It 2 (.mov (.c (.b false)))] [])
 .ret)
 .skip))
 (.seq (.seq (.region [Mv 13 0,
 It 14 (.s2b (.t 13)),
 It 15 (.lenk 0 (.t 14)),
 It 16 (.mov (.c i0))] [])
 (.block 0
 (.loop L218a)))
 (.seq (.region [It 2 (.mov (.c (.b true)))] [])
 .ret)))),
    46, 1, [.t 2], 0⟩
theorem tr218 : trFunc Tryz.prog (hz [] I218.body) 0 Tryz.f218 = some (plain1 I218) := by kernel_rfl
theorem ck218 : ckC 2 I218.body = true := by kernel_rfl

/-- 'encore/code.Find$1'. -/
def I219 : IFunc :=
  ⟨(.seq (.region [It 2 (.box (.t 0)),
 It 3 (.mov (.c (.b false)))] [])
 (.seq (.region [Of 4 2 0,
 Ld 5 4,
 Ld 6 1,
 It 7 (.bin .eql (.t 5) (.t 6)),
 Mv 3 7] [])
 .ret)),
    8, 2, [.t 3], 0⟩
theorem tr219 : trFunc Tryz.prog (hz [] I219.body) 0 Tryz.f219 = some (plain1 I219) := by kernel_rfl
theorem ck219 : ckC 2 I219.body = true := by kernel_rfl

/-- 'internal/stringslite.Cut'. -/
def I220 : IFunc :=
  ⟨(.seq (.region [It 4 (.mov (.c (.s []))),
 It 5 (.mov (.c (.s []))),
 It 6 (.mov (.c (.b false)))] [])
 (.seq (.seq (.region [Mv 8 0,
 Mv 9 1,
 It 10 (.call 221 [(.t 8), (.t 9)]),
 Mv 7 10] [])
 (.seq (.region [Mv 11 7,
 It 12 (.bin .geq (.t 11) (.c i0))] [])
 (.cond (.t 12)
 (.seq (.region [Mv 13 0,
 Mv 14 7,
 It 15 (.slS (.t 13) none (some (.t 14))),
 Mv 16 0,
 Mv 17 7,
 Mv 18 1,
 It 19 (.lenk 1 (.t 18)),
 It 20 (.bin .add (.t 17) (.t 19)),
 It 21 (.slS (.t 16) (some (.t 20)) none),
 Mv 4 15,
 Mv 5 21,
 It 6 (.mov (.c (.b true)))] [])
 .ret)
 .skip)))
 (.seq (.region [Mv 22 0,
 Mv 4 22,
 It 5 (.mov (.c (.s []))),
 It 6 (.mov (.c (.b false)))] [])
 .ret))),
    23, 2, [.t 4, .t 5, .t 6], 0⟩
theorem tr220 : trFunc Tryz.prog (hz [(3, [0, 1, 2, 3, 4, 5, 6, 7, 8, 9, 10, 11])] I220.body) 0 Tryz.f220 = some (plain1 I220) := by kernel_rfl
theorem ck220 : ckC 2 I220.body = true := by kernel_rfl

/-- 'internal/stringslite.Index'. -/
def L221a : ICode :=
  (.seq (.seq (.region [Mv 57 8,
 Mv 58 9,
 It 59 (.bin .lss (.t 57) (.t 58))] [])
 (.cond (.t 59)
 .skip
 (.exit 1)))
 (.block 2
 (.seq (.seq (.region [Mv 60 0,
 Mv 61 8,
 It 62 (.idxS (.t 60) (.t 61)),
 Mv 63 6,
 It 64 (.bin .neq (.t 62) (.t 63))] [])
 (.cond (.t 64)
 (.seq (.region [Mv 65 0,
 Mv 66 8,
 It 67 (.bin .add (.t 66) (.c (.i .i64 (1)))),
 Mv 68 9,
 It 69 (.slS (.t 65) (some (.t 67)) (some (.t 68))),
 Mv 70 6,
 It 71 (.call 222 [(.t 69), (.t 70)]),
 Mv 11 71] [])
 (.seq (.seq (.region [Mv 72 11,
 It 73 (.bin .lss (.t 72) (.c i0))] [])
 (.cond (.t 73)
 (.seq (.region [It 4 (.mov (.c (.i .i64 (-1))))] [])
 .ret)
 .skip))
 (.region [Mv 74 8,
 Mv 75 11,
 It 76 (.bin .add (.t 75) (.c (.i .i64 (1)))),
 It 77 (.bin .add (.t 74) (.t 76)),
 Mv 8 77] [])))
 .skip))
 (.seq (.seq (.region [Mv 78 0,
 Mv 79 8,
 It 80 (.bin .add (.t 79) (.c (.i .i64 (1)))),
 It 81 (.idxS (.t 78) (.t 80)),
 Mv 82 7,
 It 83 (.bin .eql (.t 81) (.t 82)),
 Mv 84 83,
 Ig 85 84 true (.mov (.t 0)),
 Ig 86 84 true (.mov (.t 8)),
 Ig 87 84 true (.mov (.t 8)),
 Ig 88 84 true (.mov (.t 5)),
 Ig 89 84 true (.bin .add (.t 87) (.t 88)),
 Ig 90 84 true (.slS (.t 85) (some (.t 86)) (some (.t 89))),
 Ig 91 84 true (.mov (.t 1)),
 Ig 92 84 true (.bin .eql (.t 90) (.t 91)),
 It 93 (.pick (.t 84) (.t 92) (.c (.b false)))] [])
 (.cond (.t 93)
 (.seq (.region [Mv 94 8,
 Mv 4 94] [])
 .ret)
 .skip))
 (.seq (.region [Mv 95 8,
 It 96 (.bin .add (.t 95) (.c (.i .i64 (1)))),
 Mv 8 96] [])
 (.seq (.region [Mv 97 10,
 It 98 (.bin .add (.t 97) (.c (.i .i64 (1)))),
 Mv 10 98] [])
 (.seq (.region [Mv 99 5,
 It 100 (.load none (.g 1)),
 It 101 (.bin .leq (.t 99) (.t 100)),
 Mv 102 101,
 Ig 103 102 true (.mov (.t 10)),
 Ig 104 102 true (.mov (.t 8)),
 Ig 105 102 true (.call 224 [(.t 104)]),
 Ig 106 102 true (.bin .gtr (.t 103) (.t 105)),
 It 107 (.pick (.t 102) (.t 106) (.c (.b false)))] [])
 (.cond (.t 107)
 (.seq (.region [Mv 108 0,
 Mv 109 8,
 It 110 (.slS (.t 108) (some (.t 109)) none),
 Mv 111 1,
 It 112 (.call 223 [(.t 110), (.t 111)]),
 Mv 12 112] [])
 (.seq (.seq (.region [Mv 113 12,
 It 114 (.bin .geq (.t 113) (.c i0))] [])
 (.cond (.t 114)
 (.seq (.region [Mv 115 12,
 Mv 116 8,
 It 117 (.bin .add (.t 115) (.t 116)),
 Mv 4 117] [])
 .ret)
 .skip))
 (.seq (.region [It 4 (.mov (.c (.i .i64 (-1))))] [])
 .ret)))
 (.seq (.region [Mv 118 5,
 It 119 (.load none (.g 1)),
 It 120 (.bin .gtr (.t 118) (.t 119)),
 Mv 121 120,
 Ig 122 121 true (.mov (.t 10)),
 Ig 123 121 true (.mov (.t 8)),
 Ig 124 121 true (.bin .shr (.t 123) (.c (.i .u64 (4)))),
 Ig 125 121 true (.bin .add (.c (.i .i64 (4))) (.t 124)),
 Ig 126 121 true (.bin .geq (.t 122) (.t 125)),
 It 127 (.pick (.t 121) (.t 126) (.c (.b false))),
 Mv 128 127,
 Ig 129 128 true (.mov (.t 8)),
 Ig 130 128 true (.mov (.t 9)),
 Ig 131 128 true (.bin .lss (.t 129) (.t 130)),
 It 132 (.pick (.t 128) (.t 131) (.c (.b false)))] [])
 (.cond (.t 132)
 (.seq (.region [Mv 133 0,
 Mv 134 8,
 It 135 (.slS (.t 133) (some (.t 134)) none),
 Mv 136 1,
 It 137 (.call 225 [(.t 135), (.t 136)]),
 Mv 13 137] [])
 (.seq (.seq (.region [Mv 138 13,
 It 139 (.bin .lss (.t 138) (.c i0))] [])
 (.cond (.t 139)
 (.seq (.region [It 4 (.mov (.c (.i .i64 (-1))))] [])
 .ret)
 .skip))
 (.seq (.region [Mv 140 8,
 Mv 141 13,
 It 142 (.bin .add (.t 140) (.t 141)),
 Mv 4 142] [])
 .ret)))
 .skip))))))))))
def I221 : IFunc :=
  ⟨(.seq (.region [It 4 (.mov (.c i0))] [])
 (.seq (.region [Mv 14 1,
 It 15 (.lenk 1 (.t 14)),
 Mv 5 15] [])
 (.seq (.block 0
 (.seq (.region [Mv 17 5,
 It 18 (.bin .eql (.t 17) (.c i0)),
 Mv 19 18,
 Ig 20 19 false (.mov (.t 1)),
 Ig 21 19 false (.mov (.t 0)),
 Ig 22 19 false (.bin .eql (.t 20) (.t 21)),
 It 23 (.pick (.t 19) (.c (.b true)) (.t 22)),
 Mv 16 23] [])
 (.cond (.t 16)
 (.seq (.region [It 4 (.mov (.c i0))] [])
 .ret)
 (.seq (.region [Mv 25 5,
 It 26 (.bin .eql (.t 25) (.c (.i .i64 (1)))),
 Mv 24 26] [])
 (.cond (.t 24)
 (.seq (.region [Mv 27 0,
 Mv 28 1,
 It 29 (.idxS (.t 28) (.c i0)),
 It 30 (.call 222 [(.t 27), (.t 29)]),
 Mv 4 30] [])
 .ret)
 (.seq (.region [Mv 32 5,
 Mv 33 0,
 It 34 (.lenk 1 (.t 33)),
 It 35 (.bin .geq (.t 32) (.t 34)),
 Mv 31 35] [])
 (.cond (.t 31)
 (.seq (.region [It 4 (.mov (.c (.i .i64 (-1))))] [])
 .ret)
 (.seq (.region [Mv 37 5,
 It 38 (.load none (.g 1)),
 It 39 (.bin .leq (.t 37) (.t 38)),
 Mv 40 39,
 Ig 41 40 true (.mov (.t 0)),
 Ig 42 40 true (.lenk 1 (.t 41)),
 Ig 43 40 true (.bin .leq (.t 42) (.c (.i .i64 (64)))),
 It 44 (.pick (.t 40) (.t 43) (.c (.b false))),
 Mv 36 44] [])
 (.cond (.t 36)
 (.seq (.region [Mv 45 0,
 Mv 46 1,
 It 47 (.call 223 [(.t 45), (.t 46)]),
 Mv 4 47] [])
 .ret)
 .skip)))))))))
 (.seq (.region [Mv 48 1,
 It 49 (.idxS (.t 48) (.c i0)),
 Mv 6 49] [])
 (.seq (.region [Mv 50 1,
 It 51 (.idxS (.t 50) (.c (.i .i64 (1)))),
 Mv 7 51] [])
 (.seq (.region [It 8 (.mov (.c i0))] [])
 (.seq (.region [Mv 52 0,
 It 53 (.lenk 1 (.t 52)),
 Mv 54 5,
 It 55 (.bin .sub (.t 53) (.t 54)),
 It 56 (.bin .add (.t 55) (.c (.i .i64 (1)))),
 Mv 9 56] [])
 (.seq (.region [It 10 (.mov (.c i0))] [])
 (.seq (.block 1
 (.loop L221a))
 (.seq (.region [It 4 (.mov (.c (.i .i64 (-1))))] [])
 .ret)))))))))),
    143, 2, [.t 4], 0⟩
theorem tr221 : trFunc Tryz.prog (hz [] I221.body) 0 Tryz.f221 = some (plain1 I221) := by kernel_rfl
theorem ck221 : ckC 2 I221.body = true := by kernel_rfl

/-- 'internal/stringslite.IndexByte'. -/
def I222 : IFunc :=
  ⟨(.seq (.region [It 4 (.mov (.c i0))] [])
 (.seq (.region [Mv 5 0,
 Mv 6 1,
 It 7 (.call 226 [(.t 5), (.t 6)]),
 Mv 4 7] [])
 .ret)),
    8, 2, [.t 4], 0⟩
theorem tr222 : trFunc Tryz.prog (hz [] I222.body) 0 Tryz.f222 = some (plain1 I222) := by kernel_rfl
theorem ck222 : ckC 2 I222.body = true := by kernel_rfl

/-- 'internal/bytealg.Cutover'. -/
def I224 : IFunc :=
  ⟨(.seq (.region [It 2 (.mov (.c i0))] [])
 (.seq (.region [Mv 3 0,
 It 4 (.bin .add (.t 3) (.c (.i .i64 (16)))),
 It 5 (.bin .quo (.t 4) (.c (.i .i64 (8)))),
 Mv 2 5] [])
 .ret)),
    6, 1, [.t 2], 0⟩
theorem tr224 : trFunc Tryz.prog (hz [] I224.body) 0 Tryz.f224 = some (plain1 I224) := by kernel_rfl
theorem ck224 : ckC 2 I224.body = true := by kernel_rfl

/-- 'internal/bytealg.IndexRabinKarp[string]'. -/
def L225a : ICode :=
  (.seq (.seq (.region [Mv 18 9,
 Mv 19 7,
 It 20 (.bin .lss (.t 18) (.t 19))] [])
 (.cond (.t 20)
 .skip
 (.exit 0)))
 (.seq (.block 1
 (.region [Mv 23 8,
 It 24 (.bin .mul (.t 23) (.c (.i .u32 (16777619)))),
 Mv 25 0,
 Mv 26 9,
 It 27 (.idxS (.t 25) (.t 26)),
 It 28 (.conv .u32 (.t 27)),
 It 29 (.bin .add (.t 24) (.t 28)),
 Mv 8 29] []))
 (.region [Mv 21 9,
 It 22 (.bin .add (.t 21) (.c (.i .i64 (1)))),
 Mv 9 22] [])))
def L225b : ICode :=
  (.seq (.seq (.region [Mv 41 10,
 Mv 42 0,
 It 43 (.lenk 1 (.t 42)),
 It 44 (.bin .lss (.t 41) (.t 43))] [])
 (.cond (.t 44)
 .skip
 (.exit 2)))
 (.block 3
 (.seq (.region [Mv 45 8,
 It 46 (.bin .mul (.t 45) (.c (.i .u32 (16777619)))),
 Mv 8 46] [])
 (.seq (.region [Mv 47 8,
 Mv 48 0,
 Mv 49 10,
 It 50 (.idxS (.t 48) (.t 49)),
 It 51 (.conv .u32 (.t 50)),
 It 52 (.bin .add (.t 47) (.t 51)),
 Mv 8 52] [])
 (.seq (.region [Mv 53 8,
 Mv 54 6,
 Mv 55 0,
 Mv 56 10,
 Mv 57 7,
 It 58 (.bin .sub (.t 56) (.t 57)),
 It 59 (.idxS (.t 55) (.t 58)),
 It 60 (.conv .u32 (.t 59)),
 It 61 (.bin .mul (.t 54) (.t 60)),
 It 62 (.bin .sub (.t 53) (.t 61)),
 Mv 8 62] [])
 (.seq (.region [Mv 63 10,
 It 64 (.bin .add (.t 63) (.c (.i .i64 (1)))),
 Mv 10 64] [])
 (.seq (.region [Mv 65 8,
 Mv 66 5,
 It 67 (.bin .eql (.t 65) (.t 66)),
 Mv 68 67,
 Ig 69 68 true (.mov (.t 0)),
 Ig 70 68 true (.mov (.t 10)),
 Ig 71 68 true (.mov (.t 7)),
 Ig 72 68 true (.bin .sub (.t 70) (.t 71)),
 Ig 73 68 true (.mov (.t 10)),
 Ig 74 68 true (.slS (.t 69) (some (.t 72)) (some (.t 73))),
 Ig 75 68 true (.mov (.t 1)),
 Ig 76 68 true (.bin .eql (.t 74) (.t 75)),
 It 77 (.pick (.t 68) (.t 76) (.c (.b false)))] [])
 (.cond (.t 77)
 (.seq (.region [Mv 78 10,
 Mv 79 7,
 It 80 (.bin .sub (.t 78) (.t 79)),
 Mv 4 80] [])
 .ret)
 .skip))))))))
def I225 : IFunc :=
  ⟨(.seq (.region [It 4 (.mov (.c i0))] [])
 (.seq (.region [Mv 12 1,
 It 13 (.call 227 [(.t 12)]),
 Mv 11 13,
 Ex 14 11 0,
 Ex 15 11 1,
 Mv 5 14,
 Mv 6 15] [])
 (.seq (.region [Mv 16 1,
 It 17 (.lenk 1 (.t 16)),
 Mv 7 17] [])
 (.seq (.region [It 8 (.mov (.c (.i .u32 (0))))] [])
 (.seq (.seq (.region [It 9 (.mov (.c i0))] [])
 (.block 0
 (.loop L225a)))
 (.seq (.seq (.region [Mv 30 8,
 Mv 31 5,
 It 32 (.bin .eql (.t 30) (.t 31)),
 Mv 33 32,
 Ig 34 33 true (.mov (.t 0)),
 Ig 35 33 true (.mov (.t 7)),
 Ig 36 33 true (.slS (.t 34) none (some (.t 35))),
 Ig 37 33 true (.mov (.t 1)),
 Ig 38 33 true (.bin .eql (.t 36) (.t 37)),
 It 39 (.pick (.t 33) (.t 38) (.c (.b false)))] [])
 (.cond (.t 39)
 (.seq (.region [It 4 (.mov (.c i0))] [])
 .ret)
 .skip))
 (.seq (.seq (.region [Mv 40 7,
 Mv 10 40] [])
 (.block 2
 (.loop L225b)))
 (.seq (.region [It 4 (.mov (.c (.i .i64 (-1))))] [])
 .ret)))))))),
    81, 2, [.t 4], 0⟩
theorem tr225 : trFunc Tryz.prog (hz [] I225.body) 0 Tryz.f225 = some (plain1 I225) := by kernel_rfl
theorem ck225 : ckC 2 I225.body = true := by kernel_rfl

/-- 'internal/bytealg.IndexByteString'. -/
def I226 : IFunc := extFn
/-- 'internal/bytealg.hashStr[string]'. -/
def L227a : ICode :=
  (.seq (.seq (.region [Mv 9 5,
 Mv 10 0,
 It 11 (.lenk 1 (.t 10)),
 It 12 (.bin .lss (.t 9) (.t 11))] [])
 (.cond (.t 12)
 .skip
 (.exit 0)))
 (.seq (.block 1
 (.region [Mv 15 4,
 It 16 (.bin .mul (.t 15) (.c (.i .u32 (16777619)))),
 Mv 17 0,
 Mv 18 5,
 It 19 (.idxS (.t 17) (.t 18)),
 It 20 (.conv .u32 (.t 19)),
 It 21 (.bin .add (.t 16) (.t 20)),
 Mv 4 21] []))
 (.region [Mv 13 5,
 It 14 (.bin .add (.t 13) (.c (.i .i64 (1)))),
 Mv 5 14] [])))
def L227b : ICode :=
  (.seq (.seq (.region [Mv 24 8,
 It 25 (.bin .gtr (.t 24) (.c i0))] [])
 (.cond (.t 25)
 .skip
 (.exit 2)))
 (.seq (.block 3
 (.seq (.seq (.region [Mv 28 8,
 It 29 (.bin .and (.t 28) (.c (.i .i64 (1)))),
 It 30 (.bin .neq (.t 29) (.c i0))] [])
 (.cond (.t 30)
 (.region [Mv 31 6,
 Mv 32 7,
 It 33 (.bin .mul (.t 31) (.t 32)),
 Mv 6 33] [])
 .skip))
 (.region [Mv 34 7,
 Mv 35 7,
 It 36 (.bin .mul (.t 34) (.t 35)),
 Mv 7 36] [])))
 (.region [Mv 26 8,
 It 27 (.bin .shr (.t 26) (.c (.i .u64 (1)))),
 Mv 8 27] [])))
def I227 : IFunc :=
  ⟨(.seq (.region [It 2 (.mov (.c (.i .u32 (0)))),
 It 3 (.mov (.c (.i .u32 (0))))] [])
 (.seq (.region [It 4 (.mov (.c (.i .u32 (0))))] [])
 (.seq (.seq (.region [It 5 (.mov (.c i0))] [])
 (.block 0
 (.loop L227a)))
 (.seq (.region [It 6 (.mov (.c (.i .u32 (1)))),
 It 7 (.mov (.c (.i .u32 (16777619))))] [])
 (.seq (.seq (.region [Mv 22 0,
 It 23 (.lenk 1 (.t 22)),
 Mv 8 23] [])
 (.block 2
 (.loop L227b)))
 (.seq (.region [Mv 37 4,
 Mv 38 6,
 Mv 2 37,
 Mv 3 38] [])
 .ret)))))),
    39, 1, [.t 2, .t 3], 0⟩
theorem tr227 : trFunc Tryz.prog (hz [] I227.body) 0 Tryz.f227 = some (plain1 I227) := by kernel_rfl
theorem ck227 : ckC 2 I227.body = true := by kernel_rfl


end Go.Proofs.YtpkhhphpjhfoiaaGreatDoor

