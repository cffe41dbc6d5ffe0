import Derived.Test.YtdephbcmmhabgaaDoorRows
import Derived.Test.YtdephbcmmhabgaaDoorM06
set_option linter.unusedVariables false
set_option linter.unusedSimpArgs false
set_option linter.unusedSectionVars false
/- The functions that the statement reaches, as the interpreter has them, with modes. Conditions: none. -/
namespace Go.Proofs.YtdephbcmmhabgaaDoor
open Go Go.RI
/-- 'encore/encoreref00.EqTexts'. -/
def L81a : ICode :=
  (.seq (.seq (.region [⟨(some 11), (.mov (.t 5)), none, []⟩,
      ⟨(some 12), (.mov (.t 0)), none, []⟩,
      ⟨(some 13), (.lenk 0 (.t 12)), none, []⟩,
      ⟨(some 14), (.bin .lss (.t 11) (.t 13)), none, []⟩] [11, 12, 13])
    (.cond (.t 14)
      (.region [] [14])
      (.exit 0)))
    (.seq (.block 1
      (.seq (.region [⟨(some 17), (.mov (.t 0)), none, []⟩,
        ⟨(some 18), (.mov (.t 5)), none, []⟩,
        ⟨(some 19), (.iaddr 1 (.t 17) (.t 18)), none, []⟩,
        ⟨(some 20), (.load none (.t 19)), none, []⟩,
        ⟨(some 21), (.mov (.t 1)), none, []⟩,
        ⟨(some 22), (.mov (.t 5)), none, []⟩,
        ⟨(some 23), (.iaddr 1 (.t 21) (.t 22)), none, []⟩,
        ⟨(some 24), (.load none (.t 23)), none, []⟩,
        ⟨(some 25), (.bin .neq (.t 20) (.t 24)), none, []⟩] [17, 18, 19, 20, 21, 22, 23, 24])
      (.cond (.t 25)
        (.seq (.region [⟨(some 4), (.mov (.c (.b false))), none, []⟩] [0, 1, 5, 25])
        .ret)
        (.region [] [25]))))
    (.region [⟨(some 15), (.mov (.t 5)), none, []⟩,
      ⟨(some 16), (.bin .add (.t 15) (.c (.i .i64 (1)))), none, []⟩,
      ⟨(some 5), (.mov (.t 16)), none, []⟩] [15, 16])))
def I81 : IFunc :=
  ⟨(.seq (.region [⟨(some 4), (.mov (.c (.b false))), none, []⟩] [4])
    (.seq (.seq (.region [⟨(some 6), (.mov (.t 0)), none, []⟩,
      ⟨(some 7), (.lenk 0 (.t 6)), none, []⟩,
      ⟨(some 8), (.mov (.t 1)), none, []⟩,
      ⟨(some 9), (.lenk 0 (.t 8)), none, []⟩,
      ⟨(some 10), (.bin .neq (.t 7) (.t 9)), none, []⟩] [6, 7, 8, 9])
    (.cond (.t 10)
      (.seq (.region [⟨(some 4), (.mov (.c (.b false))), none, []⟩] [0, 1, 10])
      .ret)
      (.region [] [10])))
    (.seq (.seq (.region [⟨(some 5), (.mov (.c (.i .i64 (0)))), none, []⟩] [])
    (.block 0
      (.loop L81a)))
    (.seq (.region [⟨(some 4), (.mov (.c (.b true))), none, []⟩] [0, 1, 5, 14])
    .ret)))),
    26, 2, [.t 4], 2⟩
theorem tr81 : trFunc Tryd.prog [([], [4]), ([], [6, 7, 8, 9]), ([], [0, 1, 10]), ([], [10]), ([], []), ([], [11, 12, 13]), ([], [14]), ([0, 1, 2, 3, 4, 5, 6, 7, 8], [17, 18, 19, 20, 21, 22, 23, 24]), ([], [0, 1, 5, 25]), ([], [25]), ([], [15, 16]), ([], [0, 1, 5, 14])] 1 Tryd.f81 = some (plain1 I81) := by kernel_rfl
theorem ck81 : ckC 2 I81.body = true := by kernel_rfl

/-- 'encore/lift.record'. -/
def I82 : IFunc :=
  ⟨(.seq (.region [⟨(some 2), (.mov (.c (.b false))), none, []⟩] [2])
    (.seq (.region [⟨(some 3), (.mov (.t 0)), none, []⟩,
      ⟨(some 4), (.lenk 0 (.t 3)), none, []⟩,
      ⟨(some 5), (.bin .leq (.t 4) (.c (.i .i64 (8)))), none, []⟩,
      ⟨(some 6), (.mov (.t 5)), none, []⟩,
      ⟨(some 7), (.mov (.t 0)), (some (6, true)), []⟩,
      ⟨(some 8), (.mov (.t 0)), (some (6, true)), []⟩,
      ⟨(some 9), (.lenk 0 (.t 8)), (some (6, true)), []⟩,
      ⟨(some 10), (.mksl 5 80 [(.i .i64 (0)), (.i .i64 (0)), (.s []), .ns, .ns] (.t 9) (.t 9)), (some (6, true)), []⟩,
      ⟨(some 11), (.build [(.i .i64 (0)), (.i .i64 (0)), (.s []), .ns, .ns] [(0, 1, (.c (.i .i64 (5)))), (4, 1, (.t 7)), (3, 1, (.t 10))]), (some (6, true)), []⟩,
      ⟨(some 12), (.call 72 [(.t 11)]), (some (6, true)), []⟩,
      ⟨(some 13), (.pick (.t 6) (.t 12) (.c (.b false))), none, []⟩,
      ⟨(some 2), (.mov (.t 13)), none, []⟩] [0, 3, 4, 5, 6, 7, 8, 9, 10, 11, 12, 13])
    .ret)),
    14, 1, [.t 2], 2⟩
theorem tr82 : trFunc Tryd.prog [([], [2]), ([], [0, 3, 4, 5, 6, 7, 8, 9, 10, 11, 12, 13])] 1 Tryd.f82 = some (plain1 I82) := by kernel_rfl
theorem ck82 : ckC 2 I82.body = true := by kernel_rfl

/-- 'encore/value.Fits'. -/
def I83 : IFunc :=
  ⟨(.seq (.region [⟨(some 2), (.mov (.c (.b false))), none, []⟩] [2])
    (.seq (.region [⟨(some 6), (.mov (.t 0)), none, []⟩,
      ⟨(some 7), (.call 88 [(.t 6)]), none, []⟩,
      ⟨(some 5), (.mov (.t 7)), none, []⟩,
      ⟨(some 8), (.ext (.t 5) 0), none, []⟩,
      ⟨(some 9), (.ext (.t 5) 1), none, []⟩,
      ⟨(some 3), (.alloc [(.i .i64 (0)), .ns, .ns]), none, []⟩,
      ⟨none, (.store 3 (.t 3) (.t 8)), none, []⟩,
      ⟨(some 4), (.mov (.t 9)), none, []⟩] [0, 6, 7, 5, 8, 9, 3])
    (.seq (.region [⟨(some 10), (.mov (.t 4)), none, []⟩,
      ⟨(some 2), (.mov (.t 10)), none, []⟩] [4, 10])
    .ret))),
    11, 1, [.t 2], 2⟩
theorem tr83 : trFunc Tryd.prog [([], [2]), ([], [0, 6, 7, 5, 8, 9, 3]), ([], [4, 10])] 1 Tryd.f83 = some (plain1 I83) := by kernel_rfl
theorem ck83 : ckC 2 I83.body = true := by kernel_rfl

/-- 'slices.Equal[[]string,string]'. -/
def L84a : ICode :=
  (.seq (.region [⟨(some 14), (.bin .lss (.t 13) (.t 12)), none, []⟩] [])
    (.seq (.cond (.t 14)
      (.region [] [14])
      (.exit 0))
    (.seq (.block 1
      (.seq (.region [⟨(some 15), (.mov (.t 13)), none, []⟩,
        ⟨(some 5), (.mov (.t 15)), none, []⟩] [15])
      (.seq (.region [⟨(some 16), (.mov (.t 0)), none, []⟩,
        ⟨(some 17), (.mov (.t 5)), none, []⟩,
        ⟨(some 18), (.iaddr 1 (.t 16) (.t 17)), none, []⟩,
        ⟨(some 19), (.load none (.t 18)), none, []⟩,
        ⟨(some 20), (.mov (.t 1)), none, []⟩,
        ⟨(some 21), (.mov (.t 5)), none, []⟩,
        ⟨(some 22), (.iaddr 1 (.t 20) (.t 21)), none, []⟩,
        ⟨(some 23), (.load none (.t 22)), none, []⟩,
        ⟨(some 24), (.bin .neq (.t 19) (.t 23)), none, []⟩] [5, 16, 17, 18, 19, 20, 21, 22, 23])
      (.cond (.t 24)
        (.seq (.region [⟨(some 4), (.mov (.c (.b false))), none, []⟩] [0, 1, 12, 13, 24])
        .ret)
        (.region [] [24])))))
    (.region [⟨(some 25), (.bin .add (.t 13) (.c (.i .i64 (1)))), none, []⟩,
      ⟨(some 13), (.mov (.t 25)), none, []⟩] [25]))))
def I84 : IFunc :=
  ⟨(.seq (.region [⟨(some 4), (.mov (.c (.b false))), none, []⟩] [4])
    (.seq (.seq (.region [⟨(some 6), (.mov (.t 0)), none, []⟩,
      ⟨(some 7), (.lenk 0 (.t 6)), none, []⟩,
      ⟨(some 8), (.mov (.t 1)), none, []⟩,
      ⟨(some 9), (.lenk 0 (.t 8)), none, []⟩,
      ⟨(some 10), (.bin .neq (.t 7) (.t 9)), none, []⟩] [6, 7, 8, 9])
    (.cond (.t 10)
      (.seq (.region [⟨(some 4), (.mov (.c (.b false))), none, []⟩] [0, 1, 10])
      .ret)
      (.region [] [10])))
    (.seq (.seq (.region [⟨(some 11), (.mov (.t 0)), none, []⟩,
      ⟨(some 12), (.lenk 0 (.t 11)), none, []⟩,
      ⟨(some 13), (.mov (.c (.i .i64 (0)))), none, []⟩] [11])
    (.block 0
      (.loop L84a)))
    (.seq (.region [⟨(some 4), (.mov (.c (.b true))), none, []⟩] [0, 1, 12, 13, 14])
    .ret)))),
    26, 2, [.t 4], 2⟩
theorem tr84 : trFunc Tryd.prog [([], [4]), ([], [6, 7, 8, 9]), ([], [0, 1, 10]), ([], [10]), ([], [11]), ([], []), ([], [14]), ([], [15]), ([0, 1, 2, 3, 4, 5, 6, 7, 8], [5, 16, 17, 18, 19, 20, 21, 22, 23]), ([], [0, 1, 12, 13, 24]), ([], [24]), ([], [25]), ([], [0, 1, 12, 13, 14])] 1 Tryd.f84 = some (plain1 I84) := by kernel_rfl
theorem ck84 : ckC 2 I84.body = true := by kernel_rfl

/-- 'slices.EqualFunc[[]encore/api.Value,[]encore/api.Value,encore/api.Value,encore/api.Value]'. -/
def L85a : ICode :=
  (.seq (.region [⟨(some 18), (.bin .lss (.t 17) (.t 16)), none, []⟩] [])
    (.seq (.cond (.t 18)
      (.region [] [18])
      (.exit 0))
    (.seq (.block 1
      (.seq (.region [⟨(some 19), (.mov (.t 17)), none, []⟩,
        ⟨(some 20), (.iaddr 5 (.t 15) (.t 17)), none, []⟩,
        ⟨(some 21), (.load (some 5) (.t 20)), none, []⟩,
        ⟨(some 8), (.alloc [(.i .i64 (0)), (.i .i64 (0)), (.s []), .ns, .ns]), none, []⟩,
        ⟨(some 7), (.mov (.t 19)), none, []⟩,
        ⟨none, (.store 5 (.t 8) (.t 21)), none, []⟩] [19, 20, 21])
      (.seq (.region [⟨(some 22), (.mov (.t 1)), none, []⟩,
        ⟨(some 23), (.mov (.t 7)), none, []⟩,
        ⟨(some 24), (.iaddr 5 (.t 22) (.t 23)), none, []⟩,
        ⟨(some 25), (.load (some 5) (.t 24)), none, []⟩,
        ⟨(some 9), (.alloc [(.i .i64 (0)), (.i .i64 (0)), (.s []), .ns, .ns]), none, []⟩,
        ⟨none, (.store 5 (.t 9) (.t 25)), none, []⟩] [7, 22, 23, 24, 25])
      (.seq (.region [⟨(some 26), (.mov (.t 2)), none, []⟩,
        ⟨(some 27), (.load (some 5) (.t 8)), none, []⟩,
        ⟨(some 28), (.load (some 5) (.t 9)), none, []⟩,
        ⟨(some 29), (.callv (.t 26) [(.t 27), (.t 28)]), none, []⟩,
        ⟨(some 30), (.un .not (.t 29)), none, []⟩] [8, 9, 26, 27, 28, 29])
      (.cond (.t 30)
        (.seq (.region [⟨(some 6), (.mov (.c (.b false))), none, []⟩] [1, 2, 15, 16, 17, 30])
        .ret)
        (.region [] [30]))))))
    (.region [⟨(some 31), (.bin .add (.t 17) (.c (.i .i64 (1)))), none, []⟩,
      ⟨(some 17), (.mov (.t 31)), none, []⟩] [31]))))
def I85 : IFunc :=
  ⟨(.seq (.region [⟨(some 6), (.mov (.c (.b false))), none, []⟩] [6])
    (.seq (.seq (.region [⟨(some 10), (.mov (.t 0)), none, []⟩,
      ⟨(some 11), (.lenk 0 (.t 10)), none, []⟩,
      ⟨(some 12), (.mov (.t 1)), none, []⟩,
      ⟨(some 13), (.lenk 0 (.t 12)), none, []⟩,
      ⟨(some 14), (.bin .neq (.t 11) (.t 13)), none, []⟩] [10, 11, 12, 13])
    (.cond (.t 14)
      (.seq (.region [⟨(some 6), (.mov (.c (.b false))), none, []⟩] [0, 1, 2, 14])
      .ret)
      (.region [] [14])))
    (.seq (.seq (.region [⟨(some 15), (.mov (.t 0)), none, []⟩,
      ⟨(some 16), (.lenk 0 (.t 15)), none, []⟩,
      ⟨(some 17), (.mov (.c (.i .i64 (0)))), none, []⟩] [0])
    (.block 0
      (.loop L85a)))
    (.seq (.region [⟨(some 6), (.mov (.c (.b true))), none, []⟩] [1, 2, 15, 16, 17, 18])
    .ret)))),
    32, 3, [.t 6], 2⟩
theorem tr85 : trFunc Tryd.prog [([], [6]), ([], [10, 11, 12, 13]), ([], [0, 1, 2, 14]), ([], [14]), ([], [0]), ([], []), ([], [18]), ([], [19, 20, 21]), ([], [7, 22, 23, 24, 25]), ([], [8, 9, 26, 27, 28, 29]), ([], [1, 2, 15, 16, 17, 30]), ([], [30]), ([], [31]), ([], [1, 2, 15, 16, 17, 18])] 1 Tryd.f85 = some (plain1 I85) := by kernel_rfl
theorem ck85 : ckC 2 I85.body = true := by kernel_rfl

/-- 'encore/value.named'. -/
def L86a : ICode :=
  (.seq (.region [⟨(some 17), (.bin .lss (.t 16) (.t 15)), none, []⟩] [])
    (.seq (.cond (.t 17)
      (.region [] [17])
      (.exit 0))
    (.seq (.block 1
      (.seq (.region [⟨(some 18), (.mov (.t 16)), none, []⟩,
        ⟨(some 19), (.iaddr 1 (.t 14) (.t 16)), none, []⟩,
        ⟨(some 20), (.load none (.t 19)), none, []⟩,
        ⟨(some 3), (.mov (.t 18)), none, []⟩,
        ⟨(some 4), (.mov (.t 20)), none, []⟩] [18, 19, 20])
      (.seq (.region [⟨(some 21), (.mov (.t 4)), none, []⟩,
        ⟨(some 22), (.bin .geq (.t 21) (.c (.i .u8 (97)))), none, []⟩,
        ⟨(some 23), (.mov (.t 22)), none, []⟩,
        ⟨(some 24), (.mov (.t 4)), (some (23, true)), []⟩,
        ⟨(some 25), (.bin .leq (.t 24) (.c (.i .u8 (122)))), (some (23, true)), []⟩,
        ⟨(some 26), (.pick (.t 23) (.t 25) (.c (.b false))), none, []⟩,
        ⟨(some 5), (.mov (.t 26)), none, []⟩] [21, 22, 23, 24, 25, 26])
      (.seq (.region [⟨(some 27), (.mov (.t 5)), none, []⟩,
        ⟨(some 28), (.un .not (.t 27)), none, []⟩,
        ⟨(some 29), (.mov (.t 28)), none, []⟩,
        ⟨(some 30), (.mov (.t 3)), (some (29, true)), []⟩,
        ⟨(some 31), (.bin .eql (.t 30) (.c (.i .i64 (0)))), (some (29, true)), []⟩,
        ⟨(some 32), (.mov (.t 31)), (some (29, true)), []⟩,
        ⟨(some 33), (.mov (.t 4)), (some (32, false)), []⟩,
        ⟨(some 34), (.bin .neq (.t 33) (.c (.i .u8 (95)))), (some (32, false)), []⟩,
        ⟨(some 35), (.mov (.t 34)), (some (32, false)), []⟩,
        ⟨(some 36), (.mov (.t 4)), (some (35, true)), []⟩,
        ⟨(some 37), (.bin .lss (.t 36) (.c (.i .u8 (48)))), (some (35, true)), []⟩,
        ⟨(some 38), (.mov (.t 37)), (some (35, true)), []⟩,
        ⟨(some 39), (.mov (.t 4)), (some (38, false)), []⟩,
        ⟨(some 40), (.bin .gtr (.t 39) (.c (.i .u8 (57)))), (some (38, false)), []⟩,
        ⟨(some 41), (.pick (.t 38) (.c (.b true)) (.t 40)), (some (35, true)), []⟩,
        ⟨(some 42), (.pick (.t 35) (.t 41) (.c (.b false))), (some (32, false)), []⟩,
        ⟨(some 43), (.pick (.t 32) (.c (.b true)) (.t 42)), (some (29, true)), []⟩,
        ⟨(some 44), (.pick (.t 29) (.t 43) (.c (.b false))), none, []⟩] [3, 4, 5, 27, 28, 29, 30, 31, 32, 33, 34, 35, 36, 37, 38, 39, 40, 41, 42, 43])
      (.cond (.t 44)
        (.seq (.region [⟨(some 2), (.mov (.c (.b false))), none, []⟩] [14, 15, 16, 44])
        .ret)
        (.region [] [44]))))))
    (.region [⟨(some 45), (.bin .add (.t 16) (.c (.i .i64 (1)))), none, []⟩,
      ⟨(some 16), (.mov (.t 45)), none, []⟩] [45]))))
def I86 : IFunc :=
  ⟨(.seq (.region [⟨(some 2), (.mov (.c (.b false))), none, []⟩] [2])
    (.seq (.seq (.region [⟨(some 6), (.mov (.t 0)), none, []⟩,
      ⟨(some 7), (.bin .eql (.t 6) (.c (.s []))), none, []⟩,
      ⟨(some 8), (.mov (.t 7)), none, []⟩,
      ⟨(some 9), (.mov (.t 0)), (some (8, false)), []⟩,
      ⟨(some 10), (.lenk 1 (.t 9)), (some (8, false)), []⟩,
      ⟨(some 11), (.bin .gtr (.t 10) (.c (.i .i64 (16)))), (some (8, false)), []⟩,
      ⟨(some 12), (.pick (.t 8) (.c (.b true)) (.t 11)), none, []⟩] [6, 7, 8, 9, 10, 11])
    (.cond (.t 12)
      (.seq (.region [⟨(some 2), (.mov (.c (.b false))), none, []⟩] [0, 12])
      .ret)
      (.region [] [12])))
    (.seq (.seq (.region [⟨(some 13), (.mov (.t 0)), none, []⟩,
      ⟨(some 14), (.s2b (.t 13)), none, []⟩,
      ⟨(some 15), (.lenk 0 (.t 14)), none, []⟩,
      ⟨(some 16), (.mov (.c (.i .i64 (0)))), none, []⟩] [0, 13])
    (.block 0
      (.loop L86a)))
    (.seq (.region [⟨(some 2), (.mov (.c (.b true))), none, []⟩] [14, 15, 16, 17])
    .ret)))),
    46, 1, [.t 2], 2⟩
theorem tr86 : trFunc Tryd.prog [([], [2]), ([], [6, 7, 8, 9, 10, 11]), ([], [0, 12]), ([], [12]), ([], [0, 13]), ([], []), ([], [17]), ([], [18, 19, 20]), ([], [21, 22, 23, 24, 25, 26]), ([], [3, 4, 5, 27, 28, 29, 30, 31, 32, 33, 34, 35, 36, 37, 38, 39, 40, 41, 42, 43]), ([], [14, 15, 16, 44]), ([], [44]), ([], [45]), ([], [14, 15, 16, 17])] 1 Tryd.f86 = some (plain1 I86) := by kernel_rfl
theorem ck86 : ckC 2 I86.body = true := by kernel_rfl

/-- 'encore/value.typed'. -/
def I88 : IFunc :=
  ⟨(.seq (.region [⟨(some 2), (.alloc [(.i .i64 (0)), .ns, .ns]), none, []⟩,
      ⟨(some 3), (.mov (.c (.b false))), none, []⟩] [3])
    (.seq (.seq (.region [⟨(some 7), (.mov (.t 0)), none, []⟩,
      ⟨(some 8), (.lenk 1 (.t 7)), none, []⟩,
      ⟨(some 9), (.bin .gtr (.t 8) (.c (.i .i64 (64)))), none, []⟩] [7, 8])
    (.cond (.t 9)
      (.seq (.region [⟨(some 10), (.build [(.i .i64 (0)), .ns, .ns] []), none, []⟩,
        ⟨none, (.store 3 (.t 2) (.t 10)), none, []⟩,
        ⟨(some 3), (.mov (.c (.b false))), none, []⟩] [0, 9, 10])
      .ret)
      (.region [] [9])))
    (.seq (.region [⟨(some 12), (.mov (.t 0)), none, []⟩,
      ⟨(some 13), (.call 89 [(.t 12)]), none, []⟩,
      ⟨(some 11), (.mov (.t 13)), none, []⟩,
      ⟨(some 14), (.ext (.t 11) 0), none, []⟩,
      ⟨(some 15), (.ext (.t 11) 1), none, []⟩,
      ⟨(some 16), (.ext (.t 11) 2), none, []⟩,
      ⟨(some 4), (.alloc [(.i .i64 (0)), .ns, .ns]), none, []⟩,
      ⟨none, (.store 3 (.t 4) (.t 14)), none, []⟩,
      ⟨(some 5), (.mov (.t 15)), none, []⟩,
      ⟨(some 6), (.mov (.t 16)), none, []⟩] [0, 12, 13, 11, 14, 15, 16])
    (.seq (.region [⟨(some 17), (.load (some 3) (.t 4)), none, []⟩,
      ⟨(some 18), (.mov (.t 6)), none, []⟩,
      ⟨(some 19), (.mov (.t 18)), none, []⟩,
      ⟨(some 20), (.mov (.t 5)), (some (19, true)), []⟩,
      ⟨(some 21), (.bin .eql (.t 20) (.c (.s []))), (some (19, true)), []⟩,
      ⟨(some 22), (.pick (.t 19) (.t 21) (.c (.b false))), none, []⟩,
      ⟨none, (.store 3 (.t 2) (.t 17)), none, []⟩,
      ⟨(some 3), (.mov (.t 22)), none, []⟩] [4, 5, 6, 17, 18, 19, 20, 21, 22])
    .ret)))),
    23, 1, [.c 2 (some 3), .t 3], 2⟩
theorem tr88 : trFunc Tryd.prog [([], [3]), ([], [7, 8]), ([], [0, 9, 10]), ([], [9]), ([], [0, 12, 13, 11, 14, 15, 16]), ([], [4, 5, 6, 17, 18, 19, 20, 21, 22])] 1 Tryd.f88 = some (plain1 I88) := by kernel_rfl
theorem ck88 : ckC 2 I88.body = true := by kernel_rfl

/-- 'encore/value.read'. -/
def L89a : ICode :=
  (.seq (.seq (.region [⟨(some 49), (.mov (.t 9)), none, []⟩,
      ⟨(some 50), (.mov (.t 0)), none, []⟩,
      ⟨(some 51), (.lenk 1 (.t 50)), none, []⟩,
      ⟨(some 52), (.bin .lss (.t 49) (.t 51)), none, []⟩,
      ⟨(some 53), (.mov (.t 52)), none, []⟩,
      ⟨(some 54), (.mov (.t 0)), (some (53, true)), []⟩,
      ⟨(some 55), (.mov (.t 9)), (some (53, true)), []⟩,
      ⟨(some 56), (.idxS (.t 54) (.t 55)), (some (53, true)), []⟩,
      ⟨(some 57), (.bin .geq (.t 56) (.c (.i .u8 (97)))), (some (53, true)), []⟩,
      ⟨(some 58), (.pick (.t 53) (.t 57) (.c (.b false))), none, []⟩,
      ⟨(some 59), (.mov (.t 58)), none, []⟩,
      ⟨(some 60), (.mov (.t 0)), (some (59, true)), []⟩,
      ⟨(some 61), (.mov (.t 9)), (some (59, true)), []⟩,
      ⟨(some 62), (.idxS (.t 60) (.t 61)), (some (59, true)), []⟩,
      ⟨(some 63), (.bin .leq (.t 62) (.c (.i .u8 (122)))), (some (59, true)), []⟩,
      ⟨(some 64), (.pick (.t 59) (.t 63) (.c (.b false))), none, []⟩] [49, 50, 51, 52, 53, 54, 55, 56, 57, 58, 59, 60, 61, 62, 63])
    (.cond (.t 64)
      (.region [] [64])
      (.exit 1)))
    (.block 2
      (.region [⟨(some 65), (.mov (.t 9)), none, []⟩,
        ⟨(some 66), (.bin .add (.t 65) (.c (.i .i64 (1)))), none, []⟩,
        ⟨(some 9), (.mov (.t 66)), none, []⟩] [65, 66])))
def I89 : IFunc :=
  ⟨(.seq (.region [⟨(some 2), (.alloc [(.i .i64 (0)), .ns, .ns]), none, []⟩,
      ⟨(some 3), (.mov (.c (.s []))), none, []⟩,
      ⟨(some 4), (.mov (.c (.b false))), none, []⟩] [3, 4])
    (.seq (.block 0
      (.seq (.region [⟨(some 12), (.mov (.t 0)), none, []⟩,
        ⟨(some 13), (.call 90 [(.t 12), (.c (.s [91]))]), none, []⟩,
        ⟨(some 11), (.mov (.t 13)), none, []⟩] [12, 13])
      (.cond (.t 11)
        (.seq (.region [⟨(some 15), (.mov (.t 0)), none, []⟩,
          ⟨(some 16), (.slS (.t 15) (some (.c (.i .i64 (1)))) none), none, []⟩,
          ⟨(some 17), (.call 89 [(.t 16)]), none, []⟩,
          ⟨(some 14), (.mov (.t 17)), none, []⟩,
          ⟨(some 18), (.ext (.t 14) 0), none, []⟩,
          ⟨(some 19), (.ext (.t 14) 1), none, []⟩,
          ⟨(some 20), (.ext (.t 14) 2), none, []⟩,
          ⟨(some 5), (.alloc [(.i .i64 (0)), .ns, .ns]), none, []⟩,
          ⟨none, (.store 3 (.t 5) (.t 18)), none, []⟩,
          ⟨(some 6), (.mov (.t 19)), none, []⟩,
          ⟨(some 7), (.mov (.t 20)), none, []⟩] [0, 11, 15, 16, 17, 14, 18, 19, 20])
        (.seq (.region [⟨(some 22), (.mov (.t 6)), none, []⟩,
          ⟨(some 23), (.call 91 [(.t 22), (.c (.s [93]))]), none, []⟩,
          ⟨(some 21), (.mov (.t 23)), none, []⟩,
          ⟨(some 24), (.ext (.t 21) 0), none, []⟩,
          ⟨(some 25), (.ext (.t 21) 1), none, []⟩,
          ⟨(some 6), (.mov (.t 24)), none, []⟩,
          ⟨(some 8), (.mov (.t 25)), none, []⟩] [22, 23, 21, 24, 25])
        (.seq (.region [⟨(some 26), (.load (some 3) (.t 5)), none, []⟩,
          ⟨(some 27), (.bsl 3 1 [(.i .i64 (0)), .ns, .ns] [(0, 3, (.t 26))]), none, []⟩,
          ⟨(some 28), (.build [(.i .i64 (0)), .ns, .ns] [(0, 1, (.c (.i .i64 (4)))), (2, 1, (.t 27))]), none, []⟩,
          ⟨(some 29), (.mov (.t 6)), none, []⟩,
          ⟨(some 30), (.mov (.t 7)), none, []⟩,
          ⟨(some 31), (.mov (.t 30)), none, []⟩,
          ⟨(some 32), (.mov (.t 8)), (some (31, true)), []⟩,
          ⟨(some 33), (.pick (.t 31) (.t 32) (.c (.b false))), none, []⟩,
          ⟨none, (.store 3 (.t 2) (.t 28)), none, []⟩,
          ⟨(some 3), (.mov (.t 29)), none, []⟩,
          ⟨(some 4), (.mov (.t 33)), none, []⟩] [5, 6, 7, 8, 26, 27, 28, 29, 30, 31, 32, 33])
        .ret)))
        (.seq (.region [⟨(some 35), (.mov (.t 0)), none, []⟩,
          ⟨(some 36), (.call 90 [(.t 35), (.c (.s [123, 125]))]), none, []⟩,
          ⟨(some 34), (.mov (.t 36)), none, []⟩] [11, 35, 36])
        (.cond (.t 34)
          (.seq (.region [⟨(some 37), (.build [(.i .i64 (0)), .ns, .ns] [(0, 1, (.c (.i .i64 (5))))]), none, []⟩,
            ⟨(some 38), (.mov (.t 0)), none, []⟩,
            ⟨(some 39), (.slS (.t 38) (some (.c (.i .i64 (2)))) none), none, []⟩,
            ⟨none, (.store 3 (.t 2) (.t 37)), none, []⟩,
            ⟨(some 3), (.mov (.t 39)), none, []⟩,
            ⟨(some 4), (.mov (.c (.b true))), none, []⟩] [0, 34, 37, 38, 39])
          .ret)
          (.seq (.region [⟨(some 41), (.mov (.t 0)), none, []⟩,
            ⟨(some 42), (.call 90 [(.t 41), (.c (.s [123]))]), none, []⟩,
            ⟨(some 40), (.mov (.t 42)), none, []⟩] [34, 41, 42])
          (.cond (.t 40)
            (.seq (.region [⟨(some 43), (.mov (.t 0)), none, []⟩,
              ⟨(some 44), (.slS (.t 43) (some (.c (.i .i64 (1)))) none), none, []⟩,
              ⟨(some 45), (.call 92 [(.t 44)]), none, []⟩,
              ⟨(some 46), (.ext (.t 45) 0), none, []⟩,
              ⟨(some 47), (.ext (.t 45) 1), none, []⟩,
              ⟨(some 48), (.ext (.t 45) 2), none, []⟩,
              ⟨none, (.store 3 (.t 2) (.t 46)), none, []⟩,
              ⟨(some 3), (.mov (.t 47)), none, []⟩,
              ⟨(some 4), (.mov (.t 48)), none, []⟩] [0, 40, 43, 44, 45, 46, 47, 48])
            .ret)
            (.region [] [40]))))))))
    (.seq (.region [⟨(some 9), (.mov (.c (.i .i64 (0)))), none, []⟩] [])
    (.seq (.block 1
      (.loop L89a))
    (.seq (.region [⟨(some 67), (.mov (.t 0)), none, []⟩,
      ⟨(some 68), (.mov (.t 9)), none, []⟩,
      ⟨(some 69), (.slS (.t 67) none (some (.t 68))), none, []⟩,
      ⟨(some 70), (.call 93 [(.t 69)]), none, []⟩,
      ⟨(some 10), (.mov (.t 70)), none, []⟩] [64, 67, 68, 69, 70])
    (.seq (.region [⟨(some 71), (.mov (.t 10)), none, []⟩,
      ⟨(some 72), (.build [(.i .i64 (0)), .ns, .ns] [(0, 1, (.t 71))]), none, []⟩,
      ⟨(some 73), (.mov (.t 0)), none, []⟩,
      ⟨(some 74), (.mov (.t 9)), none, []⟩,
      ⟨(some 75), (.slS (.t 73) (some (.t 74)) none), none, []⟩,
      ⟨(some 76), (.mov (.t 10)), none, []⟩,
      ⟨(some 77), (.bin .geq (.t 76) (.c (.i .i64 (0)))), none, []⟩,
      ⟨none, (.store 3 (.t 2) (.t 72)), none, []⟩,
      ⟨(some 3), (.mov (.t 75)), none, []⟩,
      ⟨(some 4), (.mov (.t 77)), none, []⟩] [0, 9, 10, 71, 72, 73, 74, 75, 76, 77])
    .ret)))))),
    78, 1, [.c 2 (some 3), .t 3, .t 4], 2⟩
theorem tr89 : trFunc Tryd.prog [([], [3, 4]), ([], [12, 13]), ([], [0, 11, 15, 16, 17, 14, 18, 19, 20]), ([], [22, 23, 21, 24, 25]), ([], [5, 6, 7, 8, 26, 27, 28, 29, 30, 31, 32, 33]), ([], [11, 35, 36]), ([0, 1, 2, 3, 4, 5], [0, 34, 37, 38, 39]), ([], [34, 41, 42]), ([], [0, 40, 43, 44, 45, 46, 47, 48]), ([], [40]), ([], []), ([], [49, 50, 51, 52, 53, 54, 55, 56, 57, 58, 59, 60, 61, 62, 63]), ([], [64]), ([], [65, 66]), ([], [64, 67, 68, 69, 70]), ([0, 1, 2, 3, 4, 5, 6, 7, 8, 9], [0, 9, 10, 71, 72, 73, 74, 75, 76, 77])] 1 Tryd.f89 = some (plain1 I89) := by kernel_rfl
theorem ck89 : ckC 2 I89.body = true := by kernel_rfl

/-- 'strings.HasPrefix'. -/
def I90 : IFunc :=
  ⟨(.seq (.region [⟨(some 4), (.mov (.c (.b false))), none, []⟩] [4])
    (.seq (.region [⟨(some 5), (.mov (.t 0)), none, []⟩,
      ⟨(some 6), (.mov (.t 1)), none, []⟩,
      ⟨(some 7), (.call 94 [(.t 5), (.t 6)]), none, []⟩,
      ⟨(some 4), (.mov (.t 7)), none, []⟩] [0, 1, 5, 6, 7])
    .ret)),
    8, 2, [.t 4], 2⟩
theorem tr90 : trFunc Tryd.prog [([], [4]), ([], [0, 1, 5, 6, 7])] 1 Tryd.f90 = some (plain1 I90) := by kernel_rfl
theorem ck90 : ckC 2 I90.body = true := by kernel_rfl

/-- 'strings.CutPrefix'. -/
def I91 : IFunc :=
  ⟨(.seq (.region [⟨(some 4), (.mov (.c (.s []))), none, []⟩,
      ⟨(some 5), (.mov (.c (.b false))), none, []⟩] [4, 5])
    (.seq (.region [⟨(some 6), (.mov (.t 0)), none, []⟩,
      ⟨(some 7), (.mov (.t 1)), none, []⟩,
      ⟨(some 8), (.call 95 [(.t 6), (.t 7)]), none, []⟩,
      ⟨(some 9), (.ext (.t 8) 0), none, []⟩,
      ⟨(some 10), (.ext (.t 8) 1), none, []⟩,
      ⟨(some 4), (.mov (.t 9)), none, []⟩,
      ⟨(some 5), (.mov (.t 10)), none, []⟩] [0, 1, 6, 7, 8, 9, 10])
    .ret)),
    11, 2, [.t 4, .t 5], 2⟩
theorem tr91 : trFunc Tryd.prog [([], [4, 5]), ([], [0, 1, 6, 7, 8, 9, 10])] 1 Tryd.f91 = some (plain1 I91) := by kernel_rfl
theorem ck91 : ckC 2 I91.body = true := by kernel_rfl

/-- 'encore/value.readRec'. -/
def L92a : ICode :=
  (.block 1
      (.seq (.region [⟨(some 13), (.mov (.t 0)), none, []⟩,
        ⟨(some 14), (.call 96 [(.t 13), (.c (.s [58]))]), none, []⟩,
        ⟨(some 12), (.mov (.t 14)), none, []⟩,
        ⟨(some 15), (.ext (.t 12) 0), none, []⟩,
        ⟨(some 16), (.ext (.t 12) 1), none, []⟩,
        ⟨(some 17), (.ext (.t 12) 2), none, []⟩,
        ⟨(some 5), (.mov (.t 15)), none, []⟩,
        ⟨(some 6), (.mov (.t 16)), none, []⟩,
        ⟨(some 7), (.mov (.t 17)), none, []⟩] [0, 58, 13, 14, 12, 15, 16, 17])
      (.seq (.region [⟨(some 19), (.mov (.t 6)), none, []⟩,
        ⟨(some 20), (.call 89 [(.t 19)]), none, []⟩,
        ⟨(some 18), (.mov (.t 20)), none, []⟩,
        ⟨(some 21), (.ext (.t 18) 0), none, []⟩,
        ⟨(some 22), (.ext (.t 18) 1), none, []⟩,
        ⟨(some 23), (.ext (.t 18) 2), none, []⟩,
        ⟨(some 8), (.alloc [(.i .i64 (0)), .ns, .ns]), none, []⟩,
        ⟨none, (.store 3 (.t 8) (.t 21)), none, []⟩,
        ⟨(some 9), (.mov (.t 22)), none, []⟩,
        ⟨(some 10), (.mov (.t 23)), none, []⟩] [6, 19, 20, 18, 21, 22, 23])
      (.seq (.seq (.region [⟨(some 24), (.mov (.t 7)), none, []⟩,
        ⟨(some 25), (.un .not (.t 24)), none, []⟩,
        ⟨(some 26), (.mov (.t 25)), none, []⟩,
        ⟨(some 27), (.mov (.t 10)), (some (26, false)), []⟩,
        ⟨(some 28), (.un .not (.t 27)), (some (26, false)), []⟩,
        ⟨(some 29), (.pick (.t 26) (.c (.b true)) (.t 28)), none, []⟩,
        ⟨(some 30), (.mov (.t 29)), none, []⟩,
        ⟨(some 31), (.mov (.t 9)), (some (30, false)), []⟩,
        ⟨(some 32), (.bin .eql (.t 31) (.c (.s []))), (some (30, false)), []⟩,
        ⟨(some 33), (.pick (.t 30) (.c (.b true)) (.t 32)), none, []⟩] [7, 10, 24, 25, 26, 27, 28, 29, 30, 31, 32])
      (.cond (.t 33)
        (.seq (.region [⟨(some 34), (.build [(.i .i64 (0)), .ns, .ns] []), none, []⟩,
          ⟨none, (.store 3 (.t 2) (.t 34)), none, []⟩,
          ⟨(some 3), (.mov (.c (.s []))), none, []⟩,
          ⟨(some 4), (.mov (.c (.b false))), none, []⟩] [5, 8, 9, 33, 34])
        .ret)
        (.region [] [33])))
      (.seq (.region [⟨(some 35), (.off (.t 2) 1), none, []⟩,
        ⟨(some 36), (.load none (.t 35)), none, []⟩,
        ⟨(some 37), (.mov (.t 5)), none, []⟩,
        ⟨(some 38), (.bsl 1 1 [(.s [])] [(0, 1, (.t 37))]), none, []⟩,
        ⟨(some 40), (.off (.t 2) 2), none, []⟩,
        ⟨(some 41), (.load none (.t 40)), none, []⟩,
        ⟨(some 42), (.load (some 3) (.t 8)), none, []⟩,
        ⟨(some 43), (.bsl 3 1 [(.i .i64 (0)), .ns, .ns] [(0, 3, (.t 42))]), none, []⟩,
        ⟨(some 39), (.app 1 16 (.t 36) (.t 38)), none, [(41, (.load none (.t 40)), none), (42, (.load (some 3) (.t 8)), none)]⟩,
        ⟨(some 45), (.off (.t 2) 1), none, []⟩,
        ⟨(some 44), (.app 3 56 (.t 41) (.t 43)), none, []⟩,
        ⟨none, (.store 1 (.t 45) (.t 39)), none, []⟩,
        ⟨(some 46), (.off (.t 2) 2), none, []⟩,
        ⟨none, (.store 1 (.t 46) (.t 44)), none, []⟩] [5, 8, 35, 36, 37, 38, 40, 41, 42, 43, 39, 45, 44, 46])
      (.seq (.region [⟨(some 47), (.mov (.t 9)), none, []⟩,
        ⟨(some 48), (.slS (.t 47) (some (.c (.i .i64 (1)))) none), none, []⟩,
        ⟨(some 0), (.mov (.t 48)), none, []⟩] [47, 48])
      (.seq (.seq (.region [⟨(some 49), (.mov (.t 9)), none, []⟩,
        ⟨(some 50), (.idxS (.t 49) (.c (.i .i64 (0)))), none, []⟩] [9, 49])
      (.block 2
        (.seq (.region [⟨(some 52), (.bin .eql (.t 50) (.c (.i .u8 (125)))), none, []⟩,
          ⟨(some 51), (.mov (.t 52)), none, []⟩] [52])
        (.cond (.t 51)
          (.seq (.region [⟨(some 53), (.load (some 3) (.t 2)), none, []⟩,
            ⟨(some 54), (.mov (.t 0)), none, []⟩,
            ⟨(some 55), (.off (.t 2) 1), none, []⟩,
            ⟨(some 56), (.load none (.t 55)), none, []⟩,
            ⟨(some 57), (.call 79 [(.t 56)]), none, [(53, (.load (some 3) (.t 2)), none)]⟩,
            ⟨none, (.store 3 (.t 2) (.t 53)), none, []⟩,
            ⟨(some 3), (.mov (.t 54)), none, []⟩,
            ⟨(some 4), (.mov (.t 57)), none, []⟩] [0, 50, 51, 53, 54, 55, 56, 57])
          .ret)
          (.seq (.region [⟨(some 59), (.bin .eql (.t 50) (.c (.i .u8 (44)))), none, []⟩,
            ⟨(some 58), (.mov (.t 59)), none, []⟩] [50, 51, 59])
          (.cond (.t 58)
            (.exit 1)
            (.region [] [0, 58])))))))
      (.seq (.region [⟨(some 60), (.build [(.i .i64 (0)), .ns, .ns] []), none, []⟩,
        ⟨none, (.store 3 (.t 2) (.t 60)), none, []⟩,
        ⟨(some 3), (.mov (.c (.s []))), none, []⟩,
        ⟨(some 4), (.mov (.c (.b false))), none, []⟩] [60])
      .ret))))))))
def I92 : IFunc :=
  ⟨(.seq (.region [⟨(some 2), (.alloc [(.i .i64 (0)), .ns, .ns]), none, []⟩,
      ⟨(some 3), (.mov (.c (.s []))), none, []⟩,
      ⟨(some 4), (.mov (.c (.b false))), none, []⟩] [3, 4])
    (.seq (.region [⟨(some 11), (.off (.t 2) 0), none, []⟩,
      ⟨none, (.store 1 (.t 11) (.c (.i .i64 (5)))), none, []⟩] [11])
    (.block 0
      (.loop L92a)))),
    61, 1, [.c 2 (some 3), .t 3, .t 4], 2⟩
theorem tr92 : trFunc Tryd.prog [([], [3, 4]), ([], [11]), ([], [0, 58, 13, 14, 12, 15, 16, 17]), ([], [6, 19, 20, 18, 21, 22, 23]), ([], [7, 10, 24, 25, 26, 27, 28, 29, 30, 31, 32]), ([], [5, 8, 9, 33, 34]), ([], [33]), ([0, 1, 2, 3, 5, 6, 7, 8, 4, 10, 9, 11, 12, 13], [5, 8, 35, 36, 37, 38, 40, 41, 42, 43, 39, 45, 44, 46]), ([], [47, 48]), ([], [9, 49]), ([], [52]), ([0, 1, 2, 3, 4, 5, 6, 7], [0, 50, 51, 53, 54, 55, 56, 57]), ([], [50, 51, 59]), ([], [0, 58]), ([], [60])] 1 Tryd.f92 = some (plain1 I92) := by kernel_rfl
theorem ck92 : ckC 2 I92.body = true := by kernel_rfl

/-- 'encore/value.kindOf'. -/
def I93 : IFunc :=
  ⟨(.seq (.region [⟨(some 2), (.mov (.c (.i .i64 (0)))), none, []⟩] [2])
    (.seq (.seq (.region [⟨(some 3), (.mov (.t 0)), none, []⟩] [0])
    (.block 0
      (.seq (.region [⟨(some 5), (.bin .eql (.t 3) (.c (.s [110, 111, 110, 101]))), none, []⟩,
        ⟨(some 4), (.mov (.t 5)), none, []⟩] [5])
      (.cond (.t 4)
        (.seq (.region [⟨(some 2), (.mov (.c (.i .i64 (0)))), none, []⟩] [3, 4])
        .ret)
        (.seq (.region [⟨(some 7), (.bin .eql (.t 3) (.c (.s [105, 110, 116]))), none, []⟩,
          ⟨(some 6), (.mov (.t 7)), none, []⟩] [4, 7])
        (.cond (.t 6)
          (.seq (.region [⟨(some 2), (.mov (.c (.i .i64 (1)))), none, []⟩] [3, 6])
          .ret)
          (.seq (.region [⟨(some 9), (.bin .eql (.t 3) (.c (.s [98, 111, 111, 108]))), none, []⟩,
            ⟨(some 8), (.mov (.t 9)), none, []⟩] [6, 9])
          (.cond (.t 8)
            (.seq (.region [⟨(some 2), (.mov (.c (.i .i64 (2)))), none, []⟩] [3, 8])
            .ret)
            (.seq (.region [⟨(some 11), (.bin .eql (.t 3) (.c (.s [116, 101, 120, 116]))), none, []⟩,
              ⟨(some 10), (.mov (.t 11)), none, []⟩] [8, 11])
            (.cond (.t 10)
              (.seq (.region [⟨(some 2), (.mov (.c (.i .i64 (3)))), none, []⟩] [3, 10])
              .ret)
              (.seq (.region [⟨(some 13), (.bin .eql (.t 3) (.c (.s [102, 117, 116, 117, 114, 101]))), none, []⟩,
                ⟨(some 12), (.mov (.t 13)), none, []⟩] [3, 10, 13])
              (.cond (.t 12)
                (.seq (.region [⟨(some 2), (.mov (.c (.i .i64 (6)))), none, []⟩] [12])
                .ret)
                (.region [] [12])))))))))))))
    (.seq (.region [⟨(some 2), (.mov (.c (.i .i64 (-1)))), none, []⟩] [])
    .ret))),
    14, 1, [.t 2], 2⟩
theorem tr93 : trFunc Tryd.prog [([], [2]), ([], [0]), ([], [5]), ([], [3, 4]), ([], [4, 7]), ([], [3, 6]), ([], [6, 9]), ([], [3, 8]), ([], [8, 11]), ([], [3, 10]), ([], [3, 10, 13]), ([], [12]), ([], [12]), ([], [])] 1 Tryd.f93 = some (plain1 I93) := by kernel_rfl
theorem ck93 : ckC 2 I93.body = true := by kernel_rfl

/-- 'internal/stringslite.HasPrefix'. -/
def I94 : IFunc :=
  ⟨(.seq (.region [⟨(some 4), (.mov (.c (.b false))), none, []⟩] [4])
    (.seq (.region [⟨(some 5), (.mov (.t 0)), none, []⟩,
      ⟨(some 6), (.lenk 1 (.t 5)), none, []⟩,
      ⟨(some 7), (.mov (.t 1)), none, []⟩,
      ⟨(some 8), (.lenk 1 (.t 7)), none, []⟩,
      ⟨(some 9), (.bin .geq (.t 6) (.t 8)), none, []⟩,
      ⟨(some 10), (.mov (.t 9)), none, []⟩,
      ⟨(some 11), (.mov (.t 0)), (some (10, true)), []⟩,
      ⟨(some 12), (.mov (.t 1)), (some (10, true)), []⟩,
      ⟨(some 13), (.lenk 1 (.t 12)), (some (10, true)), []⟩,
      ⟨(some 14), (.slS (.t 11) none (some (.t 13))), (some (10, true)), []⟩,
      ⟨(some 15), (.mov (.t 1)), (some (10, true)), []⟩,
      ⟨(some 16), (.bin .eql (.t 14) (.t 15)), (some (10, true)), []⟩,
      ⟨(some 17), (.pick (.t 10) (.t 16) (.c (.b false))), none, []⟩,
      ⟨(some 4), (.mov (.t 17)), none, []⟩] [0, 1, 5, 6, 7, 8, 9, 10, 11, 12, 13, 14, 15, 16, 17])
    .ret)),
    18, 2, [.t 4], 2⟩
theorem tr94 : trFunc Tryd.prog [([], [4]), ([], [0, 1, 5, 6, 7, 8, 9, 10, 11, 12, 13, 14, 15, 16, 17])] 1 Tryd.f94 = some (plain1 I94) := by kernel_rfl
theorem ck94 : ckC 2 I94.body = true := by kernel_rfl

/-- 'internal/stringslite.CutPrefix'. -/
def I95 : IFunc :=
  ⟨(.seq (.region [⟨(some 4), (.mov (.c (.s []))), none, []⟩,
      ⟨(some 5), (.mov (.c (.b false))), none, []⟩] [4, 5])
    (.seq (.seq (.region [⟨(some 6), (.mov (.t 0)), none, []⟩,
      ⟨(some 7), (.mov (.t 1)), none, []⟩,
      ⟨(some 8), (.call 94 [(.t 6), (.t 7)]), none, []⟩,
      ⟨(some 9), (.un .not (.t 8)), none, []⟩] [6, 7, 8])
    (.cond (.t 9)
      (.seq (.region [⟨(some 10), (.mov (.t 0)), none, []⟩,
        ⟨(some 4), (.mov (.t 10)), none, []⟩,
        ⟨(some 5), (.mov (.c (.b false))), none, []⟩] [0, 1, 9, 10])
      .ret)
      (.region [] [9])))
    (.seq (.region [⟨(some 11), (.mov (.t 0)), none, []⟩,
      ⟨(some 12), (.mov (.t 1)), none, []⟩,
      ⟨(some 13), (.lenk 1 (.t 12)), none, []⟩,
      ⟨(some 14), (.slS (.t 11) (some (.t 13)) none), none, []⟩,
      ⟨(some 4), (.mov (.t 14)), none, []⟩,
      ⟨(some 5), (.mov (.c (.b true))), none, []⟩] [0, 1, 11, 12, 13, 14])
    .ret))),
    15, 2, [.t 4, .t 5], 2⟩
theorem tr95 : trFunc Tryd.prog [([], [4, 5]), ([], [6, 7, 8]), ([], [0, 1, 9, 10]), ([], [9]), ([], [0, 1, 11, 12, 13, 14])] 1 Tryd.f95 = some (plain1 I95) := by kernel_rfl
theorem ck95 : ckC 2 I95.body = true := by kernel_rfl

/-- 'strings.Cut'. -/
def I96 : IFunc :=
  ⟨(.seq (.region [⟨(some 4), (.mov (.c (.s []))), none, []⟩,
      ⟨(some 5), (.mov (.c (.s []))), none, []⟩,
      ⟨(some 6), (.mov (.c (.b false))), none, []⟩] [4, 5, 6])
    (.seq (.region [⟨(some 7), (.mov (.t 0)), none, []⟩,
      ⟨(some 8), (.mov (.t 1)), none, []⟩,
      ⟨(some 9), (.call 97 [(.t 7), (.t 8)]), none, []⟩,
      ⟨(some 10), (.ext (.t 9) 0), none, []⟩,
      ⟨(some 11), (.ext (.t 9) 1), none, []⟩,
      ⟨(some 12), (.ext (.t 9) 2), none, []⟩,
      ⟨(some 4), (.mov (.t 10)), none, []⟩,
      ⟨(some 5), (.mov (.t 11)), none, []⟩,
      ⟨(some 6), (.mov (.t 12)), none, []⟩] [0, 1, 7, 8, 9, 10, 11, 12])
    .ret)),
    13, 2, [.t 4, .t 5, .t 6], 2⟩
theorem tr96 : trFunc Tryd.prog [([], [4, 5, 6]), ([], [0, 1, 7, 8, 9, 10, 11, 12])] 1 Tryd.f96 = some (plain1 I96) := by kernel_rfl
theorem ck96 : ckC 2 I96.body = true := by kernel_rfl

/-- 'internal/stringslite.Cut'. -/
def I97 : IFunc :=
  ⟨(.seq (.region [⟨(some 4), (.mov (.c (.s []))), none, []⟩,
      ⟨(some 5), (.mov (.c (.s []))), none, []⟩,
      ⟨(some 6), (.mov (.c (.b false))), none, []⟩] [4, 5, 6])
    (.seq (.seq (.region [⟨(some 8), (.mov (.t 0)), none, []⟩,
      ⟨(some 9), (.mov (.t 1)), none, []⟩,
      ⟨(some 10), (.call 98 [(.t 8), (.t 9)]), none, []⟩,
      ⟨(some 7), (.mov (.t 10)), none, []⟩] [8, 9, 10])
    (.seq (.region [⟨(some 11), (.mov (.t 7)), none, []⟩,
      ⟨(some 12), (.bin .geq (.t 11) (.c (.i .i64 (0)))), none, []⟩] [11])
    (.cond (.t 12)
      (.seq (.region [⟨(some 13), (.mov (.t 0)), none, []⟩,
        ⟨(some 14), (.mov (.t 7)), none, []⟩,
        ⟨(some 15), (.slS (.t 13) none (some (.t 14))), none, []⟩,
        ⟨(some 16), (.mov (.t 0)), none, []⟩,
        ⟨(some 17), (.mov (.t 7)), none, []⟩,
        ⟨(some 18), (.mov (.t 1)), none, []⟩,
        ⟨(some 19), (.lenk 1 (.t 18)), none, []⟩,
        ⟨(some 20), (.bin .add (.t 17) (.t 19)), none, []⟩,
        ⟨(some 21), (.slS (.t 16) (some (.t 20)) none), none, []⟩,
        ⟨(some 4), (.mov (.t 15)), none, []⟩,
        ⟨(some 5), (.mov (.t 21)), none, []⟩,
        ⟨(some 6), (.mov (.c (.b true))), none, []⟩] [0, 1, 7, 12, 13, 14, 15, 16, 17, 18, 19, 20, 21])
      .ret)
      (.region [] [1, 7, 12]))))
    (.seq (.region [⟨(some 22), (.mov (.t 0)), none, []⟩,
      ⟨(some 4), (.mov (.t 22)), none, []⟩,
      ⟨(some 5), (.mov (.c (.s []))), none, []⟩,
      ⟨(some 6), (.mov (.c (.b false))), none, []⟩] [0, 22])
    .ret))),
    23, 2, [.t 4, .t 5, .t 6], 2⟩
theorem tr97 : trFunc Tryd.prog [([], [4, 5, 6]), ([], [8, 9, 10]), ([], [11]), ([0, 1, 2, 3, 4, 5, 6, 7, 8, 9, 10, 11], [0, 1, 7, 12, 13, 14, 15, 16, 17, 18, 19, 20, 21]), ([], [1, 7, 12]), ([], [0, 22])] 1 Tryd.f97 = some (plain1 I97) := by kernel_rfl
theorem ck97 : ckC 2 I97.body = true := by kernel_rfl

/-- 'internal/stringslite.Index'. -/
def L98a : ICode :=
  (.seq (.seq (.region [⟨(some 57), (.mov (.t 8)), none, []⟩,
      ⟨(some 58), (.mov (.t 9)), none, []⟩,
      ⟨(some 59), (.bin .lss (.t 57) (.t 58)), none, []⟩] [57, 58])
    (.cond (.t 59)
      (.region [] [59])
      (.exit 1)))
    (.block 2
      (.seq (.seq (.region [⟨(some 60), (.mov (.t 0)), none, []⟩,
        ⟨(some 61), (.mov (.t 8)), none, []⟩,
        ⟨(some 62), (.idxS (.t 60) (.t 61)), none, []⟩,
        ⟨(some 63), (.mov (.t 6)), none, []⟩,
        ⟨(some 64), (.bin .neq (.t 62) (.t 63)), none, []⟩] [60, 61, 62, 63])
      (.cond (.t 64)
        (.seq (.region [⟨(some 65), (.mov (.t 0)), none, []⟩,
          ⟨(some 66), (.mov (.t 8)), none, []⟩,
          ⟨(some 67), (.bin .add (.t 66) (.c (.i .i64 (1)))), none, []⟩,
          ⟨(some 68), (.mov (.t 9)), none, []⟩,
          ⟨(some 69), (.slS (.t 65) (some (.t 67)) (some (.t 68))), none, []⟩,
          ⟨(some 70), (.mov (.t 6)), none, []⟩,
          ⟨(some 71), (.call 99 [(.t 69), (.t 70)]), none, []⟩,
          ⟨(some 11), (.mov (.t 71)), none, []⟩] [64, 65, 66, 67, 68, 69, 70, 71])
        (.seq (.seq (.region [⟨(some 72), (.mov (.t 11)), none, []⟩,
          ⟨(some 73), (.bin .lss (.t 72) (.c (.i .i64 (0)))), none, []⟩] [72])
        (.cond (.t 73)
          (.seq (.region [⟨(some 4), (.mov (.c (.i .i64 (-1)))), none, []⟩] [0, 1, 5, 6, 7, 8, 9, 10, 11, 73])
          .ret)
          (.region [] [73])))
        (.region [⟨(some 74), (.mov (.t 8)), none, []⟩,
          ⟨(some 75), (.mov (.t 11)), none, []⟩,
          ⟨(some 76), (.bin .add (.t 75) (.c (.i .i64 (1)))), none, []⟩,
          ⟨(some 77), (.bin .add (.t 74) (.t 76)), none, []⟩,
          ⟨(some 8), (.mov (.t 77)), none, []⟩] [11, 74, 75, 76, 77])))
        (.region [] [64])))
      (.seq (.seq (.region [⟨(some 78), (.mov (.t 0)), none, []⟩,
        ⟨(some 79), (.mov (.t 8)), none, []⟩,
        ⟨(some 80), (.bin .add (.t 79) (.c (.i .i64 (1)))), none, []⟩,
        ⟨(some 81), (.idxS (.t 78) (.t 80)), none, []⟩,
        ⟨(some 82), (.mov (.t 7)), none, []⟩,
        ⟨(some 83), (.bin .eql (.t 81) (.t 82)), none, []⟩,
        ⟨(some 84), (.mov (.t 83)), none, []⟩,
        ⟨(some 85), (.mov (.t 0)), (some (84, true)), []⟩,
        ⟨(some 86), (.mov (.t 8)), (some (84, true)), []⟩,
        ⟨(some 87), (.mov (.t 8)), (some (84, true)), []⟩,
        ⟨(some 88), (.mov (.t 5)), (some (84, true)), []⟩,
        ⟨(some 89), (.bin .add (.t 87) (.t 88)), (some (84, true)), []⟩,
        ⟨(some 90), (.slS (.t 85) (some (.t 86)) (some (.t 89))), (some (84, true)), []⟩,
        ⟨(some 91), (.mov (.t 1)), (some (84, true)), []⟩,
        ⟨(some 92), (.bin .eql (.t 90) (.t 91)), (some (84, true)), []⟩,
        ⟨(some 93), (.pick (.t 84) (.t 92) (.c (.b false))), none, []⟩] [78, 79, 80, 81, 82, 83, 84, 85, 86, 87, 88, 89, 90, 91, 92])
      (.cond (.t 93)
        (.seq (.region [⟨(some 94), (.mov (.t 8)), none, []⟩,
          ⟨(some 4), (.mov (.t 94)), none, []⟩] [0, 1, 5, 6, 7, 8, 9, 10, 93, 94])
        .ret)
        (.region [] [93])))
      (.seq (.region [⟨(some 95), (.mov (.t 8)), none, []⟩,
        ⟨(some 96), (.bin .add (.t 95) (.c (.i .i64 (1)))), none, []⟩,
        ⟨(some 8), (.mov (.t 96)), none, []⟩] [95, 96])
      (.seq (.region [⟨(some 97), (.mov (.t 10)), none, []⟩,
        ⟨(some 98), (.bin .add (.t 97) (.c (.i .i64 (1)))), none, []⟩,
        ⟨(some 10), (.mov (.t 98)), none, []⟩] [97, 98])
      (.seq (.region [⟨(some 99), (.mov (.t 5)), none, []⟩,
        ⟨(some 100), (.load none (.g 1)), none, []⟩,
        ⟨(some 101), (.bin .leq (.t 99) (.t 100)), none, []⟩,
        ⟨(some 102), (.mov (.t 101)), none, []⟩,
        ⟨(some 103), (.mov (.t 10)), (some (102, true)), []⟩,
        ⟨(some 104), (.mov (.t 8)), (some (102, true)), []⟩,
        ⟨(some 105), (.call 101 [(.t 104)]), (some (102, true)), []⟩,
        ⟨(some 106), (.bin .gtr (.t 103) (.t 105)), (some (102, true)), []⟩,
        ⟨(some 107), (.pick (.t 102) (.t 106) (.c (.b false))), none, []⟩] [99, 100, 101, 102, 103, 104, 105, 106])
      (.cond (.t 107)
        (.seq (.region [⟨(some 108), (.mov (.t 0)), none, []⟩,
          ⟨(some 109), (.mov (.t 8)), none, []⟩,
          ⟨(some 110), (.slS (.t 108) (some (.t 109)) none), none, []⟩,
          ⟨(some 111), (.mov (.t 1)), none, []⟩,
          ⟨(some 112), (.call 100 [(.t 110), (.t 111)]), none, []⟩,
          ⟨(some 12), (.mov (.t 112)), none, []⟩] [0, 1, 5, 6, 7, 9, 10, 107, 108, 109, 110, 111, 112])
        (.seq (.seq (.region [⟨(some 113), (.mov (.t 12)), none, []⟩,
          ⟨(some 114), (.bin .geq (.t 113) (.c (.i .i64 (0)))), none, []⟩] [113])
        (.cond (.t 114)
          (.seq (.region [⟨(some 115), (.mov (.t 12)), none, []⟩,
            ⟨(some 116), (.mov (.t 8)), none, []⟩,
            ⟨(some 117), (.bin .add (.t 115) (.t 116)), none, []⟩,
            ⟨(some 4), (.mov (.t 117)), none, []⟩] [8, 12, 114, 115, 116, 117])
          .ret)
          (.region [] [8, 12, 114])))
        (.seq (.region [⟨(some 4), (.mov (.c (.i .i64 (-1)))), none, []⟩] [])
        .ret)))
        (.seq (.region [⟨(some 118), (.mov (.t 5)), none, []⟩,
          ⟨(some 119), (.load none (.g 1)), none, []⟩,
          ⟨(some 120), (.bin .gtr (.t 118) (.t 119)), none, []⟩,
          ⟨(some 121), (.mov (.t 120)), none, []⟩,
          ⟨(some 122), (.mov (.t 10)), (some (121, true)), []⟩,
          ⟨(some 123), (.mov (.t 8)), (some (121, true)), []⟩,
          ⟨(some 124), (.bin .shr (.t 123) (.c (.i .u64 (4)))), (some (121, true)), []⟩,
          ⟨(some 125), (.bin .add (.c (.i .i64 (4))) (.t 124)), (some (121, true)), []⟩,
          ⟨(some 126), (.bin .geq (.t 122) (.t 125)), (some (121, true)), []⟩,
          ⟨(some 127), (.pick (.t 121) (.t 126) (.c (.b false))), none, []⟩,
          ⟨(some 128), (.mov (.t 127)), none, []⟩,
          ⟨(some 129), (.mov (.t 8)), (some (128, true)), []⟩,
          ⟨(some 130), (.mov (.t 9)), (some (128, true)), []⟩,
          ⟨(some 131), (.bin .lss (.t 129) (.t 130)), (some (128, true)), []⟩,
          ⟨(some 132), (.pick (.t 128) (.t 131) (.c (.b false))), none, []⟩] [107, 118, 119, 120, 121, 122, 123, 124, 125, 126, 127, 128, 129, 130, 131])
        (.cond (.t 132)
          (.seq (.region [⟨(some 133), (.mov (.t 0)), none, []⟩,
            ⟨(some 134), (.mov (.t 8)), none, []⟩,
            ⟨(some 135), (.slS (.t 133) (some (.t 134)) none), none, []⟩,
            ⟨(some 136), (.mov (.t 1)), none, []⟩,
            ⟨(some 137), (.call 102 [(.t 135), (.t 136)]), none, []⟩,
            ⟨(some 13), (.mov (.t 137)), none, []⟩] [0, 1, 5, 6, 7, 9, 10, 132, 133, 134, 135, 136, 137])
          (.seq (.seq (.region [⟨(some 138), (.mov (.t 13)), none, []⟩,
            ⟨(some 139), (.bin .lss (.t 138) (.c (.i .i64 (0)))), none, []⟩] [138])
          (.cond (.t 139)
            (.seq (.region [⟨(some 4), (.mov (.c (.i .i64 (-1)))), none, []⟩] [8, 13, 139])
            .ret)
            (.region [] [139])))
          (.seq (.region [⟨(some 140), (.mov (.t 8)), none, []⟩,
            ⟨(some 141), (.mov (.t 13)), none, []⟩,
            ⟨(some 142), (.bin .add (.t 140) (.t 141)), none, []⟩,
            ⟨(some 4), (.mov (.t 142)), none, []⟩] [8, 13, 140, 141, 142])
          .ret)))
          (.region [] [132])))))))))))
def I98 : IFunc :=
  ⟨(.seq (.region [⟨(some 4), (.mov (.c (.i .i64 (0)))), none, []⟩] [4])
    (.seq (.region [⟨(some 14), (.mov (.t 1)), none, []⟩,
      ⟨(some 15), (.lenk 1 (.t 14)), none, []⟩,
      ⟨(some 5), (.mov (.t 15)), none, []⟩] [14, 15])
    (.seq (.block 0
      (.seq (.region [⟨(some 17), (.mov (.t 5)), none, []⟩,
        ⟨(some 18), (.bin .eql (.t 17) (.c (.i .i64 (0)))), none, []⟩,
        ⟨(some 19), (.mov (.t 18)), none, []⟩,
        ⟨(some 20), (.mov (.t 1)), (some (19, false)), []⟩,
        ⟨(some 21), (.mov (.t 0)), (some (19, false)), []⟩,
        ⟨(some 22), (.bin .eql (.t 20) (.t 21)), (some (19, false)), []⟩,
        ⟨(some 23), (.pick (.t 19) (.c (.b true)) (.t 22)), none, []⟩,
        ⟨(some 16), (.mov (.t 23)), none, []⟩] [17, 18, 19, 20, 21, 22, 23])
      (.cond (.t 16)
        (.seq (.region [⟨(some 4), (.mov (.c (.i .i64 (0)))), none, []⟩] [0, 1, 5, 16])
        .ret)
        (.seq (.region [⟨(some 25), (.mov (.t 5)), none, []⟩,
          ⟨(some 26), (.bin .eql (.t 25) (.c (.i .i64 (1)))), none, []⟩,
          ⟨(some 24), (.mov (.t 26)), none, []⟩] [16, 25, 26])
        (.cond (.t 24)
          (.seq (.region [⟨(some 27), (.mov (.t 0)), none, []⟩,
            ⟨(some 28), (.mov (.t 1)), none, []⟩,
            ⟨(some 29), (.idxS (.t 28) (.c (.i .i64 (0)))), none, []⟩,
            ⟨(some 30), (.call 99 [(.t 27), (.t 29)]), none, []⟩,
            ⟨(some 4), (.mov (.t 30)), none, []⟩] [0, 1, 5, 24, 27, 28, 29, 30])
          .ret)
          (.seq (.region [⟨(some 32), (.mov (.t 5)), none, []⟩,
            ⟨(some 33), (.mov (.t 0)), none, []⟩,
            ⟨(some 34), (.lenk 1 (.t 33)), none, []⟩,
            ⟨(some 35), (.bin .geq (.t 32) (.t 34)), none, []⟩,
            ⟨(some 31), (.mov (.t 35)), none, []⟩] [24, 32, 33, 34, 35])
          (.cond (.t 31)
            (.seq (.region [⟨(some 4), (.mov (.c (.i .i64 (-1)))), none, []⟩] [0, 1, 5, 31])
            .ret)
            (.seq (.region [⟨(some 37), (.mov (.t 5)), none, []⟩,
              ⟨(some 38), (.load none (.g 1)), none, []⟩,
              ⟨(some 39), (.bin .leq (.t 37) (.t 38)), none, []⟩,
              ⟨(some 40), (.mov (.t 39)), none, []⟩,
              ⟨(some 41), (.mov (.t 0)), (some (40, true)), []⟩,
              ⟨(some 42), (.lenk 1 (.t 41)), (some (40, true)), []⟩,
              ⟨(some 43), (.bin .leq (.t 42) (.c (.i .i64 (64)))), (some (40, true)), []⟩,
              ⟨(some 44), (.pick (.t 40) (.t 43) (.c (.b false))), none, []⟩,
              ⟨(some 36), (.mov (.t 44)), none, []⟩] [31, 37, 38, 39, 40, 41, 42, 43, 44])
            (.cond (.t 36)
              (.seq (.region [⟨(some 45), (.mov (.t 0)), none, []⟩,
                ⟨(some 46), (.mov (.t 1)), none, []⟩,
                ⟨(some 47), (.call 100 [(.t 45), (.t 46)]), none, []⟩,
                ⟨(some 4), (.mov (.t 47)), none, []⟩] [0, 1, 5, 36, 45, 46, 47])
              .ret)
              (.region [] [36]))))))))))
    (.seq (.region [⟨(some 48), (.mov (.t 1)), none, []⟩,
      ⟨(some 49), (.idxS (.t 48) (.c (.i .i64 (0)))), none, []⟩,
      ⟨(some 6), (.mov (.t 49)), none, []⟩] [48, 49])
    (.seq (.region [⟨(some 50), (.mov (.t 1)), none, []⟩,
      ⟨(some 51), (.idxS (.t 50) (.c (.i .i64 (1)))), none, []⟩,
      ⟨(some 7), (.mov (.t 51)), none, []⟩] [50, 51])
    (.seq (.region [⟨(some 8), (.mov (.c (.i .i64 (0)))), none, []⟩] [])
    (.seq (.region [⟨(some 52), (.mov (.t 0)), none, []⟩,
      ⟨(some 53), (.lenk 1 (.t 52)), none, []⟩,
      ⟨(some 54), (.mov (.t 5)), none, []⟩,
      ⟨(some 55), (.bin .sub (.t 53) (.t 54)), none, []⟩,
      ⟨(some 56), (.bin .add (.t 55) (.c (.i .i64 (1)))), none, []⟩,
      ⟨(some 9), (.mov (.t 56)), none, []⟩] [52, 53, 54, 55, 56])
    (.seq (.region [⟨(some 10), (.mov (.c (.i .i64 (0)))), none, []⟩] [])
    (.seq (.block 1
      (.loop L98a))
    (.seq (.region [⟨(some 4), (.mov (.c (.i .i64 (-1)))), none, []⟩] [0, 1, 5, 6, 7, 8, 9, 10, 59])
    .ret)))))))))),
    143, 2, [.t 4], 2⟩
theorem tr98 : trFunc Tryd.prog [([], [4]), ([], [14, 15]), ([], [17, 18, 19, 20, 21, 22, 23]), ([], [0, 1, 5, 16]), ([], [16, 25, 26]), ([], [0, 1, 5, 24, 27, 28, 29, 30]), ([], [24, 32, 33, 34, 35]), ([], [0, 1, 5, 31]), ([], [31, 37, 38, 39, 40, 41, 42, 43, 44]), ([], [0, 1, 5, 36, 45, 46, 47]), ([], [36]), ([], [48, 49]), ([], [50, 51]), ([], []), ([], [52, 53, 54, 55, 56]), ([], []), ([], [57, 58]), ([], [59]), ([], [60, 61, 62, 63]), ([], [64, 65, 66, 67, 68, 69, 70, 71]), ([], [72]), ([], [0, 1, 5, 6, 7, 8, 9, 10, 11, 73]), ([], [73]), ([], [11, 74, 75, 76, 77]), ([], [64]), ([], [78, 79, 80, 81, 82, 83, 84, 85, 86, 87, 88, 89, 90, 91, 92]), ([], [0, 1, 5, 6, 7, 8, 9, 10, 93, 94]), ([], [93]), ([], [95, 96]), ([], [97, 98]), ([], [99, 100, 101, 102, 103, 104, 105, 106]), ([], [0, 1, 5, 6, 7, 9, 10, 107, 108, 109, 110, 111, 112]), ([], [113]), ([], [8, 12, 114, 115, 116, 117]), ([], [8, 12, 114]), ([], []), ([], [107, 118, 119, 120, 121, 122, 123, 124, 125, 126, 127, 128, 129, 130, 131]), ([], [0, 1, 5, 6, 7, 9, 10, 132, 133, 134, 135, 136, 137]), ([], [138]), ([], [8, 13, 139]), ([], [139]), ([], [8, 13, 140, 141, 142]), ([], [132]), ([], [0, 1, 5, 6, 7, 8, 9, 10, 59])] 1 Tryd.f98 = some (plain1 I98) := by kernel_rfl
theorem ck98 : ckC 2 I98.body = true := by kernel_rfl

/-- 'internal/stringslite.IndexByte'. -/
def I99 : IFunc :=
  ⟨(.seq (.region [⟨(some 4), (.mov (.c (.i .i64 (0)))), none, []⟩] [4])
    (.seq (.region [⟨(some 5), (.mov (.t 0)), none, []⟩,
      ⟨(some 6), (.mov (.t 1)), none, []⟩,
      ⟨(some 7), (.call 103 [(.t 5), (.t 6)]), none, []⟩,
      ⟨(some 4), (.mov (.t 7)), none, []⟩] [0, 1, 5, 6, 7])
    .ret)),
    8, 2, [.t 4], 2⟩
theorem tr99 : trFunc Tryd.prog [([], [4]), ([], [0, 1, 5, 6, 7])] 1 Tryd.f99 = some (plain1 I99) := by kernel_rfl
theorem ck99 : ckC 2 I99.body = true := by kernel_rfl

/-- 'internal/bytealg.Cutover'. -/
def I101 : IFunc :=
  ⟨(.seq (.region [⟨(some 2), (.mov (.c (.i .i64 (0)))), none, []⟩] [2])
    (.seq (.region [⟨(some 3), (.mov (.t 0)), none, []⟩,
      ⟨(some 4), (.bin .add (.t 3) (.c (.i .i64 (16)))), none, []⟩,
      ⟨(some 5), (.bin .quo (.t 4) (.c (.i .i64 (8)))), none, []⟩,
      ⟨(some 2), (.mov (.t 5)), none, []⟩] [0, 3, 4, 5])
    .ret)),
    6, 1, [.t 2], 2⟩
theorem tr101 : trFunc Tryd.prog [([], [2]), ([], [0, 3, 4, 5])] 1 Tryd.f101 = some (plain1 I101) := by kernel_rfl
theorem ck101 : ckC 2 I101.body = true := by kernel_rfl

/-- 'internal/bytealg.IndexRabinKarp[string]'. -/
def L102a : ICode :=
  (.seq (.seq (.region [⟨(some 18), (.mov (.t 9)), none, []⟩,
      ⟨(some 19), (.mov (.t 7)), none, []⟩,
      ⟨(some 20), (.bin .lss (.t 18) (.t 19)), none, []⟩] [18, 19])
    (.cond (.t 20)
      (.region [] [20])
      (.exit 0)))
    (.seq (.block 1
      (.region [⟨(some 23), (.mov (.t 8)), none, []⟩,
        ⟨(some 24), (.bin .mul (.t 23) (.c (.i .u32 (16777619)))), none, []⟩,
        ⟨(some 25), (.mov (.t 0)), none, []⟩,
        ⟨(some 26), (.mov (.t 9)), none, []⟩,
        ⟨(some 27), (.idxS (.t 25) (.t 26)), none, []⟩,
        ⟨(some 28), (.conv .u32 (.t 27)), none, []⟩,
        ⟨(some 29), (.bin .add (.t 24) (.t 28)), none, []⟩,
        ⟨(some 8), (.mov (.t 29)), none, []⟩] [23, 24, 25, 26, 27, 28, 29]))
    (.region [⟨(some 21), (.mov (.t 9)), none, []⟩,
      ⟨(some 22), (.bin .add (.t 21) (.c (.i .i64 (1)))), none, []⟩,
      ⟨(some 9), (.mov (.t 22)), none, []⟩] [21, 22])))
def L102b : ICode :=
  (.seq (.seq (.region [⟨(some 41), (.mov (.t 10)), none, []⟩,
      ⟨(some 42), (.mov (.t 0)), none, []⟩,
      ⟨(some 43), (.lenk 1 (.t 42)), none, []⟩,
      ⟨(some 44), (.bin .lss (.t 41) (.t 43)), none, []⟩] [41, 42, 43])
    (.cond (.t 44)
      (.region [] [44])
      (.exit 2)))
    (.block 3
      (.seq (.region [⟨(some 45), (.mov (.t 8)), none, []⟩,
        ⟨(some 46), (.bin .mul (.t 45) (.c (.i .u32 (16777619)))), none, []⟩,
        ⟨(some 8), (.mov (.t 46)), none, []⟩] [45, 46])
      (.seq (.region [⟨(some 47), (.mov (.t 8)), none, []⟩,
        ⟨(some 48), (.mov (.t 0)), none, []⟩,
        ⟨(some 49), (.mov (.t 10)), none, []⟩,
        ⟨(some 50), (.idxS (.t 48) (.t 49)), none, []⟩,
        ⟨(some 51), (.conv .u32 (.t 50)), none, []⟩,
        ⟨(some 52), (.bin .add (.t 47) (.t 51)), none, []⟩,
        ⟨(some 8), (.mov (.t 52)), none, []⟩] [47, 48, 49, 50, 51, 52])
      (.seq (.region [⟨(some 53), (.mov (.t 8)), none, []⟩,
        ⟨(some 54), (.mov (.t 6)), none, []⟩,
        ⟨(some 55), (.mov (.t 0)), none, []⟩,
        ⟨(some 56), (.mov (.t 10)), none, []⟩,
        ⟨(some 57), (.mov (.t 7)), none, []⟩,
        ⟨(some 58), (.bin .sub (.t 56) (.t 57)), none, []⟩,
        ⟨(some 59), (.idxS (.t 55) (.t 58)), none, []⟩,
        ⟨(some 60), (.conv .u32 (.t 59)), none, []⟩,
        ⟨(some 61), (.bin .mul (.t 54) (.t 60)), none, []⟩,
        ⟨(some 62), (.bin .sub (.t 53) (.t 61)), none, []⟩,
        ⟨(some 8), (.mov (.t 62)), none, []⟩] [53, 54, 55, 56, 57, 58, 59, 60, 61, 62])
      (.seq (.region [⟨(some 63), (.mov (.t 10)), none, []⟩,
        ⟨(some 64), (.bin .add (.t 63) (.c (.i .i64 (1)))), none, []⟩,
        ⟨(some 10), (.mov (.t 64)), none, []⟩] [63, 64])
      (.seq (.region [⟨(some 65), (.mov (.t 8)), none, []⟩,
        ⟨(some 66), (.mov (.t 5)), none, []⟩,
        ⟨(some 67), (.bin .eql (.t 65) (.t 66)), none, []⟩,
        ⟨(some 68), (.mov (.t 67)), none, []⟩,
        ⟨(some 69), (.mov (.t 0)), (some (68, true)), []⟩,
        ⟨(some 70), (.mov (.t 10)), (some (68, true)), []⟩,
        ⟨(some 71), (.mov (.t 7)), (some (68, true)), []⟩,
        ⟨(some 72), (.bin .sub (.t 70) (.t 71)), (some (68, true)), []⟩,
        ⟨(some 73), (.mov (.t 10)), (some (68, true)), []⟩,
        ⟨(some 74), (.slS (.t 69) (some (.t 72)) (some (.t 73))), (some (68, true)), []⟩,
        ⟨(some 75), (.mov (.t 1)), (some (68, true)), []⟩,
        ⟨(some 76), (.bin .eql (.t 74) (.t 75)), (some (68, true)), []⟩,
        ⟨(some 77), (.pick (.t 68) (.t 76) (.c (.b false))), none, []⟩] [65, 66, 67, 68, 69, 70, 71, 72, 73, 74, 75, 76])
      (.cond (.t 77)
        (.seq (.region [⟨(some 78), (.mov (.t 10)), none, []⟩,
          ⟨(some 79), (.mov (.t 7)), none, []⟩,
          ⟨(some 80), (.bin .sub (.t 78) (.t 79)), none, []⟩,
          ⟨(some 4), (.mov (.t 80)), none, []⟩] [0, 1, 5, 6, 7, 8, 10, 77, 78, 79, 80])
        .ret)
        (.region [] [77])))))))))
def I102 : IFunc :=
  ⟨(.seq (.region [⟨(some 4), (.mov (.c (.i .i64 (0)))), none, []⟩] [4])
    (.seq (.region [⟨(some 12), (.mov (.t 1)), none, []⟩,
      ⟨(some 13), (.call 104 [(.t 12)]), none, []⟩,
      ⟨(some 11), (.mov (.t 13)), none, []⟩,
      ⟨(some 14), (.ext (.t 11) 0), none, []⟩,
      ⟨(some 15), (.ext (.t 11) 1), none, []⟩,
      ⟨(some 5), (.mov (.t 14)), none, []⟩,
      ⟨(some 6), (.mov (.t 15)), none, []⟩] [12, 13, 11, 14, 15])
    (.seq (.region [⟨(some 16), (.mov (.t 1)), none, []⟩,
      ⟨(some 17), (.lenk 1 (.t 16)), none, []⟩,
      ⟨(some 7), (.mov (.t 17)), none, []⟩] [16, 17])
    (.seq (.region [⟨(some 8), (.mov (.c (.i .u32 (0)))), none, []⟩] [])
    (.seq (.seq (.region [⟨(some 9), (.mov (.c (.i .i64 (0)))), none, []⟩] [])
    (.block 0
      (.loop L102a)))
    (.seq (.seq (.region [⟨(some 30), (.mov (.t 8)), none, []⟩,
      ⟨(some 31), (.mov (.t 5)), none, []⟩,
      ⟨(some 32), (.bin .eql (.t 30) (.t 31)), none, []⟩,
      ⟨(some 33), (.mov (.t 32)), none, []⟩,
      ⟨(some 34), (.mov (.t 0)), (some (33, true)), []⟩,
      ⟨(some 35), (.mov (.t 7)), (some (33, true)), []⟩,
      ⟨(some 36), (.slS (.t 34) none (some (.t 35))), (some (33, true)), []⟩,
      ⟨(some 37), (.mov (.t 1)), (some (33, true)), []⟩,
      ⟨(some 38), (.bin .eql (.t 36) (.t 37)), (some (33, true)), []⟩,
      ⟨(some 39), (.pick (.t 33) (.t 38) (.c (.b false))), none, []⟩] [9, 20, 30, 31, 32, 33, 34, 35, 36, 37, 38])
    (.cond (.t 39)
      (.seq (.region [⟨(some 4), (.mov (.c (.i .i64 (0)))), none, []⟩] [0, 1, 5, 6, 7, 8, 39])
      .ret)
      (.region [] [39])))
    (.seq (.seq (.region [⟨(some 40), (.mov (.t 7)), none, []⟩,
      ⟨(some 10), (.mov (.t 40)), none, []⟩] [40])
    (.block 2
      (.loop L102b)))
    (.seq (.region [⟨(some 4), (.mov (.c (.i .i64 (-1)))), none, []⟩] [0, 1, 5, 6, 7, 8, 10, 44])
    .ret)))))))),
    81, 2, [.t 4], 2⟩
theorem tr102 : trFunc Tryd.prog [([], [4]), ([], [12, 13, 11, 14, 15]), ([], [16, 17]), ([], []), ([], []), ([], [18, 19]), ([], [20]), ([], [23, 24, 25, 26, 27, 28, 29]), ([], [21, 22]), ([], [9, 20, 30, 31, 32, 33, 34, 35, 36, 37, 38]), ([], [0, 1, 5, 6, 7, 8, 39]), ([], [39]), ([], [40]), ([], [41, 42, 43]), ([], [44]), ([], [45, 46]), ([], [47, 48, 49, 50, 51, 52]), ([], [53, 54, 55, 56, 57, 58, 59, 60, 61, 62]), ([], [63, 64]), ([], [65, 66, 67, 68, 69, 70, 71, 72, 73, 74, 75, 76]), ([], [0, 1, 5, 6, 7, 8, 10, 77, 78, 79, 80]), ([], [77]), ([], [0, 1, 5, 6, 7, 8, 10, 44])] 1 Tryd.f102 = some (plain1 I102) := by kernel_rfl
theorem ck102 : ckC 2 I102.body = true := by kernel_rfl

/-- 'internal/bytealg.IndexByteString'. -/
def I103 : IFunc := extFn
/-- 'internal/bytealg.hashStr[string]'. -/
def L104a : ICode :=
  (.seq (.seq (.region [⟨(some 9), (.mov (.t 5)), none, []⟩,
      ⟨(some 10), (.mov (.t 0)), none, []⟩,
      ⟨(some 11), (.lenk 1 (.t 10)), none, []⟩,
      ⟨(some 12), (.bin .lss (.t 9) (.t 11)), none, []⟩] [9, 10, 11])
    (.cond (.t 12)
      (.region [] [12])
      (.exit 0)))
    (.seq (.block 1
      (.region [⟨(some 15), (.mov (.t 4)), none, []⟩,
        ⟨(some 16), (.bin .mul (.t 15) (.c (.i .u32 (16777619)))), none, []⟩,
        ⟨(some 17), (.mov (.t 0)), none, []⟩,
        ⟨(some 18), (.mov (.t 5)), none, []⟩,
        ⟨(some 19), (.idxS (.t 17) (.t 18)), none, []⟩,
        ⟨(some 20), (.conv .u32 (.t 19)), none, []⟩,
        ⟨(some 21), (.bin .add (.t 16) (.t 20)), none, []⟩,
        ⟨(some 4), (.mov (.t 21)), none, []⟩] [15, 16, 17, 18, 19, 20, 21]))
    (.region [⟨(some 13), (.mov (.t 5)), none, []⟩,
      ⟨(some 14), (.bin .add (.t 13) (.c (.i .i64 (1)))), none, []⟩,
      ⟨(some 5), (.mov (.t 14)), none, []⟩] [13, 14])))
def L104b : ICode :=
  (.seq (.seq (.region [⟨(some 24), (.mov (.t 8)), none, []⟩,
      ⟨(some 25), (.bin .gtr (.t 24) (.c (.i .i64 (0)))), none, []⟩] [24])
    (.cond (.t 25)
      (.region [] [25])
      (.exit 2)))
    (.seq (.block 3
      (.seq (.seq (.region [⟨(some 28), (.mov (.t 8)), none, []⟩,
        ⟨(some 29), (.bin .and (.t 28) (.c (.i .i64 (1)))), none, []⟩,
        ⟨(some 30), (.bin .neq (.t 29) (.c (.i .i64 (0)))), none, []⟩] [28, 29])
      (.cond (.t 30)
        (.region [⟨(some 31), (.mov (.t 6)), none, []⟩,
          ⟨(some 32), (.mov (.t 7)), none, []⟩,
          ⟨(some 33), (.bin .mul (.t 31) (.t 32)), none, []⟩,
          ⟨(some 6), (.mov (.t 33)), none, []⟩] [30, 31, 32, 33])
        (.region [] [30])))
      (.region [⟨(some 34), (.mov (.t 7)), none, []⟩,
        ⟨(some 35), (.mov (.t 7)), none, []⟩,
        ⟨(some 36), (.bin .mul (.t 34) (.t 35)), none, []⟩,
        ⟨(some 7), (.mov (.t 36)), none, []⟩] [34, 35, 36])))
    (.region [⟨(some 26), (.mov (.t 8)), none, []⟩,
      ⟨(some 27), (.bin .shr (.t 26) (.c (.i .u64 (1)))), none, []⟩,
      ⟨(some 8), (.mov (.t 27)), none, []⟩] [26, 27])))
def I104 : IFunc :=
  ⟨(.seq (.region [⟨(some 2), (.mov (.c (.i .u32 (0)))), none, []⟩,
      ⟨(some 3), (.mov (.c (.i .u32 (0)))), none, []⟩] [2, 3])
    (.seq (.region [⟨(some 4), (.mov (.c (.i .u32 (0)))), none, []⟩] [])
    (.seq (.seq (.region [⟨(some 5), (.mov (.c (.i .i64 (0)))), none, []⟩] [])
    (.block 0
      (.loop L104a)))
    (.seq (.region [⟨(some 6), (.mov (.c (.i .u32 (1)))), none, []⟩,
      ⟨(some 7), (.mov (.c (.i .u32 (16777619)))), none, []⟩] [5, 12])
    (.seq (.seq (.region [⟨(some 22), (.mov (.t 0)), none, []⟩,
      ⟨(some 23), (.lenk 1 (.t 22)), none, []⟩,
      ⟨(some 8), (.mov (.t 23)), none, []⟩] [0, 22, 23])
    (.block 2
      (.loop L104b)))
    (.seq (.region [⟨(some 37), (.mov (.t 4)), none, []⟩,
      ⟨(some 38), (.mov (.t 6)), none, []⟩,
      ⟨(some 2), (.mov (.t 37)), none, []⟩,
      ⟨(some 3), (.mov (.t 38)), none, []⟩] [4, 6, 7, 8, 25, 37, 38])
    .ret)))))),
    39, 1, [.t 2, .t 3], 2⟩
theorem tr104 : trFunc Tryd.prog [([], [2, 3]), ([], []), ([], []), ([], [9, 10, 11]), ([], [12]), ([], [15, 16, 17, 18, 19, 20, 21]), ([], [13, 14]), ([], [5, 12]), ([], [0, 22, 23]), ([], [24]), ([], [25]), ([], [28, 29]), ([], [30, 31, 32, 33]), ([], [30]), ([], [34, 35, 36]), ([], [26, 27]), ([], [4, 6, 7, 8, 25, 37, 38])] 1 Tryd.f104 = some (plain1 I104) := by kernel_rfl
theorem ck104 : ckC 2 I104.body = true := by kernel_rfl


end Go.Proofs.YtdephbcmmhabgaaDoor


