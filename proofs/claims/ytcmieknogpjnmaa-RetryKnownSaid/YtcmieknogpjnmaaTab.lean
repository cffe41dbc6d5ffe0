/- The functions that the statement reaches, as the interpreter has them. Conditions: none. -/
import Derived.Test.YtcmieknogpjnmaaRows
import Derived.Test.YtcmieknogpjnmaaRiRow
namespace Go.Proofs.Ytcmieknogpjnmaa
open Go Go.RI

/-- 'encore/encorelaw27.RetryAnswers'. -/
def I3 : IFunc :=
  ⟨(.seq (.region [⟨(some 2), (.box (.t 0)), none, []⟩,
      ⟨(some 4), (.mov (.c (.b false))), none, []⟩] [0, 4])
    (.seq (.region [⟨(some 14), (.load (some 4) (.t 2)), none, []⟩,
      ⟨(some 15), (.mov (.t 1)), none, []⟩,
      ⟨(some 16), (.call 8 [(.t 14), (.t 15)]), none, []⟩,
      ⟨(some 13), (.mov (.t 16)), none, []⟩,
      ⟨(some 17), (.ext (.t 13) 0), none, []⟩,
      ⟨(some 18), (.ext (.t 13) 1), none, []⟩,
      ⟨(some 5), (.mov (.t 17)), none, []⟩,
      ⟨(some 6), (.mov (.t 18)), none, []⟩] [14, 15, 16, 13, 17, 18])
    (.seq (.region [⟨(some 20), (.load (some 4) (.t 2)), none, []⟩,
      ⟨(some 21), (.mov (.t 1)), none, []⟩,
      ⟨(some 22), (.call 9 [(.t 20), (.t 21)]), none, []⟩,
      ⟨(some 19), (.mov (.t 22)), none, []⟩,
      ⟨(some 23), (.ext (.t 19) 0), none, []⟩,
      ⟨(some 24), (.ext (.t 19) 1), none, []⟩,
      ⟨(some 7), (.mov (.t 23)), none, []⟩,
      ⟨(some 8), (.mov (.t 24)), none, []⟩] [20, 21, 22, 19, 23, 24])
    (.seq (.region [⟨(some 26), (.load (some 4) (.t 2)), none, []⟩,
      ⟨(some 27), (.mov (.t 1)), none, []⟩,
      ⟨(some 28), (.call 10 [(.t 26), (.t 27)]), none, []⟩,
      ⟨(some 25), (.mov (.t 28)), none, []⟩,
      ⟨(some 29), (.ext (.t 25) 0), none, []⟩,
      ⟨(some 30), (.ext (.t 25) 1), none, []⟩,
      ⟨(some 9), (.mov (.t 29)), none, []⟩,
      ⟨(some 10), (.mov (.t 30)), none, []⟩] [26, 27, 28, 25, 29, 30])
    (.seq (.region [⟨(some 32), (.load (some 4) (.t 2)), none, []⟩,
      ⟨(some 33), (.mov (.t 1)), none, []⟩,
      ⟨(some 34), (.call 11 [(.t 32), (.t 33)]), none, []⟩,
      ⟨(some 31), (.mov (.t 34)), none, []⟩,
      ⟨(some 35), (.ext (.t 31) 0), none, []⟩,
      ⟨(some 36), (.ext (.t 31) 1), none, []⟩,
      ⟨(some 11), (.mov (.t 35)), none, []⟩,
      ⟨(some 12), (.mov (.t 36)), none, []⟩] [32, 33, 34, 31, 35, 36])
    (.seq (.region [⟨(some 37), (.load (some 4) (.t 2)), none, []⟩,
      ⟨(some 39), (.load (some 4) (.t 2)), none, []⟩,
      ⟨(some 38), (.call 12 [(.t 37)]), none, [(39, (.load (some 4) (.t 2)), none)]⟩,
      ⟨(some 40), (.call 13 [(.t 39)]), none, []⟩,
      ⟨(some 41), (.bin .eql (.t 38) (.t 40)), none, []⟩,
      ⟨(some 42), (.mov (.t 41)), none, []⟩,
      ⟨(some 43), (.load (some 4) (.t 2)), (some (42, true)), []⟩,
      ⟨(some 44), (.mov (.t 1)), (some (42, true)), []⟩,
      ⟨(some 46), (.load (some 4) (.t 2)), (some (42, true)), []⟩,
      ⟨(some 47), (.mov (.t 1)), (some (42, true)), []⟩,
      ⟨(some 45), (.call 14 [(.t 43), (.t 44)]), (some (42, true)), [(46, (.load (some 4) (.t 2)), (some (42, true)))]⟩,
      ⟨(some 48), (.call 15 [(.t 46), (.t 47)]), (some (42, true)), []⟩,
      ⟨(some 49), (.eqB false (.t 45) (.t 48)), (some (42, true)), []⟩,
      ⟨(some 50), (.pick (.t 42) (.t 49) (.c (.b false))), none, []⟩,
      ⟨(some 51), (.mov (.t 50)), none, []⟩,
      ⟨(some 52), (.mov (.t 5)), (some (51, true)), []⟩,
      ⟨(some 53), (.mov (.t 7)), (some (51, true)), []⟩,
      ⟨(some 54), (.bin .eql (.t 52) (.t 53)), (some (51, true)), []⟩,
      ⟨(some 55), (.pick (.t 51) (.t 54) (.c (.b false))), none, []⟩,
      ⟨(some 56), (.mov (.t 55)), none, []⟩,
      ⟨(some 57), (.mov (.t 6)), (some (56, true)), []⟩,
      ⟨(some 58), (.mov (.t 8)), (some (56, true)), []⟩,
      ⟨(some 59), (.bin .eql (.t 57) (.t 58)), (some (56, true)), []⟩,
      ⟨(some 60), (.pick (.t 56) (.t 59) (.c (.b false))), none, []⟩,
      ⟨(some 61), (.mov (.t 60)), none, []⟩,
      ⟨(some 62), (.mov (.t 9)), (some (61, true)), []⟩,
      ⟨(some 63), (.mov (.t 11)), (some (61, true)), []⟩,
      ⟨(some 64), (.bin .eql (.t 62) (.t 63)), (some (61, true)), []⟩,
      ⟨(some 65), (.pick (.t 61) (.t 64) (.c (.b false))), none, []⟩,
      ⟨(some 66), (.mov (.t 65)), none, []⟩,
      ⟨(some 67), (.mov (.t 10)), (some (66, true)), []⟩,
      ⟨(some 68), (.mov (.t 12)), (some (66, true)), []⟩,
      ⟨(some 69), (.bin .eql (.t 67) (.t 68)), (some (66, true)), []⟩,
      ⟨(some 70), (.pick (.t 66) (.t 69) (.c (.b false))), none, []⟩,
      ⟨(some 71), (.mov (.t 70)), none, []⟩,
      ⟨(some 72), (.call 16 []), (some (71, true)), []⟩,
      ⟨(some 73), (.pick (.t 71) (.t 72) (.c (.b false))), none, []⟩,
      ⟨(some 4), (.mov (.t 73)), none, []⟩] [1, 2, 5, 6, 7, 8, 9, 10, 11, 12, 37, 39, 38, 40, 41, 42, 43, 44, 46, 47, 45, 48, 49, 50, 51, 52, 53, 54, 55, 56, 57, 58, 59, 60, 61, 62, 63, 64, 65, 66, 67, 68, 69, 70, 71, 72, 73])
    .ret)))))),
    74, 2, [.t 4], 2⟩
theorem tr3 : trFunc Try.prog [([], [0, 4]), ([], [14, 15, 16, 13, 17, 18]), ([], [20, 21, 22, 19, 23, 24]), ([], [26, 27, 28, 25, 29, 30]), ([], [32, 33, 34, 31, 35, 36]), ([0, 2, 1, 3, 4, 5, 6, 7, 9, 10, 8, 11, 12, 13, 14, 15, 16, 17, 18, 19, 20, 21, 22, 23, 24, 25, 26, 27, 28, 29, 30, 31, 32, 33, 34, 35, 36, 37], [1, 2, 5, 6, 7, 8, 9, 10, 11, 12, 37, 39, 38, 40, 41, 42, 43, 44, 46, 47, 45, 48, 49, 50, 51, 52, 53, 54, 55, 56, 57, 58, 59, 60, 61, 62, 63, 64, 65, 66, 67, 68, 69, 70, 71, 72, 73])] 2 Try.f3 = some I3 := by kernel_rfl

/-- 'encore/encorelaw27.RetryRises'. -/
def I4 : IFunc :=
  ⟨(.seq (.region [⟨(some 3), (.box (.t 0)), none, []⟩,
      ⟨(some 6), (.mov (.c (.b false))), none, []⟩] [0, 6])
    (.seq (.seq (.region [⟨(some 14), (.call 16 []), none, []⟩,
      ⟨(some 15), (.un .not (.t 14)), none, []⟩] [14])
    (.cond (.t 15)
      (.seq (.region [⟨(some 6), (.mov (.c (.b false))), none, []⟩] [1, 2, 3, 15])
      .ret)
      (.region [] [15])))
    (.seq (.region [⟨(some 16), (.load (some 4) (.t 3)), none, []⟩,
      ⟨(some 17), (.call 17 [(.t 16)]), none, []⟩,
      ⟨none, (.store 4 (.t 3) (.t 17)), none, []⟩] [16, 17])
    (.seq (.region [⟨(some 18), (.mov (.t 1)), none, []⟩,
      ⟨(some 19), (.call 18 [(.t 18), (.c (.i .i64 (9007199254740991)))]), none, []⟩,
      ⟨(some 20), (.bin .add (.c (.i .i64 (1))) (.t 19)), none, []⟩,
      ⟨(some 7), (.mov (.t 20)), none, []⟩] [1, 18, 19, 20])
    (.seq (.region [⟨(some 21), (.mov (.t 7)), none, []⟩,
      ⟨(some 22), (.mov (.t 2)), none, []⟩,
      ⟨(some 23), (.call 18 [(.t 22), (.c (.i .i64 (40)))]), none, []⟩,
      ⟨(some 24), (.bin .add (.t 21) (.t 23)), none, []⟩,
      ⟨(some 25), (.mm false (.t 24) [(.c (.i .i64 (9007199254740991)))]), none, []⟩,
      ⟨(some 8), (.mov (.t 25)), none, []⟩] [2, 21, 22, 23, 24, 25])
    (.seq (.region [⟨(some 27), (.load (some 4) (.t 3)), none, []⟩,
      ⟨(some 28), (.mov (.t 7)), none, []⟩,
      ⟨(some 29), (.call 8 [(.t 27), (.t 28)]), none, []⟩,
      ⟨(some 26), (.mov (.t 29)), none, []⟩,
      ⟨(some 30), (.ext (.t 26) 0), none, []⟩,
      ⟨(some 31), (.ext (.t 26) 1), none, []⟩,
      ⟨(some 9), (.mov (.t 30)), none, []⟩,
      ⟨(some 10), (.mov (.t 31)), none, []⟩] [7, 27, 28, 29, 26, 30, 31])
    (.seq (.region [⟨(some 33), (.load (some 4) (.t 3)), none, []⟩,
      ⟨(some 34), (.mov (.t 8)), none, []⟩,
      ⟨(some 35), (.call 8 [(.t 33), (.t 34)]), none, []⟩,
      ⟨(some 32), (.mov (.t 35)), none, []⟩,
      ⟨(some 36), (.ext (.t 32) 0), none, []⟩,
      ⟨(some 37), (.ext (.t 32) 1), none, []⟩,
      ⟨(some 11), (.mov (.t 36)), none, []⟩,
      ⟨(some 12), (.mov (.t 37)), none, []⟩] [8, 33, 34, 35, 32, 36, 37])
    (.seq (.region [⟨(some 38), (.off (.t 3) 2), none, []⟩,
      ⟨(some 39), (.load none (.t 38)), none, []⟩,
      ⟨(some 40), (.bin .gtr (.t 39) (.c (.i .i64 (1)))), none, []⟩,
      ⟨(some 41), (.mov (.t 40)), none, []⟩,
      ⟨(some 42), (.off (.t 3) 1), (some (41, true)), []⟩,
      ⟨(some 43), (.load none (.t 42)), (some (41, true)), []⟩,
      ⟨(some 44), (.bin .gtr (.t 43) (.c (.i .i64 (0)))), (some (41, true)), []⟩,
      ⟨(some 45), (.pick (.t 41) (.t 44) (.c (.b false))), none, []⟩,
      ⟨(some 46), (.mov (.t 45)), none, []⟩,
      ⟨(some 47), (.mov (.t 9)), (some (46, false)), []⟩,
      ⟨(some 48), (.mov (.t 11)), (some (46, false)), []⟩,
      ⟨(some 49), (.bin .eql (.t 47) (.t 48)), (some (46, false)), []⟩,
      ⟨(some 50), (.pick (.t 46) (.c (.b true)) (.t 49)), none, []⟩,
      ⟨(some 13), (.mov (.t 50)), none, []⟩] [38, 39, 40, 41, 42, 43, 44, 45, 46, 47, 48, 49, 50])
    (.seq (.region [⟨(some 51), (.load (some 4) (.t 3)), none, []⟩,
      ⟨(some 52), (.call 12 [(.t 51)]), none, []⟩,
      ⟨(some 53), (.bin .eql (.t 52) (.c (.i .i64 (0)))), none, []⟩,
      ⟨(some 54), (.mov (.t 53)), none, []⟩,
      ⟨(some 55), (.mov (.t 10)), (some (54, true)), []⟩,
      ⟨(some 56), (.bin .eql (.t 55) (.c (.i .i64 (0)))), (some (54, true)), []⟩,
      ⟨(some 57), (.pick (.t 54) (.t 56) (.c (.b false))), none, []⟩,
      ⟨(some 58), (.mov (.t 57)), none, []⟩,
      ⟨(some 59), (.mov (.t 12)), (some (58, true)), []⟩,
      ⟨(some 60), (.bin .eql (.t 59) (.c (.i .i64 (0)))), (some (58, true)), []⟩,
      ⟨(some 61), (.pick (.t 58) (.t 60) (.c (.b false))), none, []⟩,
      ⟨(some 62), (.mov (.t 61)), none, []⟩,
      ⟨(some 63), (.mov (.t 9)), (some (62, true)), []⟩,
      ⟨(some 64), (.mov (.t 11)), (some (62, true)), []⟩,
      ⟨(some 65), (.bin .leq (.t 63) (.t 64)), (some (62, true)), []⟩,
      ⟨(some 66), (.pick (.t 62) (.t 65) (.c (.b false))), none, []⟩,
      ⟨(some 67), (.mov (.t 66)), none, []⟩,
      ⟨(some 68), (.mov (.t 11)), (some (67, true)), []⟩,
      ⟨(some 69), (.off (.t 3) 3), (some (67, true)), []⟩,
      ⟨(some 70), (.load none (.t 69)), (some (67, true)), []⟩,
      ⟨(some 71), (.bin .leq (.t 68) (.t 70)), (some (67, true)), []⟩,
      ⟨(some 72), (.pick (.t 67) (.t 71) (.c (.b false))), none, []⟩,
      ⟨(some 73), (.mov (.t 72)), none, []⟩,
      ⟨(some 74), (.mov (.t 9)), (some (73, true)), []⟩,
      ⟨(some 75), (.off (.t 3) 1), (some (73, true)), []⟩,
      ⟨(some 76), (.load none (.t 75)), (some (73, true)), []⟩,
      ⟨(some 77), (.off (.t 3) 3), (some (73, true)), []⟩,
      ⟨(some 78), (.load none (.t 77)), (some (73, true)), []⟩,
      ⟨(some 79), (.mm false (.t 76) [(.t 78)]), (some (73, true)), []⟩,
      ⟨(some 80), (.bin .geq (.t 74) (.t 79)), (some (73, true)), []⟩,
      ⟨(some 81), (.pick (.t 73) (.t 80) (.c (.b false))), none, []⟩,
      ⟨(some 82), (.mov (.t 81)), none, []⟩,
      ⟨(some 83), (.mov (.t 13)), (some (82, true)), []⟩,
      ⟨(some 84), (.pick (.t 82) (.t 83) (.c (.b false))), none, []⟩,
      ⟨(some 6), (.mov (.t 84)), none, []⟩] [3, 9, 10, 11, 12, 13, 51, 52, 53, 54, 55, 56, 57, 58, 59, 60, 61, 62, 63, 64, 65, 66, 67, 68, 69, 70, 71, 72, 73, 74, 75, 76, 77, 78, 79, 80, 81, 82, 83, 84])
    .ret))))))))),
    85, 3, [.t 6], 2⟩
theorem tr4 : trFunc Try.prog [([], [0, 6]), ([], [14]), ([], [1, 2, 3, 15]), ([], [15]), ([], [16, 17]), ([], [1, 18, 19, 20]), ([], [2, 21, 22, 23, 24, 25]), ([], [7, 27, 28, 29, 26, 30, 31]), ([], [8, 33, 34, 35, 32, 36, 37]), ([], [38, 39, 40, 41, 42, 43, 44, 45, 46, 47, 48, 49, 50]), ([], [3, 9, 10, 11, 12, 13, 51, 52, 53, 54, 55, 56, 57, 58, 59, 60, 61, 62, 63, 64, 65, 66, 67, 68, 69, 70, 71, 72, 73, 74, 75, 76, 77, 78, 79, 80, 81, 82, 83, 84])] 2 Try.f4 = some I4 := by kernel_rfl

/-- 'encore/encorelaw27.RetryNext'. -/
def I5 : IFunc :=
  ⟨(.seq (.region [⟨(some 2), (.box (.t 0)), none, []⟩,
      ⟨(some 4), (.mov (.c (.b false))), none, []⟩] [0, 4])
    (.seq (.region [⟨(some 10), (.load (some 4) (.t 2)), none, []⟩,
      ⟨(some 11), (.call 17 [(.t 10)]), none, []⟩,
      ⟨none, (.store 4 (.t 2) (.t 11)), none, []⟩] [10, 11])
    (.seq (.region [⟨(some 12), (.mov (.t 1)), none, []⟩,
      ⟨(some 13), (.call 18 [(.t 12), (.c (.i .i64 (9007199254740990)))]), none, []⟩,
      ⟨(some 14), (.bin .add (.c (.i .i64 (1))) (.t 13)), none, []⟩,
      ⟨(some 5), (.mov (.t 14)), none, []⟩] [1, 12, 13, 14])
    (.seq (.region [⟨(some 16), (.load (some 4) (.t 2)), none, []⟩,
      ⟨(some 17), (.mov (.t 5)), none, []⟩,
      ⟨(some 18), (.call 8 [(.t 16), (.t 17)]), none, []⟩,
      ⟨(some 15), (.mov (.t 18)), none, []⟩,
      ⟨(some 19), (.ext (.t 15) 0), none, []⟩,
      ⟨(some 20), (.ext (.t 15) 1), none, []⟩,
      ⟨(some 6), (.mov (.t 19)), none, []⟩,
      ⟨(some 7), (.mov (.t 20)), none, []⟩] [16, 17, 18, 15, 19, 20])
    (.seq (.region [⟨(some 22), (.load (some 4) (.t 2)), none, []⟩,
      ⟨(some 23), (.mov (.t 5)), none, []⟩,
      ⟨(some 24), (.bin .add (.t 23) (.c (.i .i64 (1)))), none, []⟩,
      ⟨(some 25), (.call 8 [(.t 22), (.t 24)]), none, []⟩,
      ⟨(some 21), (.mov (.t 25)), none, []⟩,
      ⟨(some 26), (.ext (.t 21) 0), none, []⟩,
      ⟨(some 27), (.ext (.t 21) 1), none, []⟩,
      ⟨(some 8), (.mov (.t 26)), none, []⟩,
      ⟨(some 9), (.mov (.t 27)), none, []⟩] [5, 22, 23, 24, 25, 21, 26, 27])
    (.seq (.region [⟨(some 28), (.mov (.t 7)), none, []⟩,
      ⟨(some 29), (.bin .eql (.t 28) (.c (.i .i64 (0)))), none, []⟩,
      ⟨(some 30), (.mov (.t 29)), none, []⟩,
      ⟨(some 31), (.mov (.t 9)), (some (30, true)), []⟩,
      ⟨(some 32), (.bin .eql (.t 31) (.c (.i .i64 (0)))), (some (30, true)), []⟩,
      ⟨(some 33), (.pick (.t 30) (.t 32) (.c (.b false))), none, []⟩,
      ⟨(some 34), (.mov (.t 33)), none, []⟩,
      ⟨(some 35), (.mov (.t 6)), (some (34, true)), []⟩,
      ⟨(some 36), (.off (.t 2) 3), (some (34, true)), []⟩,
      ⟨(some 37), (.load none (.t 36)), (some (34, true)), []⟩,
      ⟨(some 38), (.bin .lss (.t 35) (.t 37)), (some (34, true)), []⟩,
      ⟨(some 39), (.mov (.t 38)), (some (34, true)), []⟩,
      ⟨(some 40), (.mov (.t 8)), (some (39, true)), []⟩,
      ⟨(some 41), (.mov (.t 6)), (some (39, true)), []⟩,
      ⟨(some 42), (.off (.t 2) 2), (some (39, true)), []⟩,
      ⟨(some 43), (.load none (.t 42)), (some (39, true)), []⟩,
      ⟨(some 44), (.bin .mul (.t 41) (.t 43)), (some (39, true)), []⟩,
      ⟨(some 45), (.off (.t 2) 3), (some (39, true)), []⟩,
      ⟨(some 46), (.load none (.t 45)), (some (39, true)), []⟩,
      ⟨(some 47), (.mm false (.t 44) [(.t 46)]), (some (39, true)), []⟩,
      ⟨(some 48), (.bin .eql (.t 40) (.t 47)), (some (39, true)), []⟩,
      ⟨(some 49), (.pick (.t 39) (.t 48) (.c (.b false))), (some (34, true)), []⟩,
      ⟨(some 50), (.mov (.t 49)), (some (34, true)), []⟩,
      ⟨(some 51), (.mov (.t 6)), (some (50, false)), []⟩,
      ⟨(some 52), (.off (.t 2) 3), (some (50, false)), []⟩,
      ⟨(some 53), (.load none (.t 52)), (some (50, false)), []⟩,
      ⟨(some 54), (.bin .eql (.t 51) (.t 53)), (some (50, false)), []⟩,
      ⟨(some 55), (.mov (.t 54)), (some (50, false)), []⟩,
      ⟨(some 56), (.mov (.t 8)), (some (55, true)), []⟩,
      ⟨(some 57), (.off (.t 2) 3), (some (55, true)), []⟩,
      ⟨(some 58), (.load none (.t 57)), (some (55, true)), []⟩,
      ⟨(some 59), (.bin .eql (.t 56) (.t 58)), (some (55, true)), []⟩,
      ⟨(some 60), (.pick (.t 55) (.t 59) (.c (.b false))), (some (50, false)), []⟩,
      ⟨(some 61), (.pick (.t 50) (.c (.b true)) (.t 60)), (some (34, true)), []⟩,
      ⟨(some 62), (.pick (.t 34) (.t 61) (.c (.b false))), none, []⟩,
      ⟨(some 63), (.mov (.t 62)), none, []⟩,
      ⟨(some 64), (.load (some 4) (.t 2)), (some (63, true)), []⟩,
      ⟨(some 65), (.off (.t 2) 1), (some (63, true)), []⟩,
      ⟨(some 66), (.load none (.t 65)), (some (63, true)), []⟩,
      ⟨(some 67), (.off (.t 2) 3), (some (63, true)), []⟩,
      ⟨(some 68), (.load none (.t 67)), (some (63, true)), []⟩,
      ⟨(some 69), (.mm false (.t 66) [(.t 68)]), (some (63, true)), []⟩,
      ⟨(some 70), (.call 19 [(.t 64), (.c (.i .i64 (1))), (.t 69)]), (some (63, true)), []⟩,
      ⟨(some 71), (.pick (.t 63) (.t 70) (.c (.b false))), none, []⟩,
      ⟨(some 72), (.mov (.t 71)), none, []⟩,
      ⟨(some 73), (.call 16 []), (some (72, true)), []⟩,
      ⟨(some 74), (.pick (.t 72) (.t 73) (.c (.b false))), none, []⟩,
      ⟨(some 4), (.mov (.t 74)), none, []⟩] [2, 6, 7, 8, 9, 28, 29, 30, 31, 32, 33, 34, 35, 36, 37, 38, 39, 40, 41, 42, 43, 44, 45, 46, 47, 48, 49, 50, 51, 52, 53, 54, 55, 56, 57, 58, 59, 60, 61, 62, 63, 64, 65, 66, 67, 68, 69, 70, 71, 72, 73, 74])
    .ret)))))),
    75, 2, [.t 4], 2⟩
theorem tr5 : trFunc Try.prog [([], [0, 4]), ([], [10, 11]), ([], [1, 12, 13, 14]), ([], [16, 17, 18, 15, 19, 20]), ([], [5, 22, 23, 24, 25, 21, 26, 27]), ([], [2, 6, 7, 8, 9, 28, 29, 30, 31, 32, 33, 34, 35, 36, 37, 38, 39, 40, 41, 42, 43, 44, 45, 46, 47, 48, 49, 50, 51, 52, 53, 54, 55, 56, 57, 58, 59, 60, 61, 62, 63, 64, 65, 66, 67, 68, 69, 70, 71, 72, 73, 74])] 2 Try.f5 = some I5 := by kernel_rfl

/-- 'encore/encorelaw27.RetryTotal'. -/
def L6a : ICode :=
  (.seq (.seq (.region [⟨(some 33), (.load (some 4) (.t 2)), none, []⟩,
      ⟨(some 34), (.mov (.t 10)), none, []⟩,
      ⟨(some 35), (.call 14 [(.t 33), (.t 34)]), none, []⟩,
      ⟨(some 36), (.mov (.t 35)), none, []⟩,
      ⟨(some 37), (.mov (.t 10)), (some (36, true)), []⟩,
      ⟨(some 38), (.bin .lss (.t 37) (.c (.i .i64 (2000)))), (some (36, true)), []⟩,
      ⟨(some 39), (.pick (.t 36) (.t 38) (.c (.b false))), none, []⟩] [33, 34, 35, 36, 37, 38])
    (.cond (.t 39)
      (.region [] [39])
      (.exit 0)))
    (.block 1
      (.seq (.region [⟨(some 40), (.mov (.t 10)), none, []⟩,
        ⟨(some 41), (.bin .add (.t 40) (.c (.i .i64 (1)))), none, []⟩,
        ⟨(some 10), (.mov (.t 41)), none, []⟩] [40, 41])
      (.seq (.region [⟨(some 42), (.mov (.t 10)), none, []⟩,
        ⟨(some 43), (.mov (.t 5)), none, []⟩,
        ⟨(some 44), (.bin .gtr (.t 42) (.t 43)), none, []⟩] [42, 43])
      (.cond (.t 44)
        (.seq (.region [⟨(some 46), (.load (some 4) (.t 2)), none, []⟩,
          ⟨(some 47), (.mov (.t 10)), none, []⟩,
          ⟨(some 48), (.call 8 [(.t 46), (.t 47)]), none, []⟩,
          ⟨(some 45), (.mov (.t 48)), none, []⟩,
          ⟨(some 49), (.ext (.t 45) 0), none, []⟩,
          ⟨(some 50), (.ext (.t 45) 1), none, []⟩,
          ⟨(some 11), (.mov (.t 49)), none, []⟩,
          ⟨(some 12), (.mov (.t 50)), none, []⟩] [44, 46, 47, 48, 45, 49, 50])
        (.seq (.region [⟨(some 51), (.mov (.t 6)), none, []⟩,
          ⟨(some 52), (.mov (.t 11)), none, []⟩,
          ⟨(some 53), (.bin .add (.t 51) (.t 52)), none, []⟩,
          ⟨(some 6), (.mov (.t 53)), none, []⟩] [11, 51, 52, 53])
        (.seq (.region [⟨(some 54), (.mov (.t 12)), none, []⟩,
          ⟨(some 55), (.bin .neq (.t 54) (.c (.i .i64 (0)))), none, []⟩] [12, 54])
        (.cond (.t 55)
          (.seq (.region [⟨(some 4), (.mov (.c (.b false))), none, []⟩] [2, 5, 6, 7, 8, 9, 10, 55])
          .ret)
          (.region [] [55])))))
        (.region [] [44]))))))
def I6 : IFunc :=
  ⟨(.seq (.region [⟨(some 2), (.box (.t 0)), none, []⟩,
      ⟨(some 4), (.mov (.c (.b false))), none, []⟩] [0, 4])
    (.seq (.region [⟨(some 13), (.load (some 4) (.t 2)), none, []⟩,
      ⟨(some 14), (.call 17 [(.t 13)]), none, []⟩,
      ⟨none, (.store 4 (.t 2) (.t 14)), none, []⟩] [13, 14])
    (.seq (.region [⟨(some 15), (.mov (.t 1)), none, []⟩,
      ⟨(some 16), (.off (.t 2) 0), none, []⟩,
      ⟨(some 17), (.load none (.t 16)), none, []⟩,
      ⟨(some 18), (.bin .add (.t 17) (.c (.i .i64 (1)))), none, []⟩,
      ⟨(some 19), (.call 18 [(.t 15), (.t 18)]), none, []⟩,
      ⟨(some 5), (.mov (.t 19)), none, []⟩] [1, 15, 16, 17, 18, 19])
    (.seq (.region [⟨(some 21), (.load (some 4) (.t 2)), none, []⟩,
      ⟨(some 22), (.mov (.t 5)), none, []⟩,
      ⟨(some 23), (.call 10 [(.t 21), (.t 22)]), none, []⟩,
      ⟨(some 20), (.mov (.t 23)), none, []⟩,
      ⟨(some 24), (.ext (.t 20) 0), none, []⟩,
      ⟨(some 25), (.ext (.t 20) 1), none, []⟩,
      ⟨(some 6), (.mov (.t 24)), none, []⟩,
      ⟨(some 7), (.mov (.t 25)), none, []⟩] [21, 22, 23, 20, 24, 25])
    (.seq (.region [⟨(some 27), (.load (some 4) (.t 2)), none, []⟩,
      ⟨(some 28), (.off (.t 2) 0), none, []⟩,
      ⟨(some 29), (.load none (.t 28)), none, []⟩,
      ⟨(some 30), (.call 10 [(.t 27), (.t 29)]), none, []⟩,
      ⟨(some 26), (.mov (.t 30)), none, []⟩,
      ⟨(some 31), (.ext (.t 26) 0), none, []⟩,
      ⟨(some 32), (.ext (.t 26) 1), none, []⟩,
      ⟨(some 8), (.mov (.t 31)), none, []⟩,
      ⟨(some 9), (.mov (.t 32)), none, []⟩] [27, 28, 29, 30, 26, 31, 32])
    (.seq (.region [⟨(some 10), (.mov (.c (.i .i64 (0)))), none, []⟩] [])
    (.seq (.block 0
      (.loop L6a))
    (.seq (.region [⟨(some 56), (.mov (.t 7)), none, []⟩,
      ⟨(some 57), (.bin .eql (.t 56) (.c (.i .i64 (0)))), none, []⟩,
      ⟨(some 58), (.mov (.t 57)), none, []⟩,
      ⟨(some 59), (.mov (.t 9)), (some (58, true)), []⟩,
      ⟨(some 60), (.bin .eql (.t 59) (.c (.i .i64 (0)))), (some (58, true)), []⟩,
      ⟨(some 61), (.pick (.t 58) (.t 60) (.c (.b false))), none, []⟩,
      ⟨(some 62), (.mov (.t 61)), none, []⟩,
      ⟨(some 63), (.mov (.t 10)), (some (62, true)), []⟩,
      ⟨(some 64), (.off (.t 2) 0), (some (62, true)), []⟩,
      ⟨(some 65), (.load none (.t 64)), (some (62, true)), []⟩,
      ⟨(some 66), (.bin .eql (.t 63) (.t 65)), (some (62, true)), []⟩,
      ⟨(some 67), (.pick (.t 62) (.t 66) (.c (.b false))), none, []⟩,
      ⟨(some 68), (.mov (.t 67)), none, []⟩,
      ⟨(some 69), (.mov (.t 6)), (some (68, true)), []⟩,
      ⟨(some 70), (.mov (.t 8)), (some (68, true)), []⟩,
      ⟨(some 71), (.bin .eql (.t 69) (.t 70)), (some (68, true)), []⟩,
      ⟨(some 72), (.pick (.t 68) (.t 71) (.c (.b false))), none, []⟩,
      ⟨(some 73), (.mov (.t 72)), none, []⟩,
      ⟨(some 74), (.call 16 []), (some (73, true)), []⟩,
      ⟨(some 75), (.pick (.t 73) (.t 74) (.c (.b false))), none, []⟩,
      ⟨(some 4), (.mov (.t 75)), none, []⟩] [2, 5, 6, 7, 8, 9, 10, 39, 56, 57, 58, 59, 60, 61, 62, 63, 64, 65, 66, 67, 68, 69, 70, 71, 72, 73, 74, 75])
    .ret)))))))),
    76, 2, [.t 4], 2⟩
theorem tr6 : trFunc Try.prog [([], [0, 4]), ([], [13, 14]), ([], [1, 15, 16, 17, 18, 19]), ([], [21, 22, 23, 20, 24, 25]), ([], [27, 28, 29, 30, 26, 31, 32]), ([], []), ([], [33, 34, 35, 36, 37, 38]), ([], [39]), ([], [40, 41]), ([], [42, 43]), ([], [44, 46, 47, 48, 45, 49, 50]), ([], [11, 51, 52, 53]), ([], [12, 54]), ([], [2, 5, 6, 7, 8, 9, 10, 55]), ([], [55]), ([], [44]), ([], [2, 5, 6, 7, 8, 9, 10, 39, 56, 57, 58, 59, 60, 61, 62, 63, 64, 65, 66, 67, 68, 69, 70, 71, 72, 73, 74, 75])] 2 Try.f6 = some I6 := by kernel_rfl

/-- 'encore/encorelaw27.RetryKnown'. -/
def L7a : ICode :=
  (.seq (.seq (.region [⟨(some 48), (.mov (.t 5)), none, []⟩,
      ⟨(some 49), (.mov (.t 1)), none, []⟩,
      ⟨(some 50), (.lenk 0 (.t 49)), none, []⟩,
      ⟨(some 51), (.bin .lss (.t 48) (.t 50)), none, []⟩] [48, 49, 50])
    (.cond (.t 51)
      (.region [] [51])
      (.exit 5)))
    (.seq (.block 6
      (.seq (.region [⟨(some 54), (.load (some 4) (.t 4)), none, []⟩,
        ⟨(some 55), (.mov (.t 1)), none, []⟩,
        ⟨(some 56), (.mov (.t 5)), none, []⟩,
        ⟨(some 57), (.iaddr 1 (.t 55) (.t 56)), none, []⟩,
        ⟨(some 58), (.load none (.t 57)), none, []⟩,
        ⟨(some 59), (.call 3 [(.t 54), (.t 58)]), none, []⟩,
        ⟨(some 60), (.un .not (.t 59)), none, []⟩] [54, 55, 56, 57, 58, 59])
      (.cond (.t 60)
        (.seq (.region [⟨(some 0), (.mov (.c (.b false))), none, []⟩] [1, 2, 3, 4, 5, 60])
        .ret)
        (.region [] [60]))))
    (.region [⟨(some 52), (.mov (.t 5)), none, []⟩,
      ⟨(some 53), (.bin .add (.t 52) (.c (.i .i64 (1)))), none, []⟩,
      ⟨(some 5), (.mov (.t 53)), none, []⟩] [52, 53])))
def L7b : ICode :=
  (.seq (.seq (.region [⟨(some 16), (.mov (.t 3)), none, []⟩,
      ⟨(some 17), (.bin .lss (.t 16) (.c (.i .i64 (4)))), none, []⟩] [16])
    (.cond (.t 17)
      (.region [] [17])
      (.exit 2)))
    (.seq (.block 3
      (.seq (.region [⟨(some 20), (.call 20 []), none, []⟩,
        ⟨(some 4), (.alloc [(.i .i64 (0)), (.i .i64 (0)), (.i .i64 (0)), (.i .i64 (0))]), none, []⟩,
        ⟨none, (.store 4 (.t 4) (.t 20)), none, []⟩] [20])
      (.seq (.seq (.region [⟨(some 21), (.mov (.t 3)), none, []⟩] [])
      (.block 4
        (.seq (.region [⟨(some 28), (.bin .eql (.t 21) (.c (.i .i64 (0)))), none, []⟩,
          ⟨(some 27), (.mov (.t 28)), none, []⟩] [28])
        (.cond (.t 27)
          (.region [⟨(some 29), (.mov (.t 1)), none, []⟩,
            ⟨(some 30), (.mov (.t 2)), none, []⟩,
            ⟨(some 31), (.iaddr 1 (.t 29) (.t 30)), none, []⟩,
            ⟨(some 32), (.load none (.t 31)), none, []⟩,
            ⟨(some 33), (.off (.t 4) 0), none, []⟩,
            ⟨none, (.store 1 (.t 33) (.t 32)), none, []⟩] [21, 27, 29, 30, 31, 32, 33])
          (.seq (.region [⟨(some 35), (.bin .eql (.t 21) (.c (.i .i64 (1)))), none, []⟩,
            ⟨(some 34), (.mov (.t 35)), none, []⟩] [27, 35])
          (.cond (.t 34)
            (.region [⟨(some 36), (.mov (.t 1)), none, []⟩,
              ⟨(some 37), (.mov (.t 2)), none, []⟩,
              ⟨(some 38), (.iaddr 1 (.t 36) (.t 37)), none, []⟩,
              ⟨(some 39), (.load none (.t 38)), none, []⟩,
              ⟨(some 40), (.off (.t 4) 1), none, []⟩,
              ⟨none, (.store 1 (.t 40) (.t 39)), none, []⟩] [21, 34, 36, 37, 38, 39, 40])
            (.seq (.region [⟨(some 42), (.bin .eql (.t 21) (.c (.i .i64 (2)))), none, []⟩,
              ⟨(some 41), (.mov (.t 42)), none, []⟩] [21, 34, 42])
            (.cond (.t 41)
              (.region [⟨(some 43), (.mov (.t 1)), none, []⟩,
                ⟨(some 44), (.mov (.t 2)), none, []⟩,
                ⟨(some 45), (.iaddr 1 (.t 43) (.t 44)), none, []⟩,
                ⟨(some 46), (.load none (.t 45)), none, []⟩,
                ⟨(some 47), (.off (.t 4) 2), none, []⟩,
                ⟨none, (.store 1 (.t 47) (.t 46)), none, []⟩] [41, 43, 44, 45, 46, 47])
              (.region [⟨(some 22), (.mov (.t 1)), none, []⟩,
                ⟨(some 23), (.mov (.t 2)), none, []⟩,
                ⟨(some 24), (.iaddr 1 (.t 22) (.t 23)), none, []⟩,
                ⟨(some 25), (.load none (.t 24)), none, []⟩,
                ⟨(some 26), (.off (.t 4) 3), none, []⟩,
                ⟨none, (.store 1 (.t 26) (.t 25)), none, []⟩] [41, 22, 23, 24, 25, 26])))))))))
      (.seq (.region [⟨(some 5), (.mov (.c (.i .i64 (0)))), none, []⟩] [])
      (.block 5
        (.loop L7a))))))
    (.region [⟨(some 18), (.mov (.t 3)), none, []⟩,
      ⟨(some 19), (.bin .add (.t 18) (.c (.i .i64 (1)))), none, []⟩,
      ⟨(some 3), (.mov (.t 19)), none, []⟩] [4, 5, 51, 18, 19])))
def L7c : ICode :=
  (.seq (.seq (.region [⟨(some 10), (.mov (.t 2)), none, []⟩,
      ⟨(some 11), (.mov (.t 1)), none, []⟩,
      ⟨(some 12), (.lenk 0 (.t 11)), none, []⟩,
      ⟨(some 13), (.bin .lss (.t 10) (.t 12)), none, []⟩] [10, 11, 12])
    (.cond (.t 13)
      (.region [] [13])
      (.exit 0)))
    (.seq (.block 1
      (.seq (.region [⟨(some 3), (.mov (.c (.i .i64 (0)))), none, []⟩] [])
      (.block 2
        (.loop L7b))))
    (.region [⟨(some 14), (.mov (.t 2)), none, []⟩,
      ⟨(some 15), (.bin .add (.t 14) (.c (.i .i64 (1)))), none, []⟩,
      ⟨(some 2), (.mov (.t 15)), none, []⟩] [3, 17, 14, 15])))
def I7 : IFunc :=
  ⟨(.seq (.region [⟨(some 0), (.mov (.c (.b false))), none, []⟩] [0])
    (.seq (.region [⟨(some 9), (.bsl 1 13 [(.i .i64 (0)), (.i .i64 (0)), (.i .i64 (0)), (.i .i64 (0)), (.i .i64 (0)), (.i .i64 (0)), (.i .i64 (0)), (.i .i64 (0)), (.i .i64 (0)), (.i .i64 (0)), (.i .i64 (0)), (.i .i64 (0)), (.i .i64 (0))] [(0, 1, (.c (.i .i64 (-1)))), (1, 1, (.c (.i .i64 (0)))), (2, 1, (.c (.i .i64 (1)))), (3, 1, (.c (.i .i64 (2)))), (4, 1, (.c (.i .i64 (999)))), (5, 1, (.c (.i .i64 (1000)))), (6, 1, (.c (.i .i64 (1001)))), (7, 1, (.c (.i .i64 (1099511627776)))), (8, 1, (.c (.i .i64 (1099511627777)))), (9, 1, (.c (.i .i64 (-9223372036854775808)))), (10, 1, (.c (.i .i64 (9223372036854775807)))), (11, 1, (.c (.i .i64 (9007199254740991)))), (12, 1, (.c (.i .i64 (9007199254740992))))]), none, []⟩,
      ⟨(some 1), (.mov (.t 9)), none, []⟩] [9])
    (.seq (.seq (.region [⟨(some 2), (.mov (.c (.i .i64 (0)))), none, []⟩] [])
    (.block 0
      (.loop L7c)))
    (.seq (.region [⟨(some 61), (.build [(.i .i64 (0)), (.i .i64 (0)), (.i .i64 (0)), (.i .i64 (0))] [(0, 1, (.c (.i .i64 (1000)))), (1, 1, (.c (.i .i64 (1099511627776)))), (2, 1, (.c (.i .i64 (1000)))), (3, 1, (.c (.i .i64 (1099511627776))))]), none, []⟩,
      ⟨(some 6), (.alloc [(.i .i64 (0)), (.i .i64 (0)), (.i .i64 (0)), (.i .i64 (0))]), none, []⟩,
      ⟨none, (.store 4 (.t 6) (.t 61)), none, []⟩] [1, 2, 13, 61])
    (.seq (.region [⟨(some 62), (.build [(.i .i64 (0)), (.i .i64 (0)), (.i .i64 (0)), (.i .i64 (0))] [(0, 1, (.c (.i .i64 (1000)))), (1, 1, (.c (.i .i64 (7)))), (2, 1, (.c (.i .i64 (1)))), (3, 1, (.c (.i .i64 (9))))]), none, []⟩,
      ⟨(some 7), (.alloc [(.i .i64 (0)), (.i .i64 (0)), (.i .i64 (0)), (.i .i64 (0))]), none, []⟩,
      ⟨none, (.store 4 (.t 7) (.t 62)), none, []⟩] [62])
    (.seq (.region [⟨(some 63), (.build [(.i .i64 (0)), (.i .i64 (0)), (.i .i64 (0)), (.i .i64 (0))] [(0, 1, (.c (.i .i64 (2)))), (1, 1, (.c (.i .i64 (1)))), (2, 1, (.c (.i .i64 (1000)))), (3, 1, (.c (.i .i64 (1099511627776))))]), none, []⟩,
      ⟨(some 8), (.alloc [(.i .i64 (0)), (.i .i64 (0)), (.i .i64 (0)), (.i .i64 (0))]), none, []⟩,
      ⟨none, (.store 4 (.t 8) (.t 63)), none, []⟩] [63])
    (.seq (.region [⟨(some 64), (.mov (.c (.b true))), none, []⟩,
      ⟨(some 65), (.call 16 []), (some (64, true)), []⟩,
      ⟨(some 66), (.pick (.t 64) (.t 65) (.c (.b false))), none, []⟩,
      ⟨(some 67), (.mov (.t 66)), none, []⟩,
      ⟨(some 68), (.load (some 4) (.t 6)), (some (67, true)), []⟩,
      ⟨(some 69), (.call 3 [(.t 68), (.c (.i .i64 (1000)))]), (some (67, true)), []⟩,
      ⟨(some 70), (.pick (.t 67) (.t 69) (.c (.b false))), none, []⟩,
      ⟨(some 71), (.mov (.t 70)), none, []⟩,
      ⟨(some 72), (.load (some 4) (.t 7)), (some (71, true)), []⟩,
      ⟨(some 73), (.call 3 [(.t 72), (.c (.i .i64 (1000)))]), (some (71, true)), []⟩,
      ⟨(some 74), (.pick (.t 71) (.t 73) (.c (.b false))), none, []⟩,
      ⟨(some 75), (.mov (.t 74)), none, []⟩,
      ⟨(some 76), (.load (some 4) (.t 7)), (some (75, true)), []⟩,
      ⟨(some 77), (.call 19 [(.t 76), (.c (.i .i64 (9007199254740991))), (.c (.i .i64 (7)))]), (some (75, true)), []⟩,
      ⟨(some 78), (.pick (.t 75) (.t 77) (.c (.b false))), none, []⟩,
      ⟨(some 79), (.mov (.t 78)), none, []⟩,
      ⟨(some 80), (.load (some 4) (.t 8)), (some (79, true)), []⟩,
      ⟨(some 81), (.call 19 [(.t 80), (.c (.i .i64 (4))), (.c (.i .i64 (1000000000)))]), (some (79, true)), []⟩,
      ⟨(some 82), (.pick (.t 79) (.t 81) (.c (.b false))), none, []⟩,
      ⟨(some 83), (.mov (.t 82)), none, []⟩,
      ⟨(some 84), (.load (some 4) (.t 8)), (some (83, true)), []⟩,
      ⟨(some 85), (.call 19 [(.t 84), (.c (.i .i64 (5))), (.c (.i .i64 (1000000000000)))]), (some (83, true)), []⟩,
      ⟨(some 86), (.pick (.t 83) (.t 85) (.c (.b false))), none, []⟩,
      ⟨(some 87), (.mov (.t 86)), none, []⟩,
      ⟨(some 88), (.load (some 4) (.t 8)), (some (87, true)), []⟩,
      ⟨(some 89), (.call 19 [(.t 88), (.c (.i .i64 (6))), (.c (.i .i64 (1099511627776)))]), (some (87, true)), []⟩,
      ⟨(some 90), (.pick (.t 87) (.t 89) (.c (.b false))), none, []⟩,
      ⟨(some 91), (.mov (.t 90)), none, []⟩,
      ⟨(some 92), (.build [(.i .i64 (0)), (.i .i64 (0)), (.i .i64 (0)), (.i .i64 (0))] [(0, 1, (.c (.i .i64 (1)))), (2, 1, (.c (.i .i64 (9)))), (3, 1, (.c (.i .i64 (9))))]), (some (91, true)), []⟩,
      ⟨(some 93), (.call 19 [(.t 92), (.c (.i .i64 (1000))), (.c (.i .i64 (0)))]), (some (91, true)), []⟩,
      ⟨(some 94), (.pick (.t 91) (.t 93) (.c (.b false))), none, []⟩,
      ⟨(some 0), (.mov (.t 94)), none, []⟩] [6, 7, 8, 64, 65, 66, 67, 68, 69, 70, 71, 72, 73, 74, 75, 76, 77, 78, 79, 80, 81, 82, 83, 84, 85, 86, 87, 88, 89, 90, 91, 92, 93, 94])
    .ret))))))),
    95, 0, [.t 0], 2⟩
theorem tr7 : trFunc Try.prog [([], [0]), ([], [9]), ([], []), ([], [10, 11, 12]), ([], [13]), ([], []), ([], [16]), ([], [17]), ([], [20]), ([], []), ([], [28]), ([], [21, 27, 29, 30, 31, 32, 33]), ([], [27, 35]), ([], [21, 34, 36, 37, 38, 39, 40]), ([], [21, 34, 42]), ([], [41, 43, 44, 45, 46, 47]), ([], [41, 22, 23, 24, 25, 26]), ([], []), ([], [48, 49, 50]), ([], [51]), ([0, 1, 2, 3, 4, 5, 6], [54, 55, 56, 57, 58, 59]), ([], [1, 2, 3, 4, 5, 60]), ([], [60]), ([], [52, 53]), ([], [4, 5, 51, 18, 19]), ([], [3, 17, 14, 15]), ([], [1, 2, 13, 61]), ([], [62]), ([], [63]), ([], [6, 7, 8, 64, 65, 66, 67, 68, 69, 70, 71, 72, 73, 74, 75, 76, 77, 78, 79, 80, 81, 82, 83, 84, 85, 86, 87, 88, 89, 90, 91, 92, 93, 94])] 2 Try.f7 = some I7 := by kernel_rfl

/-- 'encore/retry.Wait'. -/
def I8 : IFunc :=
  ⟨(.seq (.region [⟨(some 2), (.box (.t 0)), none, []⟩,
      ⟨(some 4), (.mov (.c (.i .i64 (0)))), none, []⟩,
      ⟨(some 5), (.mov (.c (.i .i64 (0)))), none, []⟩] [0, 4, 5])
    (.seq (.seq (.region [⟨(some 6), (.load (some 4) (.t 2)), none, []⟩,
      ⟨(some 7), (.call 12 [(.t 6)]), none, []⟩,
      ⟨(some 8), (.bin .neq (.t 7) (.c (.i .i64 (0)))), none, []⟩,
      ⟨(some 9), (.mov (.t 8)), none, []⟩,
      ⟨(some 10), (.mov (.t 1)), (some (9, false)), []⟩,
      ⟨(some 11), (.bin .lss (.t 10) (.c (.i .i64 (1)))), (some (9, false)), []⟩,
      ⟨(some 12), (.pick (.t 9) (.c (.b true)) (.t 11)), none, []⟩,
      ⟨(some 13), (.mov (.t 12)), none, []⟩,
      ⟨(some 14), (.mov (.t 1)), (some (13, false)), []⟩,
      ⟨(some 15), (.bin .gtr (.t 14) (.c (.i .i64 (9007199254740991)))), (some (13, false)), []⟩,
      ⟨(some 16), (.pick (.t 13) (.c (.b true)) (.t 15)), none, []⟩] [6, 7, 8, 9, 10, 11, 12, 13, 14, 15])
    (.cond (.t 16)
      (.seq (.region [⟨(some 4), (.mov (.c (.i .i64 (0)))), none, []⟩,
        ⟨(some 5), (.mov (.c (.i .i64 (2)))), none, []⟩] [1, 2, 16])
      .ret)
      (.region [] [16])))
    (.seq (.region [⟨(some 17), (.load (some 4) (.t 2)), none, []⟩,
      ⟨(some 18), (.mov (.t 1)), none, []⟩,
      ⟨(some 19), (.call 21 [(.t 17), (.t 18)]), none, []⟩,
      ⟨(some 4), (.mov (.t 19)), none, []⟩,
      ⟨(some 5), (.mov (.c (.i .i64 (0)))), none, []⟩] [1, 2, 17, 18, 19])
    .ret))),
    20, 2, [.t 4, .t 5], 2⟩
theorem tr8 : trFunc Try.prog [([], [0, 4, 5]), ([], [6, 7, 8, 9, 10, 11, 12, 13, 14, 15]), ([], [1, 2, 16]), ([], [16]), ([], [1, 2, 17, 18, 19])] 2 Try.f8 = some I8 := by kernel_rfl

/-- 'encore/encoreref27.Wait'. -/
def L9a : ICode :=
  (.seq (.seq (.region [⟨(some 18), (.mov (.t 7)), none, []⟩,
      ⟨(some 19), (.mov (.t 1)), none, []⟩,
      ⟨(some 20), (.bin .lss (.t 18) (.t 19)), none, []⟩,
      ⟨(some 21), (.mov (.t 20)), none, []⟩,
      ⟨(some 22), (.mov (.t 6)), (some (21, true)), []⟩,
      ⟨(some 23), (.off (.t 2) 3), (some (21, true)), []⟩,
      ⟨(some 24), (.load none (.t 23)), (some (21, true)), []⟩,
      ⟨(some 25), (.bin .lss (.t 22) (.t 24)), (some (21, true)), []⟩,
      ⟨(some 26), (.pick (.t 21) (.t 25) (.c (.b false))), none, []⟩,
      ⟨(some 27), (.mov (.t 26)), none, []⟩,
      ⟨(some 28), (.mov (.t 6)), (some (27, true)), []⟩,
      ⟨(some 29), (.bin .gtr (.t 28) (.c (.i .i64 (0)))), (some (27, true)), []⟩,
      ⟨(some 30), (.pick (.t 27) (.t 29) (.c (.b false))), none, []⟩,
      ⟨(some 31), (.mov (.t 30)), none, []⟩,
      ⟨(some 32), (.off (.t 2) 2), (some (31, true)), []⟩,
      ⟨(some 33), (.load none (.t 32)), (some (31, true)), []⟩,
      ⟨(some 34), (.bin .gtr (.t 33) (.c (.i .i64 (1)))), (some (31, true)), []⟩,
      ⟨(some 35), (.pick (.t 31) (.t 34) (.c (.b false))), none, []⟩] [18, 19, 20, 21, 22, 23, 24, 25, 26, 27, 28, 29, 30, 31, 32, 33, 34])
    (.cond (.t 35)
      (.region [] [35])
      (.exit 0)))
    (.seq (.block 1
      (.region [⟨(some 38), (.mov (.t 6)), none, []⟩,
        ⟨(some 39), (.off (.t 2) 2), none, []⟩,
        ⟨(some 40), (.load none (.t 39)), none, []⟩,
        ⟨(some 41), (.bin .mul (.t 38) (.t 40)), none, []⟩,
        ⟨(some 6), (.mov (.t 41)), none, []⟩] [38, 39, 40, 41]))
    (.region [⟨(some 36), (.mov (.t 7)), none, []⟩,
      ⟨(some 37), (.bin .add (.t 36) (.c (.i .i64 (1)))), none, []⟩,
      ⟨(some 7), (.mov (.t 37)), none, []⟩] [36, 37])))
def I9 : IFunc :=
  ⟨(.seq (.region [⟨(some 2), (.box (.t 0)), none, []⟩,
      ⟨(some 4), (.mov (.c (.i .i64 (0)))), none, []⟩,
      ⟨(some 5), (.mov (.c (.i .i64 (0)))), none, []⟩] [0, 4, 5])
    (.seq (.seq (.region [⟨(some 8), (.load (some 4) (.t 2)), none, []⟩,
      ⟨(some 9), (.call 13 [(.t 8)]), none, []⟩,
      ⟨(some 10), (.bin .neq (.t 9) (.c (.i .i64 (0)))), none, []⟩,
      ⟨(some 11), (.mov (.t 10)), none, []⟩,
      ⟨(some 12), (.mov (.t 1)), (some (11, false)), []⟩,
      ⟨(some 13), (.call 22 [(.t 12), (.c (.i .i64 (1))), (.c (.i .i64 (9007199254740991)))]), (some (11, false)), []⟩,
      ⟨(some 14), (.un .not (.t 13)), (some (11, false)), []⟩,
      ⟨(some 15), (.pick (.t 11) (.c (.b true)) (.t 14)), none, []⟩] [8, 9, 10, 11, 12, 13, 14])
    (.cond (.t 15)
      (.seq (.region [⟨(some 4), (.mov (.c (.i .i64 (0)))), none, []⟩,
        ⟨(some 5), (.mov (.c (.i .i64 (2)))), none, []⟩] [1, 2, 15])
      .ret)
      (.region [] [15])))
    (.seq (.region [⟨(some 16), (.off (.t 2) 1), none, []⟩,
      ⟨(some 17), (.load none (.t 16)), none, []⟩,
      ⟨(some 6), (.mov (.t 17)), none, []⟩] [16, 17])
    (.seq (.seq (.region [⟨(some 7), (.mov (.c (.i .i64 (1)))), none, []⟩] [])
    (.block 0
      (.loop L9a)))
    (.seq (.region [⟨(some 42), (.mov (.t 6)), none, []⟩,
      ⟨(some 43), (.off (.t 2) 3), none, []⟩,
      ⟨(some 44), (.load none (.t 43)), none, []⟩,
      ⟨(some 45), (.mm false (.t 42) [(.t 44)]), none, []⟩,
      ⟨(some 4), (.mov (.t 45)), none, []⟩,
      ⟨(some 5), (.mov (.c (.i .i64 (0)))), none, []⟩] [1, 2, 6, 7, 35, 42, 43, 44, 45])
    .ret))))),
    46, 2, [.t 4, .t 5], 2⟩
theorem tr9 : trFunc Try.prog [([], [0, 4, 5]), ([], [8, 9, 10, 11, 12, 13, 14]), ([], [1, 2, 15]), ([], [15]), ([], [16, 17]), ([], []), ([], [18, 19, 20, 21, 22, 23, 24, 25, 26, 27, 28, 29, 30, 31, 32, 33, 34]), ([], [35]), ([], [38, 39, 40, 41]), ([], [36, 37]), ([], [1, 2, 6, 7, 35, 42, 43, 44, 45])] 2 Try.f9 = some I9 := by kernel_rfl

/-- 'encore/retry.Total'. -/
def L10a : ICode :=
  (.seq (.region [⟨(some 20), (.bin .lss (.t 19) (.t 18)), none, []⟩] [])
    (.seq (.cond (.t 20)
      (.region [] [20])
      (.exit 0))
    (.seq (.block 1
      (.seq (.region [⟨(some 21), (.mov (.t 19)), none, []⟩,
        ⟨(some 6), (.mov (.t 21)), none, []⟩] [21])
      (.region [⟨(some 22), (.mov (.t 4)), none, []⟩,
        ⟨(some 23), (.load (some 4) (.t 2)), none, []⟩,
        ⟨(some 24), (.mov (.t 6)), none, []⟩,
        ⟨(some 25), (.bin .add (.t 24) (.c (.i .i64 (1)))), none, []⟩,
        ⟨(some 26), (.call 21 [(.t 23), (.t 25)]), none, []⟩,
        ⟨(some 27), (.bin .add (.t 22) (.t 26)), none, []⟩,
        ⟨(some 4), (.mov (.t 27)), none, []⟩] [6, 22, 23, 24, 25, 26, 27])))
    (.region [⟨(some 28), (.bin .add (.t 19) (.c (.i .i64 (1)))), none, []⟩,
      ⟨(some 19), (.mov (.t 28)), none, []⟩] [28]))))
def I10 : IFunc :=
  ⟨(.seq (.region [⟨(some 2), (.box (.t 0)), none, []⟩,
      ⟨(some 4), (.mov (.c (.i .i64 (0)))), none, []⟩,
      ⟨(some 5), (.mov (.c (.i .i64 (0)))), none, []⟩] [0, 5])
    (.seq (.seq (.region [⟨(some 7), (.load (some 4) (.t 2)), none, []⟩,
      ⟨(some 8), (.call 12 [(.t 7)]), none, []⟩,
      ⟨(some 9), (.bin .neq (.t 8) (.c (.i .i64 (0)))), none, []⟩,
      ⟨(some 10), (.mov (.t 9)), none, []⟩,
      ⟨(some 11), (.mov (.t 1)), (some (10, false)), []⟩,
      ⟨(some 12), (.bin .lss (.t 11) (.c (.i .i64 (0)))), (some (10, false)), []⟩,
      ⟨(some 13), (.pick (.t 10) (.c (.b true)) (.t 12)), none, []⟩,
      ⟨(some 14), (.mov (.t 13)), none, []⟩,
      ⟨(some 15), (.mov (.t 1)), (some (14, false)), []⟩,
      ⟨(some 16), (.bin .gtr (.t 15) (.c (.i .i64 (1000)))), (some (14, false)), []⟩,
      ⟨(some 17), (.pick (.t 14) (.c (.b true)) (.t 16)), none, []⟩] [7, 8, 9, 10, 11, 12, 13, 14, 15, 16])
    (.cond (.t 17)
      (.seq (.region [⟨(some 4), (.mov (.c (.i .i64 (0)))), none, []⟩,
        ⟨(some 5), (.mov (.c (.i .i64 (2)))), none, []⟩] [1, 2, 17])
      .ret)
      (.region [] [17])))
    (.seq (.seq (.region [⟨(some 18), (.mov (.t 1)), none, []⟩,
      ⟨(some 19), (.mov (.c (.i .i64 (0)))), none, []⟩] [1])
    (.block 0
      (.loop L10a)))
    (.seq (.region [⟨(some 29), (.mov (.t 4)), none, []⟩,
      ⟨(some 4), (.mov (.t 29)), none, []⟩,
      ⟨(some 5), (.mov (.c (.i .i64 (0)))), none, []⟩] [2, 18, 19, 20, 29])
    .ret)))),
    30, 2, [.t 4, .t 5], 2⟩
theorem tr10 : trFunc Try.prog [([], [0, 5]), ([], [7, 8, 9, 10, 11, 12, 13, 14, 15, 16]), ([], [1, 2, 17]), ([], [17]), ([], [1]), ([], []), ([], [20]), ([], [21]), ([], [6, 22, 23, 24, 25, 26, 27]), ([], [28]), ([], [2, 18, 19, 20, 29])] 2 Try.f10 = some I10 := by kernel_rfl

/-- 'encore/encoreref27.Total'. -/
def L11a : ICode :=
  (.seq (.seq (.region [⟨(some 18), (.mov (.t 7)), none, []⟩,
      ⟨(some 19), (.mov (.t 1)), none, []⟩,
      ⟨(some 20), (.bin .leq (.t 18) (.t 19)), none, []⟩] [18, 19])
    (.cond (.t 20)
      (.region [] [20])
      (.exit 0)))
    (.seq (.block 1
      (.seq (.region [⟨(some 24), (.load (some 4) (.t 2)), none, []⟩,
        ⟨(some 25), (.mov (.t 7)), none, []⟩,
        ⟨(some 26), (.call 9 [(.t 24), (.t 25)]), none, []⟩,
        ⟨(some 23), (.mov (.t 26)), none, []⟩,
        ⟨(some 27), (.ext (.t 23) 0), none, []⟩,
        ⟨(some 28), (.ext (.t 23) 1), none, []⟩,
        ⟨(some 8), (.mov (.t 27)), none, []⟩,
        ⟨(some 9), (.mov (.t 28)), none, []⟩] [24, 25, 26, 23, 27, 28, 9])
      (.region [⟨(some 29), (.mov (.t 6)), none, []⟩,
        ⟨(some 30), (.mov (.t 8)), none, []⟩,
        ⟨(some 31), (.bin .add (.t 29) (.t 30)), none, []⟩,
        ⟨(some 6), (.mov (.t 31)), none, []⟩] [8, 29, 30, 31])))
    (.region [⟨(some 21), (.mov (.t 7)), none, []⟩,
      ⟨(some 22), (.bin .add (.t 21) (.c (.i .i64 (1)))), none, []⟩,
      ⟨(some 7), (.mov (.t 22)), none, []⟩] [21, 22])))
def I11 : IFunc :=
  ⟨(.seq (.region [⟨(some 2), (.box (.t 0)), none, []⟩,
      ⟨(some 4), (.mov (.c (.i .i64 (0)))), none, []⟩,
      ⟨(some 5), (.mov (.c (.i .i64 (0)))), none, []⟩] [0, 4, 5])
    (.seq (.seq (.region [⟨(some 10), (.load (some 4) (.t 2)), none, []⟩,
      ⟨(some 11), (.call 13 [(.t 10)]), none, []⟩,
      ⟨(some 12), (.bin .neq (.t 11) (.c (.i .i64 (0)))), none, []⟩,
      ⟨(some 13), (.mov (.t 12)), none, []⟩,
      ⟨(some 14), (.mov (.t 1)), (some (13, false)), []⟩,
      ⟨(some 15), (.call 22 [(.t 14), (.c (.i .i64 (0))), (.c (.i .i64 (1000)))]), (some (13, false)), []⟩,
      ⟨(some 16), (.un .not (.t 15)), (some (13, false)), []⟩,
      ⟨(some 17), (.pick (.t 13) (.c (.b true)) (.t 16)), none, []⟩] [10, 11, 12, 13, 14, 15, 16])
    (.cond (.t 17)
      (.seq (.region [⟨(some 4), (.mov (.c (.i .i64 (0)))), none, []⟩,
        ⟨(some 5), (.mov (.c (.i .i64 (2)))), none, []⟩] [1, 2, 17])
      .ret)
      (.region [] [17])))
    (.seq (.region [⟨(some 6), (.mov (.c (.i .i64 (0)))), none, []⟩] [])
    (.seq (.seq (.region [⟨(some 7), (.mov (.c (.i .i64 (1)))), none, []⟩] [])
    (.block 0
      (.loop L11a)))
    (.seq (.region [⟨(some 32), (.mov (.t 6)), none, []⟩,
      ⟨(some 4), (.mov (.t 32)), none, []⟩,
      ⟨(some 5), (.mov (.c (.i .i64 (0)))), none, []⟩] [1, 2, 6, 7, 20, 32])
    .ret))))),
    33, 2, [.t 4, .t 5], 2⟩
theorem tr11 : trFunc Try.prog [([], [0, 4, 5]), ([], [10, 11, 12, 13, 14, 15, 16]), ([], [1, 2, 17]), ([], [17]), ([], []), ([], []), ([], [18, 19]), ([], [20]), ([], [24, 25, 26, 23, 27, 28, 9]), ([], [8, 29, 30, 31]), ([], [21, 22]), ([], [1, 2, 6, 7, 20, 32])] 2 Try.f11 = some I11 := by kernel_rfl

/-- 'encore/retry.Check'. -/
def I12 : IFunc :=
  ⟨(.seq (.region [⟨(some 1), (.box (.t 0)), none, []⟩,
      ⟨(some 2), (.mov (.c (.i .i64 (0)))), none, []⟩] [0, 2])
    (.seq (.seq (.region [⟨(some 4), (.off (.t 1) 0), none, []⟩,
      ⟨(some 5), (.load none (.t 4)), none, []⟩,
      ⟨(some 3), (.call 23 []), none, [(5, (.load none (.t 4)), none)]⟩,
      ⟨(some 6), (.call 24 [(.t 3), (.t 5)]), none, []⟩,
      ⟨(some 7), (.un .not (.t 6)), none, []⟩,
      ⟨(some 8), (.mov (.t 7)), none, []⟩,
      ⟨(some 10), (.off (.t 1) 2), (some (8, false)), []⟩,
      ⟨(some 11), (.load none (.t 10)), (some (8, false)), []⟩,
      ⟨(some 9), (.call 23 []), (some (8, false)), [(11, (.load none (.t 10)), (some (8, false)))]⟩,
      ⟨(some 12), (.call 24 [(.t 9), (.t 11)]), (some (8, false)), []⟩,
      ⟨(some 13), (.un .not (.t 12)), (some (8, false)), []⟩,
      ⟨(some 14), (.pick (.t 8) (.c (.b true)) (.t 13)), none, []⟩,
      ⟨(some 15), (.mov (.t 14)), none, []⟩,
      ⟨(some 17), (.off (.t 1) 1), (some (15, false)), []⟩,
      ⟨(some 18), (.load none (.t 17)), (some (15, false)), []⟩,
      ⟨(some 16), (.call 25 []), (some (15, false)), [(18, (.load none (.t 17)), (some (15, false)))]⟩,
      ⟨(some 19), (.call 24 [(.t 16), (.t 18)]), (some (15, false)), []⟩,
      ⟨(some 20), (.un .not (.t 19)), (some (15, false)), []⟩,
      ⟨(some 21), (.pick (.t 15) (.c (.b true)) (.t 20)), none, []⟩,
      ⟨(some 22), (.mov (.t 21)), none, []⟩,
      ⟨(some 24), (.off (.t 1) 3), (some (22, false)), []⟩,
      ⟨(some 25), (.load none (.t 24)), (some (22, false)), []⟩,
      ⟨(some 23), (.call 25 []), (some (22, false)), [(25, (.load none (.t 24)), (some (22, false)))]⟩,
      ⟨(some 26), (.call 24 [(.t 23), (.t 25)]), (some (22, false)), []⟩,
      ⟨(some 27), (.un .not (.t 26)), (some (22, false)), []⟩,
      ⟨(some 28), (.pick (.t 22) (.c (.b true)) (.t 27)), none, []⟩] [1, 4, 5, 3, 6, 7, 8, 10, 11, 9, 12, 13, 14, 15, 17, 18, 16, 19, 20, 21, 22, 24, 25, 23, 26, 27])
    (.cond (.t 28)
      (.seq (.region [⟨(some 2), (.mov (.c (.i .i64 (2)))), none, []⟩] [28])
      .ret)
      (.region [] [28])))
    (.seq (.region [⟨(some 2), (.mov (.c (.i .i64 (0)))), none, []⟩] [])
    .ret))),
    29, 1, [.t 2], 2⟩
theorem tr12 : trFunc Try.prog [([], [0, 2]), ([1, 2, 0, 3, 4, 5, 7, 8, 6, 9, 10, 11, 12, 14, 15, 13, 16, 17, 18, 19, 21, 22, 20, 23, 24, 25], [1, 4, 5, 3, 6, 7, 8, 10, 11, 9, 12, 13, 14, 15, 17, 18, 16, 19, 20, 21, 22, 24, 25, 23, 26, 27]), ([], [28]), ([], [28]), ([], [])] 2 Try.f12 = some I12 := by kernel_rfl

/-- 'encore/encoreref27.Check'. -/
def I13 : IFunc :=
  ⟨(.seq (.region [⟨(some 1), (.box (.t 0)), none, []⟩,
      ⟨(some 2), (.mov (.c (.i .i64 (0)))), none, []⟩] [0, 2])
    (.seq (.seq (.region [⟨(some 3), (.off (.t 1) 0), none, []⟩,
      ⟨(some 4), (.load none (.t 3)), none, []⟩,
      ⟨(some 5), (.call 22 [(.t 4), (.c (.i .i64 (1))), (.c (.i .i64 (1000)))]), none, []⟩,
      ⟨(some 6), (.un .not (.t 5)), none, []⟩,
      ⟨(some 7), (.mov (.t 6)), none, []⟩,
      ⟨(some 8), (.off (.t 1) 2), (some (7, false)), []⟩,
      ⟨(some 9), (.load none (.t 8)), (some (7, false)), []⟩,
      ⟨(some 10), (.call 22 [(.t 9), (.c (.i .i64 (1))), (.c (.i .i64 (1000)))]), (some (7, false)), []⟩,
      ⟨(some 11), (.un .not (.t 10)), (some (7, false)), []⟩,
      ⟨(some 12), (.pick (.t 7) (.c (.b true)) (.t 11)), none, []⟩,
      ⟨(some 13), (.mov (.t 12)), none, []⟩,
      ⟨(some 14), (.off (.t 1) 1), (some (13, false)), []⟩,
      ⟨(some 15), (.load none (.t 14)), (some (13, false)), []⟩,
      ⟨(some 16), (.call 22 [(.t 15), (.c (.i .i64 (0))), (.c (.i .i64 (1099511627776)))]), (some (13, false)), []⟩,
      ⟨(some 17), (.un .not (.t 16)), (some (13, false)), []⟩,
      ⟨(some 18), (.pick (.t 13) (.c (.b true)) (.t 17)), none, []⟩,
      ⟨(some 19), (.mov (.t 18)), none, []⟩,
      ⟨(some 20), (.off (.t 1) 3), (some (19, false)), []⟩,
      ⟨(some 21), (.load none (.t 20)), (some (19, false)), []⟩,
      ⟨(some 22), (.call 22 [(.t 21), (.c (.i .i64 (0))), (.c (.i .i64 (1099511627776)))]), (some (19, false)), []⟩,
      ⟨(some 23), (.un .not (.t 22)), (some (19, false)), []⟩,
      ⟨(some 24), (.pick (.t 19) (.c (.b true)) (.t 23)), none, []⟩] [1, 3, 4, 5, 6, 7, 8, 9, 10, 11, 12, 13, 14, 15, 16, 17, 18, 19, 20, 21, 22, 23])
    (.cond (.t 24)
      (.seq (.region [⟨(some 2), (.mov (.c (.i .i64 (2)))), none, []⟩] [24])
      .ret)
      (.region [] [24])))
    (.seq (.region [⟨(some 2), (.mov (.c (.i .i64 (0)))), none, []⟩] [])
    .ret))),
    25, 1, [.t 2], 2⟩
theorem tr13 : trFunc Try.prog [([], [0, 2]), ([], [1, 3, 4, 5, 6, 7, 8, 9, 10, 11, 12, 13, 14, 15, 16, 17, 18, 19, 20, 21, 22, 23]), ([], [24]), ([], [24]), ([], [])] 2 Try.f13 = some I13 := by kernel_rfl

/-- 'encore/retry.More'. -/
def I14 : IFunc :=
  ⟨(.seq (.region [⟨(some 2), (.box (.t 0)), none, []⟩,
      ⟨(some 4), (.mov (.c (.b false))), none, []⟩] [0, 4])
    (.seq (.region [⟨(some 5), (.load (some 4) (.t 2)), none, []⟩,
      ⟨(some 6), (.call 12 [(.t 5)]), none, []⟩,
      ⟨(some 7), (.bin .eql (.t 6) (.c (.i .i64 (0)))), none, []⟩,
      ⟨(some 8), (.mov (.t 7)), none, []⟩,
      ⟨(some 9), (.mov (.t 1)), (some (8, true)), []⟩,
      ⟨(some 10), (.bin .leq (.c (.i .i64 (0))) (.t 9)), (some (8, true)), []⟩,
      ⟨(some 11), (.pick (.t 8) (.t 10) (.c (.b false))), none, []⟩,
      ⟨(some 12), (.mov (.t 11)), none, []⟩,
      ⟨(some 13), (.mov (.t 1)), (some (12, true)), []⟩,
      ⟨(some 14), (.off (.t 2) 0), (some (12, true)), []⟩,
      ⟨(some 15), (.load none (.t 14)), (some (12, true)), []⟩,
      ⟨(some 16), (.bin .lss (.t 13) (.t 15)), (some (12, true)), []⟩,
      ⟨(some 17), (.pick (.t 12) (.t 16) (.c (.b false))), none, []⟩,
      ⟨(some 4), (.mov (.t 17)), none, []⟩] [1, 2, 5, 6, 7, 8, 9, 10, 11, 12, 13, 14, 15, 16, 17])
    .ret)),
    18, 2, [.t 4], 2⟩
theorem tr14 : trFunc Try.prog [([], [0, 4]), ([], [1, 2, 5, 6, 7, 8, 9, 10, 11, 12, 13, 14, 15, 16, 17])] 2 Try.f14 = some I14 := by kernel_rfl

/-- 'encore/encoreref27.More'. -/
def I15 : IFunc :=
  ⟨(.seq (.region [⟨(some 2), (.box (.t 0)), none, []⟩,
      ⟨(some 4), (.mov (.c (.b false))), none, []⟩] [0, 4])
    (.seq (.region [⟨(some 5), (.load (some 4) (.t 2)), none, []⟩,
      ⟨(some 6), (.call 13 [(.t 5)]), none, []⟩,
      ⟨(some 7), (.bin .eql (.t 6) (.c (.i .i64 (0)))), none, []⟩,
      ⟨(some 8), (.mov (.t 7)), none, []⟩,
      ⟨(some 9), (.mov (.t 1)), (some (8, true)), []⟩,
      ⟨(some 10), (.bin .geq (.t 9) (.c (.i .i64 (0)))), (some (8, true)), []⟩,
      ⟨(some 11), (.pick (.t 8) (.t 10) (.c (.b false))), none, []⟩,
      ⟨(some 12), (.mov (.t 11)), none, []⟩,
      ⟨(some 13), (.mov (.t 1)), (some (12, true)), []⟩,
      ⟨(some 14), (.off (.t 2) 0), (some (12, true)), []⟩,
      ⟨(some 15), (.load none (.t 14)), (some (12, true)), []⟩,
      ⟨(some 16), (.bin .lss (.t 13) (.t 15)), (some (12, true)), []⟩,
      ⟨(some 17), (.pick (.t 12) (.t 16) (.c (.b false))), none, []⟩,
      ⟨(some 4), (.mov (.t 17)), none, []⟩] [1, 2, 5, 6, 7, 8, 9, 10, 11, 12, 13, 14, 15, 16, 17])
    .ret)),
    18, 2, [.t 4], 2⟩
theorem tr15 : trFunc Try.prog [([], [0, 4]), ([], [1, 2, 5, 6, 7, 8, 9, 10, 11, 12, 13, 14, 15, 16, 17])] 2 Try.f15 = some I15 := by kernel_rfl

/-- 'encore/encorelaw27.works'. -/
def I16 : IFunc :=
  ⟨(.seq (.region [⟨(some 0), (.mov (.c (.b false))), none, []⟩] [0])
    (.seq (.region [⟨(some 4), (.call 20 []), none, []⟩,
      ⟨(some 1), (.alloc [(.i .i64 (0)), (.i .i64 (0)), (.i .i64 (0)), (.i .i64 (0))]), none, []⟩,
      ⟨none, (.store 4 (.t 1) (.t 4)), none, []⟩] [4])
    (.seq (.region [⟨(some 6), (.load (some 4) (.t 1)), none, []⟩,
      ⟨(some 7), (.call 10 [(.t 6), (.c (.i .i64 (3)))]), none, []⟩,
      ⟨(some 5), (.mov (.t 7)), none, []⟩,
      ⟨(some 8), (.ext (.t 5) 0), none, []⟩,
      ⟨(some 9), (.ext (.t 5) 1), none, []⟩,
      ⟨(some 2), (.mov (.t 8)), none, []⟩,
      ⟨(some 3), (.mov (.t 9)), none, []⟩] [6, 7, 5, 8, 9])
    (.seq (.region [⟨(some 10), (.load (some 4) (.t 1)), none, []⟩,
      ⟨(some 11), (.call 19 [(.t 10), (.c (.i .i64 (1))), (.c (.i .i64 (10)))]), none, []⟩,
      ⟨(some 12), (.mov (.t 11)), none, []⟩,
      ⟨(some 13), (.load (some 4) (.t 1)), (some (12, true)), []⟩,
      ⟨(some 14), (.call 19 [(.t 13), (.c (.i .i64 (2))), (.c (.i .i64 (30)))]), (some (12, true)), []⟩,
      ⟨(some 15), (.pick (.t 12) (.t 14) (.c (.b false))), none, []⟩,
      ⟨(some 16), (.mov (.t 15)), none, []⟩,
      ⟨(some 17), (.load (some 4) (.t 1)), (some (16, true)), []⟩,
      ⟨(some 18), (.call 19 [(.t 17), (.c (.i .i64 (3))), (.c (.i .i64 (50)))]), (some (16, true)), []⟩,
      ⟨(some 19), (.pick (.t 16) (.t 18) (.c (.b false))), none, []⟩,
      ⟨(some 20), (.mov (.t 19)), none, []⟩,
      ⟨(some 21), (.load (some 4) (.t 1)), (some (20, true)), []⟩,
      ⟨(some 22), (.call 19 [(.t 21), (.c (.i .i64 (4))), (.c (.i .i64 (50)))]), (some (20, true)), []⟩,
      ⟨(some 23), (.pick (.t 20) (.t 22) (.c (.b false))), none, []⟩,
      ⟨(some 24), (.mov (.t 23)), none, []⟩,
      ⟨(some 25), (.load (some 4) (.t 1)), (some (24, true)), []⟩,
      ⟨(some 26), (.call 14 [(.t 25), (.c (.i .i64 (0)))]), (some (24, true)), []⟩,
      ⟨(some 27), (.pick (.t 24) (.t 26) (.c (.b false))), none, []⟩,
      ⟨(some 28), (.mov (.t 27)), none, []⟩,
      ⟨(some 29), (.load (some 4) (.t 1)), (some (28, true)), []⟩,
      ⟨(some 30), (.call 14 [(.t 29), (.c (.i .i64 (3)))]), (some (28, true)), []⟩,
      ⟨(some 31), (.pick (.t 28) (.t 30) (.c (.b false))), none, []⟩,
      ⟨(some 32), (.mov (.t 31)), none, []⟩,
      ⟨(some 33), (.load (some 4) (.t 1)), (some (32, true)), []⟩,
      ⟨(some 34), (.call 14 [(.t 33), (.c (.i .i64 (4)))]), (some (32, true)), []⟩,
      ⟨(some 35), (.un .not (.t 34)), (some (32, true)), []⟩,
      ⟨(some 36), (.pick (.t 32) (.t 35) (.c (.b false))), none, []⟩,
      ⟨(some 37), (.mov (.t 36)), none, []⟩,
      ⟨(some 38), (.mov (.t 2)), (some (37, true)), []⟩,
      ⟨(some 39), (.bin .eql (.t 38) (.c (.i .i64 (90)))), (some (37, true)), []⟩,
      ⟨(some 40), (.pick (.t 37) (.t 39) (.c (.b false))), none, []⟩,
      ⟨(some 41), (.mov (.t 40)), none, []⟩,
      ⟨(some 42), (.mov (.t 3)), (some (41, true)), []⟩,
      ⟨(some 43), (.bin .eql (.t 42) (.c (.i .i64 (0)))), (some (41, true)), []⟩,
      ⟨(some 44), (.pick (.t 41) (.t 43) (.c (.b false))), none, []⟩,
      ⟨(some 0), (.mov (.t 44)), none, []⟩] [1, 2, 3, 10, 11, 12, 13, 14, 15, 16, 17, 18, 19, 20, 21, 22, 23, 24, 25, 26, 27, 28, 29, 30, 31, 32, 33, 34, 35, 36, 37, 38, 39, 40, 41, 42, 43, 44])
    .ret)))),
    45, 0, [.t 0], 2⟩
theorem tr16 : trFunc Try.prog [([], [0]), ([], [4]), ([], [6, 7, 5, 8, 9]), ([], [1, 2, 3, 10, 11, 12, 13, 14, 15, 16, 17, 18, 19, 20, 21, 22, 23, 24, 25, 26, 27, 28, 29, 30, 31, 32, 33, 34, 35, 36, 37, 38, 39, 40, 41, 42, 43, 44])] 2 Try.f16 = some I16 := by kernel_rfl

/-- 'encore/encorelaw27.made'. -/
def I17 : IFunc :=
  ⟨(.seq (.region [⟨(some 1), (.box (.t 0)), none, []⟩,
      ⟨(some 2), (.alloc [(.i .i64 (0)), (.i .i64 (0)), (.i .i64 (0)), (.i .i64 (0))]), none, []⟩] [0])
    (.seq (.region [⟨(some 3), (.off (.t 1) 0), none, []⟩,
      ⟨(some 4), (.load none (.t 3)), none, []⟩,
      ⟨(some 7), (.off (.t 1) 1), none, []⟩,
      ⟨(some 8), (.load none (.t 7)), none, []⟩,
      ⟨(some 10), (.off (.t 1) 2), none, []⟩,
      ⟨(some 11), (.load none (.t 10)), none, []⟩,
      ⟨(some 14), (.off (.t 1) 3), none, []⟩,
      ⟨(some 15), (.load none (.t 14)), none, []⟩,
      ⟨(some 5), (.call 18 [(.t 4), (.c (.i .i64 (1000)))]), none, [(8, (.load none (.t 7)), none), (11, (.load none (.t 10)), none), (15, (.load none (.t 14)), none)]⟩,
      ⟨(some 6), (.bin .add (.c (.i .i64 (1))) (.t 5)), none, []⟩,
      ⟨(some 9), (.call 18 [(.t 8), (.c (.i .i64 (1099511627777)))]), none, [(11, (.load none (.t 10)), none), (15, (.load none (.t 14)), none)]⟩,
      ⟨(some 12), (.call 18 [(.t 11), (.c (.i .i64 (1000)))]), none, [(15, (.load none (.t 14)), none)]⟩,
      ⟨(some 13), (.bin .add (.c (.i .i64 (1))) (.t 12)), none, []⟩,
      ⟨(some 16), (.call 18 [(.t 15), (.c (.i .i64 (1099511627777)))]), none, []⟩,
      ⟨(some 17), (.build [(.i .i64 (0)), (.i .i64 (0)), (.i .i64 (0)), (.i .i64 (0))] [(0, 1, (.t 6)), (1, 1, (.t 9)), (2, 1, (.t 13)), (3, 1, (.t 16))]), none, []⟩,
      ⟨none, (.store 4 (.t 2) (.t 17)), none, []⟩] [1, 3, 4, 7, 8, 10, 11, 14, 15, 5, 6, 9, 12, 13, 16, 17])
    .ret)),
    18, 1, [.c 2 (some 4)], 2⟩
theorem tr17 : trFunc Try.prog [([], [0]), ([0, 1, 4, 5, 7, 8, 11, 12, 2, 3, 6, 9, 10, 13, 14, 15], [1, 3, 4, 7, 8, 10, 11, 14, 15, 5, 6, 9, 12, 13, 16, 17])] 2 Try.f17 = some I17 := by kernel_rfl

/-- 'encore/encoreref00.Bring'. -/
def I18 : IFunc :=
  ⟨(.seq (.region [⟨(some 4), (.mov (.c (.i .i64 (0)))), none, []⟩] [4])
    (.seq (.seq (.region [⟨(some 5), (.mov (.t 1)), none, []⟩,
      ⟨(some 6), (.bin .leq (.t 5) (.c (.i .i64 (0)))), none, []⟩] [5])
    (.cond (.t 6)
      (.seq (.region [⟨(some 4), (.mov (.c (.i .i64 (0)))), none, []⟩] [0, 1, 6])
      .ret)
      (.region [] [6])))
    (.seq (.region [⟨(some 7), (.mov (.t 0)), none, []⟩,
      ⟨(some 8), (.mov (.t 1)), none, []⟩,
      ⟨(some 9), (.bin .rem (.t 7) (.t 8)), none, []⟩,
      ⟨(some 0), (.mov (.t 9)), none, []⟩] [7, 8, 9])
    (.seq (.seq (.region [⟨(some 10), (.mov (.t 0)), none, []⟩,
      ⟨(some 11), (.bin .lss (.t 10) (.c (.i .i64 (0)))), none, []⟩] [10])
    (.cond (.t 11)
      (.region [⟨(some 12), (.mov (.t 0)), none, []⟩,
        ⟨(some 13), (.mov (.t 1)), none, []⟩,
        ⟨(some 14), (.bin .add (.t 12) (.t 13)), none, []⟩,
        ⟨(some 0), (.mov (.t 14)), none, []⟩] [1, 11, 12, 13, 14])
      (.region [] [1, 11])))
    (.seq (.region [⟨(some 15), (.mov (.t 0)), none, []⟩,
      ⟨(some 4), (.mov (.t 15)), none, []⟩] [0, 15])
    .ret))))),
    16, 2, [.t 4], 2⟩
theorem tr18 : trFunc Try.prog [([], [4]), ([], [5]), ([], [0, 1, 6]), ([], [6]), ([], [7, 8, 9]), ([], [10]), ([], [1, 11, 12, 13, 14]), ([], [1, 11]), ([], [0, 15])] 2 Try.f18 = some I18 := by kernel_rfl

/-- 'encore/encorelaw27.waits'. -/
def I19 : IFunc :=
  ⟨(.seq (.region [⟨(some 3), (.box (.t 0)), none, []⟩,
      ⟨(some 6), (.mov (.c (.b false))), none, []⟩] [0, 6])
    (.seq (.region [⟨(some 10), (.load (some 4) (.t 3)), none, []⟩,
      ⟨(some 11), (.mov (.t 1)), none, []⟩,
      ⟨(some 12), (.call 8 [(.t 10), (.t 11)]), none, []⟩,
      ⟨(some 9), (.mov (.t 12)), none, []⟩,
      ⟨(some 13), (.ext (.t 9) 0), none, []⟩,
      ⟨(some 14), (.ext (.t 9) 1), none, []⟩,
      ⟨(some 7), (.mov (.t 13)), none, []⟩,
      ⟨(some 8), (.mov (.t 14)), none, []⟩] [1, 3, 10, 11, 12, 9, 13, 14])
    (.seq (.region [⟨(some 15), (.mov (.t 7)), none, []⟩,
      ⟨(some 16), (.mov (.t 2)), none, []⟩,
      ⟨(some 17), (.bin .eql (.t 15) (.t 16)), none, []⟩,
      ⟨(some 18), (.mov (.t 17)), none, []⟩,
      ⟨(some 19), (.mov (.t 8)), (some (18, true)), []⟩,
      ⟨(some 20), (.bin .eql (.t 19) (.c (.i .i64 (0)))), (some (18, true)), []⟩,
      ⟨(some 21), (.pick (.t 18) (.t 20) (.c (.b false))), none, []⟩,
      ⟨(some 6), (.mov (.t 21)), none, []⟩] [2, 7, 8, 15, 16, 17, 18, 19, 20, 21])
    .ret))),
    22, 3, [.t 6], 2⟩
theorem tr19 : trFunc Try.prog [([], [0, 6]), ([], [1, 3, 10, 11, 12, 9, 13, 14]), ([], [2, 7, 8, 15, 16, 17, 18, 19, 20, 21])] 2 Try.f19 = some I19 := by kernel_rfl

/-- 'encore/encorelaw27.chapter'. -/
def I20 : IFunc :=
  ⟨(.seq (.region [⟨(some 0), (.alloc [(.i .i64 (0)), (.i .i64 (0)), (.i .i64 (0)), (.i .i64 (0))]), none, []⟩] [])
    (.seq (.region [⟨(some 1), (.build [(.i .i64 (0)), (.i .i64 (0)), (.i .i64 (0)), (.i .i64 (0))] [(0, 1, (.c (.i .i64 (4)))), (1, 1, (.c (.i .i64 (10)))), (2, 1, (.c (.i .i64 (3)))), (3, 1, (.c (.i .i64 (50))))]), none, []⟩,
      ⟨none, (.store 4 (.t 0) (.t 1)), none, []⟩] [1])
    .ret)),
    2, 0, [.c 0 (some 4)], 2⟩
theorem tr20 : trFunc Try.prog [([], []), ([], [1])] 2 Try.f20 = some I20 := by kernel_rfl

/-- 'encore/retry.waits'. -/
def L21a : ICode :=
  (.seq (.seq (.region [⟨(some 27), (.mov (.t 1)), none, []⟩,
      ⟨(some 28), (.bin .gtr (.t 27) (.c (.i .i64 (1)))), none, []⟩,
      ⟨(some 29), (.mov (.t 28)), none, []⟩,
      ⟨(some 30), (.mov (.t 6)), (some (29, true)), []⟩,
      ⟨(some 31), (.off (.t 5) 1), (some (29, true)), []⟩,
      ⟨(some 32), (.load none (.t 31)), (some (29, true)), []⟩,
      ⟨(some 33), (.bin .lss (.t 30) (.t 32)), (some (29, true)), []⟩,
      ⟨(some 34), (.pick (.t 29) (.t 33) (.c (.b false))), none, []⟩] [27, 28, 29, 30, 31, 32, 33])
    (.cond (.t 34)
      (.region [] [34])
      (.exit 0)))
    (.seq (.block 1
      (.seq (.region [⟨(some 38), (.mov (.t 6)), none, []⟩,
        ⟨(some 39), (.off (.t 2) 2), none, []⟩,
        ⟨(some 40), (.load none (.t 39)), none, []⟩,
        ⟨(some 41), (.conv .u64 (.t 40)), none, []⟩,
        ⟨(some 42), (.call 27 [(.t 38), (.t 41)]), none, []⟩,
        ⟨(some 37), (.mov (.t 42)), none, []⟩,
        ⟨(some 43), (.ext (.t 37) 0), none, []⟩,
        ⟨(some 44), (.ext (.t 37) 1), none, []⟩,
        ⟨(some 7), (.mov (.t 43)), none, []⟩,
        ⟨(some 8), (.mov (.t 44)), none, []⟩] [6, 38, 39, 40, 41, 42, 37, 43, 44])
      (.seq (.seq (.region [⟨(some 45), (.mov (.t 7)), none, []⟩,
        ⟨(some 46), (.bin .gtr (.t 45) (.c (.i .u64 (0)))), none, []⟩] [7, 45])
      (.cond (.t 46)
        (.region [⟨(some 47), (.off (.t 5) 1), none, []⟩,
          ⟨(some 48), (.load none (.t 47)), none, []⟩,
          ⟨(some 8), (.mov (.t 48)), none, []⟩] [46, 47, 48])
        (.region [] [46])))
      (.region [⟨(some 49), (.mov (.t 8)), none, []⟩,
        ⟨(some 50), (.load (some 2) (.t 5)), none, []⟩,
        ⟨(some 51), (.call 26 [(.t 49), (.t 50)]), none, []⟩,
        ⟨(some 6), (.mov (.t 51)), none, []⟩] [8, 49, 50, 51]))))
    (.region [⟨(some 35), (.mov (.t 1)), none, []⟩,
      ⟨(some 36), (.bin .sub (.t 35) (.c (.i .i64 (1)))), none, []⟩,
      ⟨(some 1), (.mov (.t 36)), none, []⟩] [35, 36])))
def I21 : IFunc :=
  ⟨(.seq (.region [⟨(some 2), (.box (.t 0)), none, []⟩,
      ⟨(some 4), (.mov (.c (.i .i64 (0)))), none, []⟩] [0, 4])
    (.seq (.region [⟨(some 9), (.off (.t 2) 3), none, []⟩,
      ⟨(some 10), (.load none (.t 9)), none, []⟩,
      ⟨(some 11), (.conv .u64 (.t 10)), none, []⟩,
      ⟨(some 12), (.build [(.i .u64 (0)), (.i .u64 (0))] [(0, 1, (.c (.i .u64 (0)))), (1, 1, (.t 11))]), none, []⟩,
      ⟨(some 5), (.alloc [(.i .u64 (0)), (.i .u64 (0))]), none, []⟩,
      ⟨none, (.store 2 (.t 5) (.t 12)), none, []⟩] [9, 10, 11, 12])
    (.seq (.region [⟨(some 13), (.off (.t 2) 1), none, []⟩,
      ⟨(some 14), (.load none (.t 13)), none, []⟩,
      ⟨(some 15), (.conv .u64 (.t 14)), none, []⟩,
      ⟨(some 16), (.load (some 2) (.t 5)), none, []⟩,
      ⟨(some 17), (.call 26 [(.t 15), (.t 16)]), none, []⟩,
      ⟨(some 6), (.mov (.t 17)), none, []⟩] [13, 14, 15, 16, 17])
    (.seq (.seq (.region [⟨(some 18), (.off (.t 2) 2), none, []⟩,
      ⟨(some 19), (.load none (.t 18)), none, []⟩,
      ⟨(some 20), (.bin .eql (.t 19) (.c (.i .i64 (1)))), none, []⟩,
      ⟨(some 21), (.mov (.t 20)), none, []⟩,
      ⟨(some 22), (.mov (.t 6)), (some (21, false)), []⟩,
      ⟨(some 23), (.bin .eql (.t 22) (.c (.i .u64 (0)))), (some (21, false)), []⟩,
      ⟨(some 24), (.pick (.t 21) (.c (.b true)) (.t 23)), none, []⟩] [18, 19, 20, 21, 22, 23])
    (.cond (.t 24)
      (.seq (.region [⟨(some 25), (.mov (.t 6)), none, []⟩,
        ⟨(some 26), (.conv .i64 (.t 25)), none, []⟩,
        ⟨(some 4), (.mov (.t 26)), none, []⟩] [1, 2, 5, 6, 24, 25, 26])
      .ret)
      (.region [] [24])))
    (.seq (.block 0
      (.loop L21a))
    (.seq (.region [⟨(some 52), (.mov (.t 6)), none, []⟩,
      ⟨(some 53), (.conv .i64 (.t 52)), none, []⟩,
      ⟨(some 4), (.mov (.t 53)), none, []⟩] [1, 2, 5, 6, 34, 52, 53])
    .ret)))))),
    54, 2, [.t 4], 2⟩
theorem tr21 : trFunc Try.prog [([], [0, 4]), ([], [9, 10, 11, 12]), ([], [13, 14, 15, 16, 17]), ([], [18, 19, 20, 21, 22, 23]), ([], [1, 2, 5, 6, 24, 25, 26]), ([], [24]), ([], [27, 28, 29, 30, 31, 32, 33]), ([], [34]), ([], [6, 38, 39, 40, 41, 42, 37, 43, 44]), ([], [7, 45]), ([], [46, 47, 48]), ([], [46]), ([], [8, 49, 50, 51]), ([], [35, 36]), ([], [1, 2, 5, 6, 34, 52, 53])] 2 Try.f21 = some I21 := by kernel_rfl

/-- 'encore/encoreref27.within'. -/
def I22 : IFunc :=
  ⟨(.seq (.region [⟨(some 6), (.mov (.c (.b false))), none, []⟩] [6])
    (.seq (.region [⟨(some 7), (.mov (.t 0)), none, []⟩,
      ⟨(some 8), (.mov (.t 1)), none, []⟩,
      ⟨(some 9), (.bin .geq (.t 7) (.t 8)), none, []⟩,
      ⟨(some 10), (.mov (.t 9)), none, []⟩,
      ⟨(some 11), (.mov (.t 0)), (some (10, true)), []⟩,
      ⟨(some 12), (.mov (.t 2)), (some (10, true)), []⟩,
      ⟨(some 13), (.bin .leq (.t 11) (.t 12)), (some (10, true)), []⟩,
      ⟨(some 14), (.pick (.t 10) (.t 13) (.c (.b false))), none, []⟩,
      ⟨(some 6), (.mov (.t 14)), none, []⟩] [0, 1, 2, 7, 8, 9, 10, 11, 12, 13, 14])
    .ret)),
    15, 3, [.t 6], 2⟩
theorem tr22 : trFunc Try.prog [([], [6]), ([], [0, 1, 2, 7, 8, 9, 10, 11, 12, 13, 14])] 2 Try.f22 = some I22 := by kernel_rfl

/-- 'encore/retry.counts'. -/
def I23 : IFunc :=
  ⟨(.seq (.region [⟨(some 0), (.alloc [(.i .i64 (0)), (.i .i64 (0))]), none, []⟩] [])
    (.seq (.region [⟨(some 1), (.build [(.i .i64 (0)), (.i .i64 (0))] [(0, 1, (.c (.i .i64 (1)))), (1, 1, (.c (.i .i64 (1000))))]), none, []⟩,
      ⟨none, (.store 2 (.t 0) (.t 1)), none, []⟩] [1])
    .ret)),
    2, 0, [.c 0 (some 2)], 2⟩
theorem tr23 : trFunc Try.prog [([], []), ([], [1])] 2 Try.f23 = some I23 := by kernel_rfl

/-- '(encore/retry.bounds[int]).has'. -/
def I24 : IFunc :=
  ⟨(.seq (.region [⟨(some 2), (.box (.t 0)), none, []⟩,
      ⟨(some 4), (.mov (.c (.b false))), none, []⟩] [0, 4])
    (.seq (.region [⟨(some 5), (.off (.t 2) 0), none, []⟩,
      ⟨(some 6), (.load none (.t 5)), none, []⟩,
      ⟨(some 7), (.mov (.t 1)), none, []⟩,
      ⟨(some 8), (.bin .leq (.t 6) (.t 7)), none, []⟩,
      ⟨(some 9), (.mov (.t 8)), none, []⟩,
      ⟨(some 10), (.mov (.t 1)), (some (9, true)), []⟩,
      ⟨(some 11), (.off (.t 2) 1), (some (9, true)), []⟩,
      ⟨(some 12), (.load none (.t 11)), (some (9, true)), []⟩,
      ⟨(some 13), (.bin .leq (.t 10) (.t 12)), (some (9, true)), []⟩,
      ⟨(some 14), (.pick (.t 9) (.t 13) (.c (.b false))), none, []⟩,
      ⟨(some 4), (.mov (.t 14)), none, []⟩] [1, 2, 5, 6, 7, 8, 9, 10, 11, 12, 13, 14])
    .ret)),
    15, 2, [.t 4], 2⟩
theorem tr24 : trFunc Try.prog [([], [0, 4]), ([], [1, 2, 5, 6, 7, 8, 9, 10, 11, 12, 13, 14])] 2 Try.f24 = some I24 := by kernel_rfl

/-- 'encore/retry.ticks'. -/
def I25 : IFunc :=
  ⟨(.seq (.region [⟨(some 0), (.alloc [(.i .i64 (0)), (.i .i64 (0))]), none, []⟩] [])
    (.seq (.region [⟨(some 1), (.build [(.i .i64 (0)), (.i .i64 (0))] [(0, 1, (.c (.i .i64 (0)))), (1, 1, (.c (.i .i64 (1099511627776))))]), none, []⟩,
      ⟨none, (.store 2 (.t 0) (.t 1)), none, []⟩] [1])
    .ret)),
    2, 0, [.c 0 (some 2)], 2⟩
theorem tr25 : trFunc Try.prog [([], []), ([], [1])] 2 Try.f25 = some I25 := by kernel_rfl

/-- 'encore/retry.clip[uint64]'. -/
def I26 : IFunc :=
  ⟨(.seq (.region [⟨(some 3), (.box (.t 1)), none, []⟩,
      ⟨(some 4), (.mov (.c (.i .u64 (0)))), none, []⟩] [1, 4])
    (.seq (.region [⟨(some 5), (.mov (.t 0)), none, []⟩,
      ⟨(some 6), (.off (.t 3) 1), none, []⟩,
      ⟨(some 7), (.load none (.t 6)), none, []⟩,
      ⟨(some 8), (.mm false (.t 5) [(.t 7)]), none, []⟩,
      ⟨(some 4), (.mov (.t 8)), none, []⟩] [0, 3, 5, 6, 7, 8])
    .ret)),
    9, 2, [.t 4], 2⟩
theorem tr26 : trFunc Try.prog [([], [1, 4]), ([], [0, 3, 5, 6, 7, 8])] 2 Try.f26 = some I26 := by kernel_rfl

/-- 'math/bits.Mul64'. -/
def I27 : IFunc :=
  ⟨(.seq (.region [⟨(some 4), (.mov (.c (.i .u64 (0)))), none, []⟩,
      ⟨(some 5), (.mov (.c (.i .u64 (0)))), none, []⟩] [4, 5])
    (.seq (.region [⟨(some 14), (.mov (.t 0)), none, []⟩,
      ⟨(some 15), (.bin .and (.t 14) (.c (.i .u64 (4294967295)))), none, []⟩,
      ⟨(some 6), (.mov (.t 15)), none, []⟩] [14, 15])
    (.seq (.region [⟨(some 16), (.mov (.t 0)), none, []⟩,
      ⟨(some 17), (.bin .shr (.t 16) (.c (.i .u64 (32)))), none, []⟩,
      ⟨(some 7), (.mov (.t 17)), none, []⟩] [16, 17])
    (.seq (.region [⟨(some 18), (.mov (.t 1)), none, []⟩,
      ⟨(some 19), (.bin .and (.t 18) (.c (.i .u64 (4294967295)))), none, []⟩,
      ⟨(some 8), (.mov (.t 19)), none, []⟩] [18, 19])
    (.seq (.region [⟨(some 20), (.mov (.t 1)), none, []⟩,
      ⟨(some 21), (.bin .shr (.t 20) (.c (.i .u64 (32)))), none, []⟩,
      ⟨(some 9), (.mov (.t 21)), none, []⟩] [20, 21])
    (.seq (.region [⟨(some 22), (.mov (.t 6)), none, []⟩,
      ⟨(some 23), (.mov (.t 8)), none, []⟩,
      ⟨(some 24), (.bin .mul (.t 22) (.t 23)), none, []⟩,
      ⟨(some 10), (.mov (.t 24)), none, []⟩] [22, 23, 24])
    (.seq (.region [⟨(some 25), (.mov (.t 7)), none, []⟩,
      ⟨(some 26), (.mov (.t 8)), none, []⟩,
      ⟨(some 27), (.bin .mul (.t 25) (.t 26)), none, []⟩,
      ⟨(some 28), (.mov (.t 10)), none, []⟩,
      ⟨(some 29), (.bin .shr (.t 28) (.c (.i .u64 (32)))), none, []⟩,
      ⟨(some 30), (.bin .add (.t 27) (.t 29)), none, []⟩,
      ⟨(some 11), (.mov (.t 30)), none, []⟩] [8, 10, 25, 26, 27, 28, 29, 30])
    (.seq (.region [⟨(some 31), (.mov (.t 11)), none, []⟩,
      ⟨(some 32), (.bin .and (.t 31) (.c (.i .u64 (4294967295)))), none, []⟩,
      ⟨(some 12), (.mov (.t 32)), none, []⟩] [31, 32])
    (.seq (.region [⟨(some 33), (.mov (.t 11)), none, []⟩,
      ⟨(some 34), (.bin .shr (.t 33) (.c (.i .u64 (32)))), none, []⟩,
      ⟨(some 13), (.mov (.t 34)), none, []⟩] [11, 33, 34])
    (.seq (.region [⟨(some 35), (.mov (.t 12)), none, []⟩,
      ⟨(some 36), (.mov (.t 6)), none, []⟩,
      ⟨(some 37), (.mov (.t 9)), none, []⟩,
      ⟨(some 38), (.bin .mul (.t 36) (.t 37)), none, []⟩,
      ⟨(some 39), (.bin .add (.t 35) (.t 38)), none, []⟩,
      ⟨(some 12), (.mov (.t 39)), none, []⟩] [6, 35, 36, 37, 38, 39])
    (.seq (.region [⟨(some 40), (.mov (.t 7)), none, []⟩,
      ⟨(some 41), (.mov (.t 9)), none, []⟩,
      ⟨(some 42), (.bin .mul (.t 40) (.t 41)), none, []⟩,
      ⟨(some 43), (.mov (.t 13)), none, []⟩,
      ⟨(some 44), (.bin .add (.t 42) (.t 43)), none, []⟩,
      ⟨(some 45), (.mov (.t 12)), none, []⟩,
      ⟨(some 46), (.bin .shr (.t 45) (.c (.i .u64 (32)))), none, []⟩,
      ⟨(some 47), (.bin .add (.t 44) (.t 46)), none, []⟩,
      ⟨(some 4), (.mov (.t 47)), none, []⟩] [7, 9, 12, 13, 40, 41, 42, 43, 44, 45, 46, 47])
    (.seq (.region [⟨(some 48), (.mov (.t 0)), none, []⟩,
      ⟨(some 49), (.mov (.t 1)), none, []⟩,
      ⟨(some 50), (.bin .mul (.t 48) (.t 49)), none, []⟩,
      ⟨(some 5), (.mov (.t 50)), none, []⟩] [0, 1, 48, 49, 50])
    .ret)))))))))))),
    51, 2, [.t 4, .t 5], 2⟩
theorem tr27 : trFunc Try.prog [([], [4, 5]), ([], [14, 15]), ([], [16, 17]), ([], [18, 19]), ([], [20, 21]), ([], [22, 23, 24]), ([], [8, 10, 25, 26, 27, 28, 29, 30]), ([], [31, 32]), ([], [11, 33, 34]), ([], [6, 35, 36, 37, 38, 39]), ([], [7, 9, 12, 13, 40, 41, 42, 43, 44, 45, 46, 47]), ([], [0, 1, 48, 49, 50])] 2 Try.f27 = some I27 := by kernel_rfl

def tab : List (Nat × IFunc) := [(3, I3), (4, I4), (5, I5), (6, I6), (7, I7), (8, I8), (9, I9), (10, I10), (11, I11), (12, I12), (13, I13), (14, I14), (15, I15), (16, I16), (17, I17), (18, I18), (19, I19), (20, I20), (21, I21), (22, I22), (23, I23), (24, I24), (25, I25), (26, I26), (27, I27)]
theorem tab_all : TabAll Try.prog tab :=
  .cons Try.func3 tr3 <| .cons Try.func4 tr4 <| .cons Try.func5 tr5 <| .cons Try.func6 tr6 <| .cons Try.func7 tr7 <| .cons Try.func8 tr8 <| .cons Try.func9 tr9 <| .cons Try.func10 tr10 <| .cons Try.func11 tr11 <| .cons Try.func12 tr12 <| .cons Try.func13 tr13 <| .cons Try.func14 tr14 <| .cons Try.func15 tr15 <| .cons Try.func16 tr16 <| .cons Try.func17 tr17 <| .cons Try.func18 tr18 <| .cons Try.func19 tr19 <| .cons Try.func20 tr20 <| .cons Try.func21 tr21 <| .cons Try.func22 tr22 <| .cons Try.func23 tr23 <| .cons Try.func24 tr24 <| .cons Try.func25 tr25 <| .cons Try.func26 tr26 <| .cons Try.func27 tr27 <| .nil
def IP : FuncId → Option IFunc := tabIP tab
theorem IP_ok : TabOK Try.prog IP := tab_all.ok
theorem ip3 : IP 3 = some I3 := rfl
theorem ip4 : IP 4 = some I4 := rfl
theorem ip5 : IP 5 = some I5 := rfl
theorem ip6 : IP 6 = some I6 := rfl
theorem ip7 : IP 7 = some I7 := rfl
theorem ip8 : IP 8 = some I8 := rfl
theorem ip9 : IP 9 = some I9 := rfl
theorem ip10 : IP 10 = some I10 := rfl
theorem ip11 : IP 11 = some I11 := rfl
theorem ip12 : IP 12 = some I12 := rfl
theorem ip13 : IP 13 = some I13 := rfl
theorem ip14 : IP 14 = some I14 := rfl
theorem ip15 : IP 15 = some I15 := rfl
theorem ip16 : IP 16 = some I16 := rfl
theorem ip17 : IP 17 = some I17 := rfl
theorem ip18 : IP 18 = some I18 := rfl
theorem ip19 : IP 19 = some I19 := rfl
theorem ip20 : IP 20 = some I20 := rfl
theorem ip21 : IP 21 = some I21 := rfl
theorem ip22 : IP 22 = some I22 := rfl
theorem ip23 : IP 23 = some I23 := rfl
theorem ip24 : IP 24 = some I24 := rfl
theorem ip25 : IP 25 = some I25 := rfl
theorem ip26 : IP 26 = some I26 := rfl
theorem ip27 : IP 27 = some I27 := rfl
end Go.Proofs.Ytcmieknogpjnmaa
