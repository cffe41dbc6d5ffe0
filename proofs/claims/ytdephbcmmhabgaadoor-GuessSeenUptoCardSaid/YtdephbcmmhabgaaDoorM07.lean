import Derived.Test.YtdephbcmmhabgaaDoorM07P0
import Derived.Test.YtdephbcmmhabgaaDoorM07P1
set_option linter.unusedVariables false
set_option linter.unusedSimpArgs false
set_option linter.unusedSectionVars false
/- The functions that the statement reaches, as the interpreter has them, with modes. Conditions: none. -/
namespace Go.Proofs.YtdephbcmmhabgaaDoor
open Go Go.RI
def tab : List (Nat × IFunc) := [(4, I4), (5, I5), (6, I6), (8, I8), (12, I12), (13, I13), (15, I15), (17, I17), (18, I18), (19, I19), (20, I20), (21, I21), (22, I22), (23, I23), (24, I24), (27, I27), (28, I28), (30, I30), (31, I31), (32, I32), (33, I33), (34, I34), (35, I35), (36, I36), (37, I37), (38, I38), (39, I39), (40, I40), (41, I41), (42, I42), (43, I43), (47, I47), (48, I48), (49, I49), (50, I50), (51, I51), (52, I52), (53, I53), (54, I54), (55, I55), (56, I56), (57, I57), (58, I58), (59, I59), (60, I60), (61, I61), (62, I62), (63, I63), (65, I65), (66, I66), (67, I67), (68, I68), (69, I69), (70, I70), (71, I71), (72, I72), (73, I73), (74, I74), (75, I75), (76, I76), (77, I77), (78, I78), (79, I79), (81, I81), (82, I82), (83, I83), (84, I84), (85, I85), (86, I86), (88, I88), (89, I89), (90, I90), (91, I91), (92, I92), (93, I93), (94, I94), (95, I95), (96, I96), (97, I97), (98, I98), (99, I99), (101, I101), (102, I102), (103, I103), (104, I104)]
theorem tab_all : TabAll Tryd.prog (plainT tab) :=
  .cons Tryd.func4 tr4 <| .cons Tryd.func5 tr5 <| .cons Tryd.func6 tr6 <| .cons Tryd.func8 tr8 <| .cons Tryd.func12 tr12 <| .cons Tryd.func13 tr13 <| .cons Tryd.func15 tr15 <| .cons Tryd.func17 tr17 <| .cons Tryd.func18 tr18 <| .cons Tryd.func19 tr19 <| .cons Tryd.func20 tr20 <| .cons Tryd.func21 tr21 <| .cons Tryd.func22 tr22 <| .cons Tryd.func23 tr23 <| .cons Tryd.func24 tr24 <| .cons Tryd.func27 tr27 <| .cons Tryd.func28 tr28 <| .cons Tryd.func30 tr30 <| .cons Tryd.func31 tr31 <| .cons Tryd.func32 tr32 <| .cons Tryd.func33 tr33 <| .cons Tryd.func34 tr34 <| .cons Tryd.func35 tr35 <| .cons Tryd.func36 tr36 <| .cons Tryd.func37 tr37 <| .cons Tryd.func38 tr38 <| .cons Tryd.func39 tr39 <| .cons Tryd.func40 tr40 <| .cons Tryd.func41 tr41 <| .cons Tryd.func42 tr42 <| .cons Tryd.func43 tr43 <| .cons Tryd.func47 tr47 <| .cons Tryd.func48 tr48 <| .cons Tryd.func49 tr49 <| .cons Tryd.func50 tr50 <| .cons Tryd.func51 tr51 <| .cons Tryd.func52 tr52 <| .cons Tryd.func53 tr53 <| .cons Tryd.func54 tr54 <| .cons Tryd.func55 tr55 <| .cons Tryd.func56 tr56 <| .cons Tryd.func57 tr57 <| .cons Tryd.func58 tr58 <| .cons Tryd.func59 tr59 <| .cons Tryd.func60 tr60 <| .cons Tryd.func61 tr61 <| .cons Tryd.func62 tr62 <| .cons Tryd.func63 tr63 <| .cons Tryd.func65 tr65 <| .cons Tryd.func66 tr66 <| .cons Tryd.func67 tr67 <| .cons Tryd.func68 tr68 <| .cons Tryd.func69 tr69 <| .cons Tryd.func70 tr70 <| .cons Tryd.func71 tr71 <| .cons Tryd.func72 tr72 <| .cons Tryd.func73 tr73 <| .cons Tryd.func74 tr74 <| .cons Tryd.func75 tr75 <| .cons Tryd.func76 tr76 <| .cons Tryd.func77 tr77 <| .cons Tryd.func78 tr78 <| .cons Tryd.func79 tr79 <| .cons Tryd.func81 tr81 <| .cons Tryd.func82 tr82 <| .cons Tryd.func83 tr83 <| .cons Tryd.func84 tr84 <| .cons Tryd.func85 tr85 <| .cons Tryd.func86 tr86 <| .cons Tryd.func88 tr88 <| .cons Tryd.func89 tr89 <| .cons Tryd.func90 tr90 <| .cons Tryd.func91 tr91 <| .cons Tryd.func92 tr92 <| .cons Tryd.func93 tr93 <| .cons Tryd.func94 tr94 <| .cons Tryd.func95 tr95 <| .cons Tryd.func96 tr96 <| .cons Tryd.func97 tr97 <| .cons Tryd.func98 tr98 <| .cons Tryd.func99 tr99 <| .cons Tryd.func101 tr101 <| .cons Tryd.func102 tr102 <| .ext Tryd.func103 (by kernel_rfl) (by kernel_rfl) (by kernel_rfl) (by kernel_rfl) <| .cons Tryd.func104 tr104 <| .nil
theorem ck_all : CkAll 2 tab :=
  .cons ck4 rfl <| .cons ck5 rfl <| .cons ck6 rfl <| .cons ck8 rfl <| .cons ck12 rfl <| .cons ck13 rfl <| .cons ck15 rfl <| .cons ck17 rfl <| .cons ck18 rfl <| .cons ck19 rfl <| .cons ck20 rfl <| .cons ck21 rfl <| .cons ck22 rfl <| .cons ck23 rfl <| .cons ck24 rfl <| .cons ck27 rfl <| .clone ck28 rfl <| .cons ck30 rfl <| .cons ck31 rfl <| .cons ck32 rfl <| .cons ck33 rfl <| .cons ck34 rfl <| .cons ck35 rfl <| .cons ck36 rfl <| .cons ck37 rfl <| .cons ck38 rfl <| .cons ck39 rfl <| .cons ck40 rfl <| .cons ck41 rfl <| .cons ck42 rfl <| .cons ck43 rfl <| .cons ck47 rfl <| .cons ck48 rfl <| .cons ck49 rfl <| .cons ck50 rfl <| .cons ck51 rfl <| .cons ck52 rfl <| .cons ck53 rfl <| .clone ck54 rfl <| .cons ck55 rfl <| .cons ck56 rfl <| .cons ck57 rfl <| .cons ck58 rfl <| .cons ck59 rfl <| .cons ck60 rfl <| .cons ck61 rfl <| .cons ck62 rfl <| .cons ck63 rfl <| .cons ck65 rfl <| .cons ck66 rfl <| .cons ck67 rfl <| .cons ck68 rfl <| .cons ck69 rfl <| .cons ck70 rfl <| .cons ck71 rfl <| .cons ck72 rfl <| .cons ck73 rfl <| .cons ck74 rfl <| .cons ck75 rfl <| .cons ck76 rfl <| .clone ck77 rfl <| .cons ck78 rfl <| .cons ck79 rfl <| .cons ck81 rfl <| .cons ck82 rfl <| .cons ck83 rfl <| .cons ck84 rfl <| .cons ck85 rfl <| .cons ck86 rfl <| .cons ck88 rfl <| .cons ck89 rfl <| .cons ck90 rfl <| .cons ck91 rfl <| .cons ck92 rfl <| .cons ck93 rfl <| .cons ck94 rfl <| .cons ck95 rfl <| .cons ck96 rfl <| .cons ck97 rfl <| .cons ck98 rfl <| .cons ck99 rfl <| .cons ck101 rfl <| .cons ck102 rfl <| .ext <| .cons ck104 rfl <| .nil
def IP : FuncId → Option IFunc := tabIP tab
theorem IP_ok : TabOK Tryd.prog (plainP IP) := tab_all.plain
theorem IP_ck : TabCk 2 IP := ck_all.ck
theorem ip4 : IP 4 = some I4 := rfl
theorem ip5 : IP 5 = some I5 := rfl
theorem ip6 : IP 6 = some I6 := rfl
theorem ip8 : IP 8 = some I8 := rfl
theorem ip12 : IP 12 = some I12 := rfl
theorem ip13 : IP 13 = some I13 := rfl
theorem ip15 : IP 15 = some I15 := rfl
theorem ip17 : IP 17 = some I17 := rfl
theorem ip18 : IP 18 = some I18 := rfl
theorem ip19 : IP 19 = some I19 := rfl
theorem ip20 : IP 20 = some I20 := rfl
theorem ip21 : IP 21 = some I21 := rfl
theorem ip22 : IP 22 = some I22 := rfl
theorem ip23 : IP 23 = some I23 := rfl
theorem ip24 : IP 24 = some I24 := rfl
theorem ip27 : IP 27 = some I27 := rfl
theorem ip28 : IP 28 = some I28 := rfl
theorem ip30 : IP 30 = some I30 := rfl
theorem ip31 : IP 31 = some I31 := rfl
theorem ip32 : IP 32 = some I32 := rfl
theorem ip33 : IP 33 = some I33 := rfl
theorem ip34 : IP 34 = some I34 := rfl
theorem ip35 : IP 35 = some I35 := rfl
theorem ip36 : IP 36 = some I36 := rfl
theorem ip37 : IP 37 = some I37 := rfl
theorem ip38 : IP 38 = some I38 := rfl
theorem ip39 : IP 39 = some I39 := rfl
theorem ip40 : IP 40 = some I40 := rfl
theorem ip41 : IP 41 = some I41 := rfl
theorem ip42 : IP 42 = some I42 := rfl
theorem ip43 : IP 43 = some I43 := rfl
theorem ip47 : IP 47 = some I47 := rfl
theorem ip48 : IP 48 = some I48 := rfl
theorem ip49 : IP 49 = some I49 := rfl
theorem ip50 : IP 50 = some I50 := rfl
theorem ip51 : IP 51 = some I51 := rfl
theorem ip52 : IP 52 = some I52 := rfl
theorem ip53 : IP 53 = some I53 := rfl
theorem ip54 : IP 54 = some I54 := rfl
theorem ip55 : IP 55 = some I55 := rfl
theorem ip56 : IP 56 = some I56 := rfl
theorem ip57 : IP 57 = some I57 := rfl
theorem ip58 : IP 58 = some I58 := rfl
theorem ip59 : IP 59 = some I59 := rfl
theorem ip60 : IP 60 = some I60 := rfl
theorem ip61 : IP 61 = some I61 := rfl
theorem ip62 : IP 62 = some I62 := rfl
theorem ip63 : IP 63 = some I63 := rfl
theorem ip65 : IP 65 = some I65 := rfl
theorem ip66 : IP 66 = some I66 := rfl
theorem ip67 : IP 67 = some I67 := rfl
theorem ip68 : IP 68 = some I68 := rfl
theorem ip69 : IP 69 = some I69 := rfl
theorem ip70 : IP 70 = some I70 := rfl
theorem ip71 : IP 71 = some I71 := rfl
theorem ip72 : IP 72 = some I72 := rfl
theorem ip73 : IP 73 = some I73 := rfl
theorem ip74 : IP 74 = some I74 := rfl
theorem ip75 : IP 75 = some I75 := rfl
theorem ip76 : IP 76 = some I76 := rfl
theorem ip77 : IP 77 = some I77 := rfl
theorem ip78 : IP 78 = some I78 := rfl
theorem ip79 : IP 79 = some I79 := rfl
theorem ip81 : IP 81 = some I81 := rfl
theorem ip82 : IP 82 = some I82 := rfl
theorem ip83 : IP 83 = some I83 := rfl
theorem ip84 : IP 84 = some I84 := rfl
theorem ip85 : IP 85 = some I85 := rfl
theorem ip86 : IP 86 = some I86 := rfl
theorem ip88 : IP 88 = some I88 := rfl
theorem ip89 : IP 89 = some I89 := rfl
theorem ip90 : IP 90 = some I90 := rfl
theorem ip91 : IP 91 = some I91 := rfl
theorem ip92 : IP 92 = some I92 := rfl
theorem ip93 : IP 93 = some I93 := rfl
theorem ip94 : IP 94 = some I94 := rfl
theorem ip95 : IP 95 = some I95 := rfl
theorem ip96 : IP 96 = some I96 := rfl
theorem ip97 : IP 97 = some I97 := rfl
theorem ip98 : IP 98 = some I98 := rfl
theorem ip99 : IP 99 = some I99 := rfl
theorem ip101 : IP 101 = some I101 := rfl
theorem ip102 : IP 102 = some I102 := rfl
theorem ip103 : IP 103 = some I103 := rfl
theorem ip104 : IP 104 = some I104 := rfl
@[simp] theorem pu15 {G : AHeap} {lo : Nat} {l : List AVal} {H : AHeap} : theCalls IP G lo 15 l H = given H ((snaps H l).bind (pureR IP G 15)) := calls_pureR ip15 rfl
@[simp] theorem pb15 : pureB IP 15 = true := rfl
@[simp] theorem pu17 {G : AHeap} {lo : Nat} {l : List AVal} {H : AHeap} : theCalls IP G lo 17 l H = given H ((snaps H l).bind (pureR IP G 17)) := calls_pureR ip17 rfl
@[simp] theorem pb17 : pureB IP 17 = true := rfl
@[simp] theorem pu18 {G : AHeap} {lo : Nat} {l : List AVal} {H : AHeap} : theCalls IP G lo 18 l H = given H ((snaps H l).bind (pureR IP G 18)) := calls_pureR ip18 rfl
@[simp] theorem pb18 : pureB IP 18 = true := rfl
@[simp] theorem pu19 {G : AHeap} {lo : Nat} {l : List AVal} {H : AHeap} : theCalls IP G lo 19 l H = given H ((snaps H l).bind (pureR IP G 19)) := calls_pureR ip19 rfl
@[simp] theorem pb19 : pureB IP 19 = true := rfl
@[simp] theorem pu20 {G : AHeap} {lo : Nat} {l : List AVal} {H : AHeap} : theCalls IP G lo 20 l H = given H ((snaps H l).bind (pureR IP G 20)) := calls_pureR ip20 rfl
@[simp] theorem pb20 : pureB IP 20 = true := rfl
@[simp] theorem pb21 : pureB IP 21 = true := rfl
@[simp] theorem pu22 {G : AHeap} {lo : Nat} {l : List AVal} {H : AHeap} : theCalls IP G lo 22 l H = given H ((snaps H l).bind (pureR IP G 22)) := calls_pureR ip22 rfl
@[simp] theorem pb22 : pureB IP 22 = true := rfl
@[simp] theorem pu23 {G : AHeap} {lo : Nat} {l : List AVal} {H : AHeap} : theCalls IP G lo 23 l H = given H ((snaps H l).bind (pureR IP G 23)) := calls_pureR ip23 rfl
@[simp] theorem pb23 : pureB IP 23 = true := rfl
@[simp] theorem pu24 {G : AHeap} {lo : Nat} {l : List AVal} {H : AHeap} : theCalls IP G lo 24 l H = given H ((snaps H l).bind (pureR IP G 24)) := calls_pureR ip24 rfl
@[simp] theorem pb24 : pureB IP 24 = true := rfl
@[simp] theorem pu27 {G : AHeap} {lo : Nat} {l : List AVal} {H : AHeap} : theCalls IP G lo 27 l H = given H ((snaps H l).bind (pureR IP G 27)) := calls_pureR ip27 rfl
@[simp] theorem pb27 : pureB IP 27 = true := rfl
@[simp] theorem pu28 {G : AHeap} {lo : Nat} {x : AVal} {H : AHeap} : theCalls IP G lo 28 [x] H = cloneV H 1 8 x := calls_clone ip28 rfl rfl
@[simp] theorem pb28 : pureB IP 28 = true := rfl
@[simp] theorem pu30 {G : AHeap} {lo : Nat} {l : List AVal} {H : AHeap} : theCalls IP G lo 30 l H = given H ((snaps H l).bind (pureR IP G 30)) := calls_pureR ip30 rfl
@[simp] theorem pb30 : pureB IP 30 = true := rfl
@[simp] theorem pb31 : pureB IP 31 = true := rfl
@[simp] theorem pu32 {G : AHeap} {lo : Nat} {l : List AVal} {H : AHeap} : theCalls IP G lo 32 l H = given H ((snaps H l).bind (pureR IP G 32)) := calls_pureR ip32 rfl
@[simp] theorem pb32 : pureB IP 32 = true := rfl
@[simp] theorem pu33 {G : AHeap} {lo : Nat} {l : List AVal} {H : AHeap} : theCalls IP G lo 33 l H = given H ((snaps H l).bind (pureR IP G 33)) := calls_pureR ip33 rfl
@[simp] theorem pb33 : pureB IP 33 = true := rfl
@[simp] theorem pu34 {G : AHeap} {lo : Nat} {l : List AVal} {H : AHeap} : theCalls IP G lo 34 l H = given H ((snaps H l).bind (pureR IP G 34)) := calls_pureR ip34 rfl
@[simp] theorem pb34 : pureB IP 34 = true := rfl
@[simp] theorem pu35 {G : AHeap} {lo : Nat} {l : List AVal} {H : AHeap} : theCalls IP G lo 35 l H = given H ((snaps H l).bind (pureR IP G 35)) := calls_pureR ip35 rfl
@[simp] theorem pb35 : pureB IP 35 = true := rfl
@[simp] theorem pu36 {G : AHeap} {lo : Nat} {l : List AVal} {H : AHeap} : theCalls IP G lo 36 l H = given H ((snaps H l).bind (pureR IP G 36)) := calls_pureR ip36 rfl
@[simp] theorem pb36 : pureB IP 36 = true := rfl
@[simp] theorem pu37 {G : AHeap} {lo : Nat} {l : List AVal} {H : AHeap} : theCalls IP G lo 37 l H = given H ((snaps H l).bind (pureR IP G 37)) := calls_pureR ip37 rfl
@[simp] theorem pb37 : pureB IP 37 = true := rfl
@[simp] theorem pu39 {G : AHeap} {lo : Nat} {l : List AVal} {H : AHeap} : theCalls IP G lo 39 l H = given H ((snaps H l).bind (pureR IP G 39)) := calls_pureR ip39 rfl
@[simp] theorem pb39 : pureB IP 39 = true := rfl
@[simp] theorem pu40 {G : AHeap} {lo : Nat} {l : List AVal} {H : AHeap} : theCalls IP G lo 40 l H = given H ((snaps H l).bind (pureR IP G 40)) := calls_pureR ip40 rfl
@[simp] theorem pb40 : pureB IP 40 = true := rfl
@[simp] theorem pu41 {G : AHeap} {lo : Nat} {l : List AVal} {H : AHeap} : theCalls IP G lo 41 l H = given H ((snaps H l).bind (pureR IP G 41)) := calls_pureR ip41 rfl
@[simp] theorem pb41 : pureB IP 41 = true := rfl
@[simp] theorem pu42 {G : AHeap} {lo : Nat} {l : List AVal} {H : AHeap} : theCalls IP G lo 42 l H = given H ((snaps H l).bind (pureR IP G 42)) := calls_pureR ip42 rfl
@[simp] theorem pb42 : pureB IP 42 = true := rfl
@[simp] theorem pu43 {G : AHeap} {lo : Nat} {l : List AVal} {H : AHeap} : theCalls IP G lo 43 l H = given H ((snaps H l).bind (pureR IP G 43)) := calls_pureR ip43 rfl
@[simp] theorem pb43 : pureB IP 43 = true := rfl
@[simp] theorem pu47 {G : AHeap} {lo : Nat} {l : List AVal} {H : AHeap} : theCalls IP G lo 47 l H = given H ((snaps H l).bind (pureR IP G 47)) := calls_pureR ip47 rfl
@[simp] theorem pb47 : pureB IP 47 = true := rfl
@[simp] theorem pu48 {G : AHeap} {lo : Nat} {l : List AVal} {H : AHeap} : theCalls IP G lo 48 l H = given H ((snaps H l).bind (pureR IP G 48)) := calls_pureR ip48 rfl
@[simp] theorem pb48 : pureB IP 48 = true := rfl
@[simp] theorem pu49 {G : AHeap} {lo : Nat} {l : List AVal} {H : AHeap} : theCalls IP G lo 49 l H = given H ((snaps H l).bind (pureR IP G 49)) := calls_pureR ip49 rfl
@[simp] theorem pb49 : pureB IP 49 = true := rfl
@[simp] theorem pu50 {G : AHeap} {lo : Nat} {l : List AVal} {H : AHeap} : theCalls IP G lo 50 l H = given H ((snaps H l).bind (pureR IP G 50)) := calls_pureR ip50 rfl
@[simp] theorem pb50 : pureB IP 50 = true := rfl
@[simp] theorem pu51 {G : AHeap} {lo : Nat} {l : List AVal} {H : AHeap} : theCalls IP G lo 51 l H = given H ((snaps H l).bind (pureR IP G 51)) := calls_pureR ip51 rfl
@[simp] theorem pb51 : pureB IP 51 = true := rfl
@[simp] theorem pu52 {G : AHeap} {lo : Nat} {l : List AVal} {H : AHeap} : theCalls IP G lo 52 l H = given H ((snaps H l).bind (pureR IP G 52)) := calls_pureR ip52 rfl
@[simp] theorem pb52 : pureB IP 52 = true := rfl
@[simp] theorem pu53 {G : AHeap} {lo : Nat} {l : List AVal} {H : AHeap} : theCalls IP G lo 53 l H = given H ((snaps H l).bind (pureR IP G 53)) := calls_pureR ip53 rfl
@[simp] theorem pb53 : pureB IP 53 = true := rfl
@[simp] theorem pu54 {G : AHeap} {lo : Nat} {x : AVal} {H : AHeap} : theCalls IP G lo 54 [x] H = cloneV H 1 16 x := calls_clone ip54 rfl rfl
@[simp] theorem pb54 : pureB IP 54 = true := rfl
@[simp] theorem pu55 {G : AHeap} {lo : Nat} {l : List AVal} {H : AHeap} : theCalls IP G lo 55 l H = given H ((snaps H l).bind (pureR IP G 55)) := calls_pureR ip55 rfl
@[simp] theorem pb55 : pureB IP 55 = true := rfl
@[simp] theorem pu57 {G : AHeap} {lo : Nat} {l : List AVal} {H : AHeap} : theCalls IP G lo 57 l H = given H ((snaps H l).bind (pureR IP G 57)) := calls_pureR ip57 rfl
@[simp] theorem pb57 : pureB IP 57 = true := rfl
@[simp] theorem pu58 {G : AHeap} {lo : Nat} {l : List AVal} {H : AHeap} : theCalls IP G lo 58 l H = given H ((snaps H l).bind (pureR IP G 58)) := calls_pureR ip58 rfl
@[simp] theorem pb58 : pureB IP 58 = true := rfl
@[simp] theorem pu59 {G : AHeap} {lo : Nat} {l : List AVal} {H : AHeap} : theCalls IP G lo 59 l H = given H ((snaps H l).bind (pureR IP G 59)) := calls_pureR ip59 rfl
@[simp] theorem pb59 : pureB IP 59 = true := rfl
@[simp] theorem pu60 {G : AHeap} {lo : Nat} {l : List AVal} {H : AHeap} : theCalls IP G lo 60 l H = given H ((snaps H l).bind (pureR IP G 60)) := calls_pureR ip60 rfl
@[simp] theorem pb60 : pureB IP 60 = true := rfl
@[simp] theorem pu61 {G : AHeap} {lo : Nat} {l : List AVal} {H : AHeap} : theCalls IP G lo 61 l H = given H ((snaps H l).bind (pureR IP G 61)) := calls_pureR ip61 rfl
@[simp] theorem pb61 : pureB IP 61 = true := rfl
@[simp] theorem pu62 {G : AHeap} {lo : Nat} {l : List AVal} {H : AHeap} : theCalls IP G lo 62 l H = given H ((snaps H l).bind (pureR IP G 62)) := calls_pureR ip62 rfl
@[simp] theorem pb62 : pureB IP 62 = true := rfl
@[simp] theorem pu63 {G : AHeap} {lo : Nat} {l : List AVal} {H : AHeap} : theCalls IP G lo 63 l H = given H ((snaps H l).bind (pureR IP G 63)) := calls_pureR ip63 rfl
@[simp] theorem pb63 : pureB IP 63 = true := rfl
@[simp] theorem pu65 {G : AHeap} {lo : Nat} {l : List AVal} {H : AHeap} : theCalls IP G lo 65 l H = given H ((snaps H l).bind (pureR IP G 65)) := calls_pureR ip65 rfl
@[simp] theorem pb65 : pureB IP 65 = true := rfl
@[simp] theorem pu66 {G : AHeap} {lo : Nat} {l : List AVal} {H : AHeap} : theCalls IP G lo 66 l H = given H ((snaps H l).bind (pureR IP G 66)) := calls_pureR ip66 rfl
@[simp] theorem pb66 : pureB IP 66 = true := rfl
@[simp] theorem pu67 {G : AHeap} {lo : Nat} {l : List AVal} {H : AHeap} : theCalls IP G lo 67 l H = given H ((snaps H l).bind (pureR IP G 67)) := calls_pureR ip67 rfl
@[simp] theorem pb67 : pureB IP 67 = true := rfl
@[simp] theorem pu68 {G : AHeap} {lo : Nat} {l : List AVal} {H : AHeap} : theCalls IP G lo 68 l H = given H ((snaps H l).bind (pureR IP G 68)) := calls_pureR ip68 rfl
@[simp] theorem pb68 : pureB IP 68 = true := rfl
@[simp] theorem pu69 {G : AHeap} {lo : Nat} {l : List AVal} {H : AHeap} : theCalls IP G lo 69 l H = given H ((snaps H l).bind (pureR IP G 69)) := calls_pureR ip69 rfl
@[simp] theorem pb69 : pureB IP 69 = true := rfl
@[simp] theorem pu70 {G : AHeap} {lo : Nat} {l : List AVal} {H : AHeap} : theCalls IP G lo 70 l H = given H ((snaps H l).bind (pureR IP G 70)) := calls_pureR ip70 rfl
@[simp] theorem pb70 : pureB IP 70 = true := rfl
@[simp] theorem pu71 {G : AHeap} {lo : Nat} {l : List AVal} {H : AHeap} : theCalls IP G lo 71 l H = given H ((snaps H l).bind (pureR IP G 71)) := calls_pureR ip71 rfl
@[simp] theorem pb71 : pureB IP 71 = true := rfl
@[simp] theorem pu72 {G : AHeap} {lo : Nat} {l : List AVal} {H : AHeap} : theCalls IP G lo 72 l H = given H ((snaps H l).bind (pureR IP G 72)) := calls_pureR ip72 rfl
@[simp] theorem pb72 : pureB IP 72 = true := rfl
@[simp] theorem pu73 {G : AHeap} {lo : Nat} {l : List AVal} {H : AHeap} : theCalls IP G lo 73 l H = given H ((snaps H l).bind (pureR IP G 73)) := calls_pureR ip73 rfl
@[simp] theorem pb73 : pureB IP 73 = true := rfl
@[simp] theorem pu74 {G : AHeap} {lo : Nat} {l : List AVal} {H : AHeap} : theCalls IP G lo 74 l H = given H ((snaps H l).bind (pureR IP G 74)) := calls_pureR ip74 rfl
@[simp] theorem pb74 : pureB IP 74 = true := rfl
@[simp] theorem pu75 {G : AHeap} {lo : Nat} {l : List AVal} {H : AHeap} : theCalls IP G lo 75 l H = given H ((snaps H l).bind (pureR IP G 75)) := calls_pureR ip75 rfl
@[simp] theorem pb75 : pureB IP 75 = true := rfl
@[simp] theorem pu76 {G : AHeap} {lo : Nat} {l : List AVal} {H : AHeap} : theCalls IP G lo 76 l H = given H ((snaps H l).bind (pureR IP G 76)) := calls_pureR ip76 rfl
@[simp] theorem pb76 : pureB IP 76 = true := rfl
@[simp] theorem pu77 {G : AHeap} {lo : Nat} {x : AVal} {H : AHeap} : theCalls IP G lo 77 [x] H = cloneV H 5 80 x := calls_clone ip77 rfl rfl
@[simp] theorem pb77 : pureB IP 77 = true := rfl
@[simp] theorem pu78 {G : AHeap} {lo : Nat} {l : List AVal} {H : AHeap} : theCalls IP G lo 78 l H = given H ((snaps H l).bind (pureR IP G 78)) := calls_pureR ip78 rfl
@[simp] theorem pb78 : pureB IP 78 = true := rfl
@[simp] theorem pu79 {G : AHeap} {lo : Nat} {l : List AVal} {H : AHeap} : theCalls IP G lo 79 l H = given H ((snaps H l).bind (pureR IP G 79)) := calls_pureR ip79 rfl
@[simp] theorem pb79 : pureB IP 79 = true := rfl
@[simp] theorem pu81 {G : AHeap} {lo : Nat} {l : List AVal} {H : AHeap} : theCalls IP G lo 81 l H = given H ((snaps H l).bind (pureR IP G 81)) := calls_pureR ip81 rfl
@[simp] theorem pb81 : pureB IP 81 = true := rfl
@[simp] theorem pu82 {G : AHeap} {lo : Nat} {l : List AVal} {H : AHeap} : theCalls IP G lo 82 l H = given H ((snaps H l).bind (pureR IP G 82)) := calls_pureR ip82 rfl
@[simp] theorem pb82 : pureB IP 82 = true := rfl
@[simp] theorem pu83 {G : AHeap} {lo : Nat} {l : List AVal} {H : AHeap} : theCalls IP G lo 83 l H = given H ((snaps H l).bind (pureR IP G 83)) := calls_pureR ip83 rfl
@[simp] theorem pb83 : pureB IP 83 = true := rfl
@[simp] theorem pu84 {G : AHeap} {lo : Nat} {l : List AVal} {H : AHeap} : theCalls IP G lo 84 l H = given H ((snaps H l).bind (pureR IP G 84)) := calls_pureR ip84 rfl
@[simp] theorem pb84 : pureB IP 84 = true := rfl
@[simp] theorem pu85 {G : AHeap} {lo : Nat} {l : List AVal} {H : AHeap} : theCalls IP G lo 85 l H = given H ((snaps H l).bind (pureR IP G 85)) := calls_pureR ip85 rfl
@[simp] theorem pb85 : pureB IP 85 = true := rfl
@[simp] theorem pu86 {G : AHeap} {lo : Nat} {l : List AVal} {H : AHeap} : theCalls IP G lo 86 l H = given H ((snaps H l).bind (pureR IP G 86)) := calls_pureR ip86 rfl
@[simp] theorem pb86 : pureB IP 86 = true := rfl
@[simp] theorem pu88 {G : AHeap} {lo : Nat} {l : List AVal} {H : AHeap} : theCalls IP G lo 88 l H = given H ((snaps H l).bind (pureR IP G 88)) := calls_pureR ip88 rfl
@[simp] theorem pb88 : pureB IP 88 = true := rfl
@[simp] theorem pu89 {G : AHeap} {lo : Nat} {l : List AVal} {H : AHeap} : theCalls IP G lo 89 l H = given H ((snaps H l).bind (pureR IP G 89)) := calls_pureR ip89 rfl
@[simp] theorem pb89 : pureB IP 89 = true := rfl
@[simp] theorem pu90 {G : AHeap} {lo : Nat} {l : List AVal} {H : AHeap} : theCalls IP G lo 90 l H = given H ((snaps H l).bind (pureR IP G 90)) := calls_pureR ip90 rfl
@[simp] theorem pb90 : pureB IP 90 = true := rfl
@[simp] theorem pu91 {G : AHeap} {lo : Nat} {l : List AVal} {H : AHeap} : theCalls IP G lo 91 l H = given H ((snaps H l).bind (pureR IP G 91)) := calls_pureR ip91 rfl
@[simp] theorem pb91 : pureB IP 91 = true := rfl
@[simp] theorem pu92 {G : AHeap} {lo : Nat} {l : List AVal} {H : AHeap} : theCalls IP G lo 92 l H = given H ((snaps H l).bind (pureR IP G 92)) := calls_pureR ip92 rfl
@[simp] theorem pb92 : pureB IP 92 = true := rfl
@[simp] theorem pu93 {G : AHeap} {lo : Nat} {l : List AVal} {H : AHeap} : theCalls IP G lo 93 l H = given H ((snaps H l).bind (pureR IP G 93)) := calls_pureR ip93 rfl
@[simp] theorem pb93 : pureB IP 93 = true := rfl
@[simp] theorem pu94 {G : AHeap} {lo : Nat} {l : List AVal} {H : AHeap} : theCalls IP G lo 94 l H = given H ((snaps H l).bind (pureR IP G 94)) := calls_pureR ip94 rfl
@[simp] theorem pb94 : pureB IP 94 = true := rfl
@[simp] theorem pu95 {G : AHeap} {lo : Nat} {l : List AVal} {H : AHeap} : theCalls IP G lo 95 l H = given H ((snaps H l).bind (pureR IP G 95)) := calls_pureR ip95 rfl
@[simp] theorem pb95 : pureB IP 95 = true := rfl
@[simp] theorem pu96 {G : AHeap} {lo : Nat} {l : List AVal} {H : AHeap} : theCalls IP G lo 96 l H = given H ((snaps H l).bind (pureR IP G 96)) := calls_pureR ip96 rfl
@[simp] theorem pb96 : pureB IP 96 = true := rfl
@[simp] theorem pu97 {G : AHeap} {lo : Nat} {l : List AVal} {H : AHeap} : theCalls IP G lo 97 l H = given H ((snaps H l).bind (pureR IP G 97)) := calls_pureR ip97 rfl
@[simp] theorem pb97 : pureB IP 97 = true := rfl
@[simp] theorem pu98 {G : AHeap} {lo : Nat} {l : List AVal} {H : AHeap} : theCalls IP G lo 98 l H = given H ((snaps H l).bind (pureR IP G 98)) := calls_pureR ip98 rfl
@[simp] theorem pb98 : pureB IP 98 = true := rfl
@[simp] theorem pu99 {G : AHeap} {lo : Nat} {l : List AVal} {H : AHeap} : theCalls IP G lo 99 l H = given H ((snaps H l).bind (pureR IP G 99)) := calls_pureR ip99 rfl
@[simp] theorem pb99 : pureB IP 99 = true := rfl
@[simp] theorem pu101 {G : AHeap} {lo : Nat} {l : List AVal} {H : AHeap} : theCalls IP G lo 101 l H = given H ((snaps H l).bind (pureR IP G 101)) := calls_pureR ip101 rfl
@[simp] theorem pb101 : pureB IP 101 = true := rfl
@[simp] theorem pu102 {G : AHeap} {lo : Nat} {l : List AVal} {H : AHeap} : theCalls IP G lo 102 l H = given H ((snaps H l).bind (pureR IP G 102)) := calls_pureR ip102 rfl
@[simp] theorem pb102 : pureB IP 102 = true := rfl
@[simp] theorem pu103 {G : AHeap} {lo : Nat} {l : List AVal} {H : AHeap} : theCalls IP G lo 103 l H = given H (idxB l) := calls_ext ip103 rfl rfl
@[simp] theorem pb103 : pureB IP 103 = true := rfl
@[simp] theorem pu104 {G : AHeap} {lo : Nat} {l : List AVal} {H : AHeap} : theCalls IP G lo 104 l H = given H ((snaps H l).bind (pureR IP G 104)) := calls_pureR ip104 rfl
@[simp] theorem pb104 : pureB IP 104 = true := rfl
end Go.Proofs.YtdephbcmmhabgaaDoor


