import Derived.Test.YtpkhhphpjhfoiaaGreatDoorK9
import Derived.Test.YtpkhhphpjhfoiaaGreatDoorK10
import Derived.Test.YtpkhhphpjhfoiaaGreatDoorK11
import Derived.Test.YtpkhhphpjhfoiaaGreatDoorK12
import Derived.Test.YtpkhhphpjhfoiaaGreatDoorK13
set_option linter.unusedVariables false
set_option linter.unusedSimpArgs false
set_option linter.unusedSectionVars false
/- Runs of 'LiftNames', each by the kernel. Conditions: none. -/
namespace Go.Proofs.YtpkhhphpjhfoiaaGreatDoor.liftNames
open Go Go.RI
set_option maxRecDepth 100000
noncomputable def M3 : List (Nat × List (List AVal × AVal)) := [(41, [(b0, w0), (b1, w1), (b2, w2), (b3, w3), (b4, w4), (b5, w5), (b6, w6), (b7, w7), (b8, w8), (b9, w9), (b10, w10), (b11, w11), (b12, w12), (b13, w13), (b14, w14), (b15, w15), (b16, w16), (b17, w17)])]
theorem knownM : Known3 (tabIP tab) G1 HP M3 := known3_one (one3_y t0 <| one3_y t1 <| one3_y t2 <| one3_y t3 <| one3_y t4 <| one3_y t5 <| one3_y t6 <| one3_y t7 <| one3_y t8 <| one3_y t9 <| one3_y t10 <| one3_y t11 <| one3_y t12 <| one3_y t13 <| one3_y t14 <| one3_y t15 <| one3_y t16 <| one3_y t17 <| no3_ys)
theorem lean4b : Lean3 tab G1 (lookK (buildM L4)) (look3 HP (buildM M3)) := lean3_of known4 knownM
end Go.Proofs.YtpkhhphpjhfoiaaGreatDoor.liftNames
