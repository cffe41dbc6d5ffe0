import Derived.Test.YtpkhhphpjhfoiaaGreatDoorK17
import Derived.Test.YtpkhhphpjhfoiaaGreatDoorCards
import Derived.Test.YtpkhhphpjhfoiaaGreatDoorTie
import Derived.WalkKit
import Derived.ProofKit
import Derived.OpenShut
import Derived.Deep.DeepHandedRow
import Derived.Lib.LaidTab
set_option linter.unusedVariables false
set_option linter.unusedSimpArgs false
set_option linter.unusedSectionVars false
/- 'LiftNames' holds: the call, run by the interpreter in the kernel, answers true. Conditions: none. -/
namespace Go.Proofs.YtpkhhphpjhfoiaaGreatDoor.liftNames
open Go.ChangeShapes Go.WideShapes Go.ChangeAt Go.RowKit
set_option linter.unusedVariables false

theorem own : ownKnob Tryz.prog.godebug = none := by kernel_rfl
theorem gBare : Tryz.prog.globalNamed "encore/lift.bare" = some 0 := by kernel_rfl
theorem gBareType : (Tryz.prog.globals[0]?).map (·.type) = some 153 := by kernel_rfl

theorem holds {W : World} (h : laidMetH Tryz.prog Rows.liftNamesRow.laid W) : RI.GHolds Tryz.prog.globals.size G1 W := by
  have h' : laidMet Tryz.prog [("encore/lift.bare", .agg ([Lit.int .i64 0, Lit.string [], Lit.bool false].map .lit))] W := h
  obtain ⟨C, e, fz, h1, h2⟩ := RI.laid_one gBare gBareType Tryz.underlying153 (by kernel_rfl) (by kernel_rfl) h'
  intro g o hg
  have : g = 0 ∧ o = .cells [.i .i64 0, .s [], .b false] 1 true := by
    simp only [G1, RI.AHeap.get_put, RI.G0_get] at hg
    split at hg
    · cases hg; exact ⟨by assumption, rfl⟩
    · cases hg
  obtain ⟨rfl, rfl⟩ := this
  exact ⟨of_decide_eq_true (by kernel_rfl), _, C, e, fz, rfl, rfl, rfl, h1, by rw [h2]; rfl⟩

theorem gok : RI.GOK G1 := ⟨fun id hid => by
    have : 2 ≤ id := hid
    simp only [G1, RI.AHeap.get_put, RI.G0_get]
    rw [if_neg (by omega)], fun g o hg => by
    simp only [G1, RI.AHeap.get_put, RI.G0_get] at hg
    split at hg
    · cases hg; exact ⟨_, _, rfl, rfl⟩
    · cases hg⟩
theorem walk (W : World) (h : laidMetH Tryz.prog Rows.liftNamesRow.laid W) : Calls Tryz.prog 3 #[] W fun e w' => e = .returned (.bool true) ∧ RI.Kept W w' := by
  obtain ⟨H', hb⟩ := brings
  exact RI.tree_calls (Checked.mixed Tryz.checked) IP_ok ck_all.ck gok rfl (holds h) hb (vs := []) rfl

set_option maxRecDepth 100000 in
theorem contract (H : Type) (enc : TypeId × Value → H) (W : World) (args : Array Value) (ds gs : List (DataW H)) (before : List MemPlace)
    (hW : DataW.Whole enc Tryz.prog Tryz.f3.params.toList Rows.liftNamesSpec.vars false W args.toList ds gs before) (hL : laidMetH Tryz.prog Rows.liftNamesRow.laid W) :
    Calls Tryz.prog 3 args W fun e W' => ∃ v, e = .returned v ∧ Rows.liftNamesSpec.post enc Tryz.prog Tryz.f3 false true false false W args v W' := by
  have hW' := hW
  obtain ⟨p, q, hA0, hV, rfl, hfz, hnd⟩ := hW
  have hA : DataW.TrodAll enc Tryz.prog W 0 (fun _ => true) true Tryz.f3.params.toList args.toList ds p := hA0
  rw [Tryz.params3] at hA
  obtain ⟨hargs, rfl, rfl⟩ := trodAll_nil hA
  obtain rfl : args = #[] := by cases args; simp_all
  obtain ⟨rfl, rfl⟩ := trodVars_none hV
  clear hA0
  refine (walk W hL).mono fun e W' ⟨he, hg⟩ => ?_
  subst he
  exact ⟨_, rfl, RI.post_same (pa := []) (pv := []) hW' (fun _ _ _ => trodAll_cons_mk (shut_bool Tryz.underlying4 _) trodAll_mk0) (fun _ _ => trodAll_mk0) (fun _ _ => rfl) rfl
    (hg.frame _) hg.2.1 (ok_one (by kernel_rfl) rfl (okWide_bool_mk Tryz.underlying4 _))⟩

noncomputable def laidWorld (os : Os) : World :=
  { World.holding Tryz.prog os ⟨#[], #[], []⟩ with heap := (World.holding Tryz.prog os ⟨#[], #[], []⟩).heap.modify 0 fun
      | .cells _ t frozen => .cells #[.int .i64 0, .string ⟨#[]⟩, .bool false] t frozen
      | o => o }
theorem laid_met (os : Os) : laidMet Tryz.prog Rows.liftNamesRow.laid ((laidWorld os).forCall (fun _ _ => 0) ⟨#[], #[], []⟩).memory :=
  laidMet_of_run' 8 (by kernel_rfl) (by kernel_rfl)
set_option maxRecDepth 100000 in
theorem reads (os : Os) {H : Type} (enc : TypeId × Value → H) : ∃ places, DataW.whole enc Tryz.prog ((laidWorld os).forCall (fun _ _ => 0) ⟨#[], #[], []⟩).memory Tryz.f3.params.toList Rows.liftNamesSpec.vars false (#[] : Array Value).toList 8 = some ([], [], places) :=
  ⟨[], by kernel_rfl⟩

set_option maxRecDepth 100000 in
theorem lifted (os : Os) (started : os.Started) (H : Type) (enc : TypeId × Value → H) (F : Stop.Interp) :
    ReturnsInHanded {} Tryz.checked os 3 .any ((OpenSpec.ofChange Rows.liftNamesSpec).preRow enc Tryz.prog Tryz.f3 Rows.liftNamesRow.domain false Rows.liftNamesRow.laid) (((OpenSpec.ofChange Rows.liftNamesSpec).at F).post enc Tryz.prog Tryz.f3 false true false false) := by
  obtain ⟨places, hx⟩ := reads os enc
  refine returnsInHanded_of_row (C := Tryz.checked) (s := OpenSpec.ofChange Rows.liftNamesSpec) own started (by kernel_rfl) Tryz.func3
    (witness_row_at (enc := enc) (C := Tryz.checked) false (laidWorld os) #[] rfl (by kernel_rfl) (by kernel_rfl) (by kernel_rfl)
      (OpenSpec.preRow_of_cond 8 hx (by kernel_rfl) (fun k hk => by cases hk) (by kernel_rfl) (laid_met os))) ?_
  intro W base args ds gs before hval hW _ _ _ hL _ _
  exact contract H enc W args ds gs before hW hL

theorem said : Rows.LiftNamesSaid :=
  OpenClaim.holds_of_cond 3 Tryz.f3 rfl rfl rfl rfl rfl rfl rfl ⟨rfl, rfl, rfl, rfl, rfl⟩ rfl rfl rfl rfl rfl (by kernel_rfl) Tryz.func3 (by kernel_rfl)
    (of_decide_eq_true (by kernel_rfl)) (by unfold Func.isWrapper; first | (rw [if_pos (by decide +kernel)]; kernel_rfl) | (rw [if_neg (by decide +kernel)]; exact ⟨rfl, rfl⟩))
    (fun os started H enc _ F => by rw [OpenClaim.pre_eq_preRow]; exact lifted os started H enc F)

theorem plain (f : FuncId) (fn : Func) (hf : Tryz.pinned.checked.prog.funcNamed "encore/encorelaw20.LiftNames" = some f) (hfn : Tryz.pinned.checked.prog.funcs[f]? = some fn) :
    false = Tryz.pinned.checked.prog.looks [] ∧ ∀ (j : Nat) t, fn.params[j]? = some t → Tryz.pinned.checked.prog.wantsStandIn t = false := by
  obtain rfl : f = 3 := Option.some.inj ((show Tryz.prog.funcNamed "encore/encorelaw20.LiftNames" = some 3 by kernel_rfl).symm.trans hf) |>.symm
  obtain rfl : fn = Tryz.f3 := (Option.some.inj (Tryz.func3.symm.trans hfn)).symm
  refine ⟨by kernel_rfl, fun j t ht => ?_⟩
  rw [Tryz.params3] at ht
  simp at ht

theorem card : Rows.LiftNamesCardSaid :=
  Claim7.holds_tied_plain_at .later [] _ _ _ _ said (fun _ h => by cases h) (by kernel_rfl) (fun _ h => by cases h) liftNames_row_tie rfl ⟨rfl, rfl⟩ (by kernel_rfl) rfl plain (by kernel_rfl)
end Go.Proofs.YtpkhhphpjhfoiaaGreatDoor.liftNames
namespace Go.Proofs.YtpkhhphpjhfoiaaGreatDoor
theorem liftNames_holds : Rows.LiftNamesCardSaid := liftNames.card
#print axioms liftNames_holds
end Go.Proofs.YtpkhhphpjhfoiaaGreatDoor
