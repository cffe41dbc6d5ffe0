/- 'PruneNames' holds: the call, run by the interpreter in the kernel, answers true. Conditions: none. -/
import Derived.Test.YtbdgnffoloakiaaDoorTabNames
import Derived.Test.YtbdgnffoloakiaaDoorCards
import Derived.Test.YtbdgnffoloakiaaDoorTie
import Derived.WalkKit
import Derived.ProofKit
import Derived.OpenShut
import Derived.Deep.DeepHandedRow
import Derived.Lib.LaidTab
namespace Go.Proofs.YtbdgnffoloakiaaDoor.pruneNames
open Go.ChangeShapes Go.WideShapes Go.ChangeAt Go.RowKit
set_option linter.unusedVariables false

noncomputable def G1 : RI.AHeap := (RI.G0 2).put 0 (some (.cells [.i .i64 0, .s [], .b false] 1 true))
theorem run_true : RI.isTrue (RI.callK (RI.buildT tab) 100000 2 4 [] G1) = true := by kernel_rfl

theorem own : ownKnob Tryd.prog.godebug = none := by kernel_rfl
theorem gBare : Tryd.prog.globalNamed "encore/lift.bare" = some 0 := by kernel_rfl
theorem gBareType : (Tryd.prog.globals[0]?).map (·.type) = some 107 := by kernel_rfl

theorem holds {W : World} (h : laidMetH Tryd.prog Rows.pruneNamesRow.laid W) : RI.GHolds Tryd.prog.globals.size G1 W := by
  have h' : laidMet Tryd.prog [("encore/lift.bare", .agg ([Lit.int .i64 0, Lit.string [], Lit.bool false].map .lit))] W := h
  obtain ⟨C, e, fz, h1, h2⟩ := RI.laid_one gBare gBareType Tryd.underlying107 (by kernel_rfl) (by kernel_rfl) h'
  intro g o hg
  have : g = 0 ∧ o = .cells [.i .i64 0, .s [], .b false] 1 true := by
    simp only [G1, RI.AHeap.get_put, RI.G0_get] at hg
    split at hg
    · cases hg; exact ⟨by assumption, rfl⟩
    · cases hg
  obtain ⟨rfl, rfl⟩ := this
  exact ⟨of_decide_eq_true (by kernel_rfl), _, C, e, fz, rfl, rfl, rfl, h1, by rw [h2]; rfl⟩

theorem walk (W : World) (h : laidMetH Tryd.prog Rows.pruneNamesRow.laid W) : Calls Tryd.prog 4 #[] W fun e w' => e = .returned (.bool true) ∧ RI.Kept W w' :=
  RI.closed_callsF (P := Tryd.prog) (tab := tab) (G := G1) (f := 4) (k := 100000) (Checked.mixed Tryd.checked) tab_all.ok rfl (by
    intro id hid
    have : 2 ≤ id := hid
    simp only [G1, RI.AHeap.get_put, RI.G0_get]
    rw [if_neg (by omega)]) run_true W (holds h)

set_option maxRecDepth 100000 in
theorem contract (H : Type) (enc : TypeId × Value → H) (W : World) (args : Array Value) (ds gs : List (DataW H)) (before : List MemPlace)
    (hW : DataW.Whole enc Tryd.prog Tryd.f4.params.toList Rows.pruneNamesSpec.vars false W args.toList ds gs before) (hL : laidMetH Tryd.prog Rows.pruneNamesRow.laid W) :
    Calls Tryd.prog 4 args W fun e W' => ∃ v, e = .returned v ∧ Rows.pruneNamesSpec.post enc Tryd.prog Tryd.f4 false true false false W args v W' := by
  have hW' := hW
  obtain ⟨p, q, hA0, hV, rfl, hfz, hnd⟩ := hW
  have hA : DataW.TrodAll enc Tryd.prog W 0 (fun _ => true) true Tryd.f4.params.toList args.toList ds p := hA0
  rw [Tryd.params4] at hA
  obtain ⟨hargs, rfl, rfl⟩ := trodAll_nil hA
  obtain rfl : args = #[] := by cases args; simp_all
  obtain ⟨rfl, rfl⟩ := trodVars_none hV
  clear hA0
  refine (walk W hL).mono fun e W' ⟨he, hg⟩ => ?_
  subst he
  exact ⟨_, rfl, RI.post_same (pa := []) (pv := []) hW' (fun _ _ _ => trodAll_cons_mk (shut_bool Tryd.underlying4 _) trodAll_mk0) (fun _ _ => trodAll_mk0) (fun _ _ => rfl) rfl
    (hg.frame _) hg.2.1 (ok_one (by kernel_rfl) rfl (okWide_bool_mk Tryd.underlying4 _))⟩

noncomputable def laidWorld (os : Os) : World :=
  { World.holding Tryd.prog os ⟨#[], #[], []⟩ with heap := (World.holding Tryd.prog os ⟨#[], #[], []⟩).heap.modify 0 fun
      | .cells _ t frozen => .cells #[.int .i64 0, .string ⟨#[]⟩, .bool false] t frozen
      | o => o }
theorem laid_met (os : Os) : laidMet Tryd.prog Rows.pruneNamesRow.laid ((laidWorld os).forCall (fun _ _ => 0) ⟨#[], #[], []⟩).memory :=
  laidMet_of_run' 8 (by kernel_rfl) (by kernel_rfl)
set_option maxRecDepth 100000 in
theorem reads (os : Os) {H : Type} (enc : TypeId × Value → H) : ∃ places, DataW.whole enc Tryd.prog ((laidWorld os).forCall (fun _ _ => 0) ⟨#[], #[], []⟩).memory Tryd.f4.params.toList Rows.pruneNamesSpec.vars false (#[] : Array Value).toList 8 = some ([], [], places) :=
  ⟨[], by kernel_rfl⟩

set_option maxRecDepth 100000 in
theorem lifted (os : Os) (started : os.Started) (H : Type) (enc : TypeId × Value → H) (F : Stop.Interp) :
    ReturnsInHanded {} Tryd.checked os 4 .any ((OpenSpec.ofChange Rows.pruneNamesSpec).preRow enc Tryd.prog Tryd.f4 Rows.pruneNamesRow.domain false Rows.pruneNamesRow.laid) (((OpenSpec.ofChange Rows.pruneNamesSpec).at F).post enc Tryd.prog Tryd.f4 false true false false) := by
  obtain ⟨places, hx⟩ := reads os enc
  refine returnsInHanded_of_row (C := Tryd.checked) (s := OpenSpec.ofChange Rows.pruneNamesSpec) own started (by kernel_rfl) Tryd.func4
    (witness_row_at (enc := enc) (C := Tryd.checked) false (laidWorld os) #[] rfl (by kernel_rfl) (by kernel_rfl) (by kernel_rfl)
      (OpenSpec.preRow_of_cond 8 hx (by kernel_rfl) (fun k hk => by cases hk) (by kernel_rfl) (laid_met os))) ?_
  intro W base args ds gs before hval hW _ _ _ hL _ _
  exact contract H enc W args ds gs before hW hL

theorem said : Rows.PruneNamesSaid :=
  OpenClaim.holds_of_cond 4 Tryd.f4 rfl rfl rfl rfl rfl rfl rfl ⟨rfl, rfl, rfl, rfl, rfl⟩ rfl rfl rfl rfl rfl (by kernel_rfl) Tryd.func4 (by kernel_rfl)
    (of_decide_eq_true (by kernel_rfl)) (by unfold Func.isWrapper; first | (rw [if_pos (by decide +kernel)]; kernel_rfl) | (rw [if_neg (by decide +kernel)]; exact ⟨rfl, rfl⟩))
    (fun os started H enc _ F => by rw [OpenClaim.pre_eq_preRow]; exact lifted os started H enc F)

theorem plain (f : FuncId) (fn : Func) (hf : Tryd.pinned.checked.prog.funcNamed "encore/encorelaw23.PruneNames" = some f) (hfn : Tryd.pinned.checked.prog.funcs[f]? = some fn) :
    false = Tryd.pinned.checked.prog.looks [] ∧ ∀ (j : Nat) t, fn.params[j]? = some t → Tryd.pinned.checked.prog.wantsStandIn t = false := by
  obtain rfl : f = 4 := Option.some.inj ((show Tryd.prog.funcNamed "encore/encorelaw23.PruneNames" = some 4 by kernel_rfl).symm.trans hf) |>.symm
  obtain rfl : fn = Tryd.f4 := (Option.some.inj (Tryd.func4.symm.trans hfn)).symm
  refine ⟨by kernel_rfl, fun j t ht => ?_⟩
  rw [Tryd.params4] at ht
  simp at ht

theorem card : Rows.PruneNamesCardSaid :=
  Claim7.holds_tied_plain_at .later [] _ _ _ _ said (fun _ h => by cases h) (by kernel_rfl) (fun _ h => by cases h) pruneNames_row_tie rfl ⟨rfl, rfl⟩ (by kernel_rfl) rfl plain (by kernel_rfl)
end Go.Proofs.YtbdgnffoloakiaaDoor.pruneNames
namespace Go.Proofs.YtbdgnffoloakiaaDoor
theorem pruneNames_holds : Rows.PruneNamesCardSaid := pruneNames.card
#print axioms pruneNames_holds
end Go.Proofs.YtbdgnffoloakiaaDoor
