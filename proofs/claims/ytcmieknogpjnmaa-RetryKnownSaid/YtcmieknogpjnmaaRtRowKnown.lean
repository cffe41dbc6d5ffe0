/- 'RetryKnown' holds: both ends of all, and what is refused. Conditions: none. -/
import Derived.Test.YtcmieknogpjnmaaRtN
import Derived.Eval
import Derived.ChangeSame
import Derived.JoinedOf
import Derived.JoinedAt
import Derived.RowKit3
import Derived.ProofKit
import Derived.OpenShut
namespace Go.Proofs.Ytcmieknogpjnmaa.retryKnown
set_option linter.unusedVariables false
open Go.ChangeShapes Go.WideShapes Go.ChangeAt Go.RowKit
open Go.RI (rho0 renL ren)

theorem own : ownKnob Try.prog.godebug = none := by kernel_rfl

theorem walk (W : World) : Calls Try.prog 7 #[] W fun e w' => e = .returned (.bool true) ∧ Grown W w' := by
  have h := RI.theCalls_knows (IP := IP) (G := RI.G0 Try.prog.globals.size) _ _ _ _ _ _ (t7 (G := RI.G0 Try.prog.globals.size) Try.prog.globals.size (RI.G0 Try.prog.globals.size))
  have := RI.plain_calls (P := Try.prog) (Checked.mixed Try.checked) IP_ok rfl h rfl rfl W
  simpa [renL, ren] using this

set_option maxRecDepth 100000 in
theorem lifted (os : Os) (started : os.Started) (H : Type) (enc : TypeId × Value → H) :
    ReturnsInHanded {} Try.checked os 7 .any (Rows.retryKnownSpec.pre6 enc Try.prog Try.f7 Rows.retryKnownRow.domain false) (Rows.retryKnownSpec.post enc Try.prog Try.f7 false true false false) := by
  refine returnsInHanded_of_change (C := Try.checked) own started (by kernel_rfl) Try.func7
    (ChangeSpec.witness6 (enc := enc) (C := Try.checked) false ⟨#[], #[], []⟩ 8 (by kernel_rfl) (by kernel_rfl) (by kernel_rfl) (by kernel_rfl)) ?_
  intro W base args ds gs before hval0 hW hcnd _
  have hW' := hW
  obtain ⟨p, q, hA0, hV, rfl, hfz, hnd⟩ := hW
  have hA : DataW.TrodAll enc Try.prog W 0 (fun _ => true) true Try.f7.params.toList args.toList ds p := hA0
  rw [Try.params7] at hA
  obtain ⟨rfl, rfl, rfl⟩ := trodAll_none hA
  obtain ⟨rfl, rfl⟩ := trodVars_none hV
  clear hA0 hval0
  simp only [List.append_nil] at hW'
  refine (walk W).mono fun e W' ⟨he, hg⟩ => ?_
  subst he
  exact ⟨_, rfl, post_of_same (pa := []) (pv := []) hW' (fun _ _ _ => (trodAll_cons_mk (shut_bool Try.underlying4 _) trodAll_mk0)) (fun sp _ => rfl) (fun _ _ => rfl) rfl
    (hg.frame _) hg.2.1 (ok_one (by kernel_rfl) rfl (okWide_bool_mk Try.underlying4 _))⟩

theorem over : Rows.retryKnownRow.holds Try.pinned (OpenSpec.ofChange Rows.retryKnownSpec) :=
  OpenClaim.holds_of_wide 7 Try.f7 rfl rfl rfl rfl rfl rfl rfl ⟨rfl, rfl, rfl, rfl, rfl⟩ rfl rfl rfl rfl rfl (by kernel_rfl) Try.func7 (by kernel_rfl)
    (of_decide_eq_true (by kernel_rfl)) (by unfold Func.isWrapper; first | (rw [if_pos (by decide +kernel)]; kernel_rfl) | (rw [if_neg (by decide +kernel)]; exact ⟨rfl, rfl⟩))
    (fun os started H enc _ => lifted os started H enc)
end Go.Proofs.Ytcmieknogpjnmaa.retryKnown
namespace Go.Proofs.Ytcmieknogpjnmaa
theorem retryKnown_holds : Rows.RetryKnownSaid := retryKnown.over
#print axioms retryKnown_holds
end Go.Proofs.Ytcmieknogpjnmaa
