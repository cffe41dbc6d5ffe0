/- 'RetryTotal' holds of whatever policy and numbers. Conditions: none. -/
import Derived.Test.YtcmieknogpjnmaaRtK
import Derived.Eval
import Derived.ChangeSame
import Derived.JoinedOf
import Derived.JoinedAt
import Derived.RowKit3
import Derived.ProofKit
import Derived.Lib.SmallJoins
namespace Go.Proofs.Ytcmieknogpjnmaa.retryTotal
set_option linter.unusedVariables false
open Go.ChangeShapes Go.WideShapes Go.ChangeAt Go.RowKit Go.Joins
open Go.RI (rho0 renL ren)

open Go.RI in
theorem said (m f t c n0 : Int) (hm : fits m) (hf : fits f) (ht : fits t) (hc : fits c) (hn0 : fits n0) {G : RI.AHeap} (lo : Nat) (H : RI.AHeap) :
    theCalls IP G lo 6 [pol m f t c, .i .i64 n0] H = some (.b true, H) := t6 m f t c n0 lo H

theorem own : ownKnob Try.prog.godebug = none := by kernel_rfl
theorem cells3 : Try.prog.cellsOf 3 = 1 := by kernel_rfl
theorem cells23 : Try.prog.cellsOf 23 = 4 := by kernel_rfl

theorem fits_of_wf {n : Int} (h : (Lit.int .i64 n).wf = true) : fits n := by
  simp only [Lit.wf, Bool.and_eq_true, decide_eq_true_eq] at h
  exact h

theorem walk (m f t c n0 : Int) (hm : fits m) (hf : fits f) (ht : fits t) (hc : fits c) (hn0 : fits n0) (W : World) :
    Calls Try.prog 6 #[.agg #[.int .i64 m, .int .i64 f, .int .i64 t, .int .i64 c], .int .i64 n0] W fun e w' => e = .returned (.bool true) ∧ Grown W w' := by
  have h := RI.theCalls_knows (IP := IP) (G := RI.G0 Try.prog.globals.size) _ _ _ _ _ _ (said m f t c n0 hm hf ht hc hn0 (G := RI.G0 Try.prog.globals.size) Try.prog.globals.size (RI.G0 Try.prog.globals.size))
  have := RI.plain_calls (P := Try.prog) (Checked.mixed Try.checked) IP_ok rfl h rfl rfl W
  simpa [pol, renL, ren] using this

set_option maxRecDepth 100000 in
theorem lifted (os : Os) (started : os.Started) (H : Type) (enc : TypeId × Value → H) :
    ReturnsInHanded {} Try.checked os 6 .any (Rows.retryTotalSpec.pre6 enc Try.prog Try.f6 Rows.retryTotalRow.domain false) (Rows.retryTotalSpec.post enc Try.prog Try.f6 false true false false) := by
  refine returnsInHanded_of_change (C := Try.checked) own started (by kernel_rfl) Try.func6
    (ChangeSpec.witness6 (enc := enc) (C := Try.checked) false ⟨#[], #[.agg #[.int .i64 0, .int .i64 0, .int .i64 0, .int .i64 0], .int .i64 0], []⟩ 8 (by kernel_rfl) (by kernel_rfl) (by kernel_rfl) (by kernel_rfl)) ?_
  intro W base args ds gs before hval0 hW _ _
  have hval : ∀ (j : Nat) t v, Try.f6.params[j]? = some t → args[j]? = some v → Value.okWide Try.prog W .any base t v := hval0
  have hW' := hW
  obtain ⟨p, q, hA0, hV, rfl, _, _⟩ := hW
  have hA : DataW.TrodAll enc Try.prog W 0 (fun _ => true) true Try.f6.params.toList args.toList ds p := hA0
  rw [Try.params6] at hA hval
  obtain ⟨v0, v1, d0, d1, p0, p1, rfl, rfl, rfl, k0, k1⟩ := trodAll_two hA
  obtain ⟨rfl, rfl⟩ := trodVars_none hV
  obtain ⟨c0, c1, c2, c3, y0, y1, y2, y3, u, rfl, rfl, rfl, z0, z1, z2, z3⟩ := open_agg4 Try.underlying23 (by kernel_rfl) cells23 (hval 0 23 v0 rfl rfl) k0
  obtain ⟨a0, e0, rfl, wa0⟩ := DataW.trod_int Try.underlying3 z0
  obtain ⟨a1, e1, rfl, wa1⟩ := DataW.trod_int Try.underlying3 z1
  obtain ⟨a2, e2, rfl, wa2⟩ := DataW.trod_int Try.underlying3 z2
  obtain ⟨a3, e3, rfl, wa3⟩ := DataW.trod_int Try.underlying3 z3
  simp only [List.cons.injEq, and_true] at e0 e1 e2 e3
  subst e0 e1 e2 e3
  obtain ⟨b0, rfl, rfl, rfl, wb0⟩ := open_int Try.underlying3 (hval 1 3 v1 rfl rfl) k1
  clear hA0 hval0
  simp only [List.append_nil] at hW'
  have structReads : ∀ (W' : World) (sp : Nat → Bool), DataW.Trod enc Try.prog W' 0 sp true 23 (.agg #[.int .i64 a0, .int .i64 a1, .int .i64 a2, .int .i64 a3]) (.agg [.lit (.int .i64 a0), .lit (.int .i64 a1), .lit (.int .i64 a2), .lit (.int .i64 a3)]) [] := fun W' sp =>
    shut_agg4 (y0 := (.lit (.int .i64 a0), [])) (y1 := (.lit (.int .i64 a1), [])) (y2 := (.lit (.int .i64 a2), [])) (y3 := (.lit (.int .i64 a3), [])) Try.underlying23 (by kernel_rfl) cells23
      ⟨1, by simp [DataW.trod, Try.underlying3, wa0]⟩ ⟨1, by simp [DataW.trod, Try.underlying3, wa1]⟩ ⟨1, by simp [DataW.trod, Try.underlying3, wa2]⟩ ⟨1, by simp [DataW.trod, Try.underlying3, wa3]⟩
  refine (walk a0 a1 a2 a3 b0 (fits_of_wf wa0) (fits_of_wf wa1) (fits_of_wf wa2) (fits_of_wf wa3) (fits_of_wf wb0) W).mono fun e W' ⟨he, hg⟩ => ?_
  subst he
  exact ⟨_, rfl, post_of_same (pa := []) (pv := []) hW' (fun _ _ _ => trodAll_mk1 (shut_bool Try.underlying4 _)) (fun sp _ => trodAll_mk2 (structReads _ sp) (shut_int Try.underlying3 wb0)) (fun _ _ => rfl) rfl
    (hg.frame _) hg.2.1 (ok_one (by kernel_rfl) rfl (okWide_bool_mk Try.underlying4 _))⟩

theorem over : Rows.retryTotalRow.holds Try.pinned (OpenSpec.ofChange Rows.retryTotalSpec) :=
  OpenClaim.holds_of_wide 6 Try.f6 rfl rfl rfl rfl rfl rfl rfl ⟨rfl, rfl, rfl, rfl, rfl⟩ rfl rfl rfl rfl rfl (by kernel_rfl) Try.func6 (by kernel_rfl)
    (of_decide_eq_true (by kernel_rfl)) (by unfold Func.isWrapper; first | (rw [if_pos (by decide +kernel)]; kernel_rfl) | (rw [if_neg (by decide +kernel)]; exact ⟨rfl, rfl⟩))
    (fun os started H enc _ => lifted os started H enc)
end Go.Proofs.Ytcmieknogpjnmaa.retryTotal
namespace Go.Proofs.Ytcmieknogpjnmaa
theorem retryTotal_holds : Rows.RetryTotalSaid := retryTotal.over
#print axioms retryTotal_holds
end Go.Proofs.Ytcmieknogpjnmaa

