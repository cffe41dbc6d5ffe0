/- RI, part Z: the interpreter is the machine, with whatever fuel. Conditions: none. -/
import Derived.Test.YteoliiakbmomeaaRiY
import Derived.Scope
namespace Go.RI
open Go

section
variable {F : Fence} {n : Nat} {P : Program} {Q : Exit → Act → World → Prop} {a : Act} {w : World} {b : Frame} {k : List Go.Item} {cs : List Frame}
theorem stepR_scope {c : Code} : step P (lone (b.atR a (Go.Item.code (.scope c) :: k)) cs w) = .next (lone (b.atR a (Go.Item.code c :: Go.Item.inScope c :: k)) cs w) :=
  step_lone_go (by simp [stepG, stepG.exec, Frame.atR])
theorem stepR_inScope {c : Code} : step P (lone (b.atR a (Go.Item.inScope c :: k)) cs w) = .next (lone (b.atR a k) cs w) :=
  step_lone_go (by simp [stepG, stepG.exec, Frame.atR])
theorem wpIn_scope_straight {c : Code} (h : c.wpIn F n P (Exit.noGoto Q) a w) : (Code.scope c).wpIn F n P Q a w := by
  intro b k cs hro hb hr
  have h0 : (lone (b.atR a (Go.Item.code (.scope c) :: k)) cs w).fenced P F := fenced_calm hb hr rfl
  obtain ⟨e, a₁, w₁, hq, harr⟩ := h b (Go.Item.inScope c :: k) cs hro hb hr
  cases e with
  | normal => exact ⟨.normal, a₁, w₁, hq, .head h0 stepR_scope (StepsIn.trans harr (.one (fenced_calm hb hr rfl) stepR_inScope))⟩
  | exit id => exact ⟨.exit id, a₁, w₁, hq, fun k' hk => .head h0 stepR_scope (harr.1 k' (by simp [exitTo, hk])),
      fun hr' hk => let ⟨k₁, h1, h2⟩ := harr.2 hr' (by simp [exitTo, hk]); ⟨k₁, h1, .head h0 stepR_scope h2⟩⟩
  | goto l => exact hq.elim
  | ret => exact ⟨_, a₁, w₁, hq, .of_steps (.one h0 stepR_scope) harr⟩
  | panic ch => exact ⟨_, a₁, w₁, hq, .of_steps (.one h0 stepR_scope) harr⟩
  | outgrown => exact ⟨_, a₁, w₁, hq, .of_steps (.one h0 stepR_scope) harr⟩
end
section
variable {P : Program} {G : AHeap}

theorem exec_sim (hm : P.follows .mixedOrders = true) {IP : FuncId → Option IFunc} (htab : TabOK P IP) (hg : G.next = P.globals.size) (hgo : GOk G) : ∀ f, ExecOK P IP G f ∧ RoundsOK P IP G f ∧ ∀ lo, G.next ≤ lo → CallOK P G lo (callI (exec IP G f) IP G lo) := by
  intro f
  induction f with
  | zero =>
    have h0 : ExecOK P IP G 0 := by
      intro R m ds nt lo hlo c hs ic hs' hc ρ D e a H w r x e' H' h; simp [exec] at h
    refine ⟨h0, ?_, fun lo hlo => calls_sim hm htab hg hgo h0 (fun F hF => by omega) hlo⟩
    · intro R m ds nt lo hlo c hs ic hs' hc ρ D e a H w r x e' H' h; simp [exec] at h
  | succ f ih =>
    obtain ⟨ihe, ihr, ihc⟩ := ih
    suffices hs : ExecOK P IP G (f + 1) ∧ RoundsOK P IP G (f + 1) from ⟨hs.1, hs.2, fun lo hlo => calls_sim hm htab hg hgo hs.1 (fun F hF => (show f = F by omega) ▸ ⟨ihe, ihc⟩) hlo⟩
    refine ⟨?_, ?_⟩
    · intro R m ds nt lo hlo c hs ic hs' hc ρ D e a H w r x e' H' h Q hQ
      cases c <;> simp only [trCode] at hc
      case skip =>
        split at hc
        · cases hc
        · cases hc
          simp only [exec] at h
          cases h
          exact wpIn_skip (hQ ρ D a w (Step.refl lo ρ D H w r.heap.lt) r.heap r.slots)
        · rename_i kill hs2 _
          cases hc
          simp only [exec, itemsI] at h
          cases h
          exact wpIn_skip (hQ ρ D a w (Step.refl lo ρ D H w r.heap.lt) r.heap (r.slots.kill _))
      case region id ops draw =>
        split at hc
        · cases hc
        · rename_i order kill hs2
          split at hc
          · rename_i xs hxs
            cases hc
            simp only [exec] at h
            split at h
            · rename_i e1 H1 hit
              cases h
              exact draw_or hm (ihc lo hlo) hlo hxs r hit fun ρ' D' a' w' g1 g2 g3 => hQ ρ' D' a' w' g1 g2 (g3.kill kill)
            · cases h
          · cases hc
      case seq ca cb =>
        split at hc
        · rename_i ia hs1 h1
          split at hc
          · rename_i ib hs2 h2
            cases hc
            simp only [exec] at h
            refine wpIn_seq ?_
            split at h
            · rename_i e1 H1 hx
              refine ihe R m ds nt lo hlo ca hs ia hs1 h1 ρ D e a H w r .normal e1 H1 hx _ fun ρ' D' a' w' g1 g2 g3 => ?_
              refine ihe R m ds nt lo hlo cb hs1 ib hs' h2 ρ' D' e1 a' H1 w' ⟨hg, hgo, g2, g3⟩ x e' H' h Q fun ρ2 D2 a2 w2 k1 k2 k3 => hQ ρ2 D2 a2 w2 (g1.trans k1) k2 k3
            · rename_i hne
              refine ihe R m ds nt lo hlo ca hs ia hs1 h1 ρ D e a H w r x e' H' h _ fun ρ' D' a' w' g1 g2 g3 => ?_
              have := hQ ρ' D' a' w' g1 g2 g3
              cases x with
              | normal => exact (hne _ _ h).elim
              | exit id => exact this
              | ret => exact this
          · cases hc
        · cases hc
      case cond co ca cb =>
        split at hc
        · rename_i ic' ia hs1 h0 h1
          split at hc
          · rename_i ib hs2 h2
            cases hc
            simp only [exec] at h
            split at h
            · rename_i hv
              obtain ⟨g1, _⟩ := opd_sim r h0 hv
              exact wpIn_cond_true (by rw [g1]; rfl) (ihe R m ds nt lo hlo ca hs ia hs1 h1 ρ D e a H w r x e' H' h Q hQ)
            · rename_i hv
              obtain ⟨g1, _⟩ := opd_sim r h0 hv
              exact wpIn_cond_false (by rw [g1]; rfl) (ihe R m ds nt lo hlo cb hs1 ib hs' h2 ρ D e a H w r x e' H' h Q hQ)
            · cases h
          · cases hc
        · cases hc
      case block id cb =>
        split at hc
        · rename_i ib hs1 h1
          cases hc
          simp only [exec] at h
          refine wpIn_block ?_
          split at h
          · rename_i id' e1 H1 hx
            refine ihe R m ds nt lo hlo cb hs ib hs' h1 ρ D e a H w r (.exit id') e1 H1 hx _ fun ρ' D' a' w' g1 g2 g3 => ?_
            show (if id' = id then Q .normal a' w' else Q (.exit id') a' w')
            split at h
            · rename_i hid
              cases h
              rw [if_pos hid]
              exact hQ ρ' D' a' w' g1 g2 g3
            · rename_i hid
              cases h
              rw [if_neg hid]
              exact hQ ρ' D' a' w' g1 g2 g3
          · rename_i hne
            refine ihe R m ds nt lo hlo cb hs ib hs' h1 ρ D e a H w r x e' H' h _ fun ρ' D' a' w' g1 g2 g3 => ?_
            have := hQ ρ' D' a' w' g1 g2 g3
            cases x with
            | normal => exact this
            | exit id' => exact (hne _ _ _ h).elim
            | ret => exact this
        · cases hc
      case loop cb =>
        split at hc
        · rename_i ib hs1 h1
          cases hc
          refine wpIn_loop_rounds (f + 1) ?_
          show cb.wpIn (FR R) m P (Exit.then (Code.roundsIn (FR R) m P cb Q f) Q) a w
          simp only [exec] at h
          split at h
          · rename_i e1 H1 hx
            refine ihe R m ds nt lo hlo cb hs ib hs' h1 ρ D e a H w r .normal e1 H1 hx _ fun ρ' D' a' w' g1 g2 g3 => ?_
            refine ihr R m ds nt lo hlo cb hs ib hs' h1 ρ' D' e1 a' H1 w' ⟨hg, hgo, g2, g3⟩ x e' H' h Q fun ρ2 D2 a2 w2 k1 k2 k3 => hQ ρ2 D2 a2 w2 (g1.trans k1) k2 k3
          · rename_i hne
            refine ihe R m ds nt lo hlo cb hs ib hs' h1 ρ D e a H w r x e' H' h _ fun ρ' D' a' w' g1 g2 g3 => ?_
            have := hQ ρ' D' a' w' g1 g2 g3
            cases x with
            | normal => exact (hne _ _ h).elim
            | exit id => exact this
            | ret => exact this
        · cases hc
      case exit id =>
        cases hc
        simp only [exec] at h
        cases h
        exact wpIn_exit (hQ ρ D a w (Step.refl lo ρ D H w r.heap.lt) r.heap r.slots)
      case ret =>
        cases hc
        simp only [exec] at h
        cases h
        exact wpIn_ret (hQ ρ D a w (Step.refl lo ρ D H w r.heap.lt) r.heap r.slots)
      case scope cb =>
        split at hc
        · rename_i ib hs1 h1
          cases hc
          simp only [exec] at h
          have h' : exec IP G f lo ib e H = some (x, e', H') := by
            cases f with
            | zero => simp [exec] at h
            | succ f => simpa [exec] using h
          refine wpIn_scope_straight (ihe R m ds nt lo hlo cb hs ib hs' h1 ρ D e a H w r x e' H' h' _ fun ρ' D' a' w' g1 g2 g3 => ?_)
          have := hQ ρ' D' a' w' g1 g2 g3
          cases x <;> exact this
        · cases hc
      case label l =>
        cases hc
        simp only [exec] at h
        cases h
        exact wpIn_label (hQ ρ D a w (Step.refl lo ρ D H w r.heap.lt) r.heap r.slots)
      all_goals cases hc
    · intro R m ds nt lo hlo cb hs ib hs' h1 ρ D e a H w r x e' H' h Q hQ
      show cb.wpIn (FR R) m P (Exit.then (Code.roundsIn (FR R) m P cb Q f) Q) a w
      simp only [exec] at h
      split at h
      · rename_i e1 H1 hx
        refine ihe R m ds nt lo hlo cb hs ib hs' h1 ρ D e a H w r .normal e1 H1 hx _ fun ρ' D' a' w' g1 g2 g3 => ?_
        refine ihr R m ds nt lo hlo cb hs ib hs' h1 ρ' D' e1 a' H1 w' ⟨hg, hgo, g2, g3⟩ x e' H' h Q fun ρ2 D2 a2 w2 k1 k2 k3 => hQ ρ2 D2 a2 w2 (g1.trans k1) k2 k3
      · rename_i hne
        refine ihe R m ds nt lo hlo cb hs ib hs' h1 ρ D e a H w r x e' H' h _ fun ρ' D' a' w' g1 g2 g3 => ?_
        have := hQ ρ' D' a' w' g1 g2 g3
        cases x with
        | normal => exact (hne _ _ h).elim
        | exit id => exact this
        | ret => exact this

/-- The interpreter's call is the machine's. -/
theorem acall_sim (hm : P.follows .mixedOrders = true) {IP : FuncId → Option IFunc} (htab : TabOK P IP) (hg : G.next = P.globals.size) (hgo : GOk G) (f : Nat) {lo : Nat} (hlo : G.next ≤ lo) : CallOK P G lo (acall IP G f lo) :=
  (exec_sim hm htab hg hgo f).2.2 lo hlo

end
end Go.RI
