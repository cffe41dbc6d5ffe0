import Derived.Test.YtpkhhphpjhfoiaaGreatDoorM04
import Derived.ChangeSame
import Derived.RowKit3
import Derived.LaidLaws
import Derived.Lib.LaidTab
set_option linter.unusedVariables false
set_option linter.unusedSimpArgs false
set_option linter.unusedSectionVars false
/- RI, part TG: the whole interpreter at both levels; pure calls. Conditions: none. -/
namespace Go.RI
open Go
set_option linter.unusedSimpArgs false
set_option linter.unusedVariables false

/-! ### What was loaded ahead -/
def ckRe (g : Nat) : List (Nat × IOp × Option (Nat × Bool)) → Bool
  | [] => true
  | (_, o, _) :: l => o.ck g && ckRe g l
def ckI (g : Nat) : List Item → Bool
  | [] => true
  | x :: l => x.op.ck g && (ckRe g x.re && ckI g l)
def ckC (g : Nat) : ICode → Bool
  | .skip | .exit _ | .ret => true
  | .region xs _ => ckI g xs
  | .seq a b => ckC g a && ckC g b
  | .cond c a b => c.ck g && (ckC g a && ckC g b)
  | .block _ b => ckC g b
  | .loop b => ckC g b

section
variable {G : AHeap} {ρ : Nat → Nat} {S T : Stab} {H A : AHeap} {e a : Env} {lo loA : Nat}

mutual
theorem same_RV {N : Nat} {k : Nat} : ∀ (v v' u u' : AVal), same v v' = true → RV ρ N S T v k u → RV ρ N S T v' k u' → same u u' = true
  | .b _, v', u, u', h, h1, h2 => by cases v' <;> simp only [same] at h <;> (try (cases h; done)); rw [boolT h1, boolT h2]; simpa [same] using h
  | .i _ _, v', u, u', h, h1, h2 => by cases v' <;> simp only [same] at h <;> (try (cases h; done)); rw [intT h1, intT h2]; simpa [same] using h
  | .s _, v', u, u', h, h1, h2 => by cases v' <;> simp only [same] at h <;> (try (cases h; done)); rw [strT h1, strT h2]; simpa [same] using h
  | .np, v', u, u', h, h1, h2 => by cases v' <;> simp only [same] at h <;> (try (cases h; done)); simp only [RV] at h1 h2; subst h1 h2; rfl
  | .ns, v', u, u', h, h1, h2 => by cases v' <;> simp only [same] at h <;> (try (cases h; done)); simp only [RV] at h1 h2; subst h1 h2; rfl
  | .nf, v', u, u', h, h1, h2 => by cases v' <;> simp only [same] at h <;> (try (cases h; done)); simp only [RV] at h1 h2; subst h1 h2; rfl
  | .nm, v', u, u', h, h1, h2 => by cases v' <;> simp only [same] at h <;> (try (cases h; done)); simp only [RV] at h1 h2; subst h1 h2; rfl
  | .es _, v', u, u', h, h1, h2 => by cases v' <;> simp only [same] at h <;> (try (cases h; done)); simp only [RV] at h1 h2; subst h1 h2; simpa [same] using h
  | .nif, v', u, u', h, h1, h2 => by cases v' <;> simp only [same] at h <;> (try (cases h; done)); simp only [RV] at h1 h2; subst h1 h2; rfl
  | .p id off, v', u, u', h, h1, h2 => by
    cases v' <;> simp only [same] at h <;> (try (cases h; done))
    simp only [Bool.and_eq_true, beq_iff_eq] at h
    obtain ⟨rfl, rfl⟩ := h
    simp only [RV] at h1 h2
    obtain ⟨_, _, rfl⟩ := h1; obtain ⟨_, _, rfl⟩ := h2
    simp [same]
  | .sl id off len cap, v', u, u', h, h1, h2 => by
    cases v' <;> simp only [same] at h <;> (try (cases h; done))
    simp only [Bool.and_eq_true, beq_iff_eq] at h
    obtain ⟨⟨⟨rfl, rfl⟩, rfl⟩, rfl⟩ := h
    simp only [RV] at h1 h2
    obtain ⟨_, _, rfl⟩ := h1; obtain ⟨_, _, rfl⟩ := h2
    simp [same]
  | .m id, v', u, u', h, h1, h2 => by
    cases v' <;> simp only [same] at h <;> (try (cases h; done))
    simp only [beq_iff_eq] at h
    subst h
    simp only [RV] at h1 h2
    obtain ⟨_, _, rfl⟩ := h1; obtain ⟨_, _, rfl⟩ := h2
    simp [same]
  | .fn f p q, v', u, u', h, h1, h2 => by
    cases v' <;> simp only [same] at h <;> (try (cases h; done))
    simp only [Bool.and_eq_true] at h
    simp only [RV] at h1 h2
    obtain ⟨a1, c1, rfl, g1, g2⟩ := h1; obtain ⟨a2, c2, rfl, g3, g4⟩ := h2
    simp only [same, Bool.and_eq_true]
    exact ⟨⟨h.1.1, same_RVL _ _ _ _ h.1.2 g1 g3⟩, same_RVL _ _ _ _ h.2 g2 g4⟩
  | .ag l, v', u, u', h, h1, h2 => by
    cases v' <;> simp only [same] at h <;> (try (cases h; done))
    simp only [RV] at h1 h2
    obtain ⟨a1, rfl, g1⟩ := h1; obtain ⟨a2, rfl, g3⟩ := h2
    simp only [same]
    exact same_RVL _ _ _ _ h g1 g3
  | .tu l, v', u, u', h, h1, h2 => by
    cases v' <;> simp only [same] at h <;> (try (cases h; done))
    simp only [RV] at h1 h2
    obtain ⟨a1, rfl, g1⟩ := h1; obtain ⟨a2, rfl, g3⟩ := h2
    simp only [same]
    exact same_RVL _ _ _ _ h g1 g3
  | .ifc t v, v', u, u', h, h1, h2 => by
    cases v' <;> simp only [same] at h <;> (try (cases h; done))
    simp only [Bool.and_eq_true] at h
    simp only [RV] at h1 h2
    obtain ⟨a1, rfl, g1⟩ := h1; obtain ⟨a2, rfl, g3⟩ := h2
    simp only [same, Bool.and_eq_true]
    exact ⟨h.1, same_RV _ _ _ _ h.2 g1 g3⟩
  | .fs _ _ _ _, v', u, u', h, h1, h2 => by cases v' <;> simp [same] at h
  | .fp _, v', u, u', h, h1, h2 => by cases v' <;> simp [same] at h
theorem same_RVL {N : Nat} {k : Nat} : ∀ (l l' m m' : List AVal), sameL l l' = true → RVL ρ N S T l k m → RVL ρ N S T l' k m' → sameL m m' = true
  | [], l', m, m', h, h1, h2 => by
    cases l' with
    | nil => simp only [RVL] at h1 h2; subst h1 h2; rfl
    | cons _ _ => simp [sameL] at h
  | v :: l, l', m, m', h, h1, h2 => by
    cases l' with
    | nil => simp [sameL] at h
    | cons v' l' =>
      simp only [sameL, Bool.and_eq_true] at h
      simp only [RVL] at h1 h2
      obtain ⟨u, r, rfl, g1, g2⟩ := h1; obtain ⟨u', r', rfl, g3, g4⟩ := h2
      simp only [sameL, Bool.and_eq_true]
      exact ⟨same_RV _ _ _ _ h.1 g1 g3, same_RVL _ _ _ _ h.2 g2 g4⟩
end

theorem wantedT (he : ER ρ H.next S T e a) {g : Option (Nat × Bool)} {b : Bool} (h : wantedI e g = some b) : wantedI a g = some b := by
  cases g with
  | none => exact h
  | some x =>
    obtain ⟨t, want⟩ := x
    simp only [wantedI] at h ⊢
    split at h
    · rename_i b' hv
      obtain ⟨u, h1, h2⟩ := he t _ hv
      rw [h1, boolT h2]; exact h
    · rename_i v hnb hv
      obtain ⟨u, h1, h2⟩ := he t _ hv
      rw [h1]
      have : ∀ b, u ≠ .b b := by
        intro b hb
        subst hb
        cases v <;> simp only [RV] at h2
        case b => exact hnb _ rfl
        case fs => obtain ⟨_, ⟨_, _, h2 | ⟨_, h2⟩ | ⟨_, _, _, h2, _⟩⟩ | ⟨_, _, _, _, _, _, h2, _⟩⟩ := h2 <;> cases h2
        case fp => obtain ⟨_, _, _, _, _, h2, _⟩ := h2; cases h2
        case p => obtain ⟨_, _, h2⟩ := h2; cases h2
        case sl => obtain ⟨_, _, h2⟩ := h2; cases h2
        case m => obtain ⟨_, _, h2⟩ := h2; cases h2
        case fn => obtain ⟨_, _, h2, _⟩ := h2; cases h2
        case ag => obtain ⟨_, h2, _⟩ := h2; cases h2
        case tu => obtain ⟨_, h2, _⟩ := h2; cases h2
        case ifc => obtain ⟨_, h2, _⟩ := h2; cases h2
        all_goals cases h2
      cases u <;> first
        | exact h
        | (exact (this _ rfl).elim)
    · cases h

theorem dynE_T (h : TR G ρ S T H A) (he : ER ρ H.next S T e a) {o : IOp} (hc : o.ck G.next = true) (hd : dynE o e = true) : dynE o a = true := by
  cases o <;> simp only [dynE] at hd ⊢ <;> try (cases hd; done)
  case slq esz x l hh m =>
    simp only [IOp.ck, Bool.and_eq_true] at hc
    split at hd
    · rename_i v l1 h1 m1 hu hl1 hh1 hm1
      obtain ⟨u', e1, e2⟩ := opdT h he hc.1 hu
      rw [e1, optT h he hc.2.1 hl1, optT h he hc.2.2.1 hh1, optT h he hc.2.2.2 hm1]
      exact dynS_T e2 hd
    · cases hd

mutual
/-- What there is in memory is itself. -/
theorem same_RVr {ρ : Nat → Nat} {N : Nat} {S T : Stab} : ∀ (v : AVal) (k : Nat) (u : AVal), RV ρ N S T v k u → same u u = true
  | .p id off, k, u, h => by simp only [RV] at h; rw [h.2.2]; simp [same]
  | .sl id off len cap, k, u, h => by simp only [RV] at h; rw [h.2.2]; simp [same]
  | .m id, k, u, h => by simp only [RV] at h; rw [h.2.2]; simp [same]
  | .fn f a c, k, u, h => by
    simp only [RV] at h
    obtain ⟨a', c', rfl, h1, h2⟩ := h
    simp [same, same_RVLr a k a' h1, same_RVLr c k c' h2]
  | .ag l, k, u, h => by simp only [RV] at h; obtain ⟨l', rfl, h1⟩ := h; simp [same, same_RVLr l k l' h1]
  | .tu l, k, u, h => by simp only [RV] at h; obtain ⟨l', rfl, h1⟩ := h; simp [same, same_RVLr l k l' h1]
  | .ifc t v, k, u, h => by simp only [RV] at h; obtain ⟨v', rfl, h1⟩ := h; simp [same, same_RVr v k v' h1]
  | .fs tmp full len l, k, u, h => by
    simp only [RV] at h
    obtain ⟨_, ⟨_, _, rfl | ⟨_, rfl⟩ | ⟨_, _, _, rfl, _⟩⟩ | ⟨_, _, _, _, _, _, rfl, _⟩⟩ := h <;> simp [same]
  | .fp l, k, u, h => by simp only [RV] at h; obtain ⟨_, _, _, _, _, rfl, _⟩ := h; simp [same]
  | .b _, k, u, h => by simp only [RV] at h; rw [h]; simp [same]
  | .i _ _, k, u, h => by simp only [RV] at h; rw [h]; simp [same]
  | .s _, k, u, h => by simp only [RV] at h; rw [h]; simp [same]
  | .np, k, u, h => by simp only [RV] at h; rw [h]; simp [same]
  | .ns, k, u, h => by simp only [RV] at h; rw [h]; simp [same]
  | .nf, k, u, h => by simp only [RV] at h; rw [h]; simp [same]
  | .nm, k, u, h => by simp only [RV] at h; rw [h]; simp [same]
  | .nif, k, u, h => by simp only [RV] at h; rw [h]; simp [same]
  | .es _, k, u, h => by simp only [RV] at h; rw [h]; simp [same]
theorem same_RVLr {ρ : Nat → Nat} {N : Nat} {S T : Stab} : ∀ (l : List AVal) (k : Nat) (l' : List AVal), RVL ρ N S T l k l' → sameL l' l' = true
  | [], k, l', h => by simp only [RVL] at h; rw [h]; rfl
  | v :: l, k, l', h => by
    simp only [RVL] at h
    obtain ⟨u, r, rfl, h1, h2⟩ := h
    simp [sameL, same_RVr v k u h1, same_RVLr l k r h2]
end
theorem look_mono {S S' T : Stab} (hs : ∀ id x, S id = some x → S' id = some x) {id : Nat} {x : List AVal × Nat} (hn : S id = none → S' id = none) (h : look true S T id = some x) : look true S' T id = some x := by
  unfold look at h ⊢
  cases hS : S id with
  | some y => rw [hS] at h; rw [hs id y hS]; exact h
  | none => rw [hS] at h; rw [hn hS]; exact h

theorem ldT {ρ1 : Nat → Nat} {S1 : Stab} {H1 A1 : AHeap} {dst : Option Nat} {o : IOp} (h0 : TR G ρ S T H A) (he0 : ER ρ H.next S T e a) (m : Mono ρ S H A ρ1 S1 H1 A1) (h : TR G ρ1 S1 T H1 A1) (hr : ldE o dst e H H1 = true) : ldE o dst a A A1 = true := by
  unfold ldE at hr ⊢
  split at hr
  · rename_i n s
    rw [Bool.and_eq_true] at hr ⊢
    refine ⟨hr.1, ?_⟩
    have hp := hr.2
    split at hp
    · rename_i lp hs
      obtain ⟨up, g1, g2⟩ := he0 s _ hs
      obtain ⟨v, hv⟩ := Option.isSome_iff_exists.1 hp
      obtain ⟨u, q2, q3⟩ := loadT h0 g2 hv
      simp only [RV] at g2
      obtain ⟨_, id, off, c, esz, rfl, hl, _⟩ := g2
      obtain ⟨hlt, ro0, q0⟩ := h0.stab id c esz hl
      obtain ⟨_, ro1, q1⟩ := h.stab id c esz (look_mono m.ss (fun hn => by rw [m.ssn id hlt]; exact hn) hl)
      have e0 : loadV A n (.p id off) = loadV A1 n (.p id off) := by
        simp only [loadV, rowAt, q0, q1]
      rw [g1]
      simp only
      rw [← e0, q2]
      exact same_RVr _ _ _ q3
    · rename_i p hnf hs
      obtain ⟨up, g1, g2⟩ := he0 s _ hs
      split at hp
      · rename_i v v' hv hv'
        have hvv := same_eq _ _ hp
        obtain ⟨u, q2, q3⟩ := loadT h0 g2 hv
        obtain ⟨u', q4, q5⟩ := loadT h (m.val h0 h g2) hv'
        have hs2 := same_RV v v' u u' hp (m.val h0 h q3) q5
        rw [g1]
        split
        · rename_i l2 heq
          cases heq
          rw [q2]; rfl
        · rename_i p2 _ heq
          cases heq
          rw [q2, q4]; exact hs2
        · rename_i heq; cases heq
      · cases hp
    · cases hp
  · cases hr
theorem reT {ρ1 : Nat → Nat} {S1 : Stab} {H1 A1 : AHeap} {e1 a1 : Env} {dst : Option Nat} (h0 : TR G ρ S T H A) (he0 : ER ρ H.next S T e a) (m : Mono ρ S H A ρ1 S1 H1 A1)
    (h : TR G ρ1 S1 T H1 A1) (hg : G.next ≤ lo) (hlo : LoT ρ1 H1 lo loA) (he : ER ρ1 H1.next S1 T e1 a1) : ∀ {l : List (Nat × IOp × Option (Nat × Bool))}, ckRe G.next l = true → reOk lo dst e H e1 H1 l = true → reOk loA dst a A a1 A1 l = true := by
  intro l
  induction l with
  | nil => intro _ _; rfl
  | cons x l ih =>
    obtain ⟨t, o, g⟩ := x
    intro hc hr
    simp only [ckRe, Bool.and_eq_true] at hc
    simp only [reOk, Bool.and_eq_true] at hr ⊢
    refine ⟨?_, ih hc.2 hr.2⟩
    have hr1 := hr.1
    split at hr1
    · rename_i hw; rw [wantedT he hw]
    · rename_i hw
      rw [wantedT he hw]
      simp only
      cases hdy : dynE o e1 with
      | true => rw [dynE_T h he hc.1 hdy, Bool.true_or, Bool.true_or]
      | false =>
      rw [hdy, Bool.false_or] at hr1
      rw [Bool.or_eq_true] at hr1 ⊢
      rcases hr1 with hr1 | hr1
      · left
        rw [Bool.or_eq_true]
        right
        split at hr1
        · rename_i v v' H1 hv ho
          obtain ⟨u, h1, h2⟩ := he t _ hv
          obtain ⟨ρ', u', A', k1, k2, k3, k4⟩ := aopT h hg hlo he hc.1 ho
          rw [h1, k1]
          cases u' with
          | none => exact k4.elim
          | some u' => exact same_RV v v' u u' hr1 (k3.val h k2 h2) k4
        · cases hr1
      · right; exact ldT h0 he0 m h hr1
    · cases hr1

/-! ### Calls and items -/
structure CallT (G : AHeap) (lo loA : Nat) (call callA : CallI) : Prop where
  pu : call.pure = callA.pure
  sim : ∀ f args H v H', call f args H = some (v, H') → ∀ ρ S T A args', TR G ρ S T H A → LoT ρ H lo loA → loA ≤ A.next → RVL ρ H.next S T args 2 args' →
    ∃ ρ' S' v' A', callA f args' A = some (v', A') ∧ TR G ρ' S' T H' A' ∧ Mono ρ S H A ρ' S' H' A' ∧ RV ρ' H'.next S' T v 2 v'

theorem LoT.mono {ρ' : Nat → Nat} {S' : Stab} {H' A' : AHeap} (hlo : LoT ρ H lo loA) (hA : loA ≤ A.next) (m : Mono ρ S H A ρ' S' H' A') : LoT ρ' H' lo loA := fun i hi hl => by
  rcases Nat.lt_or_ge i H.next with h | h
  · rw [m.rho i h]; exact hlo i h hl
  · exact Nat.le_trans hA (m.new i h hi)

theorem ER.mono {ρ' : Nat → Nat} {S' : Stab} {H' A' : AHeap} (he : ER ρ H.next S T e a) (h : TR G ρ S T H A) (h' : TR G ρ' S' T H' A') (m : Mono ρ S H A ρ' S' H' A') : ER ρ' H'.next S' T e a := fun t v hv => by
  obtain ⟨u, h1, h2⟩ := he t v hv
  exact ⟨u, h1, m.val h h' h2⟩

theorem ER.put {N : Nat} (he : ER ρ N S T e a) {d : Option Nat} {v u : AVal} (hv : RV ρ N S T v 2 u) : ER ρ N S T (putD e d v) (putD a d u) := by
  cases d with
  | none => exact he
  | some t =>
    intro s w hw
    simp only [putD, Env.get_put] at hw ⊢
    split at hw
    · rename_i hs; cases hw; exact ⟨u, by rw [if_pos hs], hv⟩
    · rename_i hs; obtain ⟨u', h1, h2⟩ := he s w hw; exact ⟨u', by rw [if_neg hs]; exact h1, h2⟩

theorem get_kill_iff (l : List Nat) : ∀ (e : Env) (s : Nat), (e.kill l).get s = if s ∈ l then none else e.get s := by
  induction l with
  | nil => intro e s; simp [Env.kill]
  | cons t l ih =>
    intro e s
    simp only [Env.kill, ih, Env.get_del]
    by_cases h1 : s ∈ l
    · simp [h1]
    · by_cases h2 : s = t
      · simp [h2]
      · simp [h1, h2]

theorem ER.kill {N : Nat} (he : ER ρ N S T e a) (l : List Nat) : ER ρ N S T (e.kill l) (a.kill l) := by
  intro s w hw
  rw [get_kill_iff] at hw ⊢
  split at hw
  · cases hw
  · rename_i hs; rw [if_neg hs]; exact he s w hw

theorem opIT {call callA : CallI} (hc : CallT G lo loA call callA) (h : TR G ρ S T H A) (hg : G.next ≤ lo) (hlo : LoT ρ H lo loA) (hA : loA ≤ A.next) (he : ER ρ H.next S T e a) {o : IOp} (ho : o.ck G.next = true) {v : Option AVal} {H' : AHeap} (hs : opI call lo o e H = some (v, H')) :
    ∃ ρ' S' u A', opI callA loA o a A = some (u, A') ∧ TR G ρ' S' T H' A' ∧ Mono ρ S H A ρ' S' H' A' ∧ RV ρ' H'.next S' T (v.getD (.tu [])) 2 (u.getD (.tu [])) ∧ (u = none ↔ v = none) := by
  have plain : aop lo o e H = some (v, H') → (∀ r, aop loA o a A = r → opI callA loA o a A = r) → ∃ ρ' S' u A', opI callA loA o a A = some (u, A') ∧ TR G ρ' S' T H' A' ∧ Mono ρ S H A ρ' S' H' A' ∧ RV ρ' H'.next S' T (v.getD (.tu [])) 2 (u.getD (.tu [])) ∧ (u = none ↔ v = none) := by
    intro h1 h2
    obtain ⟨ρ', u, A', k1, k2, k3, k4⟩ := aopT h hg hlo he ho h1
    refine ⟨ρ', S, u, A', h2 _ k1, k2, k3, ?_, ?_⟩
    · cases v <;> cases u <;> simp only [Option.getD_none, Option.getD_some] <;> first
        | exact k4
        | exact k4.elim
        | exact RV_noId _ rfl
    · cases v <;> cases u <;> first
        | exact k4.elim
        | simp
  cases o
  case call f args =>
    simp only [opI] at hs ⊢
    simp only [IOp.ck] at ho
    split at hs
    · rename_i vs hvs
      split at hs
      · rename_i res H1 hcall
        cases hs
        obtain ⟨us, e1, e2⟩ := opdsT h he ho hvs
        obtain ⟨ρ', S', v', A', k1, k2, k3, k4⟩ := hc.sim _ _ _ _ _ hcall ρ S T A us h hlo hA e2
        rw [e1]
        simp only [k1]
        exact ⟨ρ', S', some v', A', rfl, k2, k3, k4, by simp⟩
      · cases hs
    · cases hs
  case callv x args =>
    simp only [opI] at hs ⊢
    simp only [IOp.ck, Bool.and_eq_true] at ho
    split at hs
    · rename_i f fst cap hx
      split at hs
      · rename_i vs hvs
        split at hs
        · rename_i res H1 hcall
          cases hs
          obtain ⟨us, e1, e2⟩ := opdsT h he ho.2 hvs
          obtain ⟨x', e3, e4⟩ := opdT h he ho.1 hx
          simp only [RV] at e4
          obtain ⟨fst', cap', rfl, e5, e6⟩ := e4
          obtain ⟨ρ', S', v', A', k1, k2, k3, k4⟩ := hc.sim _ _ _ _ _ hcall ρ S T A _ h hlo hA (RVL_append (RVL_append e5 e2) e6)
          rw [e3, e1]
          simp only [k1]
          exact ⟨ρ', S', some v', A', rfl, k2, k3, k4, by simp⟩
        · cases hs
      · cases hs
    · cases hs
  case inv x tbl args =>
    simp only [opI] at hs ⊢
    simp only [IOp.ck, Bool.and_eq_true] at ho
    split at hs
    · rename_i t v0 hx
      split at hs
      · rename_i f vs hf hvs
        split at hs
        · rename_i res H1 hcall
          cases hs
          obtain ⟨us, e1, e2⟩ := opdsT h he ho.2 hvs
          obtain ⟨x', e3, e4⟩ := opdT h he ho.1 hx
          simp only [RV] at e4
          obtain ⟨v0', rfl, e5⟩ := e4
          obtain ⟨ρ', S', v', A', k1, k2, k3, k4⟩ := hc.sim _ _ _ _ _ hcall ρ S T A (v0' :: us) h hlo hA (by simp only [RVL]; exact ⟨v0', us, rfl, e5, e2⟩)
          rw [e3]
          simp only [hf, e1]
          simp only [k1]
          exact ⟨ρ', S', some v', A', rfl, k2, k3, k4, by simp⟩
        · cases hs
      · cases hs
    · cases hs
  all_goals exact plain (by simpa only [opI] using hs) (fun r hr => by simpa only [opI] using hr)

theorem keepL_fp {fp : Bool} {ids : List Nat} {e : Env} : ∀ {l : List (Nat × IOp × Option (Nat × Bool))}, keepL false ids e l = true → keepL fp ids e l = true := by
  intro l
  induction l with
  | nil => intro _; rfl
  | cons x l ih =>
    obtain ⟨t, o, g⟩ := x
    intro h
    simp only [keepL, Bool.and_eq_true] at h ⊢
    refine ⟨?_, ih h.2⟩
    have h1 := h.1
    split at h1
    · split at h1
      · exact h1
      · cases h1
      · cases h1
    · cases h1
theorem keepLT {N : Nat} {ρ' : Nat → Nat} {S' : Stab} {H' A' : AHeap} (h' : TR G ρ' S' T H' A') (m : Mono ρ S H A ρ' S' H' A') {e' a' : Env} (he' : ER ρ' H'.next S' T e' a') {fp : Bool} {ids : List Nat} (hids : ∀ i ∈ ids, i < H.next) (hfp : fp = true → ∀ i ∈ ids, look true S' T (ρ i) = none) : ∀ {l : List (Nat × IOp × Option (Nat × Bool))}, ckRe G.next l = true → keepL fp ids e' l = true → keepL fp (ids.map ρ) a' l = true := by
  intro l
  induction l with
  | nil => intro _ _; rfl
  | cons x l ih =>
    obtain ⟨t, o, g⟩ := x
    intro hc hk
    simp only [ckRe, Bool.and_eq_true] at hc
    simp only [keepL, Bool.and_eq_true] at hk ⊢
    refine ⟨?_, ih hc.2 hk.2⟩
    have h1 := hk.1
    split at h1
    · rename_i n b
      have hcb : b.ck G.next = true := by simpa [IOp.ck] using hc.1
      split at h1
      · rename_i id off hb
        obtain ⟨u, g1, g2⟩ := opdT h' he' hcb hb
        simp only [RV] at g2
        obtain ⟨_, hid, rfl⟩ := g2
        rw [g1]
        simp only [Bool.not_eq_true', List.contains_eq_mem, decide_eq_false_iff_not] at h1 ⊢
        intro hm
        rw [List.mem_map] at hm
        obtain ⟨i, hi, he⟩ := hm
        have hi2 : i < H'.next := Nat.lt_of_lt_of_le (hids i hi) m.nextH
        rw [← m.rho i (hids i hi)] at he
        have := h'.inj i id hi2 hid he
        subst this; exact h1 hi
      · rename_i cs hb
        obtain ⟨u, g1, g2⟩ := opdT h' he' hcb hb
        simp only [RV] at g2
        obtain ⟨_, id, off, c, esz, rfl, hlk, _⟩ := g2
        rw [g1]
        simp only [Bool.not_eq_true', List.contains_eq_mem, decide_eq_false_iff_not]
        intro hm
        rw [List.mem_map] at hm
        obtain ⟨i, hi, he⟩ := hm
        have := hfp h1 i hi
        rw [he, hlk] at this; cases this
      · cases h1
    · cases h1
theorem keepT {ρ' : Nat → Nat} {S' : Stab} {H' A' : AHeap} (h : TR G ρ S T H A) (h' : TR G ρ' S' T H' A') (m : Mono ρ S H A ρ' S' H' A') (he : ER ρ H.next S T e a) {e' a' : Env} (he' : ER ρ' H'.next S' T e' a') {o : IOp} {re : List (Nat × IOp × Option (Nat × Bool))} (hco : o.ck G.next = true) (hc : ckRe G.next re = true)
    (hk : keepI H' o re e e' = true) : keepI A' o re a a' = true := by
  unfold keepI at hk ⊢
  split at hk
  · rename_i ids ht
    unfold touch at ht ⊢
    split at ht
    · rename_i esz bytes x y
      simp only [IOp.ck, Bool.and_eq_true] at hco
      split at ht
      · rename_i v hv
        obtain ⟨u, g1, g2⟩ := opdT h he hco.1 hv
        simp only [g1]
        cases v <;> simp only [touchV] at ht
        case ns => cases ht; simp only [RV] at g2; subst g2; exact keepLT (N := 0) h' m he' (fun i hi => by cases hi) (fun _ i hi => by cases hi) hc hk
        case es => cases ht; simp only [RV] at g2; subst g2; exact keepLT (N := 0) h' m he' (fun i hi => by cases hi) (fun _ i hi => by cases hi) hc hk
        case sl id off len cap =>
          simp only [RV] at g2
          obtain ⟨_, hid, rfl⟩ := g2
          cases cap with
          | none => simp only [touchV] at ht ⊢; cases ht; exact keepLT (N := 0) h' m he' (fun i hi => by simp at hi; subst hi; exact hid) (fun h => by simp [isSt] at h) hc hk
          | some c =>
            simp only [touchV] at ht ⊢
            split at ht
            · rename_i hcl; cases ht; rw [if_pos hcl]; exact keepLT (N := 0) h' m he' (fun i hi => by cases hi) (fun _ i hi => by cases hi) hc hk
            · rename_i hcl; cases ht; rw [if_neg hcl]; exact keepLT (N := 0) h' m he' (fun i hi => by simp at hi; subst hi; exact hid) (fun h => by simp [isSt] at h) hc hk
        case fs tmp full len l =>
          cases full with
          | false => cases ht
          | true =>
            simp only [touchV] at ht
            cases ht
            have fine : touchV u = some [] := by
              simp only [RV] at g2
              obtain ⟨_, ⟨_, _, rfl | ⟨_, rfl⟩ | ⟨id, off, cap, rfl, hcap⟩⟩ | ⟨_, id, off, cap, _, _, rfl, hcap, _⟩⟩ := g2
              · rfl
              · rfl
              · rw [hcap trivial]; rfl
              · rw [hcap trivial]; simp [touchV]
            rw [fine]
            exact keepLT (N := 0) h' m he' (fun i hi => by cases hi) (fun _ i hi => by cases hi) hc hk
        all_goals cases ht
      · cases ht
    · rename_i n x y
      simp only [IOp.ck, Bool.and_eq_true] at hco
      split at ht
      · rename_i id off hv
        cases ht
        obtain ⟨u, g1, g2⟩ := opdT h he hco.1 hv
        simp only [RV] at g2
        obtain ⟨_, hid, rfl⟩ := g2
        simp only [g1]
        have hid' : id < H'.next := Nat.lt_of_lt_of_le hid m.nextH
        have hr := m.rho id hid
        have hwr : wrO (H'.get id) = true → wrO (A'.get (ρ id)) = true ∧ look true S' T (ρ id) = none := by
          intro hw
          cases hg : H'.get id with
          | none => rw [hg] at hw; cases hw
          | some ob =>
            rw [hg] at hw
            obtain ⟨ob', k1, k2⟩ := h'.obj id ob hid' hg
            rw [hr] at k1
            refine ⟨by rw [k1]; exact (RO_wr k2).trans hw, ?_⟩
            rw [← hr]
            exact h'.excl id ob hid' hg hw
        cases hw : wrO (H'.get id) with
        | false =>
          simp only [isSt, List.all_cons, List.all_nil, hw, Bool.and_true, Bool.and_false] at hk ⊢
          exact keepL_fp (keepLT (N := 0) h' m he' (fun i hi => by simp at hi; subst hi; exact hid) (fun h => by cases h) hc hk)
        | true =>
          obtain ⟨w1, w2⟩ := hwr hw
          simp only [isSt, List.all_cons, List.all_nil, hw, w1, Bool.and_true] at hk ⊢
          exact keepLT (N := 0) h' m he' (fun i hi => by simp at hi; subst hi; exact hid) (fun _ i hi => by simp at hi; subst hi; exact w2) hc hk
      · cases ht
    · cases ht
  · cases hk

theorem skipT {call callA : CallI} (hc : CallT G lo loA call callA) {ρ : Nat → Nat} {S : Stab} {e a : Env} {H A : AHeap} (h : TR G ρ S T H A) (he : ER ρ H.next S T e a) {o : IOp} (ho : o.ck G.next = true) (hs : skipI call e o = true) : skipI callA a o = true := by
  cases o <;> simp only [skipI] at hs ⊢
  case call f args => first | (rw [← hc.pu]; exact hs) | (simp only [hc.pu] at hs; exact hs)
  case callv x args =>
    simp only [IOp.ck, Bool.and_eq_true] at ho
    unfold pureV at hs
    split at hs
    · rename_i f fst cap hx
      obtain ⟨x', e3, e4⟩ := opdT h he ho.1 hx
      simp only [RV] at e4
      obtain ⟨fst', cap', rfl, e5, e6⟩ := e4
      rw [e3]
      show callA.pure f = true
      first | (rw [← hc.pu]; exact hs) | (simp only [hc.pu] at hs; exact hs)
    · cases hs
  all_goals cases hs

theorem itemsT {call callA : CallI} (hc : CallT G lo loA call callA) (hg : G.next ≤ lo) : ∀ {xs : List Item} {ρ : Nat → Nat} {S : Stab} {e a : Env} {H A : AHeap} {e' : Env} {H' : AHeap}, ckI G.next xs = true → TR G ρ S T H A → LoT ρ H lo loA → loA ≤ A.next → ER ρ H.next S T e a → itemsI call lo xs e H = some (e', H') →
    ∃ ρ' S' a' A', itemsI callA loA xs a A = some (a', A') ∧ TR G ρ' S' T H' A' ∧ Mono ρ S H A ρ' S' H' A' ∧ ER ρ' H'.next S' T e' a' := by
  intro xs
  induction xs with
  | nil => intro ρ S e a H A e' H' _ h _ _ he hs; simp only [itemsI] at hs; cases hs; exact ⟨ρ, S, a, A, rfl, h, Mono.refl _ _ _ _, he⟩
  | cons x xs ih =>
    intro ρ S e a H A e' H' hck h hlo hA he hs
    simp only [ckI, Bool.and_eq_true] at hck
    simp only [itemsI] at hs ⊢
    split at hs
    · rename_i e1 H1 hi
      split at hs
      · rename_i hre
        have item : ∃ ρ1 S1 a1 A1, itemI callA loA x a A = some (a1, A1) ∧ TR G ρ1 S1 T H1 A1 ∧ Mono ρ S H A ρ1 S1 H1 A1 ∧ ER ρ1 H1.next S1 T e1 a1 := by
          simp only [itemI] at hi ⊢
          split at hi
          · cases hi
          · rename_i hw
            cases hi
            rw [wantedT he hw]
            exact ⟨ρ, S, _, A, rfl, h, Mono.refl _ _ _ _, he.put (RV_noId _ rfl)⟩
          · rename_i hw
            rw [wantedT he hw]
            simp only
            split at hi
            · rename_i v H2 ho
              cases hi
              obtain ⟨ρ', S', u, A', k1, k2, k3, k4, k5⟩ := opIT hc h hg hlo hA he hck.1 ho
              cases u with
              | none => have := k5.1 rfl; cases this
              | some u => rw [k1]; exact ⟨ρ', S', _, A', rfl, k2, k3, (he.mono h k2 k3).put k4⟩
            · rename_i H2 ho
              cases hi
              obtain ⟨ρ', S', u, A', k1, k2, k3, k4, k5⟩ := opIT hc h hg hlo hA he hck.1 ho
              cases u with
              | some u => have := k5.2 rfl; cases this
              | none => rw [k1]; exact ⟨ρ', S', _, A', rfl, k2, k3, (he.mono h k2 k3).put k4⟩
            · cases hi
        obtain ⟨ρ1, S1, a1, A1, k1, k2, k3, k4⟩ := item
        have hlo1 := hlo.mono hA k3
        have hA1 : loA ≤ A1.next := Nat.le_trans hA k3.nextA
        obtain ⟨ρ2, S2, a2, A2, g1, g2, g3, g4⟩ := ih hck.2.2 k2 hlo1 hA1 k4 hs
        refine ⟨ρ2, S2, a2, A2, ?_, g2, k3.trans g3, g4⟩
        rw [k1]
        simp only
        have hsk : skipI call e x.op = true → skipI callA a x.op = true := skipT hc h he hck.1
        have hre2 : (skipI callA a x.op || (keepI A1 x.op x.re a a1 || reOk loA x.dst a A a1 A1 x.re)) = true := by
          rw [Bool.or_eq_true, Bool.or_eq_true] at hre ⊢
          rcases hre with hre | hre | hre
          · left; exact hsk hre
          · right; left; exact keepT h k2 k3 he k4 hck.1 hck.2.1 hre
          · right; right; exact reT h he k3 k2 hg hlo1 k4 hck.2.1 hre
        rw [if_pos hre2]
        exact g1
      · cases hs
    · cases hs
end

/-! ### Snapshots and what is frozen -/
section
variable {G : AHeap} {ρ : Nat → Nat} {S T : Stab} {H A : AHeap}

/-- All rows that there are. -/
noncomputable def rowsOf (A : AHeap) : Stab := fun id => match A.get id with
  | some (.cells c esz _) => some (c, esz)
  | _ => none

theorem rows_look (h : TR G ρ S T H A) {id : Nat} {c : List AVal} {esz : Nat} {ro : Bool} (hg : A.get id = some (.cells c esz ro)) : look true S (rowsOf A) id = some (c, esz) := by
  unfold look
  cases hS : S id with
  | none => simp [rowsOf, hg]
  | some x =>
    obtain ⟨c2, e2⟩ := x
    obtain ⟨_, ro2, h2⟩ := h.stab id c2 e2 (by unfold look; rw [hS])
    rw [hg] at h2; cases h2; rfl

theorem rows_le (h : TR G ρ S T H A) (k : Nat) : LeS k S T S (rowsOf A) := ⟨fun _ _ h => h, fun _ id x hx => by
  obtain ⟨c, esz⟩ := x
  obtain ⟨_, ro, h2⟩ := h.stab id c esz hx
  exact rows_look h h2⟩

theorem mapO_len {f : AVal → Option AVal} : ∀ {l m : List AVal}, mapO f l = some m → m.length = l.length := by
  intro l
  induction l with
  | nil => intro m h; simp only [mapO, Option.some.injEq] at h; subst h; rfl
  | cons v l ih =>
    intro m h
    simp only [mapO] at h
    split at h
    · split at h
      · rename_i us hus; cases h; simp [ih hus]
      · cases h
    · cases h
theorem mapO_rel {f : AVal → Option AVal} {ρ ρ' : Nat → Nat} {N N' : Nat} {S T S' T' : Stab} {k k' : Nat} (hf : ∀ v w u, RV ρ N S T v k u → f v = some w → RV ρ' N' S' T' w k' u) : ∀ {l m l' : List AVal}, RVL ρ N S T l k l' → mapO f l = some m → RVL ρ' N' S' T' m k' l' := by
  intro l
  induction l with
  | nil => intro m l' h hm; simp only [RVL] at h; subst h; simp only [mapO, Option.some.injEq] at hm; subst hm; simp [RVL]
  | cons v l ih =>
    intro m l' h hm
    simp only [RVL] at h
    obtain ⟨u, r, rfl, h1, h2⟩ := h
    simp only [mapO] at hm
    split at hm
    · rename_i w hw
      split at hm
      · rename_i ws hws
        cases hm
        exact RVL_cons (hf v w u h1 hw) (ih h2 hws)
      · cases hm
    · cases hm

theorem rowO_T (h : TR G ρ S T H A) {id off len : Nat} (hid : id < H.next) {l : List AVal} (hl : rowO H id off len = some l) : ∃ c c' esz ro, H.get id = some (.cells c esz ro) ∧ A.get (ρ id) = some (.cells c' esz ro) ∧ off + len * esz ≤ c'.length ∧ l.length = len * esz ∧ RVL ρ H.next S T l 2 ((c'.drop off).take (len * esz)) := by
  unfold rowO at hl
  split at hl
  · rename_i c esz ro hg
    split at hl
    · rename_i hc
      cases hl
      obtain ⟨c', h1, h2⟩ := cellsT h hid hg
      have := RVL_len h2
      exact ⟨c, c', esz, ro, hg, h1, by omega, by simp; omega, RVL_take (RVL_drop h2 _) _⟩
    · cases hl
  · cases hl

theorem snapT (h : TR G ρ S T H A) {ρ0 : Nat → Nat} {N0 : Nat} : ∀ (n : Nat) (v w u : AVal), RV ρ H.next S T v 2 u → snapV H n v = some w → RV ρ0 N0 S (rowsOf A) w 1 u := by
  intro n
  induction n with
  | zero => intro v w u _ hs; simp [snapV] at hs
  | succ n ih =>
    intro v w u hv hs
    cases v <;> simp only [snapV] at hs
    case p id off =>
      split at hs
      · rename_i c esz ro hg
        split at hs
        · rename_i hoff
          rw [Option.map_eq_some_iff] at hs
          obtain ⟨l, hl, rfl⟩ := hs
          simp only [RV] at hv
          obtain ⟨_, hid, rfl⟩ := hv
          obtain ⟨c', h1, h2⟩ := cellsT h hid hg
          have hcl := RVL_len h2
          have hll := mapO_len hl
          simp only [List.length_drop] at hll
          have h3 := mapO_rel (fun v w u => ih v w u) (RVL_drop h2 off) hl
          simp only [RV]
          refine ⟨Nat.le_refl _, ρ id, off, c', esz, rfl, rows_look h h1, .inr (by omega), ?_⟩
          rw [List.take_of_length_le (by simp; omega)]
          exact h3
        · cases hs
      · cases hs
    case ns =>
      cases hs
      simp only [RV] at hv
      subst hv
      simp [RV]
    case es ad =>
      cases hs
      simp only [RV] at hv
      subst hv
      simp [RV]
    case sl id off len cap =>
      simp only [RV] at hv
      obtain ⟨_, hid, rfl⟩ := hv
      split at hs
      · rename_i h0
        cases hs
        subst h0
        simp [RV]
      · rename_i h0
        split at hs
        · rename_i hcap
          split at hs
          · rename_i l hl
            rw [Option.map_eq_some_iff] at hs
            obtain ⟨m, hm, rfl⟩ := hs
            obtain ⟨c, c', esz, ro, g1, g2, g3, g4, g5⟩ := rowO_T h hid hl
            have h3 := mapO_rel (fun v w u => ih v w u) g5 hm
            simp only [RV]
            refine ⟨fun _ => Nat.le_refl _, .inr ⟨by omega, ρ id, off, cap, c', esz, rfl, (fun e => by cases e), ?_, rows_look h g2, by rw [mapO_len hm]; exact g4, g3, h3⟩⟩
            intro m' hm'
            rw [hm'] at hcap
            simpa [capOk] using hcap
          · cases hs
        · cases hs
    case fn f a c =>
      simp only [RV] at hv
      obtain ⟨a', c', rfl, h1, h2⟩ := hv
      split at hs
      · rename_i a2 ha
        split at hs
        · rename_i c2 hc
          cases hs
          simp only [RV]
          exact ⟨a', c', rfl, mapO_rel (fun v w u => ih v w u) h1 ha, mapO_rel (fun v w u => ih v w u) h2 hc⟩
        · cases hs
      · cases hs
    case ag l =>
      rw [Option.map_eq_some_iff] at hs
      obtain ⟨m, hm, rfl⟩ := hs
      simp only [RV] at hv
      obtain ⟨l', rfl, h1⟩ := hv
      exact RV_ag (mapO_rel (fun v w u => ih v w u) h1 hm)
    case tu l =>
      rw [Option.map_eq_some_iff] at hs
      obtain ⟨m, hm, rfl⟩ := hs
      simp only [RV] at hv
      obtain ⟨l', rfl, h1⟩ := hv
      exact RV_tu (mapO_rel (fun v w u => ih v w u) h1 hm)
    case m id => cases hs
    case ifc t v =>
      rw [Option.map_eq_some_iff] at hs
      obtain ⟨m, hm, rfl⟩ := hs
      simp only [RV] at hv
      obtain ⟨v', rfl, h1⟩ := hv
      simp only [RV]
      exact ⟨v', rfl, ih _ _ _ h1 hm⟩
    case fs tmp full len l =>
      cases hs
      simp only [RV] at hv ⊢
      obtain ⟨_, hv⟩ := hv
      refine ⟨fun _ => Nat.le_refl _, ?_⟩
      rcases hv with ⟨h1, h2, h3⟩ | ⟨h1, id, off, cap, c, esz, h2, h3, h4, h5, h6, h7, h8⟩
      · refine .inl ⟨h1, h2, ?_⟩
        rcases h3 with h3 | h3 | ⟨id, off, cap, h3, _⟩
        · exact .inl h3
        · exact .inr (.inl h3)
        · exact .inr (.inr ⟨id, off, cap, h3, fun e => by cases e⟩)
      · have hlv : lv tmp ≤ 1 := by cases tmp <;> simp [lv]
        exact .inr ⟨h1, id, off, cap, c, esz, h2, fun e => (by cases e), h4, (rows_le h 1).look (fun _ => Nat.le_refl _) h5, h6, h7, RVL_mono (fun e => absurd e (by omega)) (rows_le h _) (Nat.le_refl _) (by omega) _ _ h8⟩
    case fp l =>
      cases hs
      simp only [RV] at hv ⊢
      obtain ⟨_, id, off, c, esz, h1, h2, h3, h4⟩ := hv
      exact ⟨Nat.le_refl _, id, off, c, esz, h1, (rows_le h 1).look (tmp := true) (fun _ => Nat.le_refl _) h2, h3, RVL_mono (fun e => absurd e (by omega)) (rows_le h _) (Nat.le_refl _) (by omega) _ _ h4⟩
    all_goals
      cases hs
      simp only [RV] at hv ⊢
      exact hv
end
end Go.RI

/- RI, part TL: what lies below a mark stays as it is. Conditions: none. -/
namespace Go.RI
open Go
set_option linter.unusedSimpArgs false
set_option linter.unusedVariables false

structure Low (lo : Nat) (H H' : AHeap) : Prop where
  next : H.next ≤ H'.next
  get : ∀ id, id < lo → id < H.next → H'.get id = H.get id

theorem Low.refl (lo : Nat) (H : AHeap) : Low lo H H := ⟨Nat.le_refl _, fun _ _ _ => rfl⟩
theorem Low.trans {lo : Nat} {H H1 H2 : AHeap} (a : Low lo H H1) (b : Low lo H1 H2) : Low lo H H2 :=
  ⟨Nat.le_trans a.next b.next, fun id h1 h2 => (b.get id h1 (Nat.lt_of_lt_of_le h2 a.next)).trans (a.get id h1 h2)⟩
theorem Low.push (lo : Nat) (H : AHeap) (o : AObj) : Low lo H (H.push o) := ⟨by rw [AHeap.next_push]; omega, fun id _ h => by rw [AHeap.get_push, if_neg (by omega)]⟩
theorem Low.put {lo : Nat} {H : AHeap} {n : Nat} (o : Option AObj) (h : lo ≤ n) : Low lo H (H.put n o) := ⟨Nat.le_refl _, fun id h1 _ => by rw [AHeap.get_put, if_neg (by omega)]⟩
theorem Low.ghost (lo : Nat) (H : AHeap) (o : Option AObj) : Low lo H { H with next := H.next + 1, tbl := H.tbl.put o (H.next + 1) H.next } :=
  ⟨Nat.le_succ _, fun id _ h => by
    have := Trie.get_put o (H.next + 1) H.tbl H.next id (Nat.lt_succ_self _)
    show (H.tbl.put o (H.next + 1) H.next).get id = H.tbl.get id
    rw [this, if_neg (by omega)]⟩

theorem storeV_low {lo n : Nat} {H H' : AHeap} {a v : AVal} (h : storeV lo H n a v = some H') : Low lo H H' := by
  unfold storeV at h
  split at h
  · split at h
    · rename_i hlo
      split at h
      · split at h
        · cases h; exact Low.put _ hlo
        · cases h
      · cases h
    · cases h
  · cases h
theorem mapupV_low {lo : Nat} {H H' : AHeap} {ag : Bool} {ks : List Nat} {k v m : AVal} (h : mapupV lo H ag ks k v m = some H') : Low lo H H' := by
  unfold mapupV at h
  split at h
  · split at h
    · rename_i hlo
      split at h
      · split at h
        · split at h
          · split at h
            · cases h; exact Low.put _ hlo.1
            · cases h; exact Low.put _ hlo.1
            · cases h
          · cases h
        · cases h
      · cases h
    · cases h
  · cases h
theorem slV_low {lo esz : Nat} {H H' : AHeap} {x v : AVal} {l h m : Option Nat} (hs : slV esz H x l h m = some (v, H')) : Low lo H H' := by
  unfold slV at hs
  simp only at hs
  repeat' split at hs
  all_goals first
    | (cases hs; done)
    | (cases hs; exact Low.refl _ _)
    | (cases hs; exact Low.ghost _ _ _)
theorem appV_low {lo esz bytes : Nat} {H H' : AHeap} {x y v : AVal} (hs : appV lo H esz bytes x y = some (v, H')) : Low lo H H' := by
  unfold appV at hs
  repeat' split at hs
  all_goals first
    | (cases hs; done)
    | (cases hs; exact Low.refl _ _)
    | (cases hs; exact Low.push _ _ _)
    | (cases hs; exact Low.put _ (by assumption))
    | (cases hs; exact Low.put _ (by rename_i h _ _ _ _ _ _; exact h))
    | (cases hs; refine (Low.put none ?_).trans (Low.push _ _ _); rename_i h _ _ _ _ _ _; exact h.1)
    | (cases hs; refine (Low.put none ?_).trans (Low.push _ _ _); simp_all)
theorem appzV_low {lo esz bytes : Nat} {z : List AVal} {k : Int} {H H' : AHeap} {x v : AVal} (hs : appzV lo H esz bytes z x k = some (v, H')) : Low lo H H' := by
  unfold appzV appB at hs
  repeat' split at hs
  all_goals first
    | (cases hs; done)
    | (cases hs; exact Low.refl _ _)
    | (cases hs; exact Low.push _ _ _)
    | (cases hs; exact Low.put _ (by assumption))
    | (cases hs; exact Low.put _ (by rename_i h _ _ _ _ _ _; exact h))
    | (cases hs; refine (Low.put none ?_).trans (Low.push _ _ _); rename_i h _ _ _ _ _ _; exact h.1)
    | (cases hs; refine (Low.put none ?_).trans (Low.push _ _ _); simp_all)
theorem cpyV_low {lo esz : Nat} {H H' : AHeap} {x y v : AVal} (hs : cpyV lo H esz x y = some (v, H')) : Low lo H H' := by
  unfold cpyV at hs
  simp only at hs
  repeat' split at hs
  all_goals first
    | (cases hs; done)
    | (cases hs; exact Low.refl _ _)
    | (cases hs; exact Low.put _ (by assumption))

theorem aop_low {lo : Nat} {o : IOp} {e : Env} {H H' : AHeap} {v : Option AVal} (h : aop lo o e H = some (v, H')) : Low lo H H' := by
  cases o <;> simp only [aop] at h
  case store n x v =>
    split at h
    · rw [Option.map_eq_some_iff] at h
      obtain ⟨H2, h1, h2⟩ := h
      cases h2
      exact storeV_low h1
    · cases h
  case mapup ag ks x k v =>
    split at h
    · rw [Option.map_eq_some_iff] at h
      obtain ⟨H2, h1, h2⟩ := h
      cases h2
      exact mapupV_low h1
    · cases h
  case sl esz x l hh m =>
    split at h
    · rw [Option.map_eq_some_iff] at h
      obtain ⟨⟨v2, H2⟩, h1, h2⟩ := h
      cases h2
      exact slV_low h1
    · cases h
  case slq esz x l hh m =>
    split at h
    · split at h
      · rename_i hsl
        split at h
        · cases h; exact Low.refl _ _
        · split at h
          · cases h; exact slV_low hsl
          · cases h
      · cases h
    · cases h
  case app esz bytes x y =>
    split at h
    · rw [Option.map_eq_some_iff] at h
      obtain ⟨⟨v2, H2⟩, h1, h2⟩ := h
      cases h2
      exact appV_low h1
    · cases h
  case appz esz bytes z x y =>
    split at h
    · rw [Option.map_eq_some_iff] at h
      obtain ⟨⟨v2, H2⟩, h1, h2⟩ := h
      cases h2
      exact appzV_low h1
    · cases h
  case cpy esz x y =>
    split at h
    · rw [Option.map_eq_some_iff] at h
      obtain ⟨⟨v2, H2⟩, h1, h2⟩ := h
      cases h2
      exact cpyV_low h1
    · cases h
  all_goals
    repeat' split at h
    all_goals first
      | (cases h; done)
      | (cases h; exact Low.refl _ _)
      | (cases h; exact Low.push _ _ _)
      | (rw [Option.map_eq_some_iff] at h; obtain ⟨u, _, h2⟩ := h; cases h2; exact Low.refl _ _)

def LowC (lo : Nat) (call : CallI) : Prop := ∀ f args H v H', call f args H = some (v, H') → Low lo H H'
def LowX (ex : ExI) : Prop := ∀ lo c e H x e' H', ex lo c e H = some (x, e', H') → Low lo H H'

theorem opI_low {call : CallI} {lo : Nat} (hc : LowC lo call) {o : IOp} {e : Env} {H H' : AHeap} {v : Option AVal} (h : opI call lo o e H = some (v, H')) : Low lo H H' := by
  cases o <;> simp only [opI] at h
  case call f args =>
    split at h
    · split at h
      · rename_i hcall; cases h; exact hc _ _ _ _ _ hcall
      · cases h
    · cases h
  case callv x args =>
    split at h
    · split at h
      · split at h
        · rename_i hcall; cases h; exact hc _ _ _ _ _ hcall
        · cases h
      · cases h
    · cases h
  case inv x tbl args =>
    split at h
    · split at h
      · split at h
        · rename_i hcall; cases h; exact hc _ _ _ _ _ hcall
        · cases h
      · cases h
    · cases h
  all_goals exact aop_low h

theorem itemsI_low {call : CallI} {lo : Nat} (hc : LowC lo call) : ∀ {xs : List Item} {e e' : Env} {H H' : AHeap}, itemsI call lo xs e H = some (e', H') → Low lo H H' := by
  intro xs
  induction xs with
  | nil => intro e e' H H' h; simp only [itemsI] at h; cases h; exact Low.refl _ _
  | cons x xs ih =>
    intro e e' H H' h
    simp only [itemsI] at h
    split at h
    · rename_i e1 H1 hi
      split at h
      · refine Low.trans ?_ (ih h)
        simp only [itemI] at hi
        split at hi
        · cases hi
        · cases hi; exact Low.refl _ _
        · split at hi
          · rename_i ho; cases hi; exact opI_low hc ho
          · rename_i ho; cases hi; exact opI_low hc ho
          · cases hi
      · cases h
    · cases h

theorem bodyI_low {ex : ExI} (hx : LowX ex) {fn : IFunc} {lo : Nat} {args : List AVal} {H H' : AHeap} {v : AVal} (h : bodyI ex fn lo args H = some (v, H')) : Low lo H H' := by
  unfold bodyI at h
  split at h
  · split at h
    · cases h
    · rename_i hex
      split at h
      · cases h; exact hx _ _ _ _ _ _ _ hex
      · cases h
    · cases h
  · cases h

theorem Low.up {n : Nat} {H H' : AHeap} (h : Low H.next H H') (lo : Nat) : Low lo H H' := ⟨h.next, fun id _ h2 => h.get id h2 h2⟩

theorem callI_low {ex : ExI} (hx : LowX ex) (IP : FuncId → Option IFunc) (G : AHeap) (lo : Nat) : LowC lo (callI ex IP G lo) := by
  intro f args H v H' h
  simp only [callI, callB] at h
  split at h
  · cases h
  · split at h
    · exact bodyI_low hx h
    · exact (bodyI_low hx h).up (n := 0) lo
    · split at h
      · split at h
        · split at h
          · cases h; exact Low.refl _ _
          · cases h
        · cases h
      · cases h
    · split at h
      · split at h
        · cases h; exact Low.refl _ _
        · cases h
      · cases h
    · unfold cloneB at h
      split at h
      · rw [Option.map_eq_some_iff] at h
        obtain ⟨v, _, h2⟩ := h
        cases h2; exact Low.refl _ _
      split at h
      · unfold cloneV at h
        split at h
        · cases h; exact Low.refl _ _
        · split at h
          · cases h; exact Low.push _ _ _
          · cases h
        · cases h
      · cases h

theorem exec_low (IP : FuncId → Option IFunc) (G : AHeap) : ∀ f, LowX (exec IP G f) := by
  intro f
  induction f with
  | zero => intro lo c e H x e' H' h; simp [exec] at h
  | succ f ih =>
    intro lo c e H x e' H' h
    cases c <;> rw [exec] at h
    case skip => cases h; exact Low.refl _ _
    case exit => cases h; exact Low.refl _ _
    case ret => cases h; exact Low.refl _ _
    case region items kill =>
      split at h
      · rename_i hi; cases h; exact itemsI_low (callI_low ih IP G lo) hi
      · cases h
    case seq a b =>
      split at h
      · rename_i ha; exact (ih _ _ _ _ _ _ _ ha).trans (ih _ _ _ _ _ _ _ h)
      · exact ih _ _ _ _ _ _ _ h
    case cond x0 a b =>
      split at h
      · exact ih _ _ _ _ _ _ _ h
      · exact ih _ _ _ _ _ _ _ h
      · cases h
    case block id b =>
      split at h
      · rename_i hb
        split at h <;> cases h <;> exact ih _ _ _ _ _ _ _ hb
      · exact ih _ _ _ _ _ _ _ h
    case loop b =>
      split at h
      · rename_i ha; exact (ih _ _ _ _ _ _ _ ha).trans (ih _ _ _ _ _ _ _ h)
      · exact ih _ _ _ _ _ _ _ h
end Go.RI

/- RI, part TM: slices.Clone, whose body tests for nil, at the plain level. Conditions: none. -/
namespace Go.RI
open Go
set_option linter.unusedSimpArgs false
set_option linter.unusedVariables false

theorem moreV_push {A : AHeap} (hw : Wf A) {esz : Nat} {u : AVal} {r : Nat × List AVal} (h : moreV A esz u = some r) (o : AObj) : moreV (A.push o) esz u = some r := by
  unfold moreV at h ⊢
  cases u <;> simp only at h ⊢ <;> try (exact h)
  case sl id off len cap =>
    split at h
    · rename_i h0; rw [if_pos h0]; exact h
    · rename_i h0
      rw [if_neg h0]
      rw [Option.map_eq_some_iff] at h
      obtain ⟨l, hl, he⟩ := h
      have : rowAt (A.push o) id off (len * esz) = some l := by
        unfold rowAt at hl ⊢
        have hid : id ≠ A.next := fun e => by subst e; rw [hw _ (Nat.le_refl _)] at hl; cases hl
        rw [AHeap.get_push, if_neg hid]; exact hl
      rw [this]; exact congrArg some he

def CloneX (exA : ExI) : Prop := ∀ (lo nt md esz bytes : Nat) (u : AVal) (A : AHeap) (n : Nat) (cells : List AVal), 0 < esz → 0 < bytes → cells.length = n * esz → (n ≠ 0 → (2 * n + 192) * bytes ≤ 281474976710656) → Wf A →
  (u = .ns ∨ (∃ a, u = .es a) ∨ ∃ id off len cap, u = .sl id off len cap) → moreV A esz u = some (n, cells) →
  ∃ v A', bodyI exA ⟨cloneCode esz bytes, nt, 1, [.t 2], md⟩ lo [u] A = some (v, A') ∧
    (n = 0 → (v = .ns ∧ A' = A) ∨ (v = .sl A.next 0 0 (some 0) ∧ A' = A.push (.cells [] esz false))) ∧
    (n ≠ 0 → v = .sl (A.next + 1) 0 n none ∧ A' = (A.push (.cells [] esz false)).push (.cells cells esz false))

theorem clone_exec (IP : FuncId → Option IFunc) (G : AHeap) (f : Nat) : CloneX (exec IP G (f + 6)) := by
  intro lo nt md esz bytes u A n cells he hb hl hbd hw hu hm
  have hm2 := moreV_push hw hm (.cells [] esz false)
  have hc : cells.length = n * esz ∧ 0 < esz ∧ 0 < bytes := ⟨hl, he, hb⟩
  have hnx : (A.push (.cells [] esz false)).next = A.next + 1 := rfl
  have hnil : u = .ns ∨ (u ≠ .ns ∧ eqNilV 0 u .ns = some false) := by
    rcases hu with rfl | ⟨a, rfl⟩ | ⟨id, off, len, cap, rfl⟩
    · exact .inl rfl
    · exact .inr ⟨by simp, rfl⟩
    · exact .inr ⟨by simp, rfl⟩
  rcases hnil with rfl | ⟨hne, hnil⟩
  · have h0 : n = 0 := by simp only [moreV, Option.some.injEq, Prod.mk.injEq] at hm; exact hm.1.symm
    subst h0
    refine ⟨.ns, A, ?_, fun _ => .inl ⟨rfl, rfl⟩, fun h => absurd rfl h⟩
    simp [bodyI, cloneCode, exec, itemsI, itemI, opI, aop, wantedI, putD, Env.put, Env.get, initEnv, Opd.eval, reOk, skipI, Env.kill, eqNilV, nilV, resI, tupI]
  · have happ : ∃ v A', appV lo (A.push (.cells [] esz false)) esz bytes (.sl A.next 0 0 (some 0)) u = some (v, A') ∧
        (n = 0 → v = .sl A.next 0 0 (some 0) ∧ A' = A.push (.cells [] esz false)) ∧ (n ≠ 0 → v = .sl (A.next + 1) 0 n none ∧ A' = (A.push (.cells [] esz false)).push (.cells cells esz false)) := by
      by_cases h0 : n = 0
      · refine ⟨_, _, ?_, fun _ => ⟨rfl, rfl⟩, fun h => absurd h0 h⟩
        subst h0
        simp [appV, hm2, hc]
      · refine ⟨_, _, ?_, fun h => absurd h h0, fun _ => ⟨rfl, rfl⟩⟩
        have := hbd h0
        simp [appV, hm2, hc, h0, this, hnx]
    obtain ⟨v, A', h1, h2, h3⟩ := happ
    refine ⟨v, A', ?_, fun h => .inr (h2 h), h3⟩
    simp [bodyI, cloneCode, exec, itemsI, itemI, opI, aop, wantedI, putD, Env.put, Env.get, initEnv, Opd.eval, reOk, skipI, Env.kill, hnil, resI, tupI, evalParts, fillA, h1]
end Go.RI

/- RI, part TH: what comes back from a pure call; the whole interpreter at both levels. Conditions: none. -/
namespace Go.RI
open Go
set_option linter.unusedSimpArgs false
set_option linter.unusedVariables false

/-- Rows behind a mark are from now on written by nobody. -/
noncomputable def frzS (n : Nat) (S : Stab) (A : AHeap) : Stab := fun id => if n ≤ id then rowsOf A id else S id

section
variable {G : AHeap} {ρ : Nat → Nat} {S T : Stab} {H A : AHeap}

theorem frzT {S0 T0 : Stab} {m : Nat} (h : TR G ρ S T H A) (hS : ∀ id, id < m → S id = S0 id) (hnew : ∀ i, G.next ≤ i → i < H.next → m ≤ ρ i) {ρ0 : Nat → Nat} {N0 : Nat} : ∀ (n : Nat) (v w u : AVal), RV ρ H.next S T v 2 u → frzV H G.next n v = some w → RV ρ0 N0 (frzS m S0 A) T0 w 0 u := by
  have hle : LeS 0 S T (frzS m S0 A) T0 := ⟨fun id x hx => by
    unfold frzS
    split
    · obtain ⟨c, esz⟩ := x
      obtain ⟨_, ro, h2⟩ := h.stab id c esz (by unfold look; rw [hx])
      simp [rowsOf, h2]
    · rename_i hlt; rw [← hS id (by omega)]; exact hx, fun hk => by omega⟩
  intro n
  induction n with
  | zero => intro v w u _ hs; simp [frzV] at hs
  | succ n ih =>
    intro v w u hv hs
    cases v <;> simp only [frzV] at hs
    case p id off => cases hs
    case fp l => cases hs
    case ns =>
      cases hs
      simp only [RV] at hv
      subst hv
      simp [RV]
    case es ad =>
      cases hs
      simp only [RV] at hv
      subst hv
      simp [RV]
    case sl id off len cap =>
      simp only [RV] at hv
      obtain ⟨_, hid, rfl⟩ := hv
      split at hs
      · rename_i h0
        cases hs
        subst h0
        simp [RV]
      · rename_i h0
        split at hs
        · rename_i hcap
          split at hs
          · rename_i l hl
            rw [Option.map_eq_some_iff] at hs
            obtain ⟨k, hm, rfl⟩ := hs
            obtain ⟨c, c', esz, ro, g1, g2, g3, g4, g5⟩ := rowO_T h hid hl
            have h3 := mapO_rel (fun v w u => ih v w u) g5 hm
            have hmr := hnew id hcap.1 hid
            simp only [RV]
            refine ⟨fun e => (by cases e), .inr ⟨by omega, ρ id, off, cap, c', esz, rfl, (fun e => by cases e), ?_, ?_, by rw [mapO_len hm]; exact g4, g3, h3⟩⟩
            · intro m' hm'
              have := hcap.2
              rw [hm'] at this
              simpa [capOk] using this
            · unfold look frzS
              rw [if_pos hmr]
              simp [rowsOf, g2]
          · cases hs
        · cases hs
    case fn f a c =>
      simp only [RV] at hv
      obtain ⟨a', c', rfl, h1, h2⟩ := hv
      split at hs
      · rename_i a2 ha
        split at hs
        · rename_i c2 hc
          cases hs
          simp only [RV]
          exact ⟨a', c', rfl, mapO_rel (fun v w u => ih v w u) h1 ha, mapO_rel (fun v w u => ih v w u) h2 hc⟩
        · cases hs
      · cases hs
    case ag l =>
      rw [Option.map_eq_some_iff] at hs
      obtain ⟨m, hm, rfl⟩ := hs
      simp only [RV] at hv
      obtain ⟨l', rfl, h1⟩ := hv
      exact RV_ag (mapO_rel (fun v w u => ih v w u) h1 hm)
    case tu l =>
      rw [Option.map_eq_some_iff] at hs
      obtain ⟨m, hm, rfl⟩ := hs
      simp only [RV] at hv
      obtain ⟨l', rfl, h1⟩ := hv
      exact RV_tu (mapO_rel (fun v w u => ih v w u) h1 hm)
    case m id => cases hs
    case ifc t v =>
      rw [Option.map_eq_some_iff] at hs
      obtain ⟨m, hm, rfl⟩ := hs
      simp only [RV] at hv
      obtain ⟨v', rfl, h1⟩ := hv
      simp only [RV]
      exact ⟨v', rfl, ih _ _ _ h1 hm⟩
    case fs tmp full len l =>
      split at hs
      · cases hs
      · rename_i htmp
        cases hs
        have : tmp = false := by simpa using htmp
        subst this
        simp only [RV] at hv ⊢
        obtain ⟨_, hv⟩ := hv
        refine ⟨fun e => (by cases e), ?_⟩
        rcases hv with ⟨h1, h2, h3⟩ | ⟨h1, id, off, cap, c, esz, h2, h3, h4, h5, h6, h7, h8⟩
        · refine .inl ⟨h1, h2, ?_⟩
          rcases h3 with h3 | h3 | ⟨id, off, cap, h3, _⟩
          · exact .inl h3
          · exact .inr (.inl h3)
          · exact .inr (.inr ⟨id, off, cap, h3, fun e => by cases e⟩)
        · exact .inr ⟨h1, id, off, cap, c, esz, h2, fun e => (by cases e), h4, hle.look (tmp := false) (fun e => by cases e) h5, h6, h7, RVL_mono (k := 0) (k' := 0) (fun e => absurd e (by omega)) hle (Nat.le_refl _) (by omega) _ _ h8⟩
    all_goals
      cases hs
      simp only [RV] at hv ⊢
      exact hv
end

/-! ### The interpreter -/
def ExT (G : AHeap) (ex exA : ExI) : Prop := ∀ lo loA c ρ S T H A e a x e' H', G.next ≤ lo → ckC G.next c = true → TR G ρ S T H A → LoT ρ H lo loA → loA ≤ A.next → ER ρ H.next S T e a → ex lo c e H = some (x, e', H') →
  ∃ ρ' S' a' A', exA loA c a A = some (x, a', A') ∧ TR G ρ' S' T H' A' ∧ Mono ρ S H A ρ' S' H' A' ∧ ER ρ' H'.next S' T e' a'

section
variable {G : AHeap} {ρ : Nat → Nat} {S T : Stab} {H A : AHeap} {e a : Env} {lo loA : Nat}

theorem initT {N : Nat} : ∀ {l l' : List AVal} (k : Nat), RVL ρ N S T l 2 l' → ER ρ N S T (initEnv k l) (initEnv k l') := by
  intro l
  induction l with
  | nil => intro l' k h t v hv; simp [initEnv, Env.get] at hv
  | cons x l ih =>
    intro l' k h t v hv
    simp only [RVL] at h
    obtain ⟨u, r, rfl, h1, h2⟩ := h
    simp only [initEnv, Env.get] at hv ⊢
    split at hv
    · rename_i ht; cases hv; exact ⟨u, by rw [if_pos ht], h1⟩
    · rename_i ht; obtain ⟨u', h3, h4⟩ := ih (k + 1) h2 t v hv; exact ⟨u', by rw [if_neg ht]; exact h3, h4⟩

theorem resT (h : TR G ρ S T H A) (he : ER ρ H.next S T e a) : ∀ {l : List IRes} {vs : List AVal}, resI e H l = some vs → ∃ us, resI a A l = some us ∧ RVL ρ H.next S T vs 2 us := by
  intro l
  induction l with
  | nil => intro vs hs; simp only [resI, Option.some.injEq] at hs; subst hs; exact ⟨[], rfl, by simp [RVL]⟩
  | cons x l ih =>
    intro vs hs
    cases x with
    | t n =>
      simp only [resI] at hs ⊢
      split at hs
      · rename_i v vs' h1 h2
        cases hs
        obtain ⟨u, e1, e2⟩ := he n v h1
        obtain ⟨us, e3, e4⟩ := ih h2
        rw [e1, e3]
        exact ⟨_, rfl, RVL_cons e2 e4⟩
      · cases hs
    | c n k =>
      simp only [resI] at hs ⊢
      split at hs
      · rename_i p hp
        obtain ⟨u, e1, e2⟩ := he n p hp
        rw [e1]
        simp only
        split at hs
        · rename_i v vs' h1 h2
          cases hs
          obtain ⟨w, e5, e6⟩ := loadT h e2 h1
          obtain ⟨us, e3, e4⟩ := ih h2
          rw [e5, e3]
          exact ⟨_, rfl, RVL_cons e6 e4⟩
        · cases hs
      · cases hs

theorem tupT {N : Nat} {vs us : List AVal} (h : RVL ρ N S T vs 2 us) : RV ρ N S T (tupI vs) 2 (tupI us) := by
  match vs, h with
  | [], h => simp only [RVL] at h; subst h; exact RV_noId _ rfl
  | [v], h =>
    simp only [RVL] at h
    obtain ⟨u, r, rfl, h1, rfl⟩ := h
    exact h1
  | v :: v2 :: vs, h =>
    have h0 := h
    simp only [RVL] at h
    obtain ⟨u, r, rfl, h1, u2, r2, rfl, h2⟩ := h
    exact RV_tu h0

theorem bodyT {ex exA : ExI} (hx : ExT G ex exA) {fn : IFunc} (hck : ckC G.next fn.body = true) (hg : G.next ≤ lo) (h : TR G ρ S T H A) (hlo : LoT ρ H lo loA) (hA : loA ≤ A.next) {args args' : List AVal} (ha : RVL ρ H.next S T args 2 args') {v : AVal} {H' : AHeap} (hs : bodyI ex fn lo args H = some (v, H')) :
    ∃ ρ' S' v' A', bodyI exA fn loA args' A = some (v', A') ∧ TR G ρ' S' T H' A' ∧ Mono ρ S H A ρ' S' H' A' ∧ RV ρ' H'.next S' T v 2 v' := by
  unfold bodyI at hs ⊢
  split at hs
  · rename_i hl
    rw [if_pos (by rw [RVL_len ha]; exact hl)]
    split at hs
    · cases hs
    · rename_i x e1 H1 hne hex
      obtain ⟨ρ', S', a', A', k1, k2, k3, k4⟩ := hx _ _ _ _ _ _ _ _ _ _ _ _ _ hg hck h hlo hA (initT 0 ha) hex
      rw [k1]
      split at hs
      · rename_i vs hvs
        cases hs
        obtain ⟨us, e3, e4⟩ := resT k2 k4 hvs
        cases x with
        | exit id => exact (hne id rfl).elim
        | normal => simp only; rw [e3]; exact ⟨ρ', S', _, A', rfl, k2, k3, tupT e4⟩
        | ret => simp only; rw [e3]; exact ⟨ρ', S', _, A', rfl, k2, k3, tupT e4⟩
      · cases hs
    · cases hs
  · cases hs

/-- The globals are rows that nobody writes, and name nothing. -/
def GOK (G : AHeap) : Prop := Wf G ∧ ∀ g o, G.get g = some o → ∃ c e, o = .cells c e true ∧ noIdL c = true

/-- The table below: pure calls are done in the heap that there is. -/
def pmode (b : ICode) (m : Nat) : Nat := match m with
  | 0 => 0
  | 1 => 1
  | 2 => 1
  | 3 => 1
  | _ + 4 => match isSkip b with
    | true => 4
    | false => 1
theorem pmode_zero {b : ICode} {m : Nat} (h : pmode b m = 0) : m = 0 := by
  match m with
  | 0 => rfl
  | 1 | 2 | 3 => simp [pmode] at h
  | m + 4 => simp only [pmode] at h; split at h <;> cases h
def plainP (IP : FuncId → Option IFunc) : FuncId → Option IFunc := fun f => (IP f).map fun fn => { fn with mode := pmode fn.body fn.mode }

def TabCk (g : Nat) (IP : FuncId → Option IFunc) : Prop := ∀ f fn, IP f = some fn → ckC g fn.body = true ∧ (4 ≤ fn.mode → isSkip fn.body = false → fn.np = 1 ∧ fn.res = [.t 2] ∧ ∃ esz bytes, 0 < esz ∧ 0 < bytes ∧ fn.body = cloneCode esz bytes)

/-- A pure call begins: the globals alone. -/
theorem TR.inner (hG : GOK G) (h : TR G ρ S T H A) : TR G (fun i => i) S (rowsOf A) G A where
  inj := fun i j _ _ e => e
  lt := fun i hi => Nat.lt_of_lt_of_le hi h.gA
  glob := fun g hg => ⟨rfl, rfl, (h.glob g hg).2.2⟩
  gH := Nat.le_refl _
  gA := h.gA
  obj := fun i o hi ho => by
    obtain ⟨c, e, rfl, hn⟩ := hG.2 i o ho
    exact ⟨_, ((h.glob i hi).2.2).trans ho, RO_cells (RV_noId.RVL_noId c hn)⟩
  stab := fun id c esz hl => by
    cases hS : S id with
    | some x =>
      have : look true S T id = some x := by unfold look; rw [hS]
      rw [look, hS] at hl; cases hl
      exact h.stab id c esz this
    | none =>
      rw [look, hS] at hl
      simp only [if_true, rowsOf] at hl
      split at hl
      · rename_i c' e' ro hg
        cases hl
        refine ⟨?_, ro, hg⟩
        rcases Nat.lt_or_ge id A.next with hlt | hge
        · exact hlt
        · rw [h.wfA id hge] at hg; cases hg
      · cases hl
  excl := fun i o hi ho hw => by
    obtain ⟨c, e, rfl, hn⟩ := hG.2 i o ho
    simp [AObj.wr] at hw
  wfH := hG.1
  wfA := h.wfA

/-- A pure call ends. -/
theorem TR.outer (h : TR G ρ S T H A) {ρ1 : Nat → Nat} {S1 T1 : Stab} {H1 A1 : AHeap} (h1 : TR G ρ1 S1 T1 H1 A1) (m : Mono (fun i => i) S G A ρ1 S1 H1 A1) :
    TR G ρ (frzS A.next S A1) T H A1 ∧ Mono ρ S H A ρ (frzS A.next S A1) H A1 := by
  have same : ∀ id, id < A.next → A1.get id = A.get id := fun id hid => by
    rcases Nat.lt_or_ge id G.next with hl | hge
    · rw [(h.glob id hl).2.2, (h1.glob id hl).2.2]
    · exact m.frame id hid fun i hi e => by have : i = id := e; omega
  have hlow : ∀ id, id < A.next → frzS A.next S A1 id = S id := fun id hid => by unfold frzS; rw [if_neg (by omega)]
  have hS : ∀ id x, S id = some x → id < A.next := fun id x hx => by
    obtain ⟨c, esz⟩ := x
    exact (h.stab id c esz (by unfold look; rw [hx])).1
  have hlk : ∀ id, id < A.next → look true (frzS A.next S A1) T id = look true S T id := fun id hid => by unfold look; rw [hlow id hid]
  have hlt : ∀ id x, look true S T id = some x → id < A.next := fun id x hx => by obtain ⟨c, esz⟩ := x; exact (h.stab id c esz hx).1
  have hle : LeS 2 S T (frzS A.next S A1) T := ⟨fun id x hx => by rw [hlow id (hS id x hx)]; exact hx, fun _ id x hx => by rw [hlk id (hlt id x hx)]; exact hx⟩
  constructor
  · exact {
      inj := h.inj
      lt := fun i hi => Nat.lt_of_lt_of_le (h.lt i hi) m.nextA
      glob := fun g hg => ⟨(h.glob g hg).1, (h.glob g hg).2.1, (h1.glob g hg).2.2⟩
      gH := h.gH
      gA := h1.gA
      obj := fun i o hi ho => by
        obtain ⟨o', e1, e2⟩ := h.obj i o hi ho
        exact ⟨o', by rw [same _ (h.lt i hi)]; exact e1, RO_mono (fun id hid => ⟨hid, rfl⟩) hle e2⟩
      stab := fun id c esz hl => by
        rcases Nat.lt_or_ge id A.next with hid | hid
        · rw [hlk id hid] at hl
          obtain ⟨a, ro, b⟩ := h.stab id c esz hl
          exact ⟨Nat.lt_of_lt_of_le a m.nextA, ro, by rw [same id hid]; exact b⟩
        · unfold look frzS at hl
          rw [if_pos hid] at hl
          cases hr : rowsOf A1 id with
          | none =>
            rw [hr] at hl
            simp only [if_true] at hl
            have : look true S T id = some (c, esz) := by
              unfold look
              cases hS2 : S id with
              | none => simpa using hl
              | some x => have := hS id x hS2; omega
            have := hlt id _ this; omega
          | some x =>
            rw [hr] at hl
            cases hl
            unfold rowsOf at hr
            split at hr
            · rename_i c' e' ro hg
              cases hr
              refine ⟨?_, ro, hg⟩
              rcases Nat.lt_or_ge id A1.next with hlt2 | hge
              · exact hlt2
              · rw [h1.wfA id hge] at hg; cases hg
            · cases hr
      excl := fun i o hi ho hw => by rw [hlk _ (h.lt i hi)]; exact h.excl i o hi ho hw
      wfH := h.wfH
      wfA := h1.wfA }
  · exact {
      rho := fun _ _ => rfl
      nextH := Nat.le_refl _
      nextA := m.nextA
      new := fun i h1 h2 => by omega
      frame := fun id hid _ => same id hid
      ss := hle.s
      ssn := hlow }

mutual
theorem RV_below {ρ' : Nat → Nat} {N N' k : Nat} (hρ : ∀ id, id < N → ρ' id = ρ id) : ∀ (v u : AVal), below N v = true → RV ρ' N' S T v k u → RV ρ N S T v k u
  | .p id off, u, hb, h => by simp only [RV, below, decide_eq_true_eq] at *; exact ⟨h.1, hb, by rw [← hρ id hb]; exact h.2.2⟩
  | .sl id off len cap, u, hb, h => by simp only [RV, below, decide_eq_true_eq] at *; exact ⟨h.1, hb, by rw [← hρ id hb]; exact h.2.2⟩
  | .m id, u, hb, h => by simp only [RV, below, decide_eq_true_eq] at *; exact ⟨h.1, hb, by rw [← hρ id hb]; exact h.2.2⟩
  | .fn f a c, u, hb, h => by
    simp only [RV, below, Bool.and_eq_true] at *
    obtain ⟨a', c', h1, h2, h3⟩ := h
    exact ⟨a', c', h1, RVL_below hρ a a' hb.1 h2, RVL_below hρ c c' hb.2 h3⟩
  | .ag l, u, hb, h => by simp only [RV, below] at *; obtain ⟨l', h1, h2⟩ := h; exact ⟨l', h1, RVL_below hρ l l' hb h2⟩
  | .tu l, u, hb, h => by simp only [RV, below] at *; obtain ⟨l', h1, h2⟩ := h; exact ⟨l', h1, RVL_below hρ l l' hb h2⟩
  | .ifc t v, u, hb, h => by simp only [RV, below] at *; obtain ⟨v', h1, h2⟩ := h; exact ⟨v', h1, RV_below hρ v v' hb h2⟩
  | .fs tmp full len l, u, hb, h => by
    simp only [RV] at *
    obtain ⟨h0, h1⟩ := h
    refine ⟨h0, ?_⟩
    rcases h1 with h1 | ⟨h1, id, off, cap, c, esz, h2, h3, h4, h5, h6, h7, h8⟩
    · exact .inl h1
    · have hlv : lv tmp ≤ 1 := by cases tmp <;> simp [lv]
      exact .inr ⟨h1, id, off, cap, c, esz, h2, h3, h4, h5, h6, h7, RVL_mono (fun e => absurd e (by omega)) (LeS.refl _ _ _) (Nat.le_refl _) (by omega) l _ h8⟩
  | .fp l, u, hb, h => by
    simp only [RV] at *
    obtain ⟨h0, id, off, c, esz, h1, h2, h3, h4⟩ := h
    exact ⟨h0, id, off, c, esz, h1, h2, h3, RVL_mono (k := 1) (k' := 1) (fun e => absurd e (by omega)) (LeS.refl _ _ _) (Nat.le_refl _) (by omega) l _ h4⟩
  | .b _, _, _, h | .i _ _, _, _, h | .s _, _, _, h | .np, _, _, h | .ns, _, _, h | .nf, _, _, h | .nm, _, _, h | .nif, _, _, h | .es _, _, _, h => by simp only [RV] at *; exact h
theorem RVL_below {ρ' : Nat → Nat} {N N' k : Nat} (hρ : ∀ id, id < N → ρ' id = ρ id) : ∀ (l l' : List AVal), belowL N l = true → RVL ρ' N' S T l k l' → RVL ρ N S T l k l'
  | [], l', _, h => by simp only [RVL] at *; exact h
  | v :: l, l', hb, h => by
    simp only [RVL, belowL, Bool.and_eq_true] at *
    obtain ⟨u, r, h1, h2, h3⟩ := h
    exact ⟨u, r, h1, RV_below hρ v u hb.1 h2, RVL_below hρ l r hb.2 h3⟩
end

/-- A pure call in the caller's heap ends: what it made is let go. -/
theorem TR.back (h : TR G ρ S T H A) {ρ1 : Nat → Nat} {S1 : Stab} {H1 A1 : AHeap} (h1 : TR G ρ1 S1 T H1 A1) (m : Mono ρ S H A ρ1 S1 H1 A1) (same : ∀ id, id < A.next → A1.get id = A.get id) :
    TR G ρ S1 T H A1 ∧ Mono ρ S H A ρ S1 H A1 := by
  have hlk : ∀ id, id < A.next → look true S1 T id = look true S T id := fun id hid => by unfold look; rw [m.ssn id hid]
  have hlt : ∀ id x, look true S T id = some x → id < A.next := fun id x hx => by obtain ⟨c, esz⟩ := x; exact (h.stab id c esz hx).1
  have hle : LeS 2 S T S1 T := ⟨m.ss, fun _ id x hx => by rw [hlk id (hlt id x hx)]; exact hx⟩
  constructor
  · exact {
      inj := h.inj
      lt := fun i hi => Nat.lt_of_lt_of_le (h.lt i hi) m.nextA
      glob := fun g hg => ⟨(h.glob g hg).1, (h.glob g hg).2.1, (h1.glob g hg).2.2⟩
      gH := h.gH
      gA := h1.gA
      obj := fun i o hi ho => by
        obtain ⟨o', e1, e2⟩ := h.obj i o hi ho
        exact ⟨o', by rw [same _ (h.lt i hi)]; exact e1, RO_mono (fun id hid => ⟨hid, rfl⟩) hle e2⟩
      stab := h1.stab
      excl := fun i o hi ho hw => by rw [hlk _ (h.lt i hi)]; exact h.excl i o hi ho hw
      wfH := h.wfH
      wfA := h1.wfA }
  · exact {
      rho := fun _ _ => rfl
      nextH := Nat.le_refl _
      nextA := m.nextA
      new := fun i h1 h2 => by omega
      frame := fun id hid _ => same id hid
      ss := m.ss
      ssn := m.ssn }

theorem callT {IP : FuncId → Option IFunc} (hG : GOK G) (hck : TabCk G.next IP) {ex exA : ExI} (hx : ExT G ex exA) (hlow : LowX exA) (hcl : CloneX exA) (hg : G.next ≤ lo) : CallT G lo loA (callI ex IP G lo) (callI exA (plainP IP) G loA) where
  pu := by
    funext f
    simp only [callI, pureB, plainP]
    cases hf : IP f with
    | none => rfl
    | some fn =>
      simp only [Option.map_some]
      cases hm : fn.mode with
      | zero => simp [pmode]
      | succ k =>
        cases hp : pmode fn.body (k + 1) with
        | zero => exact absurd (pmode_zero hp) (by omega)
        | succ j => rfl
  sim := by
    intro f args H v H' hs ρ S T A args' h hlo hA ha
    simp only [callI, callB] at hs ⊢
    cases hf : IP f with
    | none => rw [hf] at hs; cases hs
    | some fn =>
      rw [hf] at hs
      simp only at hs
      simp only [plainP, hf, Option.map_some]
      cases hm : fn.mode with
      | zero =>
        rw [hm] at hs
        simp only at hs
        simp only [show pmode fn.body 0 = 0 from rfl]
        exact bodyT (fn := { fn with mode := 0 }) hx (hck f fn hf).1 hg h hlo hA ha hs
      | succ k =>
        rw [hm] at hs
        cases k with
        | zero =>
          simp only [show pmode fn.body (0 + 1) = 1 from rfl]
          simp only at hs
          exact bodyT (fn := { fn with mode := 1 }) hx (hck f fn hf).1 h.gH h (fun i h1 h2 => by omega) (Nat.le_refl _) ha hs
        | succ k =>
          cases k with
          | succ k =>
           cases k with
           | succ k =>
            simp only at hs
            cases hsk : isSkip fn.body with
            | true =>
              simp only [show pmode fn.body (k + 1 + 1 + 1 + 1) = 4 from by simp [pmode, hsk]]
              simp only [cloneB, hsk] at hs ⊢
              rw [Option.map_eq_some_iff] at hs
              obtain ⟨r, hr, he⟩ := hs
              cases he
              have hargs : args' = args := by
                unfold idxB at hr
                split at hr
                · rename_i x c
                  simp only [RVL] at ha
                  obtain ⟨u, r1, rfl, h1, u2, r2, rfl, h2, rfl⟩ := ha
                  rw [strT h1, intT h2]
                · cases hr
              rw [hargs, hr]
              refine ⟨ρ, S, v, A, rfl, h, Mono.refl _ _ _ _, ?_⟩
              unfold idxB at hr
              split at hr
              · cases hr; exact RV_i
              · cases hr
            | false =>
            simp only [show pmode fn.body (k + 1 + 1 + 1 + 1) = 1 from by simp [pmode, hsk]]
            obtain ⟨hnp, hres, esz, bytes, he, hby, hbody⟩ := (hck f fn hf).2 (by omega) hsk
            rw [hbody] at hs
            obtain ⟨x, x', rfl, rfl, hxx⟩ : ∃ x x', args = [x] ∧ args' = [x'] ∧ RV ρ H.next S T x 2 x' := by
              cases args with
              | nil => simp [cloneB, cloneCode, isSkip] at hs
              | cons x r =>
                cases r with
                | nil => simp only [RVL] at ha; obtain ⟨u, r, rfl, h1, rfl⟩ := ha; exact ⟨x, u, rfl, rfl, h1⟩
                | cons y r => simp [cloneB, cloneCode, isSkip] at hs
            have hs2 : cloneV H esz bytes x = some (v, H') := hs
            have hxs : isSl x = true → (x' = .ns ∨ (∃ a, x' = .es a) ∨ ∃ id off len cap, x' = .sl id off len cap) := fun hsl => by
              cases x <;> simp only [isSl] at hsl <;> (try (cases hsl; done)) <;> simp only [RV] at hxx
              case ns => exact .inl hxx
              case es => exact .inr (.inl ⟨_, hxx⟩)
              case sl => exact .inr (.inr ⟨_, _, _, _, hxx.2.2⟩)
              case fs =>
                obtain ⟨_, ⟨_, _, h1 | ⟨a, h1⟩ | ⟨_, _, _, h1, _⟩⟩ | ⟨_, _, _, _, _, _, h1, _⟩⟩ := hxx
                · exact .inl h1
                · exact .inr (.inl ⟨_, h1⟩)
                · exact .inr (.inr ⟨_, _, _, _, h1⟩)
                · exact .inr (.inr ⟨_, _, _, _, h1⟩)
            have hfn : ({ fn with mode := 1 } : IFunc) = ⟨cloneCode esz bytes, fn.nt, 1, [.t 2], 1⟩ := by cases fn; simp_all
            rw [hfn]
            unfold cloneV at hs2
            split at hs2
            · rename_i c0 hsl hm0
              cases hs2
              obtain ⟨ys', h1, h2⟩ := moreT h hxx hm0
              have hy0 : ys'.length = 0 * esz := by
                rcases hxs hsl with rfl | ⟨a, rfl⟩ | ⟨id, off, len, cap, rfl⟩
                · simp only [moreV, Option.some.injEq, Prod.mk.injEq] at h1; rw [← h1.2]; simp
                · simp only [moreV, Option.some.injEq, Prod.mk.injEq] at h1; rw [← h1.2]; simp
                · simp only [moreV] at h1
                  split at h1
                  · simp only [Option.some.injEq, Prod.mk.injEq] at h1; rw [← h1.2]; simp
                  · rename_i hl0
                    rw [Option.map_eq_some_iff] at h1
                    obtain ⟨l, _, h3⟩ := h1
                    simp only [Prod.mk.injEq] at h3
                    exact absurd h3.1 hl0
              obtain ⟨v', A', k1, k2, _⟩ := hcl A.next fn.nt 1 esz bytes x' A 0 ys' he hby hy0 (fun h => absurd rfl h) h.wfA (hxs hsl) h1
              rcases k2 rfl with ⟨rfl, rfl⟩ | ⟨rfl, rfl⟩
              · exact ⟨ρ, S, _, _, k1, h, Mono.refl _ _ _ _, by simp [RV]⟩
              · obtain ⟨g1, g2⟩ := h.ghost (A' := A.push (.cells [] esz false)) (o := some (.cells [] esz false)) rfl (fun i => AHeap.get_push _ _ _)
                exact ⟨ρ, S, _, _, k1, g1, g2, by simp [RV]⟩
            · rename_i n cells hsl hm0
              split at hs2
              · rename_i hcc
                cases hs2
                obtain ⟨ys', h1, h2⟩ := moreT h hxx hm0
                obtain ⟨v', A', k1, _, k3⟩ := hcl A.next fn.nt 1 esz bytes x' A (n + 1) ys' he hby (by rw [RVL_len h2]; exact hcc.1) (fun _ => hcc.2.2.2) h.wfA (hxs hsl) h1
                obtain ⟨rfl, rfl⟩ := k3 (by omega)
                obtain ⟨g1, g2⟩ := h.ghost (A' := A.push (.cells [] esz false)) (o := some (.cells [] esz false)) rfl (fun i => AHeap.get_push _ _ _)
                obtain ⟨g3, g4⟩ := pushT (esz := esz) g1 h2
                exact ⟨_, S, _, _, k1, g3, g2.trans g4, newSl (A := A.push (.cells [] esz false))⟩
              · cases hs2
            · cases hs2
           | zero =>
            simp only [show pmode fn.body (0 + 1 + 1 + 1) = 1 from rfl]
            simp only at hs
            split at hs
            · rename_i v1 H1 hb
              split at hs
              · rename_i hbl
                cases hs
                obtain ⟨ρ1, S1, v', A1, k1, k2, k3, k4⟩ := bodyT (lo := H.next) (loA := A.next) (fn := { fn with mode := 1 }) hx (hck f fn hf).1 h.gH h (fun i h1 h2 => by omega) (Nat.le_refl _) ha hb
                have hlA := bodyI_low hlow k1
                obtain ⟨k5, k6⟩ := h.back k2 k3 (fun id hid => hlA.get id hid hid)
                exact ⟨ρ, S1, v', A1, k1, k5, k6, RV_below k3.rho v v' hbl k4⟩
              · cases hs
            · cases hs
          | zero =>
            simp only [show pmode fn.body (0 + 1 + 1) = 1 from rfl]
            simp only at hs
            split at hs
            · rename_i args2 hsn
              split at hs
              · rename_i v1 H1 hb
                split at hs
                · rename_i w hfz
                  cases hs
                  have hin := h.inner hG
                  have ha2 : RVL (fun i => i) G.next S (rowsOf A) args2 2 args' := RVL_mono (ρ := ρ) (N := H.next) (k := 1) (fun e => by omega) (LeS.refl _ _ _) (by omega) (Nat.le_refl _) _ _
                    (mapO_rel (ρ' := ρ) (N' := H.next) (fun v w u => snapT h 16 v w u) ha hsn)
                  obtain ⟨ρ1, S1, v', A1, k1, k2, k3, k4⟩ := bodyT (lo := G.next) (loA := A.next) (fn := { fn with mode := 1 }) hx (hck f fn hf).1 (Nat.le_refl _) hin (fun i h1 h2 => by omega) (Nat.le_refl _) ha2 hb
                  obtain ⟨k5, k6⟩ := h.outer k2 k3
                  refine ⟨ρ, frzS A.next S A1, v', A1, k1, k5, k6, ?_⟩
                  exact RV_mono (ρ := ρ) (N := H.next) (k := 0) (fun e => by omega) (LeS.refl _ _ _) (by omega) (Nat.le_refl _) _ _ (frzT (ρ0 := ρ) (N0 := H.next) k2 k3.ssn (fun i h1 h2 => k3.new i h1 h2) 16 v1 _ v' k4 hfz)
                · cases hs
              · cases hs
            · cases hs

theorem execT {IP : FuncId → Option IFunc} (hG : GOK G) (hck : TabCk G.next IP) : ∀ f, ExT G (exec IP G f) (exec (plainP IP) G (f + 6)) := by
  intro f
  induction f with
  | zero => intro lo loA c ρ S T H A e a x e' H' _ _ _ _ _ _ h; simp [exec] at h
  | succ f ih =>
    intro lo loA c ρ S T H A e a x e' H' hg hc h hlo hA he hs
    rw [show f + 1 + 6 = (f + 6) + 1 by omega]
    cases c <;> rw [exec] at hs ⊢
    case skip => cases hs; exact ⟨ρ, S, a, A, rfl, h, Mono.refl _ _ _ _, he⟩
    case exit id => cases hs; exact ⟨ρ, S, a, A, rfl, h, Mono.refl _ _ _ _, he⟩
    case ret => cases hs; exact ⟨ρ, S, a, A, rfl, h, Mono.refl _ _ _ _, he⟩
    case region items kill =>
      simp only [ckC] at hc
      try simp only at hs ⊢
      split at hs
      · rename_i e1 H1 hi
        cases hs
        obtain ⟨ρ', S', a', A', k1, k2, k3, k4⟩ := itemsT (callT (lo := lo) (loA := loA) hG hck ih (exec_low _ _ _) (clone_exec _ _ _) hg) hg hc h hlo hA he hi
        rw [k1]
        exact ⟨ρ', S', _, A', rfl, k2, k3, k4.kill _⟩
      · cases hs
    case seq c1 c2 =>
      simp only [ckC, Bool.and_eq_true] at hc
      try simp only at hs ⊢
      split at hs
      · rename_i e1 H1 h1
        obtain ⟨ρ', S', a', A', k1, k2, k3, k4⟩ := ih _ _ _ _ _ _ _ _ _ _ _ _ _ hg hc.1 h hlo hA he h1
        rw [k1]
        obtain ⟨ρ2, S2, a2, A2, g1, g2, g3, g4⟩ := ih _ _ _ _ _ _ _ _ _ _ _ _ _ hg hc.2 k2 (hlo.mono hA k3) (Nat.le_trans hA k3.nextA) k4 hs
        exact ⟨ρ2, S2, a2, A2, g1, g2, k3.trans g3, g4⟩
      · rename_i hne
        obtain ⟨ρ', S', a', A', k1, k2, k3, k4⟩ := ih _ _ _ _ _ _ _ _ _ _ _ _ _ hg hc.1 h hlo hA he hs
        rw [k1]
        cases x with
        | normal => exact (hne _ _ hs).elim
        | exit id => exact ⟨ρ', S', a', A', rfl, k2, k3, k4⟩
        | ret => exact ⟨ρ', S', a', A', rfl, k2, k3, k4⟩
    case cond x0 c1 c2 =>
      simp only [ckC, Bool.and_eq_true] at hc
      try simp only at hs ⊢
      split at hs
      · rename_i hv
        obtain ⟨u, e1, e2⟩ := opdT h he hc.1 hv
        rw [e1, boolT e2]
        exact ih _ _ _ _ _ _ _ _ _ _ _ _ _ hg hc.2.1 h hlo hA he hs
      · rename_i hv
        obtain ⟨u, e1, e2⟩ := opdT h he hc.1 hv
        rw [e1, boolT e2]
        exact ih _ _ _ _ _ _ _ _ _ _ _ _ _ hg hc.2.2 h hlo hA he hs
      · cases hs
    case block id b =>
      simp only [ckC] at hc
      try simp only at hs ⊢
      split at hs
      · rename_i id' e1 H1 h1
        obtain ⟨ρ', S', a', A', k1, k2, k3, k4⟩ := ih _ _ _ _ _ _ _ _ _ _ _ _ _ hg hc h hlo hA he h1
        rw [k1]
        simp only
        split at hs
        · rename_i hid; cases hs; exact ⟨ρ', S', a', A', by rw [if_pos hid], k2, k3, k4⟩
        · rename_i hid; cases hs; exact ⟨ρ', S', a', A', by rw [if_neg hid], k2, k3, k4⟩
      · rename_i hne
        obtain ⟨ρ', S', a', A', k1, k2, k3, k4⟩ := ih _ _ _ _ _ _ _ _ _ _ _ _ _ hg hc h hlo hA he hs
        rw [k1]
        cases x with
        | exit id' => exact (hne _ _ _ hs).elim
        | normal => exact ⟨ρ', S', a', A', rfl, k2, k3, k4⟩
        | ret => exact ⟨ρ', S', a', A', rfl, k2, k3, k4⟩
    case loop b =>
      simp only [ckC] at hc
      try simp only at hs ⊢
      split at hs
      · rename_i e1 H1 h1
        obtain ⟨ρ', S', a', A', k1, k2, k3, k4⟩ := ih _ _ _ _ _ _ _ _ _ _ _ _ _ hg hc h hlo hA he h1
        rw [k1]
        obtain ⟨ρ2, S2, a2, A2, g1, g2, g3, g4⟩ := ih _ _ _ _ _ _ _ _ _ _ _ _ _ hg (by simpa only [ckC] using hc) k2 (hlo.mono hA k3) (Nat.le_trans hA k3.nextA) k4 hs
        exact ⟨ρ2, S2, a2, A2, g1, g2, k3.trans g3, g4⟩
      · rename_i hne
        obtain ⟨ρ', S', a', A', k1, k2, k3, k4⟩ := ih _ _ _ _ _ _ _ _ _ _ _ _ _ hg hc h hlo hA he hs
        rw [k1]
        cases x with
        | normal => exact (hne _ _ hs).elim
        | exit id => exact ⟨ρ', S', a', A', rfl, k2, k3, k4⟩
        | ret => exact ⟨ρ', S', a', A', rfl, k2, k3, k4⟩

/-- A call at both levels. -/
theorem acallT {IP : FuncId → Option IFunc} (hG : GOK G) (hck : TabCk G.next IP) (f : Nat) (hg : G.next ≤ lo) : CallT G lo loA (acall IP G f lo) (acall (plainP IP) G (f + 6) loA) :=
  callT hG hck (execT hG hck f) (exec_low _ _ _) (clone_exec _ _ _) hg
end
end Go.RI

/- RI: from the interpreter to a row of a statement, no package-level variable read. Conditions: none. -/
namespace Go.RI
open Go
/-- An item; one that is guarded. -/
@[reducible] def It (d : Nat) (o : IOp) : Item := ⟨some d, o, none, []⟩
@[reducible] def Ig (d t : Nat) (w : Bool) (o : IOp) : Item := ⟨some d, o, some (t, w), []⟩
@[reducible] def Mv (d s : Nat) : Item := ⟨some d, .mov (.t s), none, []⟩
@[reducible] def Ld (d s : Nat) : Item := ⟨some d, .load none (.t s), none, []⟩
@[reducible] def Of (d s k : Nat) : Item := ⟨some d, .off (.t s) k, none, []⟩
@[reducible] def Ex (d s k : Nat) : Item := ⟨some d, .ext (.t s) k, none, []⟩
@[reducible] def i0 : AVal := .i .i64 0
@[simp] theorem Mv_eq {d s : Nat} : Mv d s = ⟨some d, .mov (.t s), none, []⟩ := rfl
@[simp] theorem Ld_eq {d s : Nat} : Ld d s = ⟨some d, .load none (.t s), none, []⟩ := rfl
@[simp] theorem Of_eq {d s k : Nat} : Of d s k = ⟨some d, .off (.t s) k, none, []⟩ := rfl
@[simp] theorem Ex_eq {d s k : Nat} : Ex d s k = ⟨some d, .ext (.t s) k, none, []⟩ := rfl
@[simp] theorem i0_eq : i0 = .i .i64 0 := rfl
@[simp] theorem It_eq {d : Nat} {o : IOp} : It d o = ⟨some d, o, none, []⟩ := rfl
@[simp] theorem Ig_eq {d t : Nat} {w : Bool} {o : IOp} : Ig d t w o = ⟨some d, o, some (t, w), []⟩ := rfl

def G0 (n : Nat) : AHeap := ⟨n, .e⟩
def rho0 : Ren := fun g => ⟨g, 0, 0, 1⟩

theorem G0_get (n id : Nat) : (G0 n).get id = none := by simp [G0, AHeap.get, Trie.get]
theorem G0_ok (n : Nat) : GOk (G0 n) := fun g o _ h => by rw [G0_get] at h; cases h
theorem G0_wf (n : Nat) : Wf (G0 n) := fun id _ => G0_get n id
theorem G0_rel (n : Nat) (w : World) : HRel (G0 n) rho0 (fun id => id < n) (G0 n) w where
  lt := fun _ h => h
  cells := fun id c esz ro _ h => by rw [G0_get] at h; cases h
  maps := fun id es _ h => by rw [G0_get] at h; cases h
  apart := fun id id' o o' _ _ _ h => by rw [G0_get] at h; cases h
  glob := fun g h => ⟨h, rfl, rfl, rfl⟩
  gnext := Nat.le_refl _
  wf := G0_wf n

/-- The world has at most new blocks. -/
def Kept (w w' : World) : Prop := w.keptBut w' (fun _ => False) ∧ (∀ a, a.block < w.heap.size → w'.frozen? a = w.frozen? a) ∧ w.heap.size ≤ w'.heap.size

theorem Kept.frame {w w' : World} (h : Kept w w') (may : MemPlace → Prop) : w.keptBut w' may := World.keptBut_mono (fun _ f => f.elim) h.1

/-- What was there and may not be written stands. -/
theorem Step.grown {lo : Nat} {ρ ρ' : Ren} {D D' : Nat → Prop} {H H' : AHeap} {w w' : World} (s : Step lo ρ D H w ρ' D' H' w') (h : ∀ id o, D id → H.get id = some o → o.wr = false) : Kept w w' := by
  have hk : ∀ k, k < w.heap.size → w'.heap[k]? = w.heap[k]? := fun k hk => s.frame k hk fun id o hd ho hw => by rw [h id o hd ho] at hw; cases hw
  refine ⟨⟨s.os, s.output, fun i hi => ?_⟩, s.froz, s.size⟩
  rw [hk i hi]
  split <;> rename_i h1 h2
  · rw [h1] at h2; cases h2; exact ⟨rfl, rfl, rfl, fun _ _ => rfl⟩
  · rw [h1] at h2; cases h2; exact .inr ⟨rfl, rfl⟩
  · rfl

/-- The answer stands, the arguments read as they did: only what was there matters of what is frozen. -/
theorem post_same {H : Type} {enc : TypeId × Value → H} {P : Program} {f : Func} {s : ChangeSpec} {apart fresh handsOn again : Bool} {W W' : World} {args : Array Value} {v : Value} {ds gs : List (DataW H)} {before pa pv : List MemPlace}
    (hW : DataW.Whole enc P f.params.toList s.vars apart W args.toList ds gs before)
    (hres : ∀ (b : Nat) (sp : Nat → Bool) (hd : Bool), DataW.TrodAll enc P W' b sp hd f.resultTypes.toList (v.resultList f.resultTypes.size) (s.fn H (ds ++ gs)).results [])
    (hargs : ∀ sp : Nat → Bool, (∀ p ∈ before, sp p.block = true) → DataW.TrodAll enc P W' 0 sp true f.params.toList args.toList (s.fn H (ds ++ gs)).args pa)
    (hvars : ∀ sp : Nat → Bool, (∀ p ∈ before, sp p.block = true) → DataW.TrodVars enc P W' sp s.vars (s.fn H (ds ++ gs)).vars pv)
    (hps : before = pa ++ pv) (hk : W.keptBut W' (· ∈ before)) (hfz : ∀ a, a.block < W.heap.size → W'.frozen? a = W.frozen? a)
    (hok : ∀ (j : Nat) (t : TypeId) (r : Value), f.resultTypes[j]? = some t → (v.resultList f.resultTypes.size)[j]? = some r → Value.okWide P W' .any 0 t r) :
    s.post enc P f apart fresh handsOn again W args v W' := by
  have hold : ∀ p ∈ before, (fun b => decide (b < W.heap.size)) p.block = true := fun p hp => by simpa using hW.lt p hp
  have hlt := hW.lt
  refine ⟨ds, gs, before, [], pa, pv, hW, hres _ _ _, hargs _ hold, hvars _ hold, World.keptBut_mono (fun p hp => ⟨hp, ?_⟩) hk, fun _ => ?_⟩
  · rw [hps, List.mem_append] at hp
    exact Or.inr hp
  · obtain ⟨_, _, _, _, _, hz, hn⟩ := hW
    refine ⟨hok, _, _, ([] ++ pa) ++ pv, ⟨[] ++ pa, pv, _root_.Go.ChangeShapes.trodAll_append (hargs _ (fun _ _ => rfl)) (hres _ _ _), hvars _ (fun _ _ => rfl), rfl, ?_, ?_⟩, ?_⟩
    · intro b off hp
      have hp' : MemPlace.cell b off ∈ before := by rw [hps]; simpa using hp
      rw [hfz _ (hlt _ hp')]
      exact hz b off hp'
    · intro ha
      have := hn ha
      rw [hps] at this
      simpa using this
    · intro p hp _
      rw [hps]
      simpa using hp

/-- A call of plain values that name nothing. -/
theorem plain_calls {P : Program} (hm : P.follows .mixedOrders = true) {IP : FuncId → Option IFunc} (htab : TabOK P IP) {n : Nat} (hn : n = P.globals.size) {f : FuncId} {args : List AVal} {v : AVal} {H' : AHeap}
    (h : Brings IP (G0 n) n f args (G0 n) v H') (ha : noIdL args = true) (hv : noId v = true) (hvi : ∀ k i, v ≠ .i k i) (w : World) : Calls P f (renL rho0 args).toArray w fun e w' => e = .returned (ren rho0 v) ∧ Kept w w' := by
  obtain ⟨k, hk⟩ := h
  have hc := acall_sim hm htab (G := G0 n) (by exact hn) (G0_ok n) k (lo := n) (Nat.le_refl _)
  have hb : HasBody P f := by
    rcases hc.body _ _ _ _ hk with hb | ⟨i, hi, _⟩
    · exact hb
    · cases hi; exact absurd rfl (hvi _ _)
  refine (hc.calls f args _ _ _ hk hb rho0 _ w (G0_rel n w) (noIdL_ok _ _ _ ha)).mono ?_
  rintro e w' ⟨ρ', D', rfl, hst, _, _⟩
  refine ⟨?_, hst.grown fun id o _ ho => by rw [G0_get] at ho; cases ho⟩
  exact congrArg _ (ren_congr (D := fun _ => False) (fun _ h => h.elim) v (noId_ok _ _ v hv))

/-! ### A table of functions -/
def tabIP : List (Nat × IFunc) → FuncId → Option IFunc
  | [], _ => none
  | (k, fn) :: l, f => if k = f then some fn else tabIP l f

/-- internal/bytealg.IndexByteString. -/
def extFn : IFunc := ⟨.skip, 0, 2, [], 4⟩
inductive TabAll (P : Program) : List (Nat × IFunc) → Prop
  | nil : TabAll P []
  | ext {k : Nat} {l : List (Nat × IFunc)} {fn : Func} (h1 : P.funcs[k]? = some fn) (h2 : (fn.name == "runtime.NumGoroutine") = false) (h3 : fn.body.isNone = true) (h4 : Extern.findNext fn = none) (h5 : Extern.find fn = some Extern.BytealgIndexByte.indexByte) (h : TabAll P l) : TabAll P ((k, extFn) :: l)
  | cons {k : Nat} {ifn : IFunc} {l : List (Nat × IFunc)} {fn : Func} {hs : List Hint} {mode : Nat} (h1 : P.funcs[k]? = some fn) (h2 : trFunc P hs mode fn = some ifn) (h : TabAll P l) : TabAll P ((k, ifn) :: l)

theorem TabAll.two {P : Program} {l : List (Nat × IFunc)} (h : TabAll P l) : ∀ f ifn, tabIP l f = some ifn → TrOK P f ifn ∨ ExtOK P f ifn := by
  induction h with
  | nil => intro f ifn h; cases h
  | cons h1 h2 _ ih =>
    intro f ifn h
    simp only [tabIP] at h
    split at h
    · rename_i hk; subst hk; cases h; exact .inl ⟨_, _, _, h1, h2⟩
    · exact ih f ifn h
  | ext h1 h2 h3 h4 h5 _ ih =>
    intro f ifn h
    simp only [tabIP] at h
    split at h
    · rename_i hk; subst hk; cases h; exact .inr ⟨rfl, rfl, _, h1, h2, h3, h4, h5⟩
    · exact ih f ifn h
theorem TabAll.ok {P : Program} {l : List (Nat × IFunc)} (h : TabAll P l) : TabOK P (tabIP l) := fun f ifn hf => (h.two f ifn hf).imp id .inl
/-- With one function that is shown by itself. -/
theorem TabAll.okC {P : Program} {l : List (Nat × IFunc)} (h : TabAll P l) {k : Nat} {fn : IFunc} (hc : CusOK P (tabIP ((k, fn) :: l)) k fn) : TabOK P (tabIP ((k, fn) :: l)) := fun f ifn hf => by
  simp only [tabIP] at hf
  split at hf
  · rename_i hk; subst hk; cases hf; exact .inr (.inr hc)
  · exact (h.two f ifn hf).imp id .inl

end Go.RI

/- RI: package-level variables that hold what the program's text lays: from the interpreter to a call of the machine. Conditions: none. -/
namespace Go.RI
open Go

/-- The world holds the interpreter's package-level variables. -/
def GHolds (n : Nat) (G : AHeap) (w : World) : Prop := ∀ g o, G.get g = some o → g < n ∧ ∃ c C e fz, o = .cells c 1 true ∧ noIdL c = true ∧ oneL c = true ∧ w.heap[g]? = some (.cells C e fz) ∧ C.toList = renL rho0 c

noncomputable def rhoG (G : AHeap) : Ren := fun g => ⟨g, 0, match G.get g with | some (.cells c _ _) => c.length | _ => 0, 1⟩

theorem GHolds.rel {n : Nat} {G : AHeap} {w : World} (h : GHolds n G w) (hn : G.next = n) (hw : Wf G) : HRel G (rhoG G) (fun id => id < n) G w where
  lt := fun _ h => by rw [hn]; exact h
  cells := fun id c esz ro hd hg => by
    obtain ⟨_, c', C, e, fz, ho, h1, h2, h3, h4⟩ := h id _ hg
    cases ho
    have hl : C.size = c.length := by rw [← Array.length_toList, h4, renL_length]
    refine { esz_eq := rfl, len := ?_, at_ := ⟨C, e, fz, h3, ?_, fun j v hj => ?_, fun hf => by cases hf⟩, ok := noIdL_ok _ _ _ h1, one := h2 }
    · simp [rhoG, hg]
    · simp [rhoG, hg, hl]
    · have : C[j]? = (renL rho0 c)[j]? := by rw [← h4, Array.getElem?_toList]
      simp only [rhoG, Nat.zero_add, this, renL_get, hj, Option.map_some]
      exact congrArg some (ren_congr (D := fun _ => False) (fun _ h => h.elim) v (okL_iff.1 (noIdL_ok rho0 (fun _ => False) c h1) v (List.mem_of_getElem? hj))).symm
  maps := fun id es _ hg => by obtain ⟨_, c', C, e, fz, ho, _⟩ := h id _ hg; cases ho
  apart := fun id id' o o' _ _ _ hg _ hw => by obtain ⟨_, c', C, e, fz, ho, _⟩ := h id _ hg; subst ho; simp [AObj.wr] at hw
  glob := fun g hg => ⟨by rw [← hn]; exact hg, rfl, rfl, rfl⟩
  gnext := Nat.le_refl _
  wf := hw

theorem GHolds.ok {n : Nat} {G : AHeap} {w : World} (h : GHolds n G w) : GOk G := fun g o _ hg => by
  obtain ⟨_, c, C, e, fz, ho, h1, h2, _⟩ := h g o hg
  exact ⟨c, 1, ho, h1, h2⟩

/-- A call of plain values that name nothing. -/
theorem plain_callsG {P : Program} (hm : P.follows .mixedOrders = true) {IP : FuncId → Option IFunc} (htab : TabOK P IP) {G : AHeap} (hn : G.next = P.globals.size) (hw : Wf G) {f : FuncId} {args : List AVal} {v : AVal} {H' : AHeap}
    (h : Brings IP G G.next f args G v H') (ha : noIdL args = true) (hv : noId v = true) (hvi : ∀ k i, v ≠ .i k i) (w : World) (hG : GHolds P.globals.size G w) : Calls P f (renL rho0 args).toArray w fun e w' => e = .returned (ren rho0 v) ∧ Kept w w' := by
  obtain ⟨k, hk⟩ := h
  have hc := acall_sim hm htab (G := G) hn hG.ok k (lo := G.next) (Nat.le_refl _)
  have hr : renL (rhoG G) args = renL rho0 args := renL_congr (D := fun _ => False) (fun _ h => h.elim) args (noIdL_ok _ _ _ ha)
  rw [← hr]
  have hb : HasBody P f := by
    rcases hc.body _ _ _ _ hk with hb | ⟨i, hi, _⟩
    · exact hb
    · cases hi; exact absurd rfl (hvi _ _)
  refine (hc.calls f args _ _ _ hk hb (rhoG G) _ w (hG.rel hn hw) (noIdL_ok _ _ _ ha)).mono ?_
  rintro e w' ⟨ρ', D', rfl, hst, _, _⟩
  refine ⟨?_, hst.grown fun id o _ ho => ?_⟩
  · exact congrArg _ (ren_congr (D := fun _ => False) (fun _ h => h.elim) v (noId_ok _ _ v hv))
  · obtain ⟨_, c, C, e, fz, hoe, _⟩ := hG id o ho
    subst hoe; rfl

/-- Is it the call's true? -/
def isTrue : Option (AVal × AHeap) → Bool
  | some (.b true, _) => true
  | _ => false

/-- A call without arguments, run by the kernel. -/
theorem closed_calls {P : Program} (hm : P.follows .mixedOrders = true) {IP : FuncId → Option IFunc} (htab : TabOK P IP) {G : AHeap} (hn : G.next = P.globals.size) (hw : Wf G) {f k : Nat} (h : isTrue (acall IP G k G.next f [] G) = true)
    (w : World) (hG : GHolds P.globals.size G w) : Calls P f #[] w fun e w' => e = .returned (.bool true) ∧ Kept w w' := by
  have : ∃ H', acall IP G k G.next f [] G = some (.b true, H') := by
    unfold isTrue at h
    split at h
    · rename_i H' he; exact ⟨H', he⟩
    · cases h
  obtain ⟨H', hH⟩ := this
  exact plain_callsG hm htab hn hw (args := []) (v := .b true) ⟨k, hH⟩ rfl rfl (fun _ _ e => by cases e) w hG

/-! ### From what a row lists to what the world holds -/
theorem cell_lit {H : Type} {enc : TypeId × Value → H} {P : Program} {w : World} {base : Nat} {sp : Nat → Bool} {held : Bool} {fuel : Nat} {t : TypeId} {cs : List Value} {l : Lit} {p : List MemPlace}
    (h : DataW.trod enc P w base sp held fuel t cs = some (.lit l, p)) : cs = [l.value] := by
  cases fuel with
  | zero => simp [DataW.trod] at h
  | succ fuel => 
    unfold DataW.trod at h
    split at h
    all_goals first
      | (cases h; done)
      | (cases h; rfl)
      | (split at h
         · rename_i hc; cases h; first | (obtain ⟨rfl, _⟩ := hc; rfl) | rfl
         · cases h)
      | (exfalso; simp only [Option.map_eq_some_iff] at h; obtain ⟨x, _, hx⟩ := h; cases hx; done)
      | (exfalso; split at h
         · simp only [Option.map_eq_some_iff, Option.bind_eq_some_iff] at h
           first
           | (obtain ⟨x, _, hx⟩ := h; cases hx; done)
           | (obtain ⟨x, _, y, _, hx⟩ := h; cases hx; done)
         · cases h)
      | (exfalso; split at h <;> first | (cases h; done) | (simp only [Option.map_eq_some_iff] at h; obtain ⟨x, _, hx⟩ := h; cases hx; done))
      | skip
    exfalso
    split at h
    · split at h
      · simp only [Option.bind_eq_some_iff] at h
        obtain ⟨x, _, hx⟩ := h
        split at hx
        · cases hx
        · cases hx
      · cases h
    · cases h

/-- A struct of plain fields, a cell each. -/
theorem cells_flat {H : Type} {enc : TypeId × Value → H} {P : Program} {w : World} {base : Nat} {sp : Nat → Bool} {held : Bool} {fuel : Nat} {t : TypeId} {fs : Array Field} {cs : List Value} {ls : List Lit} {p : List MemPlace}
    (ht : P.underlying t = some (.struct fs)) (hn : P.cellsOf t = ls.length) (hf : fs.toList.map (fun f => (f.offset, P.cellsOf f.type)) = (List.range ls.length).map fun i => (i, 1))
    (h : DataW.trod enc P w base sp held fuel t cs = some (.agg (ls.map .lit), p)) : cs = ls.map Lit.value := by
  cases fuel with
  | zero => simp [DataW.trod] at h
  | succ fuel =>
    simp only [DataW.trod, ht] at h
    split at h
    · rename_i hl
      obtain ⟨xs, hm, hx⟩ := Option.map_eq_some_iff.1 h
      have hxs : xs.map (·.1) = ls.map fun z => (DataW.lit z : DataW H) := by
        have := congrArg Prod.fst hx
        simpa using this
      have hlen : fs.toList.length = ls.length := by have := congrArg List.length hf; simpa using this
      apply List.ext_getElem?
      intro i
      by_cases hi : i < ls.length
      · have hfi : ∃ f, fs.toList[i]? = some f := ⟨_, List.getElem?_eq_getElem (by omega)⟩
        obtain ⟨f, hfi⟩ := hfi
        obtain ⟨b, hb, hfb⟩ := Go.Lib.mapM_at hm i f hfi
        have hoff : f.offset = i ∧ P.cellsOf f.type = 1 := by
          have := congrArg (·[i]?) hf
          simp only [List.getElem?_map, hfi, Option.map_some, List.getElem?_range hi, Option.some.injEq, Prod.mk.injEq] at this
          exact this
        rw [hoff.1, hoff.2] at hfb
        have h2 : (xs.map (·.1))[i]? = some b.1 := by simp [hb]
        rw [hxs, List.getElem?_map, Option.map_eq_some_iff] at h2
        obtain ⟨l, hl2, he⟩ := h2
        obtain ⟨b1, b2⟩ := b
        simp only at he
        subst he
        have h1 := cell_lit hfb
        have h3 : cs[i]? = some l.value := by
          have := congrArg (·[0]?) h1
          simpa [List.getElem?_take, List.getElem?_drop] using this
        rw [h3, List.getElem?_map, hl2]; rfl
      · rw [List.getElem?_eq_none (by omega), List.getElem?_eq_none (by simp; omega)]
    · cases h

theorem laid_one {P : Program} {W : World} {name : String} {g : Nat} {t : TypeId} {fs : Array Field} {ls : List Lit}
    (hg : P.globalNamed name = some g) (hty : (P.globals[g]?).map (·.type) = some t) (ht : P.underlying t = some (.struct fs)) (hn : P.cellsOf t = ls.length) (hf : fs.toList.map (fun f => (f.offset, P.cellsOf f.type)) = (List.range ls.length).map fun i => (i, 1))
    (h : laidMet P [(name, .agg (ls.map .lit))] W) : ∃ C e fz, W.heap[g]? = some (.cells C e fz) ∧ C.toList = ls.map Lit.value := by
  obtain ⟨ps, ⟨g', t', cs, fuel, p, q, hg', ht', hvar, hd, _, _⟩, _⟩ := h
  obtain rfl := Option.some.inj (hg.symm.trans hg')
  obtain rfl := Option.some.inj (hty.symm.trans ht')
  have := cells_flat ht hn hf hd
  simp only [World.var?, hg, Option.bind_some] at hvar
  split at hvar
  · rename_i C e fz hh; simp only [Option.some.injEq] at hvar; subst hvar; exact ⟨_, _, _, hh, this⟩
  · cases hvar
end Go.RI

/- RI, part TI: what a world holds, read as trees, laid as rows that nobody writes; from a call on trees to a call of the machine. Conditions: none. -/
namespace Go.RI
open Go
set_option linter.unusedSimpArgs false
set_option linter.unusedVariables false

mutual
/-- The world's value reads as that tree. -/
def Rd (w : World) : AVal → Value → Prop
  | .fs tmp full len l, v => tmp = false ∧ full = false ∧
      ((len = 0 ∧ l = [] ∧ (v = .slice none 0 0 ∨ (∃ a, v = .slice (some a) 0 0) ∨ ∃ b o cap, v = .slice (some ⟨b, o, none⟩) 0 cap)) ∨
       (0 < len ∧ ∃ b o cap esz C e fz, v = .slice (some ⟨b, o, none⟩) len cap ∧ len ≤ cap ∧ w.heap[b]? = some (.cells C e fz) ∧ l.length = len * esz ∧ o + len * esz ≤ C.size ∧
         RdL w l ((C.toList.drop o).take (len * esz))))
  | x, v => noId x = true ∧ one x = true ∧ v = ren rho0 x
def RdL (w : World) : List AVal → List Value → Prop
  | [], vs => vs = []
  | x :: l, vs => ∃ v r, vs = v :: r ∧ Rd w x v ∧ RdL w l r
end

/-- The interpreter's heap holds the globals, and rows of the world that nobody writes. -/
structure Lay (G : AHeap) (ρ : Ren) (A : AHeap) (w : World) : Prop where
  rel : HRel G ρ (fun id => id < A.next) A w
  ro : ∀ id o, A.get id = some o → o.wr = false

structure LExt (ρ : Ren) (A : AHeap) (ρ' : Ren) (A' : AHeap) : Prop where
  next : A.next ≤ A'.next
  same : ∀ id, id < A.next → ρ' id = ρ id ∧ A'.get id = A.get id

theorem LExt.refl (ρ : Ren) (A : AHeap) : LExt ρ A ρ A := ⟨Nat.le_refl _, fun _ _ => ⟨rfl, rfl⟩⟩
theorem LExt.trans {ρ ρ1 ρ2 : Ren} {A A1 A2 : AHeap} (a : LExt ρ A ρ1 A1) (b : LExt ρ1 A1 ρ2 A2) : LExt ρ A ρ2 A2 :=
  ⟨Nat.le_trans a.next b.next, fun id h => ⟨((b.same id (Nat.lt_of_lt_of_le h a.next)).1).trans (a.same id h).1, ((b.same id (Nat.lt_of_lt_of_le h a.next)).2).trans (a.same id h).2⟩⟩

noncomputable def layS (G A : AHeap) : Stab := fun id => if G.next ≤ id then rowsOf A id else none
def noS : Stab := fun _ => none

theorem layS_le {G : AHeap} {ρ ρ' : Ren} {A A' : AHeap} {w : World} (h : Lay G ρ A w) (x : LExt ρ A ρ' A') : LeS 0 (layS G A) noS (layS G A') noS := by
  refine ⟨fun id y hy => ?_, fun hk => by omega⟩
  unfold layS rowsOf at hy ⊢
  split at hy
  · rename_i hg
    rw [if_pos hg]
    have hlt : id < A.next := by
      rcases Nat.lt_or_ge id A.next with h1 | h1
      · exact h1
      · rw [h.rel.wf id h1] at hy; simp at hy
    rw [(x.same id hlt).2]; exact hy
  · cases hy

section
variable {G : AHeap} {w : World}

noncomputable def pushO (A : AHeap) (o : Option AObj) : AHeap := ⟨A.next + 1, A.tbl.put o (A.next + 1) A.next⟩
def updR (ρ : Ren) (n : Nat) (L : Loc) : Ren := fun i => if i = n then L else ρ i

theorem get_pushO (A : AHeap) (o : Option AObj) (j : Nat) : (pushO A o).get j = if j = A.next then o else A.get j := Trie.get_put _ _ _ _ _ (Nat.lt_succ_self A.next)

theorem CellsAt.mono {ρ ρ' : Ren} {D D' : Nat → Prop} {L : Loc} {c : List AVal} {esz : Nat} {ro : Bool} (h : CellsAt ρ D L c esz ro w) (hm : ∀ id, D id → D' id ∧ ρ' id = ρ id) : CellsAt ρ' D' L c esz ro w where
  esz_eq := h.esz_eq
  len := h.len
  at_ := by
    obtain ⟨C, e, fz, h1, h2, h3, h4⟩ := h.at_
    refine ⟨C, e, fz, h1, h2, fun j v hj => ?_, h4⟩
    rw [h3 j v hj, ren_congr (fun id hd => (hm id hd).2) v (okL_iff.1 h.ok v (List.mem_of_getElem? hj))]
  ok := okL_mono hm c h.ok
  one := h.one

theorem Lay.push {ρ : Ren} {A : AHeap} (h : Lay G ρ A w) (L : Loc) {o : Option AObj} (ho : ∀ x, o = some x → ∃ c esz, x = .cells c esz true ∧ CellsAt ρ (fun id => id < A.next) L c esz true w) :
    Lay G (updR ρ A.next L) (pushO A o) w ∧ LExt ρ A (updR ρ A.next L) (pushO A o) := by
  have hold : ∀ id, id < A.next → id < (pushO A o).next ∧ updR ρ A.next L id = ρ id := fun id hid => ⟨Nat.lt_succ_of_lt hid, by unfold updR; rw [if_neg (by omega)]⟩
  have ro' : ∀ id x, (pushO A o).get id = some x → x.wr = false := fun id x hx => by
    rw [get_pushO] at hx
    split at hx
    · obtain ⟨c, esz, rfl, _⟩ := ho x hx; rfl
    · exact h.ro id x hx
  refine ⟨⟨{ lt := fun _ hd => hd, cells := ?_, maps := ?_, apart := ?_, glob := ?_, gnext := ?_, wf := ?_ }, ro'⟩, ⟨Nat.le_succ _, fun id hid => ⟨(hold id hid).2, by rw [get_pushO, if_neg (by omega)]⟩⟩⟩
  · intro id c esz ro hd hx
    rw [get_pushO] at hx
    split at hx
    · rename_i hid
      subst hid
      obtain ⟨c', esz', he, hc⟩ := ho _ hx
      cases he
      have : updR ρ A.next L A.next = L := by simp [updR]
      rw [this]
      exact hc.mono hold
    · rename_i hid
      have hlt : id < A.next := by have : id < A.next + 1 := hd; omega
      rw [(hold id hlt).2]
      exact (h.rel.cells id c esz ro hlt hx).mono hold
  · intro id es hd hx
    have := ro' id _ hx
    simp [AObj.wr] at this
  · intro id id' o1 o2 _ _ _ h1 _ hw
    rw [ro' id o1 h1] at hw; cases hw
  · intro g hg
    have hlt : g < A.next := Nat.lt_of_lt_of_le hg h.rel.gnext
    obtain ⟨a, b, c, d⟩ := h.rel.glob g hg
    exact ⟨(hold g hlt).1, by rw [(hold g hlt).2]; exact b, by rw [(hold g hlt).2]; exact c, by rw [get_pushO, if_neg (by omega)]; exact d⟩
  · exact Nat.le_trans h.rel.gnext (Nat.le_succ _)
  · intro id hid
    have : A.next + 1 ≤ id := hid
    rw [get_pushO, if_neg (by omega)]
    exact h.rel.wf id (by omega)

/-- What is laid. -/
def Laid (G : AHeap) (w : World) (ρ : Ren) (A : AHeap) (x : AVal) (v : Value) : Prop :=
  ∃ ρ' A' u, LExt ρ A ρ' A' ∧ Lay G ρ' A' w ∧ ok ρ' (fun id => id < A'.next) u ∧ one u = true ∧ ren ρ' u = v ∧ RV (fun i => i) G.next (layS G A') noS x 0 u
def LaidL (G : AHeap) (w : World) (ρ : Ren) (A : AHeap) (l : List AVal) (vs : List Value) : Prop :=
  ∃ ρ' A' us, LExt ρ A ρ' A' ∧ Lay G ρ' A' w ∧ okL ρ' (fun id => id < A'.next) us ∧ oneL us = true ∧ renL ρ' us = vs ∧ RVL (fun i => i) G.next (layS G A') noS l 0 us

theorem lay_leaf {ρ : Ren} {A : AHeap} (h : Lay G ρ A w) {x : AVal} {v : Value} (h1 : noId x = true) (h2 : one x = true) (h3 : v = ren rho0 x) : Laid G w ρ A x v :=
  ⟨ρ, A, x, LExt.refl _ _, h, noId_ok _ _ x h1, h2, by rw [h3]; exact ren_congr (ρ := rho0) (D := fun _ => False) (fun _ h => h.elim) x (noId_ok _ _ x h1), RV_noId x h1⟩

theorem RV_up {A A' : AHeap} {ρ ρ' : Ren} (h : Lay G ρ A w) (x : LExt ρ A ρ' A') {t u : AVal} (hv : RV (fun i => i) G.next (layS G A) noS t 0 u) : RV (fun i => i) G.next (layS G A') noS t 0 u :=
  RV_mono (fun e => by omega) (layS_le h x) (Nat.le_refl _) (by omega) t u hv
theorem RVL_up' {A A' : AHeap} {ρ ρ' : Ren} (h : Lay G ρ A w) (x : LExt ρ A ρ' A') {t u : List AVal} (hv : RVL (fun i => i) G.next (layS G A) noS t 0 u) : RVL (fun i => i) G.next (layS G A') noS t 0 u :=
  RVL_mono (fun e => by omega) (layS_le h x) (Nat.le_refl _) (by omega) t u hv

mutual
theorem lay_val : ∀ (x : AVal) (v : Value), Rd w x v → ∀ (ρ : Ren) (A : AHeap), Lay G ρ A w → Laid G w ρ A x v
  | .fs tmp full len l, v, hr, ρ, A, h => by
    simp only [Rd] at hr
    obtain ⟨rfl, rfl, ⟨rfl, rfl, rfl | ⟨a, rfl⟩ | ⟨b, o, cap, rfl⟩⟩ | ⟨h0, b, o, cap, esz, C, e, fz, rfl, hcap, hC, hl, hoff, hrow⟩⟩ := hr
    · exact ⟨ρ, A, .ns, LExt.refl _ _, h, by simp [ok], rfl, rfl, by simp [RV]⟩
    · exact ⟨ρ, A, .es a, LExt.refl _ _, h, by simp [ok], rfl, rfl, by simp [RV]⟩
    · obtain ⟨h1, h2⟩ := h.push ⟨b, o, 0, 1⟩ (o := none) (fun x hx => by cases hx)
      refine ⟨_, _, .sl A.next 0 0 (some cap), h2, h1, ?_, rfl, ?_, ?_⟩
      · simp only [ok]; exact ⟨Nat.lt_succ_self _, fun e => by cases e⟩
      · simp [ren, updR]
      · simp [RV]
    · obtain ⟨ρ1, A1, us, x1, l1, ok1, one1, ren1, rv1⟩ := lay_list l _ hrow ρ A h
      have hul : us.length = len * esz := (RVL_len rv1).trans hl
      obtain ⟨h1, h2⟩ := l1.push ⟨b, o, len * esz, esz⟩ (o := some (.cells us esz true)) (fun x hx => by
        cases hx
        refine ⟨us, esz, rfl, { esz_eq := rfl, len := Nat.le_of_eq hul, at_ := ⟨C, e, fz, hC, hoff, fun j v hj => ?_, fun hf => by cases hf⟩, ok := ok1, one := one1 }⟩
        have hjl : j < len * esz := by
          rcases Nat.lt_or_ge j us.length with hlt | hge
          · omega
          · rw [List.getElem?_eq_none hge] at hj; cases hj
        have : (renL ρ1 us)[j]? = some (ren ρ1 v) := by rw [renL_get, hj]; rfl
        rw [ren1, List.getElem?_take, if_pos hjl, List.getElem?_drop, Array.getElem?_toList] at this
        exact this)
      refine ⟨_, _, .sl A1.next 0 len (some cap), x1.trans h2, h1, ?_, rfl, ?_, ?_⟩
      · simp only [ok]; exact ⟨Nat.lt_succ_self _, fun e => by cases e⟩
      · simp [ren, updR]
      · simp only [RV]
        refine ⟨fun e => (by cases e), .inr ⟨h0, A1.next, 0, some cap, us, esz, rfl, fun e => (by cases e), fun m hm => (by cases hm; exact hcap), ?_, hl, by omega, ?_⟩⟩
        · have hg : G.next ≤ A1.next := l1.rel.gnext
          simp only [look, layS, rowsOf, get_pushO, if_pos hg, if_true]
        · have := RVL_up' l1 h2 rv1
          simp only [List.drop_zero]
          rw [List.take_of_length_le (by omega)]
          exact this
  | .b _, v, hr, ρ, A, h | .i _ _, v, hr, ρ, A, h | .s _, v, hr, ρ, A, h | .np, v, hr, ρ, A, h | .p _ _, v, hr, ρ, A, h | .ns, v, hr, ρ, A, h | .sl _ _ _ _, v, hr, ρ, A, h | .fn _ _ _, v, hr, ρ, A, h | .nf, v, hr, ρ, A, h | .ag _, v, hr, ρ, A, h
  | .tu _, v, hr, ρ, A, h | .nm, v, hr, ρ, A, h | .m _, v, hr, ρ, A, h | .ifc _ _, v, hr, ρ, A, h | .nif, v, hr, ρ, A, h | .fp _, v, hr, ρ, A, h | .es _, v, hr, ρ, A, h => by
    simp only [Rd] at hr
    exact lay_leaf h hr.1 hr.2.1 hr.2.2
theorem lay_list : ∀ (l : List AVal) (vs : List Value), RdL w l vs → ∀ (ρ : Ren) (A : AHeap), Lay G ρ A w → LaidL G w ρ A l vs
  | [], vs, hr, ρ, A, h => by
    simp only [RdL] at hr
    subst hr
    exact ⟨ρ, A, [], LExt.refl _ _, h, by simp [okL], rfl, rfl, by simp [RVL]⟩
  | x :: l, vs, hr, ρ, A, h => by
    simp only [RdL] at hr
    obtain ⟨v, r, rfl, h1, h2⟩ := hr
    obtain ⟨ρ1, A1, u, x1, l1, ok1, one1, ren1, rv1⟩ := lay_val x v h1 ρ A h
    obtain ⟨ρ2, A2, us, x2, l2, ok2, one2, ren2, rv2⟩ := lay_list l r h2 ρ1 A1 l1
    have hold : ∀ id, id < A1.next → id < A2.next ∧ ρ2 id = ρ1 id := fun id hid => ⟨Nat.lt_of_lt_of_le hid x2.next, (x2.same id hid).1⟩
    refine ⟨ρ2, A2, u :: us, x1.trans x2, l2, ?_, ?_, ?_, RVL_cons (RV_up l1 x2 rv1) rv2⟩
    · simp only [okL]; exact ⟨ok_mono hold u ok1, ok2⟩
    · simp [oneL, one1, one2]
    · simp only [renL, ren2, ren_congr (fun id hd => (hold id hd).2) u ok1, ren1]
end

/-- An argument. -/
def RdV (w : World) : AVal → Value → Prop
  | .ag l, v => ∃ cs, v = .agg cs ∧ RdL w l cs.toList
  | x, v => Rd w x v
def RdVs (w : World) : List AVal → List Value → Prop
  | [], vs => vs = []
  | x :: l, vs => ∃ v r, vs = v :: r ∧ RdV w x v ∧ RdVs w l r

theorem lay_arg {x : AVal} {v : Value} (hr : RdV w x v) {ρ : Ren} {A : AHeap} (h : Lay G ρ A w) :
    ∃ ρ' A' u, LExt ρ A ρ' A' ∧ Lay G ρ' A' w ∧ ok ρ' (fun id => id < A'.next) u ∧ ren ρ' u = v ∧ RV (fun i => i) G.next (layS G A') noS x 0 u := by
  have plain : Rd w x v → ∃ ρ' A' u, LExt ρ A ρ' A' ∧ Lay G ρ' A' w ∧ ok ρ' (fun id => id < A'.next) u ∧ ren ρ' u = v ∧ RV (fun i => i) G.next (layS G A') noS x 0 u := fun hr => by
    obtain ⟨ρ', A', u, a, b, c, _, d, e⟩ := lay_val x v hr ρ A h
    exact ⟨ρ', A', u, a, b, c, d, e⟩
  cases x
  case ag l =>
    obtain ⟨cs, rfl, hl⟩ := hr
    obtain ⟨ρ', A', us, a, b, c, o, d, e⟩ := lay_list l _ hl ρ A h
    refine ⟨ρ', A', .ag us, a, b, ?_, ?_, RV_ag e⟩
    · simp only [ok]; exact ⟨c, o⟩
    · simp only [ren, d]
  all_goals exact plain hr

theorem lay_args : ∀ {l : List AVal} {vs : List Value}, RdVs w l vs → ∀ {ρ : Ren} {A : AHeap}, Lay G ρ A w →
    ∃ ρ' A' us, LExt ρ A ρ' A' ∧ Lay G ρ' A' w ∧ okL ρ' (fun id => id < A'.next) us ∧ renL ρ' us = vs ∧ RVL (fun i => i) G.next (layS G A') noS l 0 us := by
  intro l
  induction l with
  | nil => intro vs hr ρ A h; simp only [RdVs] at hr; subst hr; exact ⟨ρ, A, [], LExt.refl _ _, h, by simp [okL], rfl, by simp [RVL]⟩
  | cons x l ih =>
    intro vs hr ρ A h
    simp only [RdVs] at hr
    obtain ⟨v, r, rfl, h1, h2⟩ := hr
    obtain ⟨ρ1, A1, u, x1, l1, ok1, ren1, rv1⟩ := lay_arg h1 h
    obtain ⟨ρ2, A2, us, x2, l2, ok2, ren2, rv2⟩ := ih h2 l1
    have hold : ∀ id, id < A1.next → id < A2.next ∧ ρ2 id = ρ1 id := fun id hid => ⟨Nat.lt_of_lt_of_le hid x2.next, (x2.same id hid).1⟩
    refine ⟨ρ2, A2, u :: us, x1.trans x2, l2, ?_, ?_, RVL_cons (RV_up l1 x2 rv1) rv2⟩
    · simp only [okL]; exact ⟨ok_mono hold u ok1, ok2⟩
    · simp only [renL, ren2, ren_congr (fun id hd => (hold id hd).2) u ok1, ren1]

/-- A call on trees is a call of the machine. -/
theorem tree_calls {P : Program} (hm : P.follows .mixedOrders = true) {IP : FuncId → Option IFunc} (htab : TabOK P (plainP IP)) (hck : TabCk G.next IP) (hG : GOK G) (hn : G.next = P.globals.size) (hGh : GHolds P.globals.size G w)
    {f : FuncId} {args : List AVal} {b : Bool} {H' : AHeap} (h : Brings IP G G.next f args G (.b b) H') {vs : List Value} (ha : RdVs w args vs) : Calls P f vs.toArray w fun e w' => e = .returned (.bool b) ∧ Kept w w' := by
  obtain ⟨k, hk⟩ := h
  have h0 : Lay G (rhoG G) G w := ⟨by have := hGh.rel hn hG.1; rw [← hn] at this; exact this, fun id o ho => by obtain ⟨c, e, rfl, _⟩ := hG.2 id o ho; rfl⟩
  obtain ⟨ρ, A, us, x1, l1, ok1, ren1, rv1⟩ := lay_args ha h0
  have htr : TR G (fun i => i) (layS G A) noS G A := {
    inj := fun i j _ _ e => e
    lt := fun i hi => Nat.lt_of_lt_of_le hi l1.rel.gnext
    glob := fun g hg => ⟨rfl, rfl, (l1.rel.glob g hg).2.2.2⟩
    gH := Nat.le_refl _
    gA := l1.rel.gnext
    obj := fun i o hi ho => by
      obtain ⟨c, e, rfl, hc⟩ := hG.2 i o ho
      exact ⟨_, (l1.rel.glob i hi).2.2.2.trans ho, RO_cells (RV_noId.RVL_noId c hc)⟩
    stab := fun id c esz hl => by
      unfold look layS noS rowsOf at hl
      simp only [if_true] at hl
      split at hl
      · rename_i x hx
        cases hl
        split at hx
        · split at hx
          · rename_i c' e' ro hg
            cases hx
            refine ⟨?_, ro, hg⟩
            rcases Nat.lt_or_ge id A.next with hlt | hge
            · exact hlt
            · rw [l1.rel.wf id hge] at hg; cases hg
          · cases hx
        · cases hx
      · cases hl
    excl := fun i o hi ho hw => by obtain ⟨c, e, rfl, hc⟩ := hG.2 i o ho; simp [AObj.wr] at hw
    wfH := hG.1
    wfA := l1.rel.wf }
  have rv2 : RVL (fun i => i) G.next (layS G A) noS args 2 us := RVL_mono (fun e => by omega) (LeS.refl _ _ _) (by omega) (Nat.le_refl _) _ _ rv1
  obtain ⟨ρ1, S1, v', A', k1, k2, k3, k4⟩ := (acallT (lo := G.next) (loA := A.next) hG hck k (Nat.le_refl _)).sim _ _ _ _ _ hk _ _ _ _ _ htr (fun i h1 h2 => by omega) (Nat.le_refl _) rv2
  have hv' := boolT k4
  subst hv'
  have hc := acall_sim hm htab (G := G) hn hGh.ok (k + 6) (lo := A.next) l1.rel.gnext
  rw [← ren1]
  have hb : HasBody P f := by
    rcases hc.body _ _ _ _ k1 with hb | ⟨i, hi, _⟩
    · exact hb
    · cases hi
  refine (hc.calls f us _ _ _ k1 hb ρ _ w l1.rel ok1).mono ?_
  rintro e w' ⟨ρ', D', rfl, hst, _, _⟩
  exact ⟨rfl, hst.grown fun id o _ ho => l1.ro id o ho⟩
end
end Go.RI

