import Derived.Test.YtpkhhphpjhfoiaaGreatDoorM02
import Derived.Laws.Externs
import Derived.LoopNIn
import Derived.Scope
set_option linter.unusedVariables false
set_option linter.unusedSimpArgs false
set_option linter.unusedSectionVars false
/- RI, part U: the theorem on a region that leaves its order open: one place more; all places. Conditions: none. -/
namespace Go.RI
open Go

section
variable {ds : List Deferred} {P : Program} {G : AHeap} {lo nt : Nat} {call : CallI} {ops : Array Oper} {order : List Nat} {xs : List Item} {E : Nat → Env} {Hh : Nat → AHeap} {ρ0 : Ren} {D0 : Nat → Prop} {w0 : World}
variable {listed : Array Bool} {a : Act} {w : World} {T : Nat} {ρ : Ren} {D : Nat → Prop}

theorem set_get {i j : Nat} (hi : i < listed.size) : (listed.setIfInBounds i true).getD j false = true ↔ j = i ∨ listed.getD j false = true := by
  by_cases h : i = j
  · subst h; simp [hi]
  · rw [getD_set_ne false h]
    constructor
    · exact .inr
    · rintro (h1 | h1)
      · exact absurd h1.symm h
      · exact h1

theorem set_get_false {i j : Nat} (hi : i < listed.size) (h : (listed.setIfInBounds i true).getD j false = false) : j ≠ i ∧ listed.getD j false = false := by
  constructor
  · rintro rfl
    have := (set_get (listed := listed) (i := j) (j := j) hi).2 (.inl rfl)
    rw [h] at this; cases this
  · cases h1 : listed.getD j false with
    | false => rfl
    | true =>
      have := (set_get (listed := listed) (i := i) (j := j) hi).2 (.inr h1)
      rw [h] at this; cases this

theorem closed_set (hc : Closed ops listed) {i : Nat} (hi : i < listed.size) (hr : ReadyOr ops listed i) : Closed ops (listed.setIfInBounds i true) := by
  intro j o e ho hj he hb
  refine (set_get hi).2 (.inr ?_)
  rcases (set_get hi).1 hj with rfl | h
  · exact hr o e ho he hb
  · exact hc j o e ho h he hb

theorem SR.put_ne {ρ' : Ren} {D' : Nat → Prop} {s : Nat} {v : AVal} (h : SR ρ D nt a s v) (hD : ∀ id, D id → D' id ∧ ρ' id = ρ id) {dst : Option Nat} (hne : dst ≠ some s) (V : Value) : SR ρ' D' nt (a.put dst V) s v := by
  obtain ⟨h1, h2, h3⟩ := h
  refine ⟨h1, ?_, ok_mono hD v h3⟩
  rw [ren_congr (fun id hd => (hD id hd).2) v h3, ← h2]
  cases dst with
  | none => rfl
  | some t =>
    have : t ≠ s := fun e => hne (by rw [e])
    simp [Act.put, Array.getD_eq_getD_getElem?, this]

theorem SR.put_eq {s : Nat} {v : AVal} (hs : s < nt) (hsz : a.tmps.size = nt) (hv : ok ρ D v) : SR ρ D nt (a.put (some s) (ren ρ v)) s v := by
  refine ⟨hs, ?_, hv⟩
  have : s < a.tmps.size := by rw [hsz]; exact hs
  simp [Act.put, Array.getD, this]

variable (c : Ctx P G lo nt call ops order xs E Hh ρ0 D0)
include c

/-- The slots behind one place more. -/
theorem slots_next (iv : Inv ds G lo nt ops order xs E Hh ρ0 D0 w0 listed a w T ρ D) {p i : Nat} {x : Item} (hp : order[p]? = some i) (hx : xs[p]? = some x) (hnl : listed.getD i false = false) (hisz : i < listed.size)
    {T2 : Nat} (hpT2 : p < T2) (hT2N : T2 ≤ xs.length) {ρ' : Ren} {D' : Nat → Prop} (hold : ∀ id, D id → D' id ∧ ρ' id = ρ id) {v : AVal} (hv : ok ρ' D' v) (hE : E (p + 1) = putD (E p) x.dst v) (hdst : dstOk nt x.dst = true) :
    (∀ (t : Nat) (y : Item) (j s : Nat) (u : AVal), t < T2 → xs[t]? = some y → order[t]? = some j → (listed.setIfInBounds i true).getD j false = true → y.dst = some s → (E T2).get s = some u → SR ρ' D' nt (a.put x.dst (ren ρ' v)) s u) ∧
    (∀ (s : Nat) (u : AVal), (∀ (t : Nat) (y : Item) (j : Nat), xs[t]? = some y → order[t]? = some j → (listed.setIfInBounds i true).getD j false = true → y.dst ≠ some s) → (E 0).get s = some u → SR ρ' D' nt (a.put x.dst (ren ρ' v)) s u) := by
  have stay : ∀ {t : Nat} {y : Item} {s t' : Nat}, xs[t]? = some y → y.dst = some s → t < t' → t' ≤ xs.length → (E t').get s = (E (t + 1)).get s := fun {t y s t'} hy hys h1 h2 =>
    E_stay' c (by omega) h2 fun k z h3 h4 hz hzd => by
      have := c.plan.dst t k y z s hy hz hys hzd; omega
  constructor
  · intro t y j s u ht hy hj hl hys hu
    have htp : t = p ∨ t ≠ p := by omega
    rcases htp with rfl | hne
    · rw [hx] at hy; cases hy
      rw [stay hx hys hpT2 hT2N, hE, hys, get_putD_eq] at hu
      cases hu
      rw [hys]
      rw [hys] at hdst
      exact SR.put_eq (by simpa [dstOk] using hdst) iv.tsize hv
    · have hji : j ≠ i := fun e => by subst e; exact hne (c.plan.uniq t p j hj hp)
      have hlj : listed.getD j false = true := ((set_get hisz).1 hl).resolve_left hji
      have htT := listed_lt c iv hj hlj
      refine SR.put_ne (iv.sa t y j s u htT hy hj hlj hys ?_) hold (fun hd => hne (c.plan.dst t p y x s hy hx hys hd)) _
      rw [stay hy hys htT iv.TN, ← stay hy hys ht hT2N]; exact hu
  · intro s u hno hu
    refine SR.put_ne (iv.sb s u (fun t y j hy hj hl => hno t y j hy hj ((set_get hisz).2 (.inr hl))) hu) hold ?_ _
    exact hno p x i hx hp ((set_get hisz).2 (.inl rfl))

/-- A place ahead of the first act. -/
theorem inv_float (iv : Inv ds G lo nt ops order xs E Hh ρ0 D0 w0 listed a w T ρ D) {p i : Nat} {x : Item} (hp : order[p]? = some i) (hx : xs[p]? = some x) (hnl : listed.getD i false = false) (hisz : i < listed.size) (hr : ReadyOr ops listed i) (hpT : p < T)
    {ρ' : Ren} {D' : Nat → Prop} {w' : World} (hrel : HRel G ρ' D' (Hh T) w') (hstep : Step lo ρ0 D0 (Hh 0) w0 ρ' D' (Hh T) w') (hold : ∀ id, D id → D' id ∧ ρ' id = ρ id)
    (hnew : ∀ id, D' id → ¬ D id → mkAt x.op (E p) = true ∧ wantedI (E p) x.guard = some true ∧ id = (Hh p).next) {v : AVal} (hv : ok ρ' D' v) (hE : E (p + 1) = putD (E p) x.dst v) (hdst : dstOk nt x.dst = true) :
    Inv ds G lo nt ops order xs E Hh ρ0 D0 w0 (listed.setIfInBounds i true) (a.put x.dst (ren ρ' v)) w' T ρ' D' := by
  obtain ⟨s1, s2⟩ := slots_next c iv hp hx hnl hisz hpT iv.TN hold hv hE hdst
  exact {
    size := by simp [iv.size]
    closed := closed_set iv.closed hisz hr
    TN := iv.TN
    act := fun h => by
      obtain ⟨y, j, hy, hya, hj, hl⟩ := iv.act h
      refine ⟨y, j, hy, hya, hj, ?_⟩
      have hne : j ≠ i := fun e => by subst e; have := c.plan.uniq p T j hp hj; omega
      rw [getD_set_ne false (fun e => hne e.symm)]; exact hl
    done := fun q y j h1 h2 h3 h4 => (set_get hisz).2 (.inr (iv.done q y j h1 h2 h3 h4))
    hrel := hrel
    step := hstep
    tsize := by cases x.dst <;> simp [Act.put, iv.tsize]
    defers := by cases x.dst <;> simp [Act.put, iv.defers]
    sa := s1
    sb := s2
    wfs := iv.wfs
    mono := iv.mono
    f1 := fun q y j u h1 h2 h3 h4 => iv.f1 q y j u h1 h2 h3 (set_get_false hisz h4).2
    f2 := fun q y j h1 h2 h3 h4 h5 h6 => by
      obtain ⟨hji, hlj⟩ := set_get_false hisz h4
      obtain ⟨g1, g2⟩ := iv.f2 q y j h1 h2 h3 hlj h5 h6
      refine ⟨fun hd => ?_, g2⟩
      obtain ⟨k1, k2, k3⟩ := hnew _ hd g1
      have hqp : q ≠ p := fun e => by subst e; rw [h3] at hp; cases hp; exact hji rfl
      -- two rows that are made have two names
      have two : ∀ {q q' : Nat} {y : Item}, q < q' → q' ≤ T → xs[q]? = some y → mkAt y.op (E q) = true → wantedI (E q) y.guard = some true → (Hh q).next ≠ (Hh q').next := by
        intro q q' y hqq hq' hy hm hw
        have hact : y.op.act = false := mk_act hm
        obtain ⟨hi, _⟩ := c.run q y hy
        have hmono := iv.mono (q + 1) q' (by omega) hq'
        simp only [itemI, hw] at hi
        have hpush : (Hh (q + 1)).next = (Hh q).next + 1 := by
          split at hi
          · rename_i v2 H2 hop
            rw [opI_plain hact] at hop
            rw [← (Prod.mk.inj (Option.some.inj hi)).2]; exact (mk_next hm hop).2
          · rename_i H2 hop
            rw [opI_plain hact] at hop
            obtain ⟨⟨uu, hu⟩, _⟩ := mk_next hm hop
            cases hu
          · cases hi
        omega
      rcases Nat.lt_or_ge q p with h7 | h7
      · exact two h7 (by omega) h2 h5 h6 k3
      · exact two (by omega) (by omega) hx k1 k2 k3.symm }

/-- The first act. -/
theorem inv_act (iv : Inv ds G lo nt ops order xs E Hh ρ0 D0 w0 listed a w T ρ D) {i : Nat} {x : Item} (hp : order[T]? = some i) (hx : xs[T]? = some x) (hxa : x.op.act = true) (hnl : listed.getD i false = false) (hisz : i < listed.size) (hr : ReadyOr ops listed i)
    {ρ' : Ren} {D' : Nat → Prop} {w' : World} (hrel : HRel G ρ' D' (Hh (T + 1)) w') (hstep : Step lo ρ0 D0 (Hh 0) w0 ρ' D' (Hh (T + 1)) w') (hold : ∀ id, D id → D' id ∧ ρ' id = ρ id)
    (hnew : ∀ id, D' id → id < (Hh T).next → D id) (hghost : ∀ id, id < (Hh T).next → ¬ D id → (Hh (T + 1)).get id = (Hh T).get id) (hnext : (Hh T).next ≤ (Hh (T + 1)).next)
    {v : AVal} (hv : ok ρ' D' v) (hE : E (T + 1) = putD (E T) x.dst v) (hdst : dstOk nt x.dst = true) (hskip : skipI call (E T) x.op = true → Ext (Hh T) (Hh (T + 1))) :
    ∃ T2, Inv ds G lo nt ops order xs E Hh ρ0 D0 w0 (listed.setIfInBounds i true) (a.put x.dst (ren ρ' v)) w' T2 ρ' D' := by
  have hTN : T < xs.length := order_lt c hp
  obtain ⟨T2, t1, t2, t3, t4⟩ := next_act (xs := xs) (xs.length - (T + 1)) (T + 1) (by omega)
  have hwf1 : Wf (Hh (T + 1)) := hrel.wf
  have ext : ∀ k, T + 1 ≤ k → k ≤ T2 → Ext (Hh (T + 1)) (Hh k) ∧ Wf (Hh k) := fun k h1 h2 => ext_stay' c h1 (by omega) hwf1 fun j y h3 h4 hy => t3 j y h3 (by omega) hy
  have ext2 : ∀ k k', T + 1 ≤ k → k ≤ k' → k' ≤ T2 → Ext (Hh k) (Hh k') := fun k k' h1 h2 h3 => (ext_stay' c h2 (by omega) (ext k h1 (by omega)).2 fun j y h4 h5 hy => t3 j y (by omega) (by omega) hy).1
  obtain ⟨e1, e2⟩ := ext T2 t1 (Nat.le_refl _)
  obtain ⟨s1, s2⟩ := slots_next c iv hp hx hnl hisz (T2 := T2) (by omega) t2 hold hv hE hdst
  have hre := (c.run T x hx).2
  refine ⟨T2, {
    size := by simp [iv.size]
    closed := closed_set iv.closed hisz hr
    TN := t2
    act := fun h => by
      obtain ⟨y, hy, hya⟩ := t4 h
      have hol : T2 < order.length := by rw [← c.plan.len]; exact h
      refine ⟨y, order[T2], hy, hya, List.getElem?_eq_getElem hol, ?_⟩
      have hne : order[T2] ≠ i := fun e => by
        have := c.plan.uniq T2 T i (by rw [List.getElem?_eq_getElem hol, e]) hp; omega
      rw [getD_set_ne false (fun e => hne e.symm)]
      cases hl : listed.getD order[T2] false with
      | false => rfl
      | true => have := listed_lt c iv (List.getElem?_eq_getElem hol) hl; omega
    done := fun q y j h1 h2 h3 h4 => by
      refine (set_get hisz).2 ?_
      rcases Nat.lt_or_ge q T with h5 | h5
      · exact .inr (iv.done q y j h5 h2 h3 h4)
      · rcases Nat.lt_or_ge T q with h6 | h6
        · have := t3 q y (by omega) h1 h2; rw [h3] at this; cases this
        · have : q = T := by omega
          subst this; rw [hp] at h4; cases h4; exact .inl rfl
    hrel := heapExt_sim hrel e1 e2
    step := hstep.ext hrel.lt e1
    tsize := by cases x.dst <;> simp [Act.put, iv.tsize]
    defers := by cases x.dst <;> simp [Act.put, iv.defers]
    sa := s1
    sb := s2
    wfs := fun t ht => by
      rcases Nat.lt_or_ge T t with h1 | h1
      · exact (ext t (by omega) ht).2
      · exact iv.wfs t h1
    mono := fun t t' h1 h2 => by
      rcases Nat.lt_or_ge T t with h3 | h3
      · exact (ext2 t t' (by omega) h1 h2).next
      · rcases Nat.lt_or_ge T t' with h4 | h4
        · exact Nat.le_trans (iv.mono t T h3 (Nat.le_refl _)) (Nat.le_trans hnext (ext t' (by omega) h2).1.next)
        · exact iv.mono t t' h1 h4
    f1 := ?_
    f2 := ?_ }⟩
  · intro p y j u h1 h2 h3 h4 h5 h6 h7
    obtain ⟨hji, hlj⟩ := set_get_false hisz h4
    have hdy := not_dyn h7
    rcases Nat.lt_or_ge p T with hpT | hpT
    · -- looked at ahead of the act, not yet done by the machine
      have h8 := iv.f1 p y j u hpT h2 h3 hlj h5 h6 h7
      rcases c.plan.re p T j i y x h3 hp h2 hx hpT h5 hxa with hb | ⟨s, hs1, hs2, hs3⟩
      · have := hb listed iv.closed hr; rw [hlj] at this; cases this
      · rw [Bool.or_eq_true] at hre
        rcases hre with hsk | hre
        · obtain ⟨_, _, h9⟩ := looks_ext (iv.wfs T (Nat.le_refl _)) ((hskip hsk).trans e1) h5 hdy h8
          exact h9
        have hag : Agree y.reads (E (T + 1)) (E p) := fun u hu => E_stay' c (by omega) (by omega) fun k z h9 h10 hz hzd => by
          have := hs3 u hu k z (by omega) hz hzd; omega
        rw [Bool.or_eq_true] at hre
        rcases hre with hk | hre
        · obtain ⟨n, b, g1, gg⟩ := keep_get (c.run T x hx).1 hk (iv.wfs T (Nat.le_refl _)) hs2
          have h10 : aop lo y.op (E (T + 1)) (Hh T) = some (u, Hh T) := by
            rw [aop_congr _ (hag.l)]
            obtain ⟨g4, _, _⟩ := looks_ext (iv.wfs T (Nat.le_refl _)) (Ext.refl _) h5 hdy h8
            rw [g4] at h8; exact h8
          have h11 : aop lo y.op (E (T + 1)) (Hh (T + 1)) = some (u, Hh (T + 1)) := by
            rw [g1] at h10 ⊢
            rcases gg with ⟨id, off, g2, g3⟩ | ⟨fl, g2⟩
            rotate_left
            · simp only [aop, g2, Option.bind_some, loadV] at h10 ⊢
              rw [Option.map_eq_some_iff] at h10 ⊢
              obtain ⟨q, q1, q2⟩ := h10
              simp only [Prod.mk.injEq, and_true] at q2
              exact ⟨q, q1, by rw [q2]⟩
            simp only [aop, g2, Option.bind_some, loadV, rowAt] at h10 ⊢
            cases n with
            | none =>
              simp only at h10 ⊢
              cases hc : (Hh T).get id with
              | none => simp [hc] at h10
              | some o => rw [g3 o hc]; rw [hc] at h10; simpa using h10
            | some n =>
              simp only at h10 ⊢
              cases hc : (Hh T).get id with
              | none => simp [hc] at h10
              | some o => rw [g3 o hc]; rw [hc] at h10; simpa using h10
          rw [aop_congr _ (hag.l)] at h11
          obtain ⟨_, _, h9⟩ := looks_ext hwf1 e1 h5 hdy h11
          exact h9
        have hw2 : wantedI (E (T + 1)) y.guard = some true := by rw [wanted_congr (hag.r)]; exact h6
        rcases reOk_mem hre s y.op y.guard hs2 hw2 (by rw [dynE_congr hag.l]; exact hdy) with ⟨v', H', hv1, hv2⟩ | hld
        rotate_left
        · have hagT : Agree y.reads (E T) (E p) := fun u hu => E_stay' c (by omega) (by omega) fun k z h9 h10 hz hzd => by
            have := hs3 u hu k z (by omega) hz hzd; omega
          have h10 := h8
          rw [← aop_congr _ (hagT.l)] at h10
          have h11 := ldE_same hld h10
          rw [aop_congr _ (hagT.l)] at h11
          obtain ⟨_, _, h9⟩ := looks_ext hwf1 e1 h5 hdy h11
          exact h9
        obtain ⟨_, ⟨u1, hu1⟩, _⟩ := looks_ext (iv.wfs p (by omega)) (Ext.refl _) h5 hdy h7
        subst hu1
        have hact : y.op.act = false := looks_act h5
        obtain ⟨hi, _⟩ := c.run p y h2
        simp only [itemI, h6, opI_plain hact, h7] at hi
        have hEp : E (p + 1) = putD (E p) y.dst u1 := (Prod.mk.inj (Option.some.inj hi)).1.symm
        have hget : (E (T + 1)).get s = some u1 := by
          rw [E_stay' c (t := p + 1) (by omega) (by omega) fun k z h9 h10 hz hzd => by
            have := c.plan.dst p k y z s h2 hz hs1 hzd; omega]
          rw [hEp, hs1, get_putD_eq]
        rw [hget] at hv1
        cases hv1
        rw [aop_congr _ (hag.l)] at hv2
        obtain ⟨_, _, h9⟩ := looks_ext hwf1 e1 h5 hdy hv2
        exact h9
    · have hpT' : p ≠ T := fun e => by subst e; rw [hx] at h2; cases h2; have := looks_act h5; rw [hxa] at this; cases this
      obtain ⟨_, _, h9⟩ := looks_ext (ext p (by omega) (by omega)).2 (ext2 p T2 (by omega) (by omega) (Nat.le_refl _)) h5 hdy h7
      exact h9
  · intro p y j h1 h2 h3 h4 h5 h6
    obtain ⟨hji, hlj⟩ := set_get_false hisz h4
    have hact : y.op.act = false := mk_act h5
    have hpush : (Hh (p + 1)).next = (Hh p).next + 1 := by
      obtain ⟨hi, _⟩ := c.run p y h2
      simp only [itemI, h6] at hi
      split at hi
      · rename_i v2 H2 hop
        rw [opI_plain hact] at hop
        rw [← (Prod.mk.inj (Option.some.inj hi)).2]; exact (mk_next h5 hop).2
      · rename_i H2 hop
        rw [opI_plain hact] at hop
        obtain ⟨⟨uu, hu⟩, _⟩ := mk_next h5 hop
        cases hu
      · cases hi
    rcases Nat.lt_or_ge p T with hpT | hpT
    · obtain ⟨g1, g2⟩ := iv.f2 p y j hpT h2 h3 hlj h5 h6
      have hlt : (Hh p).next < (Hh T).next := by have := iv.mono (p + 1) T (by omega) (Nat.le_refl _); omega
      refine ⟨fun hd => g1 (hnew _ hd hlt), ?_⟩
      rw [e1.get _ (by omega), hghost _ hlt g1]
      exact g2
    · have hpT' : p ≠ T := fun e => by subst e; rw [hx] at h2; cases h2; rw [hxa] at hact; cases hact
      have h9 := (ext p (by omega) (by omega)).1.next
      refine ⟨fun hd => ?_, ?_⟩
      · have := hrel.lt _ hd; omega
      · exact (ext2 (p + 1) T2 (by omega) (by omega) (Nat.le_refl _)).get _ (by omega)

end
end Go.RI

/- RI, part V: a region that leaves its order open, whole. Conditions: none. -/
namespace Go.RI
open Go

/-- How many places are not done. -/
def left (n : Nat) (listed : Array Bool) : Nat := ((List.range n).filter fun i => !listed.getD i false).length

theorem left_set {n i : Nat} {listed : Array Bool} (hi : i < listed.size) (hin : i < n) (hf : listed.getD i false = false) : left n (listed.setIfInBounds i true) < left n listed := by
  unfold left
  have hsub : ∀ l : List Nat, (l.filter fun j => !(listed.setIfInBounds i true).getD j false).length ≤ (l.filter fun j => !listed.getD j false).length ∧
      (i ∈ l → (l.filter fun j => !(listed.setIfInBounds i true).getD j false).length < (l.filter fun j => !listed.getD j false).length) := by
    intro l
    induction l with
    | nil => exact ⟨Nat.le_refl _, fun h => by cases h⟩
    | cons j l ih =>
      by_cases hj : j = i
      · subst hj
        have h1 : (listed.setIfInBounds j true).getD j false = true := (set_get hi).2 (.inl rfl)
        rw [List.filter_cons_of_neg (by simp only [h1]; simp), List.filter_cons_of_pos (by simp only [hf]; rfl)]
        simp only [List.length_cons]
        exact ⟨by omega, fun _ => by omega⟩
      · have h1 : (listed.setIfInBounds i true).getD j false = listed.getD j false := getD_set_ne false (fun e => hj e.symm)
        cases h2 : listed.getD j false with
        | true =>
          rw [List.filter_cons_of_neg (by rw [h1, h2]; simp), List.filter_cons_of_neg (by rw [h2]; simp)]
          exact ⟨ih.1, fun hm => ih.2 ((List.mem_cons.1 hm).resolve_left (fun e => hj e.symm))⟩
        | false =>
          rw [List.filter_cons_of_pos (by rw [h1, h2]; rfl), List.filter_cons_of_pos (by rw [h2]; rfl)]
          simp only [List.length_cons]
          exact ⟨by omega, fun hm => by have := ih.2 ((List.mem_cons.1 hm).resolve_left (fun e => hj e.symm)); omega⟩
  exact (hsub (List.range n)).2 (by simpa using hin)

section
variable {ds : List Deferred} {P : Program} {G : AHeap} {lo nt : Nat} {call : CallI} {ops : Array Oper} {order : List Nat} {xs : List Item} {E : Nat → Env} {Hh : Nat → AHeap} {ρ0 : Ren} {D0 : Nat → Prop} {w0 : World}
variable (c : Ctx P G lo nt call ops order xs E Hh ρ0 D0)
include c

theorem order_ops {t i : Nat} (h : order[t]? = some i) : i < ops.size := by
  obtain ⟨o, x, io, ho, _⟩ := c.plan.item t i h
  rcases Nat.lt_or_ge i ops.size with h1 | h1
  · exact h1
  · rw [Array.getElem?_eq_none h1] at ho; cases ho

/-- If a place is not done, one can be next. -/
theorem some_ready {listed : Array Bool} (hsz : listed.size = ops.size) {i : Nat} (hi : i < ops.size) (hl : listed.getD i false = false) : Region.ready .any ops listed ≠ [] := by
  obtain ⟨p, hp⟩ := c.plan.all i hi
  -- the first place of the plan that is not done
  have key : ∀ (p i : Nat), order[p]? = some i → listed.getD i false = false → ∃ j, j ∈ Region.ready .any ops listed := by
    intro p
    induction p using Nat.strongRecOn with
    | _ p ih =>
      intro i hp hl
      by_cases hex : ∃ q j, q < p ∧ order[q]? = some j ∧ listed.getD j false = false
      · obtain ⟨q, j, h1, h2, h3⟩ := hex
        exact ih q h1 j h2 h3
      · have hilt := order_ops c hp
        obtain ⟨o, x, io, ho, _⟩ := c.plan.item p i hp
        refine ⟨i, mem_ready.2 ⟨?_, o, ho, fun e he hb => ?_⟩⟩
        · have : i < listed.size := by rw [hsz]; exact hilt
          simp only [Array.getD, this, dif_pos] at hl ⊢; exact hl
        · obtain ⟨t', h1, h2⟩ := c.plan.topo p i o e hp ho he hb
          cases h3 : listed.getD e.on false with
          | true => rfl
          | false => exact absurd ⟨t', e.on, h1, h2, h3⟩ hex
  obtain ⟨j, hj⟩ := key p i hp hl
  intro h
  rw [h] at hj
  cases hj

omit c in
theorem trOpC_plain {o : Oper} {io : IOp} (hio : trOpC P o = some io) (ha : io.quiet.act = false) : trOp P o = some io := by
  unfold trOpC at hio
  split at hio
  · split at hio
    · cases hio; assumption
    · cases hio
  · split at hio
    · split at hio
      · rename_i io0 h0
        cases hio
        unfold trCall at h0
        split at h0
        · rw [Option.map_eq_some_iff] at h0
          obtain ⟨l, _, rfl⟩ := h0
          simp [IOp.quiet, IOp.act] at ha
        · split at h0
          · cases h0; simp [IOp.quiet, IOp.act] at ha
          · cases h0
        · split at h0
          · cases h0; simp [IOp.quiet, IOp.act] at ha
          · cases h0
        · cases h0
      · cases hio; simp [IOp.quiet, IOp.act] at ha
    · cases hio; simp [IOp.quiet, IOp.act] at ha

/-- One place more. -/
theorem draw_step {R : Option Nat} {m : Nat} {Q : Exit → Act → World → Prop} {K : Act → World → Prop} {listed : Array Bool} {a : Act} {w : World} {T : Nat} {ρ : Ren} {D : Nat → Prop} {i : Nat}
    (iv : Inv ds G lo nt ops order xs E Hh ρ0 D0 w0 listed a w T ρ D) (hi : i ∈ Region.ready .any ops listed)
    (hK : ∀ a' w' T' ρ' D', Inv ds G lo nt ops order xs E Hh ρ0 D0 w0 (listed.setIfInBounds i true) a' w' T' ρ' D' → K a' w') : wpOpIn (FR R) m P ops Q i K a w := by
  obtain ⟨h1, o, ho, hpre⟩ := mem_ready.1 hi
  have hilt : i < ops.size := by
    rcases Nat.lt_or_ge i ops.size with h | h
    · exact h
    · rw [Array.getElem?_eq_none h] at ho; cases ho
  have hisz : i < listed.size := by rw [iv.size]; exact hilt
  have hnl : listed.getD i false = false := by simp only [Array.getD, hisz, dif_pos] at h1 ⊢; exact h1
  have hr : ReadyOr ops listed i := fun o' e ho' he hb => by rw [ho] at ho'; cases ho'; exact hpre e he hb
  obtain ⟨p, hp⟩ := c.plan.all i hilt
  obtain ⟨o', x, io, ho', hx, hio, hxop, hguard, hxdst, hdst⟩ := c.plan.item p i hp
  rw [ho] at ho'; cases ho'
  have hpT := pos_le c iv p i hp hr
  have hplen := order_lt c hp
  -- what it reads
  have hreads := reads_ok c iv hp hx hr hnl
  have har : ARel ds ρ D nt ((E p).only x.reads) a := ⟨iv.tsize, iv.defers, fun t v hv => by
    rw [Env.get_only] at hv
    split at hv
    · rename_i hc; exact hreads t (by simpa using hc) v hv
    · cases hv⟩
  have hag : Agree x.reads ((E p).only x.reads) (E p) := agree_only _ fun u hu => hu
  have hrel : Rel P G ds ρ D nt ((E p).only x.reads) a (Hh T) w := ⟨c.gsize, c.gok, iv.hrel, har⟩
  obtain ⟨hi1, hi2⟩ := c.run p x hx
  -- behind it: ahead of the first act
  have goF : p < T → ∀ (ρ' : Ren) (D' : Nat → Prop) (w' : World) (v : AVal), HRel G ρ' D' (Hh T) w' → Step lo ρ0 D0 (Hh 0) w0 ρ' D' (Hh T) w' → (∀ id, D id → D' id ∧ ρ' id = ρ id) →
      (∀ id, D' id → ¬ D id → mkAt x.op (E p) = true ∧ wantedI (E p) x.guard = some true ∧ id = (Hh p).next) → ok ρ' D' v → E (p + 1) = putD (E p) x.dst v →
      K (a.put x.dst (ren ρ' v)) w' := fun hlt ρ' D' w' v g1 g2 g3 g4 g5 g6 =>
    hK _ _ _ _ _ (inv_float c iv hp hx hnl hisz hr hlt g1 g2 g3 g4 g5 g6 hdst)
  have goA : p = T → x.op.act = true → ∀ (ρ' : Ren) (D' : Nat → Prop) (w' : World) (v : AVal), HRel G ρ' D' (Hh (p + 1)) w' → Step lo ρ0 D0 (Hh 0) w0 ρ' D' (Hh (p + 1)) w' → (∀ id, D id → D' id ∧ ρ' id = ρ id) →
      (∀ id, D' id → id < (Hh p).next → D id) → (∀ id, id < (Hh p).next → ¬ D id → (Hh (p + 1)).get id = (Hh p).get id) → (Hh p).next ≤ (Hh (p + 1)).next → ok ρ' D' v → E (p + 1) = putD (E p) x.dst v → (skipI call (E p) x.op = true → Ext (Hh p) (Hh (p + 1))) →
      K (a.put x.dst (ren ρ' v)) w' := by
    rintro rfl hxa ρ' D' w' v g1 g2 g3 g4 g5 g6 g7 g8 g9
    obtain ⟨T2, iv2⟩ := inv_act c iv hp hx hxa hnl hisz hr g1 g2 g3 g4 g5 g6 g7 g8 hdst g9
    exact hK _ _ _ _ _ iv2
  have hactT : x.op.act = true → p = T := fun hxa => by
    rcases Nat.lt_or_ge p T with h | h
    · have := iv.done p x i h hx hxa hp; rw [hnl] at this; cases this
    · omega
  have hfloatT : x.op.act = false → p < T := fun hxa => by
    rcases Nat.lt_or_ge p T with h | h
    · exact h
    · exfalso
      have : p = T := by omega
      subst this
      obtain ⟨y, j, hy, hya, _⟩ := iv.act hplen
      rw [hx] at hy; cases hy; rw [hxa] at hya; cases hya
  unfold wpOpIn
  rw [ho]
  simp only
  simp only [itemI] at hi1
  split at hi1
  · cases hi1
  · -- left out
    rename_i hw
    have hwe : wantedI ((E p).only x.reads) x.guard = some false := by rw [wanted_congr hag.r]; exact hw
    rw [guard_sim har hguard hwe]
    simp only [Bool.false_eq_true, if_false]
    refine ⟨fun _ _ => trivial, ?_⟩
    have hE : E (p + 1) = putD (E p) x.dst (.tu []) := (Prod.mk.inj (Option.some.inj hi1)).1.symm
    have hH : Hh (p + 1) = Hh p := (Prod.mk.inj (Option.some.inj hi1)).2.symm
    rw [← hxdst]
    cases hxa : x.op.act with
    | false => exact goF (hfloatT hxa) ρ D w (.tu []) iv.hrel iv.step (fun _ h => ⟨h, rfl⟩) (fun id h1 h2 => absurd h1 h2) (by simp [ok, okL]) hE
    | true =>
      have hpT2 := hactT hxa
      subst hpT2
      exact goA rfl hxa ρ D w (.tu []) (by rw [hH]; exact iv.hrel) (by rw [hH]; exact iv.step) (fun _ h => ⟨h, rfl⟩) (fun _ h _ => h) (fun _ _ _ => by rw [hH]) (by rw [hH]; exact Nat.le_refl _) (by simp [ok, okL]) hE (fun _ => by rw [hH]; exact Ext.refl _)
  · rename_i hw
    have hwe : wantedI ((E p).only x.reads) x.guard = some true := by rw [wanted_congr hag.r]; exact hw
    rw [guard_sim har hguard hwe]
    simp only [if_true]
    -- what it made
    obtain ⟨v, hv, hE⟩ : ∃ v, opI call lo x.op (E p) (Hh p) = some (v, Hh (p + 1)) ∧ E (p + 1) = putD (E p) x.dst (v.getD (.tu [])) := by
      split at hi1
      · rename_i v2 H2 hop
        have h2 := (Prod.mk.inj (Option.some.inj hi1)).2
        exact ⟨some v2, by rw [hop, h2], (Prod.mk.inj (Option.some.inj hi1)).1.symm⟩
      · rename_i H2 hop
        have h2 := (Prod.mk.inj (Option.some.inj hi1)).2
        exact ⟨none, by rw [hop, h2], (Prod.mk.inj (Option.some.inj hi1)).1.symm⟩
      · cases hi1
    have hnd := trOpC_nd hio (by rintro rfl; rw [hxop] at hv; simp [IOp.quiet, opI, aop] at hv)
    cases hxa : x.op.act with
    | true =>
      have hpT2 := hactT hxa
      subst hpT2
      have hv' : opI call lo io ((E p).only x.reads) (Hh p) = some (v, Hh (p + 1)) := by
        refine quiet_opI ?_
        rw [← hxop, opI_congr _ hag.l]; exact hv
      refine opC_sim c.calls hrel c.glo hio hv' ?_
      intro ρ' D' w' hst hrel' hok hsk
      rw [← hxdst]
      refine goA rfl hxa ρ' D' w' _ hrel' (iv.step.trans hst) hst.old hst.new hst.ghost hst.next hok hE (fun h => hsk ?_)
      rw [← skipI_congr hag.l, hxop] at h
      cases io <;> first | exact h | (simp [IOp.quiet, skipI] at h)
    | false =>
      have hlt := hfloatT hxa
      rw [opI_plain hxa] at hv
      have hplain : trOp P o = some io := trOpC_plain hio (by rw [← hxop]; exact hxa)
      -- it looks, or is still: at the heap as it stands now
      have now : aop lo x.op (E p) (Hh T) = some (v, Hh T) → (o.wpIn (FR R) m P a w K Q) := by
        intro h
        have h' : aop lo io ((E p).only x.reads) (Hh T) = some (v, Hh T) := by
          refine quiet_aop ?_
          rw [← hxop, aop_congr _ hag.l]; exact h
        obtain ⟨ρ', D', w', hrun, hst, hrel', hok⟩ := aop_sim hrel c.glo hplain h'
        have hDD : ∀ id, D' id → ¬ D id → False := fun id h1 h2 => h2 (hst.new id h1 (hrel'.lt id h1))
        refine ⟨fun _ _ => trivial, ?_⟩
        rw [Oper.semAt_eq _ _ _ hnd, hrun]
        cases v with
        | none =>
          have := goF hlt ρ' D' w' (.tu []) hrel' (iv.step.trans hst) hst.old (fun id h1 h2 => (hDD id h1 h2).elim) (by simp [ok, okL]) hE
          rw [hxdst] at this; exact this
        | some u =>
          have := goF hlt ρ' D' w' u hrel' (iv.step.trans hst) hst.old (fun id h1 h2 => (hDD id h1 h2).elim) (hok u rfl) hE
          rw [hxdst] at this; exact this
      rcases kinds x.op hxa with ⟨k1, k2⟩ | k1 | k1
      · obtain ⟨_, _, k3⟩ := aop_still hxa k1 k2 hv
        exact now (k3 (Hh T))
      · cases hdy : dynE x.op (E p) with
        | false =>
          obtain ⟨k2, _, _⟩ := looks_ext (iv.wfs p (by omega)) (Ext.refl _) k1 hdy hv
          rw [k2] at hv
          exact now (iv.f1 p x i v hlt hx hp hnl k1 hw hv)
        | true =>
          -- a name for an empty slice
          obtain ⟨rfl, hgh⟩ := dyn_push hdy hv
          have hv' : aop lo io ((E p).only x.reads) (Hh p) = some (some (.sl (Hh p).next 0 0 none), Hh (p + 1)) := by
            refine quiet_aop ?_
            rw [← hxop, aop_congr _ hag.l]; exact hv
          obtain ⟨L, hrun⟩ := dyn_sim hrel hplain (by rw [← hxop, dynE_congr hag.l]; exact hdy) hv'
          obtain ⟨g1, g2⟩ := iv.f2 p x i hlt hx hp hnl (by unfold mkAt; rw [hdy, Bool.or_true]) hw
          have hnx : (Hh (p + 1)).next = (Hh p).next + 1 := by rw [hgh]; rfl
          have hlt2 : (Hh p).next < (Hh T).next := by have := iv.mono (p + 1) T (by omega) (Nat.le_refl _); omega
          have hG : (Hh 0).next ≤ (Hh p).next := iv.mono 0 p (Nat.zero_le _) (by omega)
          have hGn : G.next ≤ (Hh 0).next := c.g0
          have hobj : (Hh T).get (Hh p).next = none := by rw [g2, hgh, ghostH_get, if_pos rfl]
          have hrel2 := ghost_alias iv.hrel g1 hlt2 (by omega) hobj L
          have hst2 := iv.step.alias hG c.d0 hobj L
          have hold : ∀ id, D id → ins D (Hh p).next id ∧ upd ρ (Hh p).next L id = ρ id := fun id hd => ⟨.inr hd, upd_other _ _ (fun e => g1 (e ▸ hd))⟩
          have huok : ok (upd ρ (Hh p).next L) (ins D (Hh p).next) (.sl (Hh p).next 0 0 none) := by simp [ok, ins]
          have := goF hlt _ _ w _ hrel2 hst2 hold (fun id h1 h2 => ⟨by unfold mkAt; rw [hdy, Bool.or_true], hw, h1.resolve_right h2⟩) huok hE
          refine ⟨fun _ _ => trivial, ?_⟩
          rw [Oper.semAt_eq _ _ _ hnd, hrun (Hh p).next]
          rw [hxdst] at this; exact this
      · -- a new row
        have hioq : io.quiet = io := by
          cases io <;> first | rfl | (rw [hxop] at k1; simp [IOp.quiet, IOp.makes] at k1)
        rw [hioq] at hxop
        have hv' : aop lo io ((E p).only x.reads) (Hh p) = some (v, Hh (p + 1)) := by
          rw [← hxop, aop_congr _ hag.l]; exact hv
        obtain ⟨cs, esz, u, C, el, w', rfl, hpush, hrun, hheap, hos, htp, hout, hlen, hget, hcok, hcone, hu⟩ := makes_sim (D := D) hrel hplain (by rw [← hxop]; exact k1) hv'
        obtain ⟨g1, g2⟩ := iv.f2 p x i hlt hx hp hnl (by unfold mkAt; rw [k1, Bool.true_or]) hw
        have hnx : (Hh (p + 1)).next = (Hh p).next + 1 := by rw [hpush]; rfl
        have hlt2 : (Hh p).next < (Hh T).next := by have := iv.mono (p + 1) T (by omega) (Nat.le_refl _); omega
        have hG : (Hh 0).next ≤ (Hh p).next := iv.mono 0 p (Nat.zero_le _) (by omega)
        have hGn : G.next ≤ (Hh 0).next := c.g0
        have hobj : (Hh T).get (Hh p).next = some (.cells cs esz false) := by
          rw [g2, hpush, AHeap.get_push, if_pos rfl]
        have hrel2 := ghost_sim iv.hrel g1 hlt2 (by omega) hobj hheap hlen hget hcok hcone
        have hst2 := iv.step.ghostly (L := ⟨w.heap.size, 0, C.size, esz⟩) hG g1 c.d0 (Nat.le_refl _) hheap hos htp hout
        have hold : ∀ id, D id → ins D (Hh p).next id ∧ upd ρ (Hh p).next ⟨w.heap.size, 0, C.size, esz⟩ id = ρ id := fun id hd => ⟨.inr hd, upd_other _ _ (fun e => g1 (e ▸ hd))⟩
        have huok : ok (upd ρ (Hh p).next ⟨w.heap.size, 0, C.size, esz⟩) (ins D (Hh p).next) u := by
          rcases hu with rfl | ⟨len, cap, rfl⟩ <;> simp [ok, ins]
        have := goF hlt _ _ w' u hrel2 hst2 hold (fun id h1 h2 => ⟨by unfold mkAt; rw [k1, Bool.true_or], hw, h1.resolve_right h2⟩) huok hE
        refine ⟨fun _ _ => trivial, ?_⟩
        rw [Oper.semAt_eq _ _ _ hnd, hrun]
        rw [hxdst] at this; exact this


theorem draw_inv {R : Option Nat} {m : Nat} {Q : Exit → Act → World → Prop} (hQ : ∀ ρ' D' a' w', Step lo ρ0 D0 (Hh 0) w0 ρ' D' (Hh xs.length) w' → HRel G ρ' D' (Hh xs.length) w' → ARel ds ρ' D' nt (E xs.length) a' → Q .normal a' w') :
    ∀ (fuel : Nat) (listed : Array Bool) (a : Act) (w : World), left ops.size listed ≤ fuel → (∃ T ρ D, Inv ds G lo nt ops order xs E Hh ρ0 D0 w0 listed a w T ρ D) → wpAnyIn (FR R) m P .any ops Q fuel listed a w := by
  -- all done
  have fin : ∀ (listed : Array Bool) (a : Act) (w : World), (∃ T ρ D, Inv ds G lo nt ops order xs E Hh ρ0 D0 w0 listed a w T ρ D) → (∀ i, i < ops.size → listed.getD i false = true) → Q .normal a w := by
    rintro listed a w ⟨T, ρ, D, iv⟩ hall
    have hT : T = xs.length := by
      rcases Nat.lt_or_ge T xs.length with h | h
      · obtain ⟨x, i, _, _, hi, hl⟩ := iv.act h
        rw [hall i (order_ops c hi)] at hl; cases hl
      · have := iv.TN; omega
    subst hT
    refine hQ ρ D a w iv.step iv.hrel ⟨iv.tsize, iv.defers, fun s v hv => ?_⟩
    by_cases hw : ∃ (t : Nat) (y : Item), xs[t]? = some y ∧ y.dst = some s
    · obtain ⟨t, y, hy, hys⟩ := hw
      have htl : t < xs.length := by
        rcases Nat.lt_or_ge t xs.length with h | h
        · exact h
        · rw [List.getElem?_eq_none h] at hy; cases hy
      have hto : order[t]? = some (order[t]'(by rw [← c.plan.len]; exact htl)) := List.getElem?_eq_getElem _
      exact iv.sa t y _ s v htl hy hto (hall _ (order_ops c hto)) hys hv
    · refine iv.sb s v (fun t y j hy _ _ hys => hw ⟨t, y, hy, hys⟩) ?_
      rw [← hv]
      symm
      exact E_stay' c (Nat.zero_le _) (Nat.le_refl _) fun t y _ _ hy hys => hw ⟨t, y, hy, hys⟩
  have fin2 : ∀ (listed : Array Bool) (a : Act) (w : World), (∃ T ρ D, Inv ds G lo nt ops order xs E Hh ρ0 D0 w0 listed a w T ρ D) → Region.ready .any ops listed = [] → Q .normal a w := by
    intro listed a w hiv hr
    refine fin listed a w hiv fun i hi => ?_
    cases hl : listed.getD i false with
    | true => rfl
    | false =>
      obtain ⟨T, ρ, D, iv⟩ := hiv
      exact absurd hr (some_ready c iv.size hi hl)
  intro fuel
  induction fuel with
  | zero =>
    intro listed a w hleft hiv
    have hall : ∀ i, i < ops.size → listed.getD i false = true := by
      intro i hi
      cases hl : listed.getD i false with
      | true => rfl
      | false =>
        have h0 : left ops.size listed = 0 := by omega
        unfold left at h0
        have := List.eq_nil_of_length_eq_zero h0
        have hm : i ∈ (List.range ops.size).filter fun i => !listed.getD i false := List.mem_filter.2 ⟨by simpa using hi, by simp only [hl]; rfl⟩
        rw [this] at hm; cases hm
    refine ⟨?_, fin listed a w hiv hall⟩
    apply List.eq_nil_iff_forall_not_mem.2
    intro j hj
    obtain ⟨h1, o, ho, _⟩ := mem_ready.1 hj
    have hjlt : j < ops.size := by
      rcases Nat.lt_or_ge j ops.size with h | h
      · exact h
      · rw [Array.getElem?_eq_none h] at ho; cases ho
    obtain ⟨T, ρ, D, iv⟩ := hiv
    have h2 := hall j hjlt
    have : j < listed.size := by rw [iv.size]; exact hjlt
    simp only [Array.getD, this, dif_pos] at h1 h2
    rw [h2] at h1; cases h1
  | succ fuel ih =>
    intro listed a w hleft hiv
    refine ⟨fin2 listed a w hiv, fun i hi => ?_⟩
    have hisz : i < listed.size := by
      obtain ⟨T, ρ, D, iv⟩ := hiv
      obtain ⟨h1, o, ho, _⟩ := mem_ready.1 hi
      rw [iv.size]
      rcases Nat.lt_or_ge i ops.size with h | h
      · exact h
      · rw [Array.getElem?_eq_none h] at ho; cases ho
    obtain ⟨T, ρ, D, iv⟩ := hiv
    have hnl : listed.getD i false = false := by
      have h1 := (mem_ready.1 hi).1
      simp only [Array.getD, hisz, dif_pos] at h1 ⊢; exact h1
    have hcnt : left ops.size (listed.setIfInBounds i true) ≤ fuel := by have := left_set (n := ops.size) hisz (by rw [← iv.size]; exact hisz) hnl; omega
    exact draw_step c iv hi fun a' w' T' ρ' D' iv' => ih _ _ _ hcnt ⟨T', ρ', D', iv'⟩
end
end Go.RI

/- RI, part W: a region that leaves its order open, turned and checked; the interpreter's run of it is the machine's. Conditions: none. -/
namespace Go.RI
open Go

/-! ### What must be ahead -/
def tabGet : List (Nat × Nat) → Nat → Nat
  | [], _ => 0
  | (k, b) :: l, i => if k = i then b else tabGet l i

def edgeBits (tab : List (Nat × Nat)) : List Edge → Nat
  | [] => 0
  | e :: l => if Region.binds .any e then (1 <<< e.on) ||| tabGet tab e.on ||| edgeBits tab l else edgeBits tab l

def befTab (ops : Array Oper) : List Nat → List (Nat × Nat) → List (Nat × Nat)
  | [], tab => tab
  | i :: l, tab => match ops[i]? with
    | some o => befTab ops l ((i, edgeBits tab o.after.toList) :: tab)
    | none => befTab ops l tab

def befB (tab : List (Nat × Nat)) (i j : Nat) : Bool := (tabGet tab j).testBit i

theorem edgeBits_bef {ops : Array Oper} {tab : List (Nat × Nat)} (ht : ∀ i j, befB tab i j = true → Bef ops i j) {listed : Array Bool} (hc : Closed ops listed) :
    ∀ (es : List Edge), (∀ e ∈ es, Region.binds .any e = true → listed.getD e.on false = true) → ∀ i, (edgeBits tab es).testBit i = true → listed.getD i false = true := by
  intro es
  induction es with
  | nil => intro _ i h; simp [edgeBits] at h
  | cons e es ih =>
    intro hes i h
    simp only [edgeBits] at h
    split at h
    · rename_i hb
      have hon := hes e (by simp) hb
      simp only [Nat.testBit_or, Bool.or_eq_true] at h
      rcases h with (h | h) | h
      · rw [Nat.one_shiftLeft, Nat.testBit_two_pow] at h
        have : e.on = i := by simpa using h
        rw [← this]; exact hon
      · exact ht i e.on h listed hc fun o e' ho he' hb' => hc e.on o e' ho hon he' hb'
      · exact ih (fun e' he' => hes e' (by simp [he'])) i h
    · exact ih (fun e' he' => hes e' (by simp [he'])) i h

theorem befTab_ok {ops : Array Oper} : ∀ (l : List Nat) (tab : List (Nat × Nat)), (∀ i j, befB tab i j = true → Bef ops i j) → ∀ i j, befB (befTab ops l tab) i j = true → Bef ops i j := by
  intro l
  induction l with
  | nil => intro tab h; exact h
  | cons k l ih =>
    intro tab h
    simp only [befTab]
    split
    · rename_i o ho
      refine ih _ fun i j hb listed hc hr => ?_
      unfold befB at hb
      simp only [tabGet] at hb
      split at hb
      · rename_i hk
        subst hk
        exact edgeBits_bef h hc o.after.toList (fun e he hbd => hr o e ho (by simpa using he) hbd) i hb
      · exact h i j hb listed hc hr
    · exact ih _ h

/-! ### The turning -/
def drawItem (P : Program) (nt : Nat) (ops : Array Oper) (i : Nat) : Option Item :=
  match ops[i]? with
  | some o => match trItem P nt ops o with
    | some x => some { x with op := x.op.quiet }
    | none => none
  | none => none

def drawItems (P : Program) (nt : Nat) (ops : Array Oper) : List Nat → Option (List Item)
  | [] => some []
  | i :: l => match drawItem P nt ops i, drawItems P nt ops l with
    | some x, some xs => some (x :: xs)
    | _, _ => none

abbrev Row := Nat × Nat × Item
def num : Nat → List Nat → List Item → List Row
  | k, i :: l, x :: xs => (k, i, x) :: num (k + 1) l xs
  | _, _, _ => []

/-- What was loaded ahead of an act and might have come behind it. -/
def reOf (tab : List (Nat × Nat)) (L : List Row) (t c : Nat) (y : Item) : List (Nat × IOp × Option (Nat × Bool)) :=
  if y.op.act then L.filterMap fun r => if decide (r.1 < t) && r.2.2.op.looks && !befB tab r.2.1 c then r.2.2.dst.map fun s => (s, r.2.2.op, r.2.2.guard) else none
  else []

def withRe (tab : List (Nat × Nat)) (L : List Row) (r : Row) : Item := { r.2.2 with re := reOf tab L r.1 r.2.1 r.2.2 }

def chkTopo (ops : Array Oper) (L : List Row) (r : Row) : Bool :=
  match ops[r.2.1]? with
  | some o => o.after.toList.all fun e => !Region.binds .any e || L.any fun r' => decide (r'.1 < r.1) && decide (r'.2.1 = e.on)
  | none => true

def chkPair (tab : List (Nat × Nat)) (L : List Row) (r r' : Row) : Bool :=
  (decide (r.1 = r'.1) || (decide (r.2.1 ≠ r'.2.1) && (r.2.2.dst.isNone || decide (r.2.2.dst ≠ r'.2.2.dst)) &&
    ((match r'.2.2.dst with | some s => !r.2.2.reads.contains s | none => true) || befB tab r'.2.1 r.2.1 || befB tab r.2.1 r'.2.1))) &&
  (!(decide (r'.1 < r.1) && r'.2.2.op.act) || befB tab r'.2.1 r.2.1) &&
  (!(decide (r.1 < r'.1) && r.2.2.op.looks && r'.2.2.op.act) || befB tab r.2.1 r'.2.1 ||
    (r.2.2.dst.isSome && r.2.2.reads.all fun u => L.all fun z => !(decide (z.1 ≤ r'.1) && decide (z.2.2.dst = some u)) || decide (z.1 < r.1)))

def trDraw (P : Program) (nt : Nat) (ops : Array Oper) (order : List Nat) : Option (List Item) :=
  match drawItems P nt ops order with
  | none => none
  | some ys =>
    let L := num 0 order ys
    let tab := befTab ops order []
    if ((List.range ops.size).all fun i => order.contains i) && (L.all fun r => chkTopo ops L r) && (L.all fun r => L.all fun r' => chkPair tab L r r') then
      some (L.map (withRe tab L))
    else none

/-! ### It is a plan -/
theorem drawItems_len {P : Program} {nt : Nat} {ops : Array Oper} : ∀ {order : List Nat} {ys : List Item}, drawItems P nt ops order = some ys → ys.length = order.length := by
  intro order
  induction order with
  | nil => intro ys h; simp only [drawItems, Option.some.injEq] at h; subst h; rfl
  | cons i l ih =>
    intro ys h
    simp only [drawItems] at h
    split at h
    · rename_i x xs h1 h2
      cases h
      simp [ih h2]
    · cases h

theorem drawItems_get {P : Program} {nt : Nat} {ops : Array Oper} : ∀ {order : List Nat} {ys : List Item}, drawItems P nt ops order = some ys → ∀ (t i : Nat), order[t]? = some i → ∃ y, ys[t]? = some y ∧ drawItem P nt ops i = some y := by
  intro order
  induction order with
  | nil => intro ys h t i ht; simp at ht
  | cons i l ih =>
    intro ys h t j ht
    simp only [drawItems] at h
    split at h
    · rename_i x xs h1 h2
      cases h
      cases t with
      | zero => simp only [List.getElem?_cons_zero, Option.some.injEq] at ht; subst ht; exact ⟨x, rfl, h1⟩
      | succ t => exact ih h2 t j (by simpa using ht)
    · cases h

def rowOf (k : Nat) : Option Nat → Option Item → Option Row
  | some i, some x => some (k, i, x)
  | _, _ => none
theorem num_get : ∀ (k : Nat) (l : List Nat) (xs : List Item), xs.length = l.length → ∀ t : Nat, (num k l xs)[t]? = rowOf (k + t) l[t]? xs[t]? := by
  intro k l
  induction l generalizing k with
  | nil => intro xs h t; cases xs with
    | nil => simp [num, rowOf]
    | cons _ _ => simp at h
  | cons i l ih =>
    intro xs h t
    cases xs with
    | nil => simp at h
    | cons x xs =>
      simp only [num]
      cases t with
      | zero => rfl
      | succ t =>
        simp only [List.getElem?_cons_succ]
        rw [ih (k + 1) xs (by simpa using h) t]
        have : k + 1 + t = k + (t + 1) := by omega
        rw [this]

theorem draw_plan {P : Program} {nt : Nat} {ops : Array Oper} {order : List Nat} {xs : List Item} (h : trDraw P nt ops order = some xs) : Plan P nt ops order xs := by
  unfold trDraw at h
  split at h
  · cases h
  · rename_i ys hys
    simp only at h
    split at h
    · rename_i hchk
      cases h
      have hlen := drawItems_len hys
      have hbef := befTab_ok (ops := ops) order [] (fun i j h => by simp [befB, tabGet] at h)
      generalize htab : befTab ops order [] = tab at *
      simp only [Bool.and_eq_true] at hchk
      obtain ⟨⟨hall, htopo⟩, hpair⟩ := hchk
      rw [List.all_eq_true] at hall htopo hpair
      have hnum := num_get 0 order ys hlen
      generalize hL : num 0 order ys = L at *
      -- a place of the plan
      have key : ∀ (t : Nat) (x : Item), (L.map (withRe tab L))[t]? = some x → ∃ i y, order[t]? = some i ∧ ys[t]? = some y ∧ (t, i, y) ∈ L ∧ x.op = y.op ∧ x.dst = y.dst ∧ x.guard = y.guard ∧ x.reads = y.reads ∧ x.re = reOf tab L t i y := by
        intro t x hx
        rw [List.getElem?_map, Option.map_eq_some_iff] at hx
        obtain ⟨r, hr, rfl⟩ := hx
        have hr2 := hr
        rw [hnum t] at hr2
        unfold rowOf at hr2
        split at hr2
        · rename_i i y h1 h2
          cases hr2
          rw [Nat.zero_add] at hr ⊢
          exact ⟨i, y, h1, h2, List.mem_of_getElem? hr, rfl, rfl, rfl, rfl, rfl⟩
        · cases hr2
      have key2 : ∀ (t i : Nat), order[t]? = some i → ∃ y, (t, i, y) ∈ L ∧ (L.map (withRe tab L))[t]? = some (withRe tab L (t, i, y)) ∧ drawItem P nt ops i = some y := by
        intro t i ht
        obtain ⟨y, h1, h2⟩ := drawItems_get hys t i ht
        have hr := hnum t
        rw [ht, h1] at hr
        simp only [Nat.zero_add, rowOf] at hr
        exact ⟨y, List.mem_of_getElem? hr, by rw [List.getElem?_map, hr]; rfl, h2⟩
      have pair : ∀ r ∈ L, ∀ r' ∈ L, chkPair tab L r r' = true := fun r hr r' hr' => by
        have := hpair r hr
        rw [List.all_eq_true] at this
        exact this r' hr'
      refine { len := ?_, item := ?_, all := ?_, uniq := ?_, topo := ?_, greedy := ?_, dst := ?_, conf := ?_, re := ?_ }
      · rw [List.length_map, ← hL]
        have : ∀ (k : Nat) (l : List Nat) (zs : List Item), zs.length = l.length → (num k l zs).length = l.length := by
          intro k l
          induction l generalizing k with
          | nil => intro zs hz; cases zs with
            | nil => rfl
            | cons _ _ => simp at hz
          | cons i l ih => intro zs hz; cases zs with
            | nil => simp at hz
            | cons z zs => simp only [num, List.length_cons]; rw [ih (k + 1) zs (by simpa using hz)]
        exact this 0 order ys hlen
      · intro t i ht
        obtain ⟨y, hm, hx, hd⟩ := key2 t i ht
        unfold drawItem at hd
        split at hd
        · rename_i o ho
          split at hd
          · rename_i x hx'
            cases hd
            unfold trItem at hx'
            split at hx'
            · rename_i io g hio hg
              split at hx'
              · rename_i hdst
                cases hx'
                exact ⟨o, _, io, ho, hx, hio, rfl, hg, rfl, hdst⟩
              · cases hx'
            · cases hx'
          · cases hd
        · cases hd
      · intro i hi
        have := hall i (by simpa using hi)
        rw [List.contains_iff_mem] at this
        exact List.mem_iff_getElem?.1 this
      · intro t t' i ht ht'
        obtain ⟨y, hm, _⟩ := key2 t i ht
        obtain ⟨y', hm', _⟩ := key2 t' i ht'
        have := pair _ hm _ hm'
        simp only [chkPair, Bool.and_eq_true, Bool.or_eq_true, decide_eq_true_eq] at this
        rcases this.1.1 with h1 | h1
        · exact h1
        · exact absurd rfl h1.1.1
      · intro t i o e ht ho he hb
        obtain ⟨y, hm, _⟩ := key2 t i ht
        have := htopo _ hm
        simp only [chkTopo, ho, List.all_eq_true] at this
        have := this e (by simpa using he)
        rw [hb] at this
        simp only [Bool.not_true, Bool.false_or, List.any_eq_true, Bool.and_eq_true, decide_eq_true_eq] at this
        obtain ⟨r', hr', h1, h2⟩ := this
        obtain ⟨t', hg'⟩ := List.mem_iff_getElem?.1 hr'
        have := hnum t'
        rw [hg'] at this
        unfold rowOf at this
        split at this
        · rename_i i' y' h3 h4
          cases this
          refine ⟨t', by simpa using h1, ?_⟩
          simp only at h2
          rw [← h2]; exact h3
        · cases this
      · intro p q i c x hp hq hqp hx hact _
        obtain ⟨i', y', h1, h2, h3, h4, _⟩ := key q x hx
        rw [hq] at h1; cases h1
        obtain ⟨y, hm, _⟩ := key2 p i hp
        have := pair _ hm _ h3
        simp only [chkPair, Bool.and_eq_true] at this
        have := this.1.2
        rw [h4] at hact
        simp only [hact, hqp, decide_true, Bool.and_self, Bool.not_true, Bool.false_or] at this
        exact hbef _ _ this
      · intro t t' x x' s hx hx' hs hs'
        obtain ⟨i, y, _, _, h3, _, h5, _⟩ := key t x hx
        obtain ⟨i', y', _, _, h3', _, h5', _⟩ := key t' x' hx'
        have := pair _ h3 _ h3'
        simp only [chkPair, Bool.and_eq_true, Bool.or_eq_true, decide_eq_true_eq] at this
        rcases this.1.1 with h1 | h1
        · exact h1
        · exfalso
          have h2 := h1.1.2
          rw [← h5, ← h5', hs, hs'] at h2
          simp at h2
      · intro t t' i i' x x' u ht ht' hx hx' hu hd
        obtain ⟨i1, y, h1, _, h3, _, _, _, h6, _⟩ := key t x hx
        obtain ⟨i2, y', h1', _, h3', _, h5', _⟩ := key t' x' hx'
        rw [ht] at h1; cases h1
        rw [ht'] at h1'; cases h1'
        have := pair _ h3 _ h3'
        simp only [chkPair, Bool.and_eq_true, Bool.or_eq_true, decide_eq_true_eq] at this
        rcases this.1.1 with h1 | h1
        · exact .inl h1.symm
        · refine .inr ?_
          rcases h1.2 with (h2 | h2) | h2
          · exfalso
            rw [← h5', hd] at h2
            simp only [Bool.not_eq_true'] at h2
            rw [h6] at hu
            have : y.reads.contains u = true := by rw [List.contains_iff_mem]; exact hu
            rw [this] at h2; cases h2
          · exact .inl (hbef _ _ h2)
          · exact .inr (hbef _ _ h2)
      · intro p t i c x y hp ht hx hy hlt hlk hact
        obtain ⟨i1, x0, h1, _, h3, h4, h5, h6, h7, _⟩ := key p x hx
        obtain ⟨i2, y0, h1', _, h3', h4', _, _, _, h8'⟩ := key t y hy
        rw [hp] at h1; cases h1
        rw [ht] at h1'; cases h1'
        have := pair _ h3 _ h3'
        simp only [chkPair, Bool.and_eq_true] at this
        have := this.2
        rw [h4] at hlk
        rw [h4'] at hact
        simp only [hlt, hlk, hact, decide_true, Bool.and_self, Bool.not_true, Bool.false_or, Bool.or_eq_true] at this
        rcases this with h2 | h2
        · exact .inl (hbef _ _ h2)
        · cases hb : befB tab i c with
          | true => exact .inl (hbef _ _ hb)
          | false =>
            refine .inr ?_
            simp only [Bool.and_eq_true, Option.isSome_iff_exists, List.all_eq_true] at h2
            obtain ⟨⟨s, hs⟩, h2⟩ := h2
            refine ⟨s, by rw [h5]; exact hs, ?_, ?_⟩
            · rw [h8', reOf, if_pos hact, List.mem_filterMap]
              refine ⟨_, h3, ?_⟩
              simp only [hlt, hlk, hb, hs, decide_true, Bool.not_false, Bool.and_self, if_true, Option.map_some]
              rw [h4, h6]
            · intro u hu j z hj hz hzd
              obtain ⟨j', z0, _, _, g3, _, g5, _⟩ := key j z hz
              rw [h7] at hu
              have := h2 u hu _ g3
              rw [← g5, hzd] at this
              simpa [hj] using this
    · cases h

end Go.RI

/- RI, part X: a region that leaves its order open, simulated; results; the code turned. Conditions: none. -/
namespace Go.RI
open Go

section
variable {ds : List Deferred} {P : Program} {G : AHeap} {lo nt : Nat} {ρ : Ren} {D : Nat → Prop} {e : Env} {a : Act} {H : AHeap} {w : World}

theorem getD_replicate (n i : Nat) : (Array.replicate n false).getD i false = false := by
  simp only [Array.getD]
  split <;> simp

theorem inv_init {call : CallI} {ops : Array Oper} {order : List Nat} {xs : List Item} {E : Nat → Env} {Hh : Nat → AHeap} {ρ0 : Ren} {D0 : Nat → Prop} {w0 : World} (c : Ctx P G lo nt call ops order xs E Hh ρ0 D0)
    (hrel : HRel G ρ0 D0 (Hh 0) w0) (hst : Step lo ρ0 D0 (Hh 0) w ρ0 D0 (Hh 0) w0) (har : ARel ds ρ0 D0 nt (E 0) a) : ∃ T, Inv ds G lo nt ops order xs E Hh ρ0 D0 w (Array.replicate ops.size false) a w0 T ρ0 D0 := by
  obtain ⟨T, _, t2, t3, t4⟩ := next_act (xs := xs) xs.length 0 (by omega)
  have ext : ∀ k, k ≤ T → Ext (Hh 0) (Hh k) ∧ Wf (Hh k) := fun k h2 => ext_stay' c (Nat.zero_le _) (by omega) hrel.wf fun j y h3 h4 hy => t3 j y h3 (by omega) hy
  have ext2 : ∀ k k', k ≤ k' → k' ≤ T → Ext (Hh k) (Hh k') := fun k k' h2 h3 => (ext_stay' c h2 (by omega) (ext k (by omega)).2 fun j y h4 h5 hy => t3 j y (by omega) (by omega) hy).1
  obtain ⟨e1, e2⟩ := ext T (Nat.le_refl _)
  refine ⟨T, {
    size := by simp
    closed := fun j o e _ h => by rw [getD_replicate] at h; cases h
    TN := t2
    act := fun h => by
      obtain ⟨y, hy, hya⟩ := t4 h
      have hol : T < order.length := by rw [← c.plan.len]; exact h
      exact ⟨y, order[T], hy, hya, List.getElem?_eq_getElem hol, getD_replicate _ _⟩
    done := fun q y j h1 h2 h3 _ => by rw [t3 q y (Nat.zero_le _) h1 h2] at h3; cases h3
    hrel := heapExt_sim hrel e1 e2
    step := hst.ext hrel.lt e1
    tsize := har.size
    defers := har.defers
    sa := fun t x i s v _ _ _ h => by rw [getD_replicate] at h; cases h
    sb := fun s v _ h => har.get s v h
    wfs := fun t ht => (ext t ht).2
    mono := fun t t' h1 h2 => (ext2 t t' h1 h2).next
    f1 := fun p x i v h1 h2 _ _ h5 _ h7 => by
      obtain ⟨_, _, h9⟩ := looks_ext (ext p (by omega)).2 (ext2 p T (by omega) (Nat.le_refl _)) h5 (not_dyn h7) h7
      exact h9
    f2 := ?_ }⟩
  intro p y j h1 h2 _ _ h5 h6
  have hact : y.op.act = false := mk_act h5
  have hpush : (Hh (p + 1)).next = (Hh p).next + 1 := by
    obtain ⟨hi, _⟩ := c.run p y h2
    simp only [itemI, h6] at hi
    split at hi
    · rename_i v2 H2 hop
      rw [opI_plain hact] at hop
      rw [← (Prod.mk.inj (Option.some.inj hi)).2]; exact (mk_next h5 hop).2
    · rename_i H2 hop
      rw [opI_plain hact] at hop
      obtain ⟨⟨uu, hu⟩, _⟩ := mk_next h5 hop
      cases hu
    · cases hi
  have h9 := (ext p (by omega)).1.next
  refine ⟨fun hd => by have := hrel.lt _ hd; omega, ?_⟩
  exact (ext2 (p + 1) T (by omega) (Nat.le_refl _)).get _ (by omega)

theorem draw_sim (hm : P.follows .mixedOrders = true) {call : CallI} (hc : CallOK P G lo call) (hlo : G.next ≤ lo) {ops : Array Oper} {order : List Nat} {xs : List Item} (hx : trDraw P nt ops order = some xs) {id : Nat} {Q : Exit → Act → World → Prop} {R : Option Nat} {m : Nat}
    (r : Rel P G ds ρ D nt e a H w) {e' : Env} {H' : AHeap} (hs : itemsI call lo xs e H = some (e', H'))
    (h : ∀ ρ' D' a' w', Step lo ρ D H w ρ' D' H' w' → HRel G ρ' D' H' w' → ARel ds ρ' D' nt e' a' → Q .normal a' w') : (Code.region id ops true).wpIn (FR R) m P Q a w := by
  obtain ⟨E, Hh, h0, h1, h2, h3, h4⟩ := trace_of xs e H e' H' hs
  have hd : Drew w { w with drawn := w.drawn + 1 } := by constructor <;> rfl
  obtain ⟨s1, s2⟩ := drew_sim (lo := lo) r.heap hd
  have c : Ctx P G lo nt call ops order xs E Hh ρ D := ⟨draw_plan hx, h4, hc, hlo, r.gsize, r.gok, fun id hid => by rw [h1]; exact r.heap.lt id hid, by rw [h1]; exact r.heap.gnext⟩
  obtain ⟨T, iv⟩ := inv_init (w := w) (a := a) c (w0 := { w with drawn := w.drawn + 1 }) (by rw [h1]; exact s2) (by rw [h1]; exact s1) (by rw [h0]; exact r.slots)
  refine wpIn_region_any hm ?_
  refine draw_inv c (Q := Q) (w0 := w) ?_ ops.size _ a _ ?_ ⟨T, ρ, D, iv⟩
  · intro ρ' D' a' w' g1 g2 g3
    rw [h1, h3] at g1
    rw [h3] at g2
    rw [h2] at g3
    exact h ρ' D' a' w' g1 g2 g3
  · unfold left
    exact Nat.le_trans (List.length_filter_le _ _) (by simp)

/-! ### Results -/
def trRes (P : Program) : List ResultVar → Option (List IRes)
  | [] => some []
  | .tmp t :: l => (trRes P l).map (.t t :: ·)
  | .cell a t :: l => match P.underlying t, P.info? t, trRes P l with
    | some d, some i, some rs => some (.c a (aggSz d i) :: rs)
    | _, _, _ => none

theorem loadVar_sim (r : Rel P G ds ρ D nt e a H w) {t : TypeId} {d : TypeDesc} {i : TypeInfo} (hd : P.underlying t = some d) (hi : P.info? t = some i)
    {p v : AVal} {x : Value} (hx : x = ren ρ p) (hp : ok ρ D p) (hl : loadV H (aggSz d i) p = some v) : ok ρ D v ∧ ∃ ad, (asAddr x).run P w = .ok ad w ∧ (loadVar t ad).run P w = .ok (ren ρ v) w := by
  subst hx
  cases p <;> simp only [loadV] at hl <;> (try (cases hl; done)) <;> (try (simp [ok] at hp; done))
  case p id off =>
    simp only [ok] at hp
    unfold aggSz at hl
    cases hagg : isAggD d with
    | true =>
      rw [hagg] at hl
      simp only [if_true] at hl
      rw [Option.map_eq_some_iff] at hl
      obtain ⟨l, hl, rfl⟩ := hl
      obtain ⟨_, h2, h3, h4⟩ := rowAt_sim (P := P) r.heap hp hl
      refine ⟨by simp only [ok]; exact ⟨h2, h3⟩, ⟨(ρ id).blk, (ρ id).base + off, none⟩, ?_, ?_⟩
      · simp [ren, asAddr]
      · simp [loadVar, run_isAgg' hd, hagg, run_sizeOf' hi, h4, ren]
    | false =>
      rw [hagg] at hl
      simp only [Bool.false_eq_true, if_false] at hl
      split at hl
      · rename_i c esz ro hg
        have hc := r.heap.cells id c esz ro hp hg
        obtain ⟨C, e, fz, hb, hsz, hget, _⟩ := hc.at_
        have hcell : w.cell? ⟨(ρ id).blk, (ρ id).base + off, none⟩ = some (ren ρ v) := by rw [cell?_at hb]; exact hget _ _ hl
        refine ⟨okL_get hc.ok hl, ⟨(ρ id).blk, (ρ id).base + off, none⟩, ?_, ?_⟩
        · simp [ren, asAddr]
        · simp [loadVar, run_isAgg' hd, hagg, hcell]
      · cases hl

theorem resM_sim (r : Rel P G ds ρ D nt e a H w) : ∀ (l : List ResultVar) (rs : List IRes) (vs : List AVal), trRes P l = some rs → resI e H rs = some vs → okL ρ D vs ∧
    (l.mapM fun x => match x with | ResultVar.tmp t => (pure (a.tmps.getD t undef) : Sem Value) | ResultVar.cell ad t => (do loadVar t (← asAddr (a.tmps.getD ad undef)))).run P w = .ok (renL ρ vs) w := by
  intro l
  induction l with
  | nil =>
    intro rs vs h1 h2
    simp only [trRes, Option.some.injEq] at h1; subst h1
    simp only [resI, Option.some.injEq] at h2; subst h2
    exact ⟨trivial, by simp [renL]⟩
  | cons x l ih =>
    intro rs vs h1 h2
    cases x with
    | tmp t =>
      simp only [trRes, Option.map_eq_some_iff] at h1
      obtain ⟨rs', h1, rfl⟩ := h1
      simp only [resI] at h2
      split at h2
      · rename_i v vs' hv hvs
        cases h2
        obtain ⟨_, g1, g2⟩ := r.slots.get _ _ hv
        obtain ⟨h3, h4⟩ := ih rs' vs' h1 hvs
        refine ⟨⟨g2, h3⟩, ?_⟩
        simp only [List.mapM_cons, Sem.run_bind, Sem.run_pure, Result.andThen_ok, h4, g1, renL]
      · cases h2
    | cell ad t =>
      simp only [trRes] at h1
      split at h1
      · rename_i d i rs' hd hi h1'
        cases h1
        simp only [resI] at h2
        split at h2
        · rename_i p hp
          split at h2
          · rename_i v vs' hv hvs
            cases h2
            obtain ⟨_, g1, g2⟩ := r.slots.get _ _ hp
            obtain ⟨h3, h4⟩ := ih rs' vs' h1' hvs
            obtain ⟨h5, ad', h6, h7⟩ := loadVar_sim r hd hi g1 g2 hv
            refine ⟨⟨h5, h3⟩, ?_⟩
            simp only [List.mapM_cons, Sem.run_bind, Sem.run_pure, Result.andThen_ok, h4, h6, h7, renL]
          · cases h2
        · cases h2
      · cases h1

theorem results_sim (r : Rel P G ds ρ D nt e a H w) {fn : Func} {rs : List IRes} {vs : List AVal} (h1 : trRes P fn.results.toList = some rs) (h2 : resI e H rs = some vs) :
    ok ρ D (tupI vs) ∧ (results fn a.tmps).run P w = .ok (ren ρ (tupI vs)) w := by
  obtain ⟨h3, h4⟩ := resM_sim r _ _ _ h1 h2
  constructor
  · unfold tupI
    split
    · exact h3.1
    · simp only [ok]; exact h3
  · unfold results
    rw [Array.mapM_eq_mapM_toList]
    simp only [Sem.run_bind, Sem.run_map, Sem.run_pure]
    refine (congrArg (fun z : Result (List Value) => (z.andThen fun l w' => Result.ok l.toArray w').andThen fun b w' => Result.ok (if h : b.size = 1 then b[0] else Value.tuple b) w') h4).trans ?_
    simp only [Result.andThen_ok]
    cases vs with
    | nil => simp [renL, tupI, ren]
    | cons v vs => cases vs with
      | nil => simp [renL, tupI]
      | cons v' vs => simp [renL, tupI, ren]

end
end Go.RI

/- RI, part Xb: a region whose last two stores leave their order open: an append, its element and its variable. Conditions: none. -/
namespace Go.RI
open Go
set_option linter.unusedSimpArgs false
set_option linter.unusedVariables false
set_option linter.unusedSectionVars false

/-- One edge more: 'j' waits for 'i'. -/
def addE (ops : Array Oper) (j i : Nat) : Array Oper := ops.modify j fun o => { o with after := o.after.push ⟨i, .phase⟩ }

theorem addE_size (ops : Array Oper) (j i : Nat) : (addE ops j i).size = ops.size := by simp [addE]
theorem addE_ne {ops : Array Oper} {j i k : Nat} (h : k ≠ j) : (addE ops j i)[k]? = ops[k]? := by
  simp only [addE]
  rw [Array.getElem?_modify, if_neg (fun e => h e.symm)]
theorem addE_eq {ops : Array Oper} {j i : Nat} {o : Oper} (h : ops[j]? = some o) : (addE ops j i)[j]? = some { o with after := o.after.push ⟨i, .phase⟩ } := by
  simp only [addE]
  rw [Array.getElem?_modify, if_pos rfl, h]; rfl
theorem addE_none {ops : Array Oper} {j i k : Nat} (h : ops[k]? = none) : (addE ops j i)[k]? = none := by
  rw [Array.getElem?_eq_none_iff] at h ⊢
  rw [addE_size]; exact h

theorem addE_yield (ops : Array Oper) (j i : Nat) (t : Array Value) : yielded (addE ops j i) t = yielded ops t := by
  funext k
  unfold yielded
  by_cases h : k = j
  · subst h
    cases ho : ops[k]? with
    | none => rw [addE_none ho]
    | some o => rw [addE_eq ho]; rfl
  · rw [addE_ne h]

section
variable {P : Program} {ops : Array Oper} {Q : Exit → Act → World → Prop} {F : Fence} {n : Nat}

theorem addE_op {j i k : Nat} {K : Act → World → Prop} {a : Act} {w : World} : wpOpIn F n P (addE ops j i) Q k K a w ↔ wpOpIn F n P ops Q k K a w := by
  unfold wpOpIn
  rw [addE_yield]
  by_cases h : k = j
  · subst h
    cases ho : ops[k]? with
    | none => rw [addE_none ho]
    | some o => rw [addE_eq ho]; exact Iff.rfl
  · rw [addE_ne h]

theorem addE_ready {j i : Nat} {listed : Array Bool} {k : Nat} : k ∈ Region.ready .any (addE ops j i) listed ↔ k ∈ Region.ready .any ops listed ∧ (k = j → listed.getD i false = true) := by
  rw [mem_ready, mem_ready]
  constructor
  · rintro ⟨h1, o, ho, h2⟩
    by_cases h : k = j
    · subst h
      cases ho' : ops[k]? with
      | none => rw [addE_none ho'] at ho; cases ho
      | some o' =>
        rw [addE_eq ho'] at ho
        cases ho
        exact ⟨⟨h1, o', rfl, fun e he hb => h2 e (by simp [he]) hb⟩, fun _ => h2 ⟨i, .phase⟩ (by simp) rfl⟩
    · rw [addE_ne h] at ho
      exact ⟨⟨h1, o, ho, h2⟩, fun e => absurd e h⟩
  · rintro ⟨⟨h1, o, ho, h2⟩, h3⟩
    by_cases h : k = j
    · subst h
      refine ⟨h1, _, addE_eq ho, fun e he hb => ?_⟩
      rcases Array.mem_push.1 he with he | he
      · exact h2 e he hb
      · subst he; exact h3 rfl
    · exact ⟨h1, o, by rw [addE_ne h]; exact ho, h2⟩

theorem addE_closed {j i : Nat} {listed : Array Bool} (h : Closed (addE ops j i) listed) : Closed ops listed := by
  intro k o e ho hk he hb
  by_cases hkj : k = j
  · subst hkj
    exact h k _ e (addE_eq ho) hk (by simp [he]) hb
  · exact h k o e (by rw [addE_ne hkj]; exact ho) hk he hb
theorem closed_addE {j i : Nat} {listed : Array Bool} (h : Closed ops listed) (hj : listed.getD j false = false) : Closed (addE ops j i) listed := by
  intro k o e ho hk he hb
  by_cases hkj : k = j
  · subst hkj; rw [hj] at hk; cases hk
  · exact h k o e (by rw [addE_ne hkj] at ho; exact ho) hk he hb

/-- Where what is waited for is done, the edge says nothing. -/
theorem addE_any {j i : Nat} : ∀ (fuel : Nat) (listed : Array Bool) (a : Act) (w : World), listed.getD i false = true → wpAnyIn F n P .any (addE ops j i) Q fuel listed a w → wpAnyIn F n P .any ops Q fuel listed a w := by
  have same : ∀ listed : Array Bool, listed.getD i false = true → (Region.ready .any (addE ops j i) listed = [] ↔ Region.ready .any ops listed = []) := by
    intro listed hl
    rw [List.eq_nil_iff_forall_not_mem, List.eq_nil_iff_forall_not_mem]
    constructor
    · intro h k hk; exact h k (addE_ready.2 ⟨hk, fun _ => hl⟩)
    · intro h k hk; exact h k (addE_ready.1 hk).1
  intro fuel
  induction fuel with
  | zero => intro listed a w hl h; exact ⟨(same listed hl).1 h.1, h.2⟩
  | succ fuel ih =>
    intro listed a w hl h
    refine ⟨fun h0 => h.1 ((same listed hl).2 h0), fun k hk => ?_⟩
    have h1 := addE_op.1 (h.2 k (addE_ready.2 ⟨hk, fun _ => hl⟩))
    refine wpOpIn_mono (fun a' w' h2 => ih _ a' w' ?_ h2) h1
    by_cases hki : k = i
    · subst hki
      have hlt : k < listed.size := by
        rcases Nat.lt_or_ge k listed.size with h3 | h3
        · exact h3
        · simp [Array.getD, Nat.not_lt.2 h3] at hl
      exact (set_get hlt).2 (.inl rfl)
    · rw [getD_set_ne false hki]; exact hl
end

/-! ### Two stores -/
theorem store_load {lo n : Nat} {H H' : AHeap} {a u : AVal} (h : storeV lo H n a u = some H') : (∃ id off, a = .p id off) ∧ loadV H' (some n) a = some (.ag u.cells) := by
  cases a <;> simp only [storeV] at h <;> try (cases h; done)
  rename_i id off
  refine ⟨⟨id, off, rfl⟩, ?_⟩
  split at h
  · split at h
    · rename_i c esz ro hg
      split at h
      · rename_i hc
        cases h
        obtain ⟨_, _, hn, hl⟩ := hc
        simp only [loadV, rowAt]
        rw [AHeap.get_put, if_pos rfl]
        simp only [putCells_length, hl, if_true, Option.map_some]
        congr 2
        apply List.ext_getElem?
        intro k
        rw [List.getElem?_take]
        by_cases hk : k < n
        · rw [if_pos hk, List.getElem?_drop, putCells_get _ _ _ _ (by rw [hn]; exact hl), if_pos (by omega)]
          congr 1; omega
        · rw [if_neg hk, List.getElem?_eq_none (by omega)]
      · cases h
    · cases h
  · cases h
theorem store_two {lo n1 n2 : Nat} {H H1 H2 : AHeap} {a1 a2 u1 u2 : AVal} (h1 : storeV lo H n1 a1 u1 = some H1) (h2 : storeV lo H1 n2 a2 u2 = some H2) (h3 : loadV H2 (some n1) a1 = some (.ag u1.cells) ∨ ∀ id off id' off', a1 = .p id off → a2 = .p id' off' → id' ≠ id) :
    ∃ HB HBA, storeV lo H n2 a2 u2 = some HB ∧ storeV lo HB n1 a1 u1 = some HBA ∧ (∀ id, HBA.get id = H2.get id) ∧ HBA.next = H2.next := by
  cases a1 <;> simp only [storeV] at h1 <;> try (cases h1; done)
  rename_i id1 off1
  split at h1
  · rename_i hlo1
    split at h1
    · rename_i c1 esz1 ro1 hg1
      split at h1
      · rename_i hc1
        cases h1
        obtain ⟨rfl, ht1, hn1, hl1⟩ := hc1
        cases a2 <;> simp only [storeV] at h2 <;> try (cases h2; done)
        rename_i id2 off2
        split at h2
        · rename_i hlo2
          split at h2
          · rename_i c2 esz2 ro2 hg2
            split at h2
            · rename_i hc2
              cases h2
              obtain ⟨rfl, ht2, hn2, hl2⟩ := hc2
              by_cases hid : id2 = id1
              · -- one row: what is read back says that the first is not spoilt
                subst hid
                replace h3 := h3.resolve_right (fun h => h _ _ _ _ rfl rfl rfl)
                rw [AHeap.get_put, if_pos rfl] at hg2
                cases hg2
                rw [putCells_length] at hl2
                simp only [loadV, rowAt] at h3
                rw [AHeap.get_put, if_pos rfl] at h3
                simp only [putCells_length, hl1, if_true, Option.map_some, Option.some.injEq] at h3
                have hu := (AVal.ag.inj h3).symm
                refine ⟨H.put id2 (some (.cells (putCells c1 off2 u2.cells) esz1 false)), (H.put id2 (some (.cells (putCells c1 off2 u2.cells) esz1 false))).put id2 (some (.cells (putCells (putCells c1 off2 u2.cells) off1 u1.cells) esz1 false)), by simp only [storeV]; rw [if_pos hlo2, hg1]; simp only; rw [if_pos ⟨trivial, ht2, hn2, hl2⟩], ?_, ?_, ?_⟩
                · simp only [storeV]
                  rw [if_pos hlo1, AHeap.get_put, if_pos rfl]
                  simp only
                  rw [if_pos ⟨trivial, ht1, hn1, by rw [putCells_length]; exact hl1⟩]
                · intro id
                  rw [AHeap.get_put, AHeap.get_put, AHeap.get_put, AHeap.get_put]
                  by_cases h : id = id2
                  · rw [if_pos h, if_pos h]
                    congr 2
                    apply List.ext_getElem?
                    intro k
                    rw [putCells_get _ _ _ _ (by rw [putCells_length, hn1]; exact hl1)]
                    split
                    · rename_i hk
                      rw [hn1] at hk
                      conv => lhs; rw [hu]
                      rw [List.getElem?_take, if_pos (by omega), List.getElem?_drop]
                      congr 1; omega
                    · rename_i hk
                      rw [putCells_get _ _ _ _ (by rw [hn2]; exact hl2), putCells_get _ _ _ _ (by rw [hn2, putCells_length]; exact hl2)]
                      split
                      · rfl
                      · rw [putCells_get _ _ _ _ (by rw [hn1]; exact hl1), if_neg hk]
                  · rw [if_neg h, if_neg h, if_neg h, if_neg h]
                · simp [AHeap.next_put]
              · rw [AHeap.get_put, if_neg hid] at hg2
                refine ⟨H.put id2 (some (.cells (putCells c2 off2 u2.cells) esz2 false)), (H.put id2 (some (.cells (putCells c2 off2 u2.cells) esz2 false))).put id1 (some (.cells (putCells c1 off1 u1.cells) esz1 false)), by simp only [storeV]; rw [if_pos hlo2, hg2]; simp only; rw [if_pos ⟨trivial, ht2, hn2, hl2⟩], by
                  simp only [storeV]
                  rw [if_pos hlo1, AHeap.get_put, if_neg (fun e => hid e.symm), hg1]; simp only
                  rw [if_pos ⟨trivial, ht1, hn1, hl1⟩], ?_, by simp [AHeap.next_put]⟩
                intro id
                rw [AHeap.get_put, AHeap.get_put, AHeap.get_put, AHeap.get_put]
                by_cases h : id = id1
                · subst h
                  rw [if_pos rfl, if_neg (fun e => hid e.symm), if_pos rfl]
                · rw [if_neg h, if_neg h]
            · cases h2
          · cases h2
        · cases h2
      · cases h1
    · cases h1
  · cases h1

theorem HRel.same {G : AHeap} {ρ : Ren} {D : Nat → Prop} {H H' : AHeap} {w : World} (hg : ∀ id, H'.get id = H.get id) (hn : H'.next = H.next) (h : HRel G ρ D H w) : HRel G ρ D H' w where
  lt := fun id hd => by rw [hn]; exact h.lt id hd
  cells := fun id c esz ro hd hc => h.cells id c esz ro hd (by rw [← hg]; exact hc)
  maps := fun id es hd hc => h.maps id es hd (by rw [← hg]; exact hc)
  apart := fun id id' o o' h1 h2 h3 h4 h5 h6 => h.apart id id' o o' h1 h2 h3 (by rw [← hg]; exact h4) (by rw [← hg]; exact h5) h6
  glob := fun g hlt => by rw [hg]; exact h.glob g hlt
  gnext := by rw [hn]; exact h.gnext
  wf := fun j hj => by rw [hg]; exact h.wf j (by rw [← hn]; exact hj)

theorem Step.same {lo : Nat} {ρ ρ' : Ren} {D D' : Nat → Prop} {H0 H H' : AHeap} {w w' : World} (hg : ∀ id, H'.get id = H.get id) (hn : H'.next = H.next) (h : Step lo ρ D H0 w ρ' D' H w') : Step lo ρ D H0 w ρ' D' H' w' where
  old := h.old
  new := h.new
  ghost := fun id h1 h2 => by rw [hg]; exact h.ghost id h1 h2
  low := fun id h1 h2 => by rw [hg]; exact h.low id h1 h2
  next := by rw [hn]; exact h.next
  wr := fun id o' h1 h2 h3 h4 => h.wr id o' h1 h2 (by rw [← hg]; exact h3) h4
  fresh := fun id o' h1 h2 h3 h4 => h.fresh id o' h1 h2 (by rw [← hg]; exact h3) h4
  os := h.os
  tape := h.tape
  output := h.output
  froz := h.froz
  size := h.size
  frame := h.frame

/-! ### The turning -/
def mix : List Item → List Item → List Item
  | x :: xs, y :: ys => { x with re := x.re ++ y.re } :: mix xs ys
  | _, _ => []

def twoOf (N : Nat) (xs1 xs2 : List Item) : Option (List Item) :=
  match xs1.drop N, xs2.drop N with
  | [⟨none, .store n1 x1 (.t tv), none, []⟩, ⟨none, .store n2 x2 y2, none, []⟩], [y, z] =>
    if y.re.isEmpty && z.re.isEmpty then some (mix (xs1.take N) (xs2.take N) ++ [⟨none, .store n1 x1 (.t tv), none, []⟩, ⟨none, .store n2 x2 y2, none, [(tv, .load (some n1) x1, none)]⟩]) else none
  | _, _ => none

/-- The last two of the order leave theirs open. -/
def trDraw2 (P : Program) (nt : Nat) (ops : Array Oper) (order : List Nat) : Option (List Item) :=
  match order.reverse with
  | ib :: ia :: rev =>
    match trDraw P nt (addE ops ib ia) (rev.reverse ++ [ia, ib]), trDraw P nt (addE ops ia ib) (rev.reverse ++ [ib, ia]) with
    | some xs1, some xs2 => twoOf rev.reverse.length xs1 xs2
    | _, _ => none
  | _ => none

theorem mix_len : ∀ {xs ys : List Item}, xs.length = ys.length → (mix xs ys).length = xs.length := by
  intro xs
  induction xs with
  | nil => intro ys h; rfl
  | cons x xs ih =>
    intro ys h
    cases ys with
    | nil => simp at h
    | cons y ys => simp only [mix, List.length_cons]; rw [ih (by simpa using h)]

theorem mix_get : ∀ {xs ys : List Item} {t : Nat} {x y : Item}, xs[t]? = some x → ys[t]? = some y → (mix xs ys)[t]? = some { x with re := x.re ++ y.re } := by
  intro xs
  induction xs with
  | nil => intro ys t x y h; simp at h
  | cons a xs ih =>
    intro ys t x y h1 h2
    cases ys with
    | nil => simp at h2
    | cons b ys =>
      cases t with
      | zero =>
        simp only [List.getElem?_cons_zero, Option.some.injEq] at h1 h2
        subst h1; subst h2; rfl
      | succ t =>
        simp only [List.getElem?_cons_succ] at h1 h2
        simp only [mix, List.getElem?_cons_succ]
        exact ih h1 h2

def AsOp (P : Program) (ops : Array Oper) (i : Nat) (x : Item) : Prop := ∃ o io, ops[i]? = some o ∧ trOpC P o = some io ∧ x.op = io.quiet ∧ trGuard ops o.guard = some x.guard ∧ x.dst = o.dst

theorem trGuard_addE (ops : Array Oper) (j i : Nat) (g : Option (Nat × Bool)) : trGuard (addE ops j i) g = trGuard ops g := by
  cases g with
  | none => rfl
  | some x =>
    obtain ⟨k, b⟩ := x
    simp only [trGuard]
    by_cases h : k = j
    · subst h
      cases ho : ops[k]? with
      | none => rw [addE_none ho]
      | some o => rw [addE_eq ho]; rfl
    · rw [addE_ne h]

theorem asOp_addE {P : Program} {ops : Array Oper} {j i k : Nat} {x : Item} (h : AsOp P (addE ops j i) k x) : AsOp P ops k x := by
  obtain ⟨o, io, h1, h2, h3, h4, h5⟩ := h
  rw [trGuard_addE] at h4
  by_cases hk : k = j
  · subst hk
    cases ho : ops[k]? with
    | none => rw [addE_none ho] at h1; cases h1
    | some o' =>
      rw [addE_eq ho] at h1
      cases h1
      exact ⟨o', io, ho, h2, h3, h4, h5⟩
  · rw [addE_ne hk] at h1
    exact ⟨o, io, h1, h2, h3, h4, h5⟩

theorem asOp_same {P : Program} {ops : Array Oper} {k : Nat} {x y : Item} (hx : AsOp P ops k x) (hy : AsOp P ops k y) : y.op = x.op ∧ y.guard = x.guard ∧ y.dst = x.dst := by
  obtain ⟨o, io, h1, h2, h3, h4, h5⟩ := hx
  obtain ⟨o', io', g1, g2, g3, g4, g5⟩ := hy
  rw [h1] at g1; cases g1
  rw [h2] at g2; cases g2
  rw [h4] at g4
  exact ⟨by rw [h3, g3], (Option.some.inj g4).symm, by rw [h5, g5]⟩

theorem Plan.asOp {P : Program} {nt : Nat} {ops : Array Oper} {order : List Nat} {xs : List Item} (p : Plan P nt ops order xs) {t i : Nat} {x : Item} (ht : order[t]? = some i) (hx : xs[t]? = some x) : AsOp P ops i x := by
  obtain ⟨o, x', io, h1, h2, h3, h4, h5, h6, _⟩ := p.item t i ht
  rw [hx] at h2; cases h2
  exact ⟨o, io, h1, h3, h4, h5, h6⟩

theorem keepL_app {fp : Bool} {ids : List Nat} {e : Env} : ∀ {l1 l2 : List (Nat × IOp × Option (Nat × Bool))}, keepL fp ids e (l1 ++ l2) = (keepL fp ids e l1 && keepL fp ids e l2) := by
  intro l1
  induction l1 with
  | nil => intro l2; rfl
  | cons x l1 ih => obtain ⟨s, o, g⟩ := x; intro l2; simp only [List.cons_append, keepL, ih, Bool.and_assoc]
theorem reOk_app {lo : Nat} {d : Option Nat} {e e' : Env} {H H' : AHeap} : ∀ {l1 l2 : List (Nat × IOp × Option (Nat × Bool))}, reOk lo d e H e' H' (l1 ++ l2) = (reOk lo d e H e' H' l1 && reOk lo d e H e' H' l2) := by
  intro l1
  induction l1 with
  | nil => intro l2; rfl
  | cons x l1 ih => obtain ⟨s, o, g⟩ := x; intro l2; simp only [List.cons_append, reOk, ih, Bool.and_assoc]

theorem chk_app {call : CallI} {lo : Nat} {d : Option Nat} {o : IOp} {e e' : Env} {H0 H : AHeap} {r1 r2 : List (Nat × IOp × Option (Nat × Bool))} (h : (skipI call e o || (keepI H o (r1 ++ r2) e e' || reOk lo d e H0 e' H (r1 ++ r2))) = true) :
    (skipI call e o || (keepI H o r1 e e' || reOk lo d e H0 e' H r1)) = true ∧ (skipI call e o || (keepI H o r2 e e' || reOk lo d e H0 e' H r2)) = true := by
  rw [reOk_app] at h
  unfold keepI at h ⊢
  cases hs : skipI call e o with
  | true => simp
  | false =>
    rw [hs] at h
    cases ht : touch e o with
    | none =>
      rw [ht] at h
      simp only [Bool.false_or, Bool.and_eq_true] at h ⊢
      exact h
    | some ids =>
      rw [ht] at h
      simp only [keepL_app, Bool.false_or, Bool.or_eq_true, Bool.and_eq_true] at h ⊢
      rcases h with h | h
      · exact ⟨.inl h.1, .inl h.2⟩
      · exact ⟨.inr h.1, .inr h.2⟩

theorem item_store {call : CallI} {lo n : Nat} {x : Item} {p v : Opd} (ho : x.op = .store n p v) (hg : x.guard = none) (hd : x.dst = none) {e e' : Env} {H H' : AHeap} :
    itemI call lo x e H = some (e', H') ↔ e' = e ∧ ∃ a u, p.eval e = some a ∧ v.eval e = some u ∧ storeV lo H n a u = some H' := by
  simp only [itemI, hg, hd, ho, wantedI, opI, aop, putD]
  cases hp : p.eval e with
  | none => simp
  | some a =>
    cases hv : v.eval e with
    | none => simp
    | some u =>
      cases hs : storeV lo H n a u with
      | none => simp [hs]
      | some H2 =>
        simp only [hs, Option.map_some, Option.some.injEq, Prod.mk.injEq]
        constructor
        · rintro ⟨h1, h2⟩; exact ⟨h1.symm, a, u, rfl, rfl, by rw [← h2]; exact hs⟩
        · rintro ⟨h1, a', u', h2, h3, h4⟩
          cases h2; cases h3
          exact ⟨h1.symm, Option.some.inj (hs.symm.trans h4)⟩

/-! ### The theorem -/
section
variable {ds : List Deferred} {P : Program} {G : AHeap} {lo nt : Nat} {call : CallI} {ops : Array Oper} {ia ib : Nat} {o1 o2 : List Nat} {xs1 xs2 : List Item} {E1 E2 : Nat → Env} {Hh1 Hh2 : Nat → AHeap} {ρ0 : Ren} {D0 : Nat → Prop} {w0 : World} {N : Nat}

/-- From the one plan to the other, the last two not done. -/
theorem inv_swap (l1 : xs1.length = N + 2) (l2 : xs2.length = N + 2)
    (ho : ∀ t, t < N → o1[t]? = o2[t]?) (hoa : o1[N]? = some ia) (hob : o2[N]? = some ib)
    (hx : ∀ t x, t < N → xs2[t]? = some x → ∃ x', xs1[t]? = some x' ∧ x'.op = x.op ∧ x'.guard = x.guard ∧ x'.dst = x.dst)
    (hx' : ∀ t x, t < N → xs1[t]? = some x → ∃ x', xs2[t]? = some x' ∧ x.op = x'.op ∧ x.guard = x'.guard ∧ x.dst = x'.dst)
    (hd : ∀ t x, N ≤ t → xs1[t]? = some x → x.dst = none) (hA : ∃ x, xs1[N]? = some x ∧ x.op.act = true) (hB : ∃ x, xs2[N]? = some x ∧ x.op.act = true)
    (hE : ∀ t, t ≤ N → E2 t = E1 t) (hH : ∀ t, t ≤ N → Hh2 t = Hh1 t)
    {listed : Array Bool} {a : Act} {w : World} {T : Nat} {ρ : Ren} {D : Nat → Prop}
    (iv : Inv ds G lo nt (addE ops ib ia) o1 xs1 E1 Hh1 ρ0 D0 w0 listed a w T ρ D) (hla : listed.getD ia false = false) (hlb : listed.getD ib false = false) :
    Inv ds G lo nt (addE ops ia ib) o2 xs2 E2 Hh2 ρ0 D0 w0 listed a w T ρ D := by
  have hT : T ≤ N := by
    rcases Nat.lt_or_ge N T with h | h
    · obtain ⟨x, h1, h2⟩ := hA
      have := iv.done N x ia h h1 h2 hoa
      rw [hla] at this; cases this
    · exact h
  exact {
    size := by rw [addE_size, ← addE_size ops ib ia]; exact iv.size
    closed := closed_addE (addE_closed iv.closed) hla
    TN := by omega
    act := fun _ => by
      rcases Nat.lt_or_ge T N with h | h
      · obtain ⟨x, i, h1, h2, h3, h4⟩ := iv.act (by omega)
        obtain ⟨x', g1, g2, _, _⟩ := hx' T x h h1
        exact ⟨x', i, g1, by rw [← g2]; exact h2, by rw [← ho T h]; exact h3, h4⟩
      · have : T = N := by omega
        subst this
        obtain ⟨x, h1, h2⟩ := hB
        exact ⟨x, ib, h1, h2, hob, hlb⟩
    done := fun q x i h1 h2 h3 h4 => by
      obtain ⟨x', g1, g2, _, _⟩ := hx q x (by omega) h2
      exact iv.done q x' i h1 g1 (by rw [g2]; exact h3) (by rw [ho q (by omega)]; exact h4)
    hrel := by rw [hH T hT]; exact iv.hrel
    step := by rw [hH T hT, hH 0 (Nat.zero_le _)]; exact iv.step
    tsize := iv.tsize
    defers := iv.defers
    sa := fun t x i s v h1 h2 h3 h4 h5 h6 => by
      obtain ⟨x', g1, _, _, g4⟩ := hx t x (by omega) h2
      rw [hE T hT] at h6
      exact iv.sa t x' i s v h1 g1 (by rw [ho t (by omega)]; exact h3) h4 (by rw [g4]; exact h5) h6
    sb := fun s v h1 h2 => by
      rw [hE 0 (Nat.zero_le _)] at h2
      refine iv.sb s v (fun t x i g1 g2 g3 g4 => ?_) h2
      rcases Nat.lt_or_ge t N with h | h
      · obtain ⟨x', k1, _, _, k4⟩ := hx' t x h g1
        exact h1 t x' i k1 (by rw [← ho t h]; exact g2) g3 (by rw [← k4]; exact g4)
      · rw [hd t x h g1] at g4; cases g4
    wfs := fun t h => by rw [hH t (by omega)]; exact iv.wfs t h
    mono := fun t t' h1 h2 => by rw [hH t (by omega), hH t' (by omega)]; exact iv.mono t t' h1 h2
    f1 := fun p x i v h1 h2 h3 h4 h5 h6 h7 => by
      obtain ⟨x', g1, g2, g3, _⟩ := hx p x (by omega) h2
      rw [hE p (by omega), hH p (by omega)] at h7
      rw [hE p (by omega)] at h6
      rw [hE p (by omega), hH T hT]
      have := iv.f1 p x' i v h1 g1 (by rw [ho p (by omega)]; exact h3) h4 (by rw [g2]; exact h5) (by rw [g3]; exact h6) (by rw [g2]; exact h7)
      rw [g2] at this; exact this
    f2 := fun p x i h1 h2 h3 h4 h5 h6 => by
      obtain ⟨x', g1, g2, g3, _⟩ := hx p x (by omega) h2
      rw [hE p (by omega)] at h6
      rw [hE p (by omega)] at h5
      rw [hH p (by omega), hH T hT, hH (p + 1) (by omega)]
      exact iv.f2 p x' i h1 g1 (by rw [ho p (by omega)]; exact h3) h4 (by rw [g2]; exact h5) (by rw [g3]; exact h6) }

theorem draw2_inv (hne : ia ≠ ib) (c1 : Ctx P G lo nt call (addE ops ib ia) o1 xs1 E1 Hh1 ρ0 D0) (c2 : Ctx P G lo nt call (addE ops ia ib) o2 xs2 E2 Hh2 ρ0 D0)
    (sw : ∀ (listed : Array Bool) (a : Act) (w : World) (T : Nat) (ρ : Ren) (D : Nat → Prop), Inv ds G lo nt (addE ops ib ia) o1 xs1 E1 Hh1 ρ0 D0 w0 listed a w T ρ D → listed.getD ia false = false → listed.getD ib false = false → Inv ds G lo nt (addE ops ia ib) o2 xs2 E2 Hh2 ρ0 D0 w0 listed a w T ρ D)
    {R : Option Nat} {m : Nat} {Q : Exit → Act → World → Prop}
    (hQ1 : ∀ ρ' D' a' w', Step lo ρ0 D0 (Hh1 0) w0 ρ' D' (Hh1 xs1.length) w' → HRel G ρ' D' (Hh1 xs1.length) w' → ARel ds ρ' D' nt (E1 xs1.length) a' → Q .normal a' w')
    (hQ2 : ∀ ρ' D' a' w', Step lo ρ0 D0 (Hh2 0) w0 ρ' D' (Hh2 xs2.length) w' → HRel G ρ' D' (Hh2 xs2.length) w' → ARel ds ρ' D' nt (E2 xs2.length) a' → Q .normal a' w') :
    ∀ (fuel : Nat) (listed : Array Bool) (a : Act) (w : World), left ops.size listed ≤ fuel → (∃ T ρ D, Inv ds G lo nt (addE ops ib ia) o1 xs1 E1 Hh1 ρ0 D0 w0 listed a w T ρ D) → wpAnyIn (FR R) m P .any ops Q fuel listed a w := by
  have hs1 : (addE ops ib ia).size = ops.size := addE_size _ _ _
  have hs2 : (addE ops ia ib).size = ops.size := addE_size _ _ _
  have sub : ∀ listed : Array Bool, Region.ready .any ops listed = [] → Region.ready .any (addE ops ib ia) listed = [] := by
    intro listed h
    rw [List.eq_nil_iff_forall_not_mem] at h ⊢
    intro k hk
    exact h k (addE_ready.1 hk).1
  intro fuel
  induction fuel with
  | zero =>
    intro listed a w hleft hiv
    have h1 := draw_inv c1 (R := R) (m := m) hQ1 0 listed a w (by rw [hs1]; exact hleft) hiv
    refine ⟨?_, h1.2⟩
    rw [List.eq_nil_iff_forall_not_mem]
    intro j hj
    obtain ⟨g1, o, ho, _⟩ := mem_ready.1 hj
    have hjlt : j < ops.size := by
      rcases Nat.lt_or_ge j ops.size with h | h
      · exact h
      · rw [Array.getElem?_eq_none h] at ho; cases ho
    obtain ⟨T, ρ, D, iv⟩ := hiv
    have hjs : j < listed.size := by rw [iv.size, hs1]; exact hjlt
    have hl : listed.getD j false = false := by simp only [Array.getD, hjs, dif_pos] at g1 ⊢; exact g1
    have h0 : left ops.size listed = 0 := by omega
    unfold left at h0
    have := List.eq_nil_of_length_eq_zero h0
    have hm : j ∈ (List.range ops.size).filter fun i => !listed.getD i false := List.mem_filter.2 ⟨by simpa using hjlt, by simp only [hl]; rfl⟩
    rw [this] at hm; cases hm
  | succ fuel ih =>
    intro listed a w hleft hiv
    refine ⟨fun h0 => (draw_inv c1 (R := R) (m := m) hQ1 (fuel + 1) listed a w (by rw [hs1]; exact hleft) hiv).1 (sub listed h0), fun i hi => ?_⟩
    obtain ⟨T, ρ, D, iv⟩ := hiv
    obtain ⟨g1, o, ho, _⟩ := mem_ready.1 hi
    have hilt : i < ops.size := by
      rcases Nat.lt_or_ge i ops.size with h | h
      · exact h
      · rw [Array.getElem?_eq_none h] at ho; cases ho
    have hisz : i < listed.size := by rw [iv.size, hs1]; exact hilt
    have hnl : listed.getD i false = false := by simp only [Array.getD, hisz, dif_pos] at g1 ⊢; exact g1
    by_cases hcase : i = ib ∧ listed.getD ia false = false
    · obtain ⟨rfl, hla⟩ := hcase
      have iv2 := sw listed a w T ρ D iv hla hnl
      have hi2 : i ∈ Region.ready .any (addE ops ia i) listed := addE_ready.2 ⟨hi, fun e => absurd e.symm hne⟩
      have h2 := (draw_inv c2 (R := R) (m := m) hQ2 (fuel + 1) listed a w (by rw [hs2]; exact hleft) ⟨T, ρ, D, iv2⟩).2 i hi2
      refine wpOpIn_mono (fun a' w' h3 => addE_any fuel _ a' w' ((set_get hisz).2 (.inl rfl)) h3) (addE_op.1 h2)
    · have hi1 : i ∈ Region.ready .any (addE ops ib ia) listed := addE_ready.2 ⟨hi, fun e => by
        cases hl : listed.getD ia false with
        | true => rfl
        | false => exact absurd ⟨e, hl⟩ hcase⟩
      have hcnt : left ops.size (listed.setIfInBounds i true) ≤ fuel := by have := left_set (n := ops.size) hisz hilt hnl; omega
      exact addE_op.1 (draw_step c1 (Q := Q) iv hi1 fun a' w' T' ρ' D' iv' => ih _ a' w' hcnt ⟨T', ρ', D', iv'⟩)
end

section
variable {ds : List Deferred} {P : Program} {G : AHeap} {lo nt : Nat} {ρ : Ren} {D : Nat → Prop} {e : Env} {a : Act} {H : AHeap} {w : World}

theorem drop_two {xs : List Item} {N : Nat} {x y : Item} (h : xs.drop N = [x, y]) : xs.length = N + 2 ∧ xs[N]? = some x ∧ xs[N + 1]? = some y := by
  have h0 : ∀ k, (xs.drop N)[k]? = xs[N + k]? := fun k => List.getElem?_drop
  rw [h] at h0
  have hl : (xs.drop N).length = 2 := by rw [h]; rfl
  rw [List.length_drop] at hl
  exact ⟨by omega, by have := h0 0; simpa using this.symm, by have := h0 1; simpa using this.symm⟩

/-- What the turning of two open stores is. -/
structure Two (P : Program) (nt : Nat) (ops : Array Oper) (xs : List Item) where
  pre : List Nat
  ia : Nat
  ib : Nat
  xs1 : List Item
  xs2 : List Item
  n1 : Nat
  x1 : Opd
  tv : Nat
  n2 : Nat
  x2 : Opd
  y2 : Opd
  y : Item
  z : Item
  t1 : trDraw P nt (addE ops ib ia) (pre ++ [ia, ib]) = some xs1
  t2 : trDraw P nt (addE ops ia ib) (pre ++ [ib, ia]) = some xs2
  d1 : xs1.drop pre.length = [⟨none, .store n1 x1 (.t tv), none, []⟩, ⟨none, .store n2 x2 y2, none, []⟩]
  d2 : xs2.drop pre.length = [y, z]
  ry : y.re = []
  rz : z.re = []
  eq : xs = mix (xs1.take pre.length) (xs2.take pre.length) ++ [⟨none, .store n1 x1 (.t tv), none, []⟩, ⟨none, .store n2 x2 y2, none, [(tv, .load (some n1) x1, none)]⟩]

theorem two_draw {ops : Array Oper} {order : List Nat} {xs : List Item} (h : trDraw2 P nt ops order = some xs) : Nonempty (Two P nt ops xs) := by
  unfold trDraw2 at h
  split at h
  · rename_i ib ia rev hrev
    split at h
    · rename_i xs1 xs2 h1 h2
      unfold twoOf at h
      split at h
      · rename_i n1 x1 tv n2 x2 y2 y z hd1 hd2
        split at h
        · rename_i hre
          simp only [Bool.and_eq_true, List.isEmpty_iff] at hre
          cases h
          exact ⟨⟨rev.reverse, ia, ib, xs1, xs2, n1, x1, tv, n2, x2, y2, y, z, h1, h2, hd1, hd2, hre.1, hre.2, rfl⟩⟩
        · cases h
      · cases h
    · cases h
  · cases h

theorem draw2_sim (hm : P.follows .mixedOrders = true) {call : CallI} (hc : CallOK P G lo call) (hlo : G.next ≤ lo) {ops : Array Oper} {order : List Nat} {xs : List Item} (hx : trDraw2 P nt ops order = some xs) {id : Nat} {Q : Exit → Act → World → Prop} {R : Option Nat} {m : Nat}
    (r : Rel P G ds ρ D nt e a H w) {e' : Env} {H' : AHeap} (hs : itemsI call lo xs e H = some (e', H'))
    (h : ∀ ρ' D' a' w', Step lo ρ D H w ρ' D' H' w' → HRel G ρ' D' H' w' → ARel ds ρ' D' nt e' a' → Q .normal a' w') : (Code.region id ops true).wpIn (FR R) m P Q a w := by
  obtain ⟨t⟩ := two_draw hx
  obtain ⟨pre, ia, ib, xs1, xs2, n1, x1, tv, n2, x2, y2, y, z, t1, t2, d1, d2, ry, rz, eq⟩ := t
  subst eq
  have p1 := draw_plan t1
  have p2 := draw_plan t2
  generalize hN : pre.length = N at *
  obtain ⟨l1, a1, b1⟩ := drop_two d1
  obtain ⟨l2, b2, a2⟩ := drop_two d2
  have hoa1 : (pre ++ [ia, ib])[N]? = some ia := by rw [← hN]; simp
  have hob1 : (pre ++ [ia, ib])[N + 1]? = some ib := by rw [← hN]; simp
  have hob2 : (pre ++ [ib, ia])[N]? = some ib := by rw [← hN]; simp
  have hoa2 : (pre ++ [ib, ia])[N + 1]? = some ia := by rw [← hN]; simp
  have hne : ia ≠ ib := fun e => by
    have := p1.uniq N (N + 1) ia hoa1 (by rw [hob1, e]); omega
  have hpre : ∀ t, t < N → (pre ++ [ia, ib])[t]? = (pre ++ [ib, ia])[t]? := fun t ht => by
    rw [List.getElem?_append_left (by omega), List.getElem?_append_left (by omega)]
  have same : ∀ {t1' t2' i : Nat} {u v : Item}, (pre ++ [ia, ib])[t1']? = some i → (pre ++ [ib, ia])[t2']? = some i → xs1[t1']? = some u → xs2[t2']? = some v → v.op = u.op ∧ v.guard = u.guard ∧ v.dst = u.dst := fun h1 h2 h3 h4 =>
    asOp_same (asOp_addE (p1.asOp h1 h3)) (asOp_addE (p2.asOp h2 h4))
  have get1 : ∀ t, t < N → ∃ x, xs1[t]? = some x := fun t ht => ⟨xs1[t], List.getElem?_eq_getElem (by omega)⟩
  have get2 : ∀ t, t < N → ∃ x, xs2[t]? = some x := fun t ht => ⟨xs2[t], List.getElem?_eq_getElem (by omega)⟩
  have geto : ∀ t, t < N → ∃ i, (pre ++ [ia, ib])[t]? = some i := fun t ht => ⟨pre[t], by rw [List.getElem?_append_left (by omega)]; exact List.getElem?_eq_getElem (by omega)⟩
  have hx12 : ∀ t x, t < N → xs2[t]? = some x → ∃ x', xs1[t]? = some x' ∧ x'.op = x.op ∧ x'.guard = x.guard ∧ x'.dst = x.dst := fun t x ht hx => by
    obtain ⟨x', hx'⟩ := get1 t ht
    obtain ⟨i, hi⟩ := geto t ht
    obtain ⟨g1, g2, g3⟩ := same hi (by rw [← hpre t ht]; exact hi) hx' hx
    exact ⟨x', hx', g1.symm, g2.symm, g3.symm⟩
  have hx21 : ∀ t x, t < N → xs1[t]? = some x → ∃ x', xs2[t]? = some x' ∧ x.op = x'.op ∧ x.guard = x'.guard ∧ x.dst = x'.dst := fun t x ht hx => by
    obtain ⟨x', hx'⟩ := get2 t ht
    obtain ⟨i, hi⟩ := geto t ht
    obtain ⟨g1, g2, g3⟩ := same hi (by rw [← hpre t ht]; exact hi) hx hx'
    exact ⟨x', hx', g1.symm, g2.symm, g3.symm⟩
  obtain ⟨yo, yg, yd⟩ := same hob1 hob2 b1 b2
  obtain ⟨zo, zg, zd⟩ := same hoa1 hoa2 a1 a2
  simp only at yo yg yd zo zg zd
  -- the run
  obtain ⟨E, Hh, h0, h1, h2, h3, h4⟩ := trace_of _ e H e' H' hs
  have hlen : (mix (xs1.take N) (xs2.take N)).length = N := by
    rw [mix_len (by simp [l1, l2])]; simp [l1]
  rw [List.length_append, hlen] at h2 h3
  simp only [List.length_cons, List.length_nil] at h2 h3
  have runT : ∀ t u v, t < N → xs1[t]? = some u → xs2[t]? = some v → itemI call lo u (E t) (Hh t) = some (E (t + 1), Hh (t + 1)) ∧
      (skipI call (E t) u.op || (keepI (Hh (t + 1)) u.op u.re (E t) (E (t + 1)) || reOk lo u.dst (E t) (Hh t) (E (t + 1)) (Hh (t + 1)) u.re)) = true ∧ (skipI call (E t) u.op || (keepI (Hh (t + 1)) u.op v.re (E t) (E (t + 1)) || reOk lo u.dst (E t) (Hh t) (E (t + 1)) (Hh (t + 1)) v.re)) = true := by
    intro t u v ht hu hv
    have hg : (mix (xs1.take N) (xs2.take N) ++ [(⟨none, .store n1 x1 (.t tv), none, []⟩ : Item), ⟨none, .store n2 x2 y2, none, [(tv, .load (some n1) x1, none)]⟩])[t]? = some { u with re := u.re ++ v.re } := by
      rw [List.getElem?_append_left (by omega)]
      exact mix_get (by rw [List.getElem?_take, if_pos ht]; exact hu) (by rw [List.getElem?_take, if_pos ht]; exact hv)
    obtain ⟨g1, g2⟩ := h4 t _ hg
    exact ⟨g1, chk_app g2⟩
  have hgA : (mix (xs1.take N) (xs2.take N) ++ [(⟨none, .store n1 x1 (.t tv), none, []⟩ : Item), ⟨none, .store n2 x2 y2, none, [(tv, .load (some n1) x1, none)]⟩])[N]? = some ⟨none, .store n1 x1 (.t tv), none, []⟩ := by
    rw [List.getElem?_append_right (by omega), hlen]; simp
  have hgB : (mix (xs1.take N) (xs2.take N) ++ [(⟨none, .store n1 x1 (.t tv), none, []⟩ : Item), ⟨none, .store n2 x2 y2, none, [(tv, .load (some n1) x1, none)]⟩])[N + 1]? = some ⟨none, .store n2 x2 y2, none, [(tv, .load (some n1) x1, none)]⟩ := by
    rw [List.getElem?_append_right (by omega), hlen]; simp
  obtain ⟨runA, _⟩ := h4 N _ hgA
  obtain ⟨runB, chkB⟩ := h4 (N + 1) _ hgB
  obtain ⟨eA, pa, ua, k1, k2, k3⟩ := (item_store rfl rfl rfl).1 runA
  obtain ⟨eB, pb, ub, k4, k5, k6⟩ := (item_store rfl rfl rfl).1 runB
  have hE2 : E (N + 1 + 1) = E N := by rw [eB, eA]
  have k7 : loadV (Hh (N + 1 + 1)) (some n1) pa = some (.ag ua.cells) ∨ ∀ id off id' off', pa = .p id off → pb = .p id' off' → id' ≠ id := by
    simp only [skipI, Bool.false_or, Bool.or_eq_true] at chkB
    rcases chkB with chkB | chkB
    · right
      rintro id off id' off' rfl rfl rfl
      rw [eA] at k4
      simp only [keepI, touch] at chkB
      rw [show E (N + 1) = E N from eA, k4] at chkB
      simp only [keepL] at chkB
      rw [hE2, k1] at chkB
      simp at chkB
    left
    obtain ⟨⟨pid, poff, rfl⟩, hld⟩ := store_load k3
    have hag : ∀ {u : AVal}, loadV (Hh (N + 1 + 1)) (some n1) (.p pid poff) = some u → ∃ l, u = .ag l := fun {u} h => by
      simp only [loadV, Option.map_eq_some_iff] at h
      obtain ⟨l, _, h⟩ := h
      exact ⟨l, h.symm⟩
    simp only [reOk, wantedI, Bool.and_true, aop, dynE, Bool.false_or, Bool.or_eq_true] at chkB
    rw [hE2, k1] at chkB
    simp only [Opd.eval] at k2
    rw [k2] at chkB
    simp only [Option.bind_some] at chkB
    rcases chkB with chkB | chkB
    · revert chkB
      cases hld2 : loadV (Hh (N + 1 + 1)) (some n1) (.p pid poff) with
      | none => simp
      | some v =>
        intro hb
        have hvu := same_eq _ _ (by simpa [pure, Option.map] using hb)
        obtain ⟨l, rfl⟩ := hag hld2
        rw [hvu]; rfl
    · unfold ldE at chkB
      split at chkB
      · rename_i n s heq
        cases heq
        rw [Bool.and_eq_true] at chkB
        have h2 := chkB.2
        have hs : (E (N + 1)).get s = some (.p pid poff) := by rw [show E (N + 1) = E N from eA]; exact k1
        rw [hs] at h2
        simp only [hld] at h2
        revert h2
        cases hld2 : loadV (Hh (N + 1 + 1)) (some n1) (.p pid poff) with
        | none => simp
        | some v =>
          intro hb
          have := same_eq _ _ hb
          rw [← this]
      · cases chkB
  rw [eA] at k4 k5
  obtain ⟨HB, HBA, q1, q2, q3, q4⟩ := store_two k3 k6 k7
  -- the two runs
  have hd : Drew w { w with drawn := w.drawn + 1 } := by constructor <;> rfl
  obtain ⟨s1, s2⟩ := drew_sim (lo := lo) r.heap hd
  have c1 : Ctx P G lo nt call (addE ops ib ia) (pre ++ [ia, ib]) xs1 E Hh ρ D := ⟨p1, fun t x hxt => by
    rcases Nat.lt_or_ge t N with ht | ht
    · obtain ⟨v, hv⟩ := get2 t ht
      obtain ⟨g1, g2, _⟩ := runT t x v ht hxt hv
      exact ⟨g1, g2⟩
    · rcases Nat.lt_or_ge t (N + 1) with ht2 | ht2
      · have : t = N := by omega
        subst this
        rw [a1] at hxt; cases hxt
        exact ⟨runA, by simp [reOk]⟩
      · rcases Nat.lt_or_ge t (N + 2) with ht3 | ht3
        · have : t = N + 1 := by omega
          subst this
          rw [b1] at hxt; cases hxt
          exact ⟨(item_store rfl rfl rfl).2 ⟨eB, pb, ub, by rw [eA]; exact k4, by rw [eA]; exact k5, k6⟩, by simp [reOk]⟩
        · rw [List.getElem?_eq_none (by omega)] at hxt; (cases hxt), hc, hlo, r.gsize, r.gok, fun id hid => by rw [h1]; exact r.heap.lt id hid, by rw [h1]; exact r.heap.gnext⟩
  let E2 : Nat → Env := fun t => if t ≤ N then E t else E N
  let H2 : Nat → AHeap := fun t => if t ≤ N then Hh t else if t = N + 1 then HB else HBA
  have hE2' : ∀ t, t ≤ N → E2 t = E t := fun t ht => if_pos ht
  have hH2' : ∀ t, t ≤ N → H2 t = Hh t := fun t ht => if_pos ht
  have eN1 : E2 (N + 1) = E N := if_neg (by omega)
  have eN2 : E2 (N + 2) = E N := if_neg (by omega)
  have hN1 : H2 (N + 1) = HB := by show (if N + 1 ≤ N then _ else _) = _; rw [if_neg (by omega), if_pos rfl]
  have hN2 : H2 (N + 2) = HBA := by show (if N + 2 ≤ N then _ else _) = _; rw [if_neg (by omega), if_neg (by omega)]
  have c2 : Ctx P G lo nt call (addE ops ia ib) (pre ++ [ib, ia]) xs2 E2 H2 ρ D := ⟨p2, fun t x hxt => by
    rcases Nat.lt_or_ge t N with ht | ht
    · rw [hE2' t (by omega), hE2' (t + 1) (by omega), hH2' t (by omega), hH2' (t + 1) (by omega)]
      obtain ⟨u, hu, g1, g2, g3⟩ := hx12 t x ht hxt
      obtain ⟨g4, _, g5⟩ := runT t u x ht hu hxt
      rw [← g1]
      refine ⟨?_, by first | (rw [g3] at g5; exact g5) | (rw [g2] at g5; exact g5) | (rw [← g3]; exact g5) | (rw [← g2]; exact g5)⟩
      rw [← g4]
      simp only [itemI, g1, g2, g3]
    · rcases Nat.lt_or_ge t (N + 1) with ht2 | ht2
      · have : t = N := by omega
        subst this
        rw [b2] at hxt; cases hxt
        rw [hE2' t (Nat.le_refl _), eN1, hH2' t (Nat.le_refl _), hN1]
        exact ⟨(item_store yo yg yd).2 ⟨rfl, pb, ub, k4, k5, q1⟩, by rw [ry]; simp [reOk]⟩
      · rcases Nat.lt_or_ge t (N + 2) with ht3 | ht3
        · have : t = N + 1 := by omega
          subst this
          rw [a2] at hxt; cases hxt
          rw [eN1, eN2, hN1, hN2]
          exact ⟨(item_store zo zg zd).2 ⟨rfl, pa, ua, k1, k2, q2⟩, by rw [rz]; simp [reOk]⟩
        · rw [List.getElem?_eq_none (by omega)] at hxt; (cases hxt), hc, hlo, r.gsize, r.gok, fun id hid => by rw [hH2' 0 (Nat.zero_le _), h1]; exact r.heap.lt id hid, by rw [hH2' 0 (Nat.zero_le _), h1]; exact r.heap.gnext⟩
  obtain ⟨T, iv⟩ := inv_init (w := w) (a := a) c1 (w0 := { w with drawn := w.drawn + 1 }) (by rw [h1]; exact s2) (by rw [h1]; exact s1) (by rw [h0]; exact r.slots)
  rw [addE_size] at iv
  refine wpIn_region_any hm ?_
  refine draw2_inv (Q := Q) (w0 := w) hne c1 c2 ?_ ?_ ?_ ops.size _ a _ ?_ ⟨T, ρ, D, iv⟩
  · intro listed a' w' T' ρ' D' iv' hla hlb
    refine inv_swap l1 l2 hpre hoa1 hob2 hx12 hx21 ?_ ⟨_, a1, rfl⟩ ⟨y, b2, by rw [yo]; rfl⟩ hE2' hH2' iv' hla hlb
    intro t x ht hxt
    rcases Nat.lt_or_ge t (N + 1) with ht2 | ht2
    · have : t = N := by omega
      subst this
      rw [a1] at hxt; cases hxt; rfl
    · rcases Nat.lt_or_ge t (N + 2) with ht3 | ht3
      · have : t = N + 1 := by omega
        subst this
        rw [b1] at hxt; cases hxt; rfl
      · rw [List.getElem?_eq_none (by omega)] at hxt; cases hxt
  · intro ρ' D' a' w' g1 g2 g3
    rw [l1] at g1 g2 g3
    rw [h1, h3] at g1
    rw [h3] at g2
    rw [h2] at g3
    exact h ρ' D' a' w' g1 g2 g3
  · intro ρ' D' a' w' g1 g2 g3
    rw [l2, hN2] at g1 g2
    rw [l2, eN2] at g3
    rw [hH2' 0 (Nat.zero_le _), h1] at g1
    have hE3 : E N = e' := by rw [← h2]; exact hE2.symm
    have hH3 : Hh (N + 1 + 1) = H' := h3
    rw [hE3] at g3
    exact h ρ' D' a' w' (g1.same (fun id => by rw [← hH3]; exact (q3 id).symm) (by rw [← hH3]; exact q4.symm)) (g2.same (fun id => by rw [← hH3]; exact (q3 id).symm) (by rw [← hH3]; exact q4.symm)) g3
  · unfold left
    exact Nat.le_trans (List.length_filter_le _ _) (by simp)

/-- A region that leaves its order open. -/
def trDraws (P : Program) (nt : Nat) (ops : Array Oper) (order : List Nat) : Option (List Item) :=
  match trDraw P nt ops order with
  | some xs => some xs
  | none => trDraw2 P nt ops order

theorem draws_sim (hm : P.follows .mixedOrders = true) {call : CallI} (hc : CallOK P G lo call) (hlo : G.next ≤ lo) {ops : Array Oper} {order : List Nat} {xs : List Item} (hx : trDraws P nt ops order = some xs) {id : Nat} {Q : Exit → Act → World → Prop} {R : Option Nat} {m : Nat}
    (r : Rel P G ds ρ D nt e a H w) {e' : Env} {H' : AHeap} (hs : itemsI call lo xs e H = some (e', H'))
    (h : ∀ ρ' D' a' w', Step lo ρ D H w ρ' D' H' w' → HRel G ρ' D' H' w' → ARel ds ρ' D' nt e' a' → Q .normal a' w') : (Code.region id ops true).wpIn (FR R) m P Q a w := by
  unfold trDraws at hx
  split at hx
  · rename_i xs0 hx0
    cases hx
    exact draw_sim hm hc hlo hx0 r hs h
  · exact draw2_sim hm hc hlo hx r hs h

/-- Every item is an operation of the region. -/
theorem draws_item {ops : Array Oper} {order : List Nat} {xs : List Item} (hx : trDraws P nt ops order = some xs) {x : Item} (hm : x ∈ xs) : ∃ i, AsOp P ops i x := by
  have one : ∀ {ops : Array Oper} {order : List Nat} {xs : List Item}, trDraw P nt ops order = some xs → ∀ {t : Nat} {x : Item}, xs[t]? = some x → ∃ i, AsOp P ops i x := by
    intro ops order xs hx t x ht
    have p := draw_plan hx
    have htl : t < order.length := by
      rw [← p.len]
      rcases Nat.lt_or_ge t xs.length with h | h
      · exact h
      · rw [List.getElem?_eq_none h] at ht; cases ht
    exact ⟨order[t], p.asOp (List.getElem?_eq_getElem htl) ht⟩
  unfold trDraws at hx
  split at hx
  · rename_i xs0 hx0
    cases hx
    obtain ⟨t, ht⟩ := List.mem_iff_getElem?.1 hm
    exact one hx0 ht
  · obtain ⟨t⟩ := two_draw hx
    obtain ⟨pre, ia, ib, xs1, xs2, n1, x1, tv, n2, x2, y2, y, z, t1, t2, d1, d2, ry, rz, eq⟩ := t
    subst eq
    obtain ⟨l1, a1, b1⟩ := drop_two d1
    rcases List.mem_append.1 hm with hm | hm
    · have : ∀ (xs ys : List Item) (x : Item), x ∈ mix xs ys → ∃ x' ∈ xs, x.op = x'.op ∧ x.guard = x'.guard ∧ x.dst = x'.dst := by
        intro xs
        induction xs with
        | nil => intro ys x h; cases ys <;> cases h
        | cons u xs ih =>
          intro ys x h
          cases ys with
          | nil => cases h
          | cons v ys =>
            simp only [mix, List.mem_cons] at h
            rcases h with h | h
            · subst h; exact ⟨u, by simp, rfl, rfl, rfl⟩
            · obtain ⟨x', h1, h2⟩ := ih ys x h
              exact ⟨x', by simp [h1], h2⟩
      obtain ⟨x', h1, h2, h3, h4⟩ := this _ _ _ hm
      obtain ⟨t, ht⟩ := List.mem_iff_getElem?.1 (List.mem_of_mem_take h1)
      obtain ⟨i, o, io, g1, g2, g3, g4, g5⟩ := one t1 ht
      exact ⟨i, asOp_addE ⟨o, io, g1, g2, by rw [h2]; exact g3, by rw [h3]; exact g4, by rw [h4]; exact g5⟩⟩
    · simp only [List.mem_cons, List.mem_nil_iff, or_false] at hm
      rcases hm with rfl | rfl
      · obtain ⟨i, hi⟩ := one t1 a1
        exact ⟨i, asOp_addE hi⟩
      · obtain ⟨i, o, io, g1, g2, g3, g4, g5⟩ := one t1 b1
        exact ⟨i, asOp_addE ⟨o, io, g1, g2, g3, g4, g5⟩⟩
end

end Go.RI

/- RI, part Y: the code turned, and the whole of it simulated. Conditions: none. -/
namespace Go.RI
open Go

/-- For each region: the order it is taken in, and the slots that are dropped behind it. -/
abbrev Hint := List Nat × List Nat

def trCode (P : Program) (nt : Nat) : Code → List Hint → Option (ICode × List Hint)
  | .skip, h => match h with
    | [] => none
    | (_, []) :: h => some (.skip, h)
    | (_, kill) :: h => some (.region [] kill, h)
  | .region _ ops draw, h => match h with
    | [] => none
    | (order, kill) :: h => match (if draw then trDraws P nt ops order else trItems P nt ops ops.toList) with
      | some xs => some (.region xs kill, h)
      | none => none
  | .seq a b, h => match trCode P nt a h with
    | some (a, h) => match trCode P nt b h with
      | some (b, h) => some (.seq a b, h)
      | none => none
    | none => none
  | .cond c a b, h => match trOpd P c, trCode P nt a h with
    | some c, some (a, h) => match trCode P nt b h with
      | some (b, h) => some (.cond c a b, h)
      | none => none
    | _, _ => none
  | .block id b, h => match trCode P nt b h with
    | some (b, h) => some (.block id b, h)
    | none => none
  | .loop b, h => match trCode P nt b h with
    | some (b, h) => some (.loop b, h)
    | none => none
  | .exit id, h => some (.exit id, h)
  | .ret, h => some (.ret, h)
  | .scope b, h => match trCode P nt b h with
    | some (b, h) => some (.seq .skip b, h)
    | none => none
  | .label _, h => some (.skip, h)
  | _, _ => none

/-- 'mode': 0, or 1. -/
def trFunc (P : Program) (hs : List Hint) (mode : Nat) (fn : Func) : Option IFunc :=
  match fn.body with
  | none => none
  | some c => match trCode P fn.ntmps c hs, trRes P fn.results.toList with
    | some (ic, _), some rs =>
      if decide (fn.params.size + fn.nfree ≤ fn.ntmps) && !(fn.name == "runtime.NumGoroutine") && decide (mode ≤ 1) then some { body := ic, nt := fn.ntmps, np := fn.params.size + fn.nfree, res := rs, mode := mode } else none
    | _, _ => none

/-- The table says what the program's functions are. -/
def TrOK (P : Program) (f : FuncId) (ifn : IFunc) : Prop := ∃ fn hs mode, P.funcs[f]? = some fn ∧ trFunc P hs mode fn = some ifn
/-- It is internal/bytealg.IndexByteString, for which the model stands in. -/
def ExtOK (P : Program) (f : FuncId) (ifn : IFunc) : Prop := ifn.mode = 4 ∧ ifn.body = .skip ∧ ∃ fn, P.funcs[f]? = some fn ∧ (fn.name == "runtime.NumGoroutine") = false ∧ fn.body.isNone = true ∧ Extern.findNext fn = none ∧ Extern.find fn = some Extern.BytealgIndexByte.indexByte

section
variable {ds : List Deferred} {P : Program} {G : AHeap}

theorem draw_or {nt lo : Nat} {ρ : Ren} {D : Nat → Prop} {e : Env} {a : Act} {H : AHeap} {w : World} (hm : P.follows .mixedOrders = true) {call : CallI} (hc : CallOK P G lo call) (hlo : G.next ≤ lo) {ops : Array Oper} {draw : Bool} {order : List Nat} {xs : List Item}
    (hx : (if draw then trDraws P nt ops order else trItems P nt ops ops.toList) = some xs) {id : Nat} {Q : Exit → Act → World → Prop} {R : Option Nat} {m : Nat}
    (r : Rel P G ds ρ D nt e a H w) {e' : Env} {H' : AHeap} (hs : itemsI call lo xs e H = some (e', H'))
    (h : ∀ ρ' D' a' w', Step lo ρ D H w ρ' D' H' w' → HRel G ρ' D' H' w' → ARel ds ρ' D' nt e' a' → Q .normal a' w') : (Code.region id ops draw).wpIn (FR R) m P Q a w := by
  cases draw with
  | true => exact draws_sim hm hc hlo hx r hs h
  | false =>
    refine wpIn_region ?_
    have := items_sim (R := R) (m := m) hc hlo (ops := ops) (Q := Q) ops.toList 0 xs (fun j o hj => by simpa using hj) hx ρ D e a H w e' H' r hs h
    simpa [List.range_eq_range'] using this

/-- What the fuel is good for. -/
def ExecOK (P : Program) (IP : FuncId → Option IFunc) (G : AHeap) (f : Nat) : Prop :=
  ∀ (R : Option Nat) (m : Nat) (ds : List Deferred) (nt lo : Nat), G.next ≤ lo → ∀ (c : Code) (hs : List Hint) (ic : ICode) (hs' : List Hint), trCode P nt c hs = some (ic, hs') → ∀ (ρ : Ren) (D : Nat → Prop) (e : Env) (a : Act) (H : AHeap) (w : World), Rel P G ds ρ D nt e a H w →
    ∀ (x : AExit) (e' : Env) (H' : AHeap), exec IP G f lo ic e H = some (x, e', H') → ∀ (Q : Exit → Act → World → Prop),
    (∀ ρ' D' a' w', Step lo ρ D H w ρ' D' H' w' → HRel G ρ' D' H' w' → ARel ds ρ' D' nt e' a' → Q x.conc a' w') → c.wpIn (FR R) m P Q a w

def RoundsOK (P : Program) (IP : FuncId → Option IFunc) (G : AHeap) (f : Nat) : Prop :=
  ∀ (R : Option Nat) (m : Nat) (ds : List Deferred) (nt lo : Nat), G.next ≤ lo → ∀ (c : Code) (hs : List Hint) (ic : ICode) (hs' : List Hint), trCode P nt c hs = some (ic, hs') → ∀ (ρ : Ren) (D : Nat → Prop) (e : Env) (a : Act) (H : AHeap) (w : World), Rel P G ds ρ D nt e a H w →
    ∀ (x : AExit) (e' : Env) (H' : AHeap), exec IP G f lo (.loop ic) e H = some (x, e', H') → ∀ (Q : Exit → Act → World → Prop),
    (∀ ρ' D' a' w', Step lo ρ D H w ρ' D' H' w' → HRel G ρ' D' H' w' → ARel ds ρ' D' nt e' a' → Q x.conc a' w') → Code.roundsIn (FR R) m P c Q f a w

/-- A function that is no turned one, but is shown to be what the interpreter has. -/
def CusOK (P : Program) (IP : FuncId → Option IFunc) (f : FuncId) (ifn : IFunc) : Prop := HasBody P f ∧ ifn.mode ≤ 1 ∧ ∀ (G : AHeap) (F : Nat), P.follows .mixedOrders = true → G.next = P.globals.size → GOk G → ExecOK P IP G F →
  (∀ lo, G.next ≤ lo → CallOK P G lo (callI (exec IP G F) IP G lo)) → ∀ (lo : Nat), G.next ≤ lo → ∀ (args : List AVal) (H : AHeap) (r : AVal) (H' : AHeap), bodyI (exec IP G (F + 1)) ifn lo args H = some (r, H') → ∀ (ρ : Ren) (D : Nat → Prop) (w : World), HRel G ρ D H w → okL ρ D args →
    Calls P f (renL ρ args).toArray w (fun e w' => ∃ ρ' D', e = .returned (ren ρ' r) ∧ Step lo ρ D H w ρ' D' H' w' ∧ HRel G ρ' D' H' w' ∧ ok ρ' D' r)
def TabOK (P : Program) (IP : FuncId → Option IFunc) : Prop := ∀ f ifn, IP f = some ifn → TrOK P f ifn ∨ ExtOK P f ifn ∨ CusOK P IP f ifn

theorem renL_len (ρ : Ren) (l : List AVal) : (renL ρ l).length = l.length := renL_length ρ l

theorem initEnv_get : ∀ (args : List AVal) (k t : Nat) (v : AVal), (initEnv k args).get t = some v → k ≤ t ∧ args[t - k]? = some v := by
  intro args
  induction args with
  | nil => intro k t v h; simp [initEnv, Env.get] at h
  | cons u args ih =>
    intro k t v h
    simp only [initEnv, Env.get] at h
    split at h
    · rename_i hk
      subst hk
      simp only [Option.some.injEq] at h; subst h
      exact ⟨Nat.le_refl _, by simp⟩
    · rename_i hk
      obtain ⟨h1, h2⟩ := ih (k + 1) t v h
      refine ⟨by omega, ?_⟩
      have : t - k = (t - (k + 1)) + 1 := by omega
      rw [this, List.getElem?_cons_succ]; exact h2

theorem init_rel {ρ : Ren} {D : Nat → Prop} {args : List AVal} {nt : Nat} (hn : args.length ≤ nt) (ha : okL ρ D args) :
    ARel [] ρ D nt (initEnv 0 args) { tmps := (renL ρ args).toArray ++ Array.replicate (nt - (renL ρ args).toArray.size) undef, defers := [] } where
  size := by simp [renL_length]; omega
  defers := rfl
  get := fun t v hv => by
    obtain ⟨_, h2⟩ := initEnv_get args 0 t v hv
    rw [Nat.sub_zero] at h2
    have hlt : t < args.length := by
      rcases Nat.lt_or_ge t args.length with h | h
      · exact h
      · rw [List.getElem?_eq_none h] at h2; cases h2
    refine ⟨by omega, ?_, okL_get ha h2⟩
    rw [Array.getD_eq_getD_getElem?, Array.getElem?_append_left (by simp [renL_length]; exact hlt)]
    simp only [List.getElem?_toArray, renL_get, h2, Option.map_some, Option.getD_some]

/-- The byte's place is the machine's. -/
theorem idxL_first (c : UInt8) (x : List UInt8) : firstIdx ⟨x.toArray⟩ c = idxL c x 0 := by
  have key : ∀ (l : List UInt8) (p : List UInt8) (hp : x = p ++ l), (match (List.range' p.length l.length).find? fun i => (ByteArray.mk x.toArray)[i]! == c with | some i => (i : Int) | none => -1) = idxL c l p.length := by
    intro l
    induction l with
    | nil => intro p hp; rfl
    | cons b l ih =>
      intro p hp
      have hb : (ByteArray.mk x.toArray)[p.length]! = b := by
        subst hp
        have : p.length < (ByteArray.mk (p ++ b :: l).toArray).size := by simp [ByteArray.size]
        rw [getElem!_pos (ByteArray.mk (p ++ b :: l).toArray) p.length this]
        simp [ByteArray.getElem_eq_getElem_data]
      simp only [List.length_cons, List.range'_succ, List.find?_cons, hb, idxL]
      cases hbc : b == c
      · have := ih (p ++ [b]) (by rw [hp]; simp)
        simp only [List.length_append, List.length_cons, List.length_nil, Nat.zero_add] at this
        simp only [Bool.false_eq_true, if_false]
        rw [this]
        rfl
      · simp
  have := key x [] rfl
  simp only [List.length_nil] at this
  unfold firstIdx
  rw [List.range_eq_range']
  have hs : (ByteArray.mk x.toArray).size = x.length := by simp [ByteArray.size]
  rw [hs]
  exact this

theorem tr_mode {hs : List Hint} {mode : Nat} {fn : Func} {ifn : IFunc} (h : trFunc P hs mode fn = some ifn) : ifn.mode = 0 ∨ ifn.mode = 1 := by
  unfold trFunc at h
  split at h
  · cases h
  · split at h
    · split at h
      · rename_i hc
        cases h
        simp only [Bool.and_eq_true, decide_eq_true_eq] at hc
        have := hc.2
        simp only
        omega
      · cases h
    · cases h

/-- A body run is a call. -/
theorem body_sim {IP : FuncId → Option IFunc} (hg : G.next = P.globals.size) (hgo : GOk G) {f : Nat} (hex : ExecOK P IP G f) {lo : Nat} (hlo : G.next ≤ lo) {g : FuncId} {ifn : IFunc} (htr0 : TrOK P g ifn)
    {args : List AVal} {H : AHeap} {r : AVal} {H' : AHeap} (hb : bodyI (exec IP G f) ifn lo args H = some (r, H')) {ρ : Ren} {D : Nat → Prop} {w : World} (hrel : HRel G ρ D H w) (ha : okL ρ D args) :
    Calls P g (renL ρ args).toArray w (fun e w' => ∃ ρ' D', e = .returned (ren ρ' r) ∧ Step lo ρ D H w ρ' D' H' w' ∧ HRel G ρ' D' H' w' ∧ ok ρ' D' r) := by
  obtain ⟨fn, hs, mode, hf, htr⟩ := htr0
  unfold trFunc at htr
  split at htr
  · cases htr
  · rename_i c hbody
    split at htr
    · rename_i ic hs' rs hcode hres
      split at htr
      · rename_i hchk
        cases htr
        simp only [Bool.and_eq_true, decide_eq_true_eq] at hchk
        unfold bodyI at hb
        simp only at hb
        split at hb
        · rename_i hlen
          have hle : args.length ≤ fn.ntmps := by rw [hlen]; exact hchk.1.1
          have har := init_rel (ρ := ρ) (D := D) hle ha
          refine calls_of_wp hf hbody ?_
          have fin : ∀ (x : AExit) (e1 : Env) (H1 : AHeap), exec IP G f lo ic (initEnv 0 args) H = some (x, e1, H1) → (x = .normal ∨ x = .ret) → (∃ vs, resI e1 H1 rs = some vs ∧ r = tupI vs ∧ H' = H1) →
              c.wp P (bodyPost P fn (fun e w' => ∃ ρ' D', e = .returned (ren ρ' r) ∧ Step lo ρ D H w ρ' D' H' w' ∧ HRel G ρ' D' H' w' ∧ ok ρ' D' r))
                { tmps := (renL ρ args).toArray ++ Array.replicate (fn.ntmps - (renL ρ args).toArray.size) undef, defers := [] } w := by
            rintro x e1 H1 h1 h2 ⟨vs, hvs, rfl, rfl⟩
            · refine (wpIn_wide (n := 0)).1 (hex none 0 [] fn.ntmps lo hlo c hs ic hs' hcode ρ D _ _ H w ⟨hg, hgo, hrel, har⟩ x e1 _ h1 _ ?_)
              intro ρ' D' a' w' g1 g2 g3
              obtain ⟨h5, h6⟩ := results_sim (nt := fn.ntmps) ⟨hg, hgo, g2, g3⟩ hres hvs
              rcases h2 with rfl | rfl <;> exact ⟨g3.defers, _, h6, ρ', D', rfl, g1, g2, h5⟩
          split at hb
          · cases hb
          · rename_i x e1 H1 hnex hx
            split at hb
            · rename_i vs hvs
              cases hb
              refine fin x e1 _ hx ?_ ⟨vs, hvs, rfl, rfl⟩
              cases x with
              | normal => exact .inl rfl
              | ret => exact .inr rfl
              | exit id => exact (hnex id rfl).elim
            · cases hb
          · cases hb
        · cases hb
      · cases htr
    · cases htr

theorem Step.any {lo : Nat} {ρ ρ' : Ren} {D D' : Nat → Prop} {H H' : AHeap} {w w' : World} (s : Step H.next ρ D H w ρ' D' H' w') : Step lo ρ D H w ρ' D' H' w' :=
  { s with low := fun id _ hlt => s.low id hlt hlt }

theorem calls_sim (hmo : P.follows .mixedOrders = true) {IP : FuncId → Option IFunc} (htab : TabOK P IP) (hg : G.next = P.globals.size) (hgo : GOk G) {f : Nat} (hex : ExecOK P IP G f) (hprev : ∀ F, f = F + 1 → ExecOK P IP G F ∧ ∀ lo, G.next ≤ lo → CallOK P G lo (callI (exec IP G F) IP G lo)) {lo : Nat} (hlo : G.next ≤ lo) : CallOK P G lo (callI (exec IP G f) IP G lo) where
  body := fun g args H r h => by
    simp only [callI, callB] at h
    split at h
    · cases h
    · rename_i ifn hi
      rcases htab g ifn hi with ⟨fn, hs, mode, hf, htr⟩ | ⟨hm, hb, fn, hf, h1, h2, h3, h4⟩ | ⟨hbody, _⟩
      rotate_left
      rotate_left
      · exact .inl hbody
      · left
        unfold trFunc at htr
        split at htr
        · cases htr
        · rename_i c hbody
          split at htr
          · split at htr
            · rename_i hchk
              simp only [Bool.and_eq_true, Bool.not_eq_true'] at hchk
              exact ⟨fn, hf, by rw [hbody]; rfl, hchk.1.2⟩
            · cases htr
          · cases htr
      · right
        rw [hm] at h
        simp only [hb, cloneB, isSkip] at h
        rw [Option.map_eq_some_iff] at h
        obtain ⟨v, hv, rfl⟩ := h
        unfold idxB at hv
        split at hv
        · rename_i x c
          cases hv
          refine ⟨_, rfl, fun ρ w => ?_⟩
          rw [run_callFunc_extern hf h1 h2 h3 h4]
          have : (renL ρ [AVal.s x, AVal.i .u8 c]).toArray = #[.string ⟨x.toArray⟩, .int .u8 c] := rfl
          rw [this, run_indexByte_string, idxL_first]
          rfl
        · cases hv
  calls := fun g args H r H' h hb ρ D w hrel ha => by
    simp only [callI, callB] at h
    split at h
    · cases h
    · rename_i ifn hi
      have hcus : CusOK P IP g ifn → Calls P g (renL ρ args).toArray w (fun e w' => ∃ ρ' D', e = .returned (ren ρ' r) ∧ Step lo ρ D H w ρ' D' H' w' ∧ HRel G ρ' D' H' w' ∧ ok ρ' D' r ∧ ((callI (exec IP G f) IP G lo).pure g = true → Ext H H')) := by
        rintro ⟨_, hmode, hc⟩
        rcases f with _ | F
        · exfalso
          have hnone : ∀ lo, bodyI (exec IP G 0) ifn lo args H = none := fun lo => by
            unfold bodyI
            simp [exec]
          rcases (show ifn.mode = 0 ∨ ifn.mode = 1 by omega) with hm | hm <;> rw [hm] at h <;> simp only [hnone] at h <;> cases h
        · obtain ⟨e1, e2⟩ := hprev F rfl
          rcases (show ifn.mode = 0 ∨ ifn.mode = 1 by omega) with hm | hm
          · rw [hm] at h
            refine (hc G F hmo hg hgo e1 e2 lo hlo args H r H' h ρ D w hrel ha).mono ?_
            rintro e w' ⟨ρ', D', h1, h2, h3, h4⟩
            exact ⟨ρ', D', h1, h2, h3, h4, fun hp => by simp [callI, pureB, hi, hm] at hp⟩
          · rw [hm] at h
            refine (hc G F hmo hg hgo e1 e2 H.next hrel.gnext args H r H' h ρ D w hrel ha).mono ?_
            rintro e w' ⟨ρ', D', h1, h2, h3, h4⟩
            exact ⟨ρ', D', h1, h2.any, h3, h4, fun _ => ⟨h2.next, fun id hlt => h2.low id hlt hlt⟩⟩
      rcases htab g ifn hi with htr0 | ⟨_, _, fn, hf, _, h2, _⟩ | hcus'
      rotate_left
      · obtain ⟨fn', hf', hb', _⟩ := hb
        rw [hf] at hf'; cases hf'
        cases hbb : fn.body <;> simp [hbb] at h2 hb'
      · exact hcus hcus'
      obtain ⟨fn, hs, mode, hf, htr⟩ := htr0
      have htr0 : TrOK P g ifn := ⟨fn, hs, mode, hf, htr⟩
      rcases tr_mode htr with hm | hm
      · rw [hm] at h
        refine (body_sim hg hgo hex hlo htr0 h hrel ha).mono ?_
        rintro e w' ⟨ρ', D', h1, h2, h3, h4⟩
        exact ⟨ρ', D', h1, h2, h3, h4, fun hp => by simp [callI, pureB, hi, hm] at hp⟩
      · rw [hm] at h
        refine (body_sim hg hgo hex hrel.gnext htr0 h hrel ha).mono ?_
        rintro e w' ⟨ρ', D', h1, h2, h3, h4⟩
        exact ⟨ρ', D', h1, h2.any, h3, h4, fun _ => ⟨h2.next, fun id hlt => h2.low id hlt hlt⟩⟩

end
end Go.RI

/- RI, part Z: the interpreter is the machine, with whatever fuel. Conditions: none. -/
namespace Go.RI
open Go

section
variable {F : Fence} {n : Nat} {P : Program} {Q : Exit → Act → World → Prop} {a : Act} {w : World} {b : Frame} {k : List Go.Item} {cs : List Frame}
theorem stepR_scope {c : Code} : step P (lone (b.atR a (Go.Item.code (.scope c) :: k)) cs w) = .next (lone (b.atR a (Go.Item.code c :: Go.Item.inScope c :: k)) cs w) :=
  step_lone_go (by simp [stepG, stepG.exec, Frame.atR])
theorem stepR_inScope {c : Code} : step P (lone (b.atR a (Go.Item.inScope c :: k)) cs w) = .next (lone (b.atR a k) cs w) :=
  step_lone_go (by simp [stepG, stepG.exec, Frame.atR])
theorem wpIn_scope_straight {c : Code} (h : c.wpIn F n P (Exit.noGoto Q) a w) : (Code.scope c).wpIn F n P Q a w := by
  intro b k cs hro hb hr
  have h0 : (lone (b.atR a (Go.Item.code (.scope c) :: k)) cs w).fenced P F := fenced_calm hb hr rfl
  obtain ⟨e, a₁, w₁, hq, harr⟩ := h b (Go.Item.inScope c :: k) cs hro hb hr
  cases e with
  | normal => exact ⟨.normal, a₁, w₁, hq, .head h0 stepR_scope (StepsIn.trans harr (.one (fenced_calm hb hr rfl) stepR_inScope))⟩
  | exit id => exact ⟨.exit id, a₁, w₁, hq, fun k' hk => .head h0 stepR_scope (harr.1 k' (by simp [exitTo, hk])),
      fun hr' hk => let ⟨k₁, h1, h2⟩ := harr.2 hr' (by simp [exitTo, hk]); ⟨k₁, h1, .head h0 stepR_scope h2⟩⟩
  | goto l => exact hq.elim
  | ret => exact ⟨_, a₁, w₁, hq, .of_steps (.one h0 stepR_scope) harr⟩
  | panic ch => exact ⟨_, a₁, w₁, hq, .of_steps (.one h0 stepR_scope) harr⟩
  | outgrown => exact ⟨_, a₁, w₁, hq, .of_steps (.one h0 stepR_scope) harr⟩
end
section
variable {P : Program} {G : AHeap}

theorem exec_sim (hm : P.follows .mixedOrders = true) {IP : FuncId → Option IFunc} (htab : TabOK P IP) (hg : G.next = P.globals.size) (hgo : GOk G) : ∀ f, ExecOK P IP G f ∧ RoundsOK P IP G f ∧ ∀ lo, G.next ≤ lo → CallOK P G lo (callI (exec IP G f) IP G lo) := by
  intro f
  induction f with
  | zero =>
    have h0 : ExecOK P IP G 0 := by
      intro R m ds nt lo hlo c hs ic hs' hc ρ D e a H w r x e' H' h; simp [exec] at h
    refine ⟨h0, ?_, fun lo hlo => calls_sim hm htab hg hgo h0 (fun F hF => by omega) hlo⟩
    · intro R m ds nt lo hlo c hs ic hs' hc ρ D e a H w r x e' H' h; simp [exec] at h
  | succ f ih =>
    obtain ⟨ihe, ihr, ihc⟩ := ih
    suffices hs : ExecOK P IP G (f + 1) ∧ RoundsOK P IP G (f + 1) from ⟨hs.1, hs.2, fun lo hlo => calls_sim hm htab hg hgo hs.1 (fun F hF => (show f = F by omega) ▸ ⟨ihe, ihc⟩) hlo⟩
    refine ⟨?_, ?_⟩
    · intro R m ds nt lo hlo c hs ic hs' hc ρ D e a H w r x e' H' h Q hQ
      cases c <;> simp only [trCode] at hc
      case skip =>
        split at hc
        · cases hc
        · cases hc
          simp only [exec] at h
          cases h
          exact wpIn_skip (hQ ρ D a w (Step.refl lo ρ D H w r.heap.lt) r.heap r.slots)
        · rename_i kill hs2 _
          cases hc
          simp only [exec, itemsI] at h
          cases h
          exact wpIn_skip (hQ ρ D a w (Step.refl lo ρ D H w r.heap.lt) r.heap (r.slots.kill _))
      case region id ops draw =>
        split at hc
        · cases hc
        · rename_i order kill hs2
          split at hc
          · rename_i xs hxs
            cases hc
            simp only [exec] at h
            split at h
            · rename_i e1 H1 hit
              cases h
              exact draw_or hm (ihc lo hlo) hlo hxs r hit fun ρ' D' a' w' g1 g2 g3 => hQ ρ' D' a' w' g1 g2 (g3.kill kill)
            · cases h
          · cases hc
      case seq ca cb =>
        split at hc
        · rename_i ia hs1 h1
          split at hc
          · rename_i ib hs2 h2
            cases hc
            simp only [exec] at h
            refine wpIn_seq ?_
            split at h
            · rename_i e1 H1 hx
              refine ihe R m ds nt lo hlo ca hs ia hs1 h1 ρ D e a H w r .normal e1 H1 hx _ fun ρ' D' a' w' g1 g2 g3 => ?_
              refine ihe R m ds nt lo hlo cb hs1 ib hs' h2 ρ' D' e1 a' H1 w' ⟨hg, hgo, g2, g3⟩ x e' H' h Q fun ρ2 D2 a2 w2 k1 k2 k3 => hQ ρ2 D2 a2 w2 (g1.trans k1) k2 k3
            · rename_i hne
              refine ihe R m ds nt lo hlo ca hs ia hs1 h1 ρ D e a H w r x e' H' h _ fun ρ' D' a' w' g1 g2 g3 => ?_
              have := hQ ρ' D' a' w' g1 g2 g3
              cases x with
              | normal => exact (hne _ _ h).elim
              | exit id => exact this
              | ret => exact this
          · cases hc
        · cases hc
      case cond co ca cb =>
        split at hc
        · rename_i ic' ia hs1 h0 h1
          split at hc
          · rename_i ib hs2 h2
            cases hc
            simp only [exec] at h
            split at h
            · rename_i hv
              obtain ⟨g1, _⟩ := opd_sim r h0 hv
              exact wpIn_cond_true (by rw [g1]; rfl) (ihe R m ds nt lo hlo ca hs ia hs1 h1 ρ D e a H w r x e' H' h Q hQ)
            · rename_i hv
              obtain ⟨g1, _⟩ := opd_sim r h0 hv
              exact wpIn_cond_false (by rw [g1]; rfl) (ihe R m ds nt lo hlo cb hs1 ib hs' h2 ρ D e a H w r x e' H' h Q hQ)
            · cases h
          · cases hc
        · cases hc
      case block id cb =>
        split at hc
        · rename_i ib hs1 h1
          cases hc
          simp only [exec] at h
          refine wpIn_block ?_
          split at h
          · rename_i id' e1 H1 hx
            refine ihe R m ds nt lo hlo cb hs ib hs' h1 ρ D e a H w r (.exit id') e1 H1 hx _ fun ρ' D' a' w' g1 g2 g3 => ?_
            show (if id' = id then Q .normal a' w' else Q (.exit id') a' w')
            split at h
            · rename_i hid
              cases h
              rw [if_pos hid]
              exact hQ ρ' D' a' w' g1 g2 g3
            · rename_i hid
              cases h
              rw [if_neg hid]
              exact hQ ρ' D' a' w' g1 g2 g3
          · rename_i hne
            refine ihe R m ds nt lo hlo cb hs ib hs' h1 ρ D e a H w r x e' H' h _ fun ρ' D' a' w' g1 g2 g3 => ?_
            have := hQ ρ' D' a' w' g1 g2 g3
            cases x with
            | normal => exact this
            | exit id' => exact (hne _ _ _ h).elim
            | ret => exact this
        · cases hc
      case loop cb =>
        split at hc
        · rename_i ib hs1 h1
          cases hc
          refine wpIn_loop_rounds (f + 1) ?_
          show cb.wpIn (FR R) m P (Exit.then (Code.roundsIn (FR R) m P cb Q f) Q) a w
          simp only [exec] at h
          split at h
          · rename_i e1 H1 hx
            refine ihe R m ds nt lo hlo cb hs ib hs' h1 ρ D e a H w r .normal e1 H1 hx _ fun ρ' D' a' w' g1 g2 g3 => ?_
            refine ihr R m ds nt lo hlo cb hs ib hs' h1 ρ' D' e1 a' H1 w' ⟨hg, hgo, g2, g3⟩ x e' H' h Q fun ρ2 D2 a2 w2 k1 k2 k3 => hQ ρ2 D2 a2 w2 (g1.trans k1) k2 k3
          · rename_i hne
            refine ihe R m ds nt lo hlo cb hs ib hs' h1 ρ D e a H w r x e' H' h _ fun ρ' D' a' w' g1 g2 g3 => ?_
            have := hQ ρ' D' a' w' g1 g2 g3
            cases x with
            | normal => exact (hne _ _ h).elim
            | exit id => exact this
            | ret => exact this
        · cases hc
      case exit id =>
        cases hc
        simp only [exec] at h
        cases h
        exact wpIn_exit (hQ ρ D a w (Step.refl lo ρ D H w r.heap.lt) r.heap r.slots)
      case ret =>
        cases hc
        simp only [exec] at h
        cases h
        exact wpIn_ret (hQ ρ D a w (Step.refl lo ρ D H w r.heap.lt) r.heap r.slots)
      case scope cb =>
        split at hc
        · rename_i ib hs1 h1
          cases hc
          simp only [exec] at h
          have h' : exec IP G f lo ib e H = some (x, e', H') := by
            cases f with
            | zero => simp [exec] at h
            | succ f => simpa [exec] using h
          refine wpIn_scope_straight (ihe R m ds nt lo hlo cb hs ib hs' h1 ρ D e a H w r x e' H' h' _ fun ρ' D' a' w' g1 g2 g3 => ?_)
          have := hQ ρ' D' a' w' g1 g2 g3
          cases x <;> exact this
        · cases hc
      case label l =>
        cases hc
        simp only [exec] at h
        cases h
        exact wpIn_label (hQ ρ D a w (Step.refl lo ρ D H w r.heap.lt) r.heap r.slots)
      all_goals cases hc
    · intro R m ds nt lo hlo cb hs ib hs' h1 ρ D e a H w r x e' H' h Q hQ
      show cb.wpIn (FR R) m P (Exit.then (Code.roundsIn (FR R) m P cb Q f) Q) a w
      simp only [exec] at h
      split at h
      · rename_i e1 H1 hx
        refine ihe R m ds nt lo hlo cb hs ib hs' h1 ρ D e a H w r .normal e1 H1 hx _ fun ρ' D' a' w' g1 g2 g3 => ?_
        refine ihr R m ds nt lo hlo cb hs ib hs' h1 ρ' D' e1 a' H1 w' ⟨hg, hgo, g2, g3⟩ x e' H' h Q fun ρ2 D2 a2 w2 k1 k2 k3 => hQ ρ2 D2 a2 w2 (g1.trans k1) k2 k3
      · rename_i hne
        refine ihe R m ds nt lo hlo cb hs ib hs' h1 ρ D e a H w r x e' H' h _ fun ρ' D' a' w' g1 g2 g3 => ?_
        have := hQ ρ' D' a' w' g1 g2 g3
        cases x with
        | normal => exact (hne _ _ h).elim
        | exit id => exact this
        | ret => exact this

/-- The interpreter's call is the machine's. -/
theorem acall_sim (hm : P.follows .mixedOrders = true) {IP : FuncId → Option IFunc} (htab : TabOK P IP) (hg : G.next = P.globals.size) (hgo : GOk G) (f : Nat) {lo : Nat} (hlo : G.next ≤ lo) : CallOK P G lo (acall IP G f lo) :=
  (exec_sim hm htab hg hgo f).2.2 lo hlo

end
end Go.RI

