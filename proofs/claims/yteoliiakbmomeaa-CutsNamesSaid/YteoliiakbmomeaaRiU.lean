/- RI, part U: the theorem on a region that leaves its order open: one place more; all places. Conditions: none. -/
import Derived.Test.YteoliiakbmomeaaRiT
namespace Go.RI
open Go

section
variable {ds : List Deferred} {P : Program} {G : AHeap} {lo nt : Nat} {call : CallI} {ops : Array Oper} {order : List Nat} {xs : List Item} {E : Nat → Env} {Hh : Nat → AHeap} {ρ0 : Ren} {D0 : Nat → Prop} {w0 : World}
variable {listed : Array Bool} {a : Act} {w : World} {T : Nat} {ρ : Ren} {D : Nat → Prop}

theorem set_get {i j : Nat} (hi : i < listed.size) : (listed.setIfInBounds i true).getD j false = true ↔ j = i ∨ listed.getD j false = true := by
  by_cases h : i = j
  · subst h; simp [hi]
  · rw [getD_set_ne false h]
    constructor
    · exact .inr
    · rintro (h1 | h1)
      · exact absurd h1.symm h
      · exact h1

theorem set_get_false {i j : Nat} (hi : i < listed.size) (h : (listed.setIfInBounds i true).getD j false = false) : j ≠ i ∧ listed.getD j false = false := by
  constructor
  · rintro rfl
    have := (set_get (listed := listed) (i := j) (j := j) hi).2 (.inl rfl)
    rw [h] at this; cases this
  · cases h1 : listed.getD j false with
    | false => rfl
    | true =>
      have := (set_get (listed := listed) (i := i) (j := j) hi).2 (.inr h1)
      rw [h] at this; cases this

theorem closed_set (hc : Closed ops listed) {i : Nat} (hi : i < listed.size) (hr : ReadyOr ops listed i) : Closed ops (listed.setIfInBounds i true) := by
  intro j o e ho hj he hb
  refine (set_get hi).2 (.inr ?_)
  rcases (set_get hi).1 hj with rfl | h
  · exact hr o e ho he hb
  · exact hc j o e ho h he hb

theorem SR.put_ne {ρ' : Ren} {D' : Nat → Prop} {s : Nat} {v : AVal} (h : SR ρ D nt a s v) (hD : ∀ id, D id → D' id ∧ ρ' id = ρ id) {dst : Option Nat} (hne : dst ≠ some s) (V : Value) : SR ρ' D' nt (a.put dst V) s v := by
  obtain ⟨h1, h2, h3⟩ := h
  refine ⟨h1, ?_, ok_mono hD v h3⟩
  rw [ren_congr (fun id hd => (hD id hd).2) v h3, ← h2]
  cases dst with
  | none => rfl
  | some t =>
    have : t ≠ s := fun e => hne (by rw [e])
    simp [Act.put, Array.getD_eq_getD_getElem?, this]

theorem SR.put_eq {s : Nat} {v : AVal} (hs : s < nt) (hsz : a.tmps.size = nt) (hv : ok ρ D v) : SR ρ D nt (a.put (some s) (ren ρ v)) s v := by
  refine ⟨hs, ?_, hv⟩
  have : s < a.tmps.size := by rw [hsz]; exact hs
  simp [Act.put, Array.getD, this]

variable (c : Ctx P G lo nt call ops order xs E Hh ρ0 D0)
include c

/-- The slots behind one place more. -/
theorem slots_next (iv : Inv ds G lo nt ops order xs E Hh ρ0 D0 w0 listed a w T ρ D) {p i : Nat} {x : Item} (hp : order[p]? = some i) (hx : xs[p]? = some x) (hnl : listed.getD i false = false) (hisz : i < listed.size)
    {T2 : Nat} (hpT2 : p < T2) (hT2N : T2 ≤ xs.length) {ρ' : Ren} {D' : Nat → Prop} (hold : ∀ id, D id → D' id ∧ ρ' id = ρ id) {v : AVal} (hv : ok ρ' D' v) (hE : E (p + 1) = putD (E p) x.dst v) (hdst : dstOk nt x.dst = true) :
    (∀ (t : Nat) (y : Item) (j s : Nat) (u : AVal), t < T2 → xs[t]? = some y → order[t]? = some j → (listed.setIfInBounds i true).getD j false = true → y.dst = some s → (E T2).get s = some u → SR ρ' D' nt (a.put x.dst (ren ρ' v)) s u) ∧
    (∀ (s : Nat) (u : AVal), (∀ (t : Nat) (y : Item) (j : Nat), xs[t]? = some y → order[t]? = some j → (listed.setIfInBounds i true).getD j false = true → y.dst ≠ some s) → (E 0).get s = some u → SR ρ' D' nt (a.put x.dst (ren ρ' v)) s u) := by
  have stay : ∀ {t : Nat} {y : Item} {s t' : Nat}, xs[t]? = some y → y.dst = some s → t < t' → t' ≤ xs.length → (E t').get s = (E (t + 1)).get s := fun {t y s t'} hy hys h1 h2 =>
    E_stay' c (by omega) h2 fun k z h3 h4 hz hzd => by
      have := c.plan.dst t k y z s hy hz hys hzd; omega
  constructor
  · intro t y j s u ht hy hj hl hys hu
    have htp : t = p ∨ t ≠ p := by omega
    rcases htp with rfl | hne
    · rw [hx] at hy; cases hy
      rw [stay hx hys hpT2 hT2N, hE, hys, get_putD_eq] at hu
      cases hu
      rw [hys]
      rw [hys] at hdst
      exact SR.put_eq (by simpa [dstOk] using hdst) iv.tsize hv
    · have hji : j ≠ i := fun e => by subst e; exact hne (c.plan.uniq t p j hj hp)
      have hlj : listed.getD j false = true := ((set_get hisz).1 hl).resolve_left hji
      have htT := listed_lt c iv hj hlj
      refine SR.put_ne (iv.sa t y j s u htT hy hj hlj hys ?_) hold (fun hd => hne (c.plan.dst t p y x s hy hx hys hd)) _
      rw [stay hy hys htT iv.TN, ← stay hy hys ht hT2N]; exact hu
  · intro s u hno hu
    refine SR.put_ne (iv.sb s u (fun t y j hy hj hl => hno t y j hy hj ((set_get hisz).2 (.inr hl))) hu) hold ?_ _
    exact hno p x i hx hp ((set_get hisz).2 (.inl rfl))

/-- A place ahead of the first act. -/
theorem inv_float (iv : Inv ds G lo nt ops order xs E Hh ρ0 D0 w0 listed a w T ρ D) {p i : Nat} {x : Item} (hp : order[p]? = some i) (hx : xs[p]? = some x) (hnl : listed.getD i false = false) (hisz : i < listed.size) (hr : ReadyOr ops listed i) (hpT : p < T)
    {ρ' : Ren} {D' : Nat → Prop} {w' : World} (hrel : HRel G ρ' D' (Hh T) w') (hstep : Step lo ρ0 D0 (Hh 0) w0 ρ' D' (Hh T) w') (hold : ∀ id, D id → D' id ∧ ρ' id = ρ id)
    (hnew : ∀ id, D' id → ¬ D id → x.op.makes = true ∧ wantedI (E p) x.guard = some true ∧ id = (Hh p).next) {v : AVal} (hv : ok ρ' D' v) (hE : E (p + 1) = putD (E p) x.dst v) (hdst : dstOk nt x.dst = true) :
    Inv ds G lo nt ops order xs E Hh ρ0 D0 w0 (listed.setIfInBounds i true) (a.put x.dst (ren ρ' v)) w' T ρ' D' := by
  obtain ⟨s1, s2⟩ := slots_next c iv hp hx hnl hisz hpT iv.TN hold hv hE hdst
  exact {
    size := by simp [iv.size]
    closed := closed_set iv.closed hisz hr
    TN := iv.TN
    act := fun h => by
      obtain ⟨y, j, hy, hya, hj, hl⟩ := iv.act h
      refine ⟨y, j, hy, hya, hj, ?_⟩
      have hne : j ≠ i := fun e => by subst e; have := c.plan.uniq p T j hp hj; omega
      rw [getD_set_ne false (fun e => hne e.symm)]; exact hl
    done := fun q y j h1 h2 h3 h4 => (set_get hisz).2 (.inr (iv.done q y j h1 h2 h3 h4))
    hrel := hrel
    step := hstep
    tsize := by cases x.dst <;> simp [Act.put, iv.tsize]
    defers := by cases x.dst <;> simp [Act.put, iv.defers]
    sa := s1
    sb := s2
    wfs := iv.wfs
    mono := iv.mono
    f1 := fun q y j u h1 h2 h3 h4 => iv.f1 q y j u h1 h2 h3 (set_get_false hisz h4).2
    f2 := fun q y j h1 h2 h3 h4 h5 h6 => by
      obtain ⟨hji, hlj⟩ := set_get_false hisz h4
      obtain ⟨g1, g2⟩ := iv.f2 q y j h1 h2 h3 hlj h5 h6
      refine ⟨fun hd => ?_, g2⟩
      obtain ⟨k1, k2, k3⟩ := hnew _ hd g1
      have hqp : q ≠ p := fun e => by subst e; rw [h3] at hp; cases hp; exact hji rfl
      -- two rows that are made have two names
      have two : ∀ {q q' : Nat} {y : Item}, q < q' → q' ≤ T → xs[q]? = some y → y.op.makes = true → wantedI (E q) y.guard = some true → (Hh q).next ≠ (Hh q').next := by
        intro q q' y hqq hq' hy hm hw
        have hact : y.op.act = false := makes_act hm
        obtain ⟨hi, _⟩ := c.run q y hy
        have hmono := iv.mono (q + 1) q' (by omega) hq'
        simp only [itemI, hw] at hi
        have hpush : (Hh (q + 1)).next = (Hh q).next + 1 := by
          split at hi
          · rename_i v2 H2 hop
            rw [opI_plain hact] at hop
            obtain ⟨cc, es, uu, _, he⟩ := makes_push hm hop
            rw [← (Prod.mk.inj (Option.some.inj hi)).2, he]; rfl
          · rename_i H2 hop
            rw [opI_plain hact] at hop
            obtain ⟨cc, es, uu, hu, _⟩ := makes_push hm hop
            cases hu
          · cases hi
        omega
      rcases Nat.lt_or_ge q p with h7 | h7
      · exact two h7 (by omega) h2 h5 h6 k3
      · exact two (by omega) (by omega) hx k1 k2 k3.symm }

/-- The first act. -/
theorem inv_act (iv : Inv ds G lo nt ops order xs E Hh ρ0 D0 w0 listed a w T ρ D) {i : Nat} {x : Item} (hp : order[T]? = some i) (hx : xs[T]? = some x) (hxa : x.op.act = true) (hnl : listed.getD i false = false) (hisz : i < listed.size) (hr : ReadyOr ops listed i)
    {ρ' : Ren} {D' : Nat → Prop} {w' : World} (hrel : HRel G ρ' D' (Hh (T + 1)) w') (hstep : Step lo ρ0 D0 (Hh 0) w0 ρ' D' (Hh (T + 1)) w') (hold : ∀ id, D id → D' id ∧ ρ' id = ρ id)
    (hnew : ∀ id, D' id → id < (Hh T).next → D id) (hghost : ∀ id, id < (Hh T).next → ¬ D id → (Hh (T + 1)).get id = (Hh T).get id) (hnext : (Hh T).next ≤ (Hh (T + 1)).next)
    {v : AVal} (hv : ok ρ' D' v) (hE : E (T + 1) = putD (E T) x.dst v) (hdst : dstOk nt x.dst = true) (hskip : skipI call x.op = true → Ext (Hh T) (Hh (T + 1))) :
    ∃ T2, Inv ds G lo nt ops order xs E Hh ρ0 D0 w0 (listed.setIfInBounds i true) (a.put x.dst (ren ρ' v)) w' T2 ρ' D' := by
  have hTN : T < xs.length := order_lt c hp
  obtain ⟨T2, t1, t2, t3, t4⟩ := next_act (xs := xs) (xs.length - (T + 1)) (T + 1) (by omega)
  have hwf1 : Wf (Hh (T + 1)) := hrel.wf
  have ext : ∀ k, T + 1 ≤ k → k ≤ T2 → Ext (Hh (T + 1)) (Hh k) ∧ Wf (Hh k) := fun k h1 h2 => ext_stay' c h1 (by omega) hwf1 fun j y h3 h4 hy => t3 j y h3 (by omega) hy
  have ext2 : ∀ k k', T + 1 ≤ k → k ≤ k' → k' ≤ T2 → Ext (Hh k) (Hh k') := fun k k' h1 h2 h3 => (ext_stay' c h2 (by omega) (ext k h1 (by omega)).2 fun j y h4 h5 hy => t3 j y (by omega) (by omega) hy).1
  obtain ⟨e1, e2⟩ := ext T2 t1 (Nat.le_refl _)
  obtain ⟨s1, s2⟩ := slots_next c iv hp hx hnl hisz (T2 := T2) (by omega) t2 hold hv hE hdst
  have hre := (c.run T x hx).2
  refine ⟨T2, {
    size := by simp [iv.size]
    closed := closed_set iv.closed hisz hr
    TN := t2
    act := fun h => by
      obtain ⟨y, hy, hya⟩ := t4 h
      have hol : T2 < order.length := by rw [← c.plan.len]; exact h
      refine ⟨y, order[T2], hy, hya, List.getElem?_eq_getElem hol, ?_⟩
      have hne : order[T2] ≠ i := fun e => by
        have := c.plan.uniq T2 T i (by rw [List.getElem?_eq_getElem hol, e]) hp; omega
      rw [getD_set_ne false (fun e => hne e.symm)]
      cases hl : listed.getD order[T2] false with
      | false => rfl
      | true => have := listed_lt c iv (List.getElem?_eq_getElem hol) hl; omega
    done := fun q y j h1 h2 h3 h4 => by
      refine (set_get hisz).2 ?_
      rcases Nat.lt_or_ge q T with h5 | h5
      · exact .inr (iv.done q y j h5 h2 h3 h4)
      · rcases Nat.lt_or_ge T q with h6 | h6
        · have := t3 q y (by omega) h1 h2; rw [h3] at this; cases this
        · have : q = T := by omega
          subst this; rw [hp] at h4; cases h4; exact .inl rfl
    hrel := heapExt_sim hrel e1 e2
    step := hstep.ext hrel.lt e1
    tsize := by cases x.dst <;> simp [Act.put, iv.tsize]
    defers := by cases x.dst <;> simp [Act.put, iv.defers]
    sa := s1
    sb := s2
    wfs := fun t ht => by
      rcases Nat.lt_or_ge T t with h1 | h1
      · exact (ext t (by omega) ht).2
      · exact iv.wfs t h1
    mono := fun t t' h1 h2 => by
      rcases Nat.lt_or_ge T t with h3 | h3
      · exact (ext2 t t' (by omega) h1 h2).next
      · rcases Nat.lt_or_ge T t' with h4 | h4
        · exact Nat.le_trans (iv.mono t T h3 (Nat.le_refl _)) (Nat.le_trans hnext (ext t' (by omega) h2).1.next)
        · exact iv.mono t t' h1 h4
    f1 := ?_
    f2 := ?_ }⟩
  · intro p y j u h1 h2 h3 h4 h5 h6 h7
    obtain ⟨hji, hlj⟩ := set_get_false hisz h4
    rcases Nat.lt_or_ge p T with hpT | hpT
    · -- looked at ahead of the act, not yet done by the machine
      have h8 := iv.f1 p y j u hpT h2 h3 hlj h5 h6 h7
      rcases c.plan.re p T j i y x h3 hp h2 hx hpT h5 hxa with hb | ⟨s, hs1, hs2, hs3⟩
      · have := hb listed iv.closed hr; rw [hlj] at this; cases this
      · rw [Bool.or_eq_true] at hre
        rcases hre with hsk | hre
        · obtain ⟨_, _, h9⟩ := looks_ext (iv.wfs T (Nat.le_refl _)) ((hskip hsk).trans e1) h5 h8
          exact h9
        have hag : Agree y.reads (E (T + 1)) (E p) := fun u hu => E_stay' c (by omega) (by omega) fun k z h9 h10 hz hzd => by
          have := hs3 u hu k z (by omega) hz hzd; omega
        rw [Bool.or_eq_true] at hre
        rcases hre with hk | hre
        · obtain ⟨n, b, id, off, g1, g2, g3⟩ := keep_get (c.run T x hx).1 hk (iv.wfs T (Nat.le_refl _)) hs2
          have h10 : aop lo y.op (E (T + 1)) (Hh T) = some (u, Hh T) := by
            rw [aop_congr _ (hag.l)]
            obtain ⟨g4, _, _⟩ := looks_ext (iv.wfs T (Nat.le_refl _)) (Ext.refl _) h5 h8
            rw [g4] at h8; exact h8
          have h11 : aop lo y.op (E (T + 1)) (Hh (T + 1)) = some (u, Hh (T + 1)) := by
            rw [g1] at h10 ⊢
            simp only [aop, g2, Option.bind_some, loadV, rowAt] at h10 ⊢
            cases n with
            | none =>
              simp only at h10 ⊢
              cases hc : (Hh T).get id with
              | none => simp [hc] at h10
              | some o => rw [g3 o hc]; rw [hc] at h10; simpa using h10
            | some n =>
              simp only at h10 ⊢
              cases hc : (Hh T).get id with
              | none => simp [hc] at h10
              | some o => rw [g3 o hc]; rw [hc] at h10; simpa using h10
          rw [aop_congr _ (hag.l)] at h11
          obtain ⟨_, _, h9⟩ := looks_ext hwf1 e1 h5 h11
          exact h9
        have hw2 : wantedI (E (T + 1)) y.guard = some true := by rw [wanted_congr (hag.r)]; exact h6
        obtain ⟨v', H', hv1, hv2⟩ := reOk_mem hre s y.op y.guard hs2 hw2
        obtain ⟨_, ⟨u1, hu1⟩, _⟩ := looks_ext (iv.wfs p (by omega)) (Ext.refl _) h5 h7
        subst hu1
        have hact : y.op.act = false := looks_act h5
        obtain ⟨hi, _⟩ := c.run p y h2
        simp only [itemI, h6, opI_plain hact, h7] at hi
        have hEp : E (p + 1) = putD (E p) y.dst u1 := (Prod.mk.inj (Option.some.inj hi)).1.symm
        have hget : (E (T + 1)).get s = some u1 := by
          rw [E_stay' c (t := p + 1) (by omega) (by omega) fun k z h9 h10 hz hzd => by
            have := c.plan.dst p k y z s h2 hz hs1 hzd; omega]
          rw [hEp, hs1, get_putD_eq]
        rw [hget] at hv1
        cases hv1
        rw [aop_congr _ (hag.l)] at hv2
        obtain ⟨_, _, h9⟩ := looks_ext hwf1 e1 h5 hv2
        exact h9
    · have hpT' : p ≠ T := fun e => by subst e; rw [hx] at h2; cases h2; have := looks_act h5; rw [hxa] at this; cases this
      obtain ⟨_, _, h9⟩ := looks_ext (ext p (by omega) (by omega)).2 (ext2 p T2 (by omega) (by omega) (Nat.le_refl _)) h5 h7
      exact h9
  · intro p y j h1 h2 h3 h4 h5 h6
    obtain ⟨hji, hlj⟩ := set_get_false hisz h4
    have hact : y.op.act = false := makes_act h5
    have hpush : (Hh (p + 1)).next = (Hh p).next + 1 := by
      obtain ⟨hi, _⟩ := c.run p y h2
      simp only [itemI, h6] at hi
      split at hi
      · rename_i v2 H2 hop
        rw [opI_plain hact] at hop
        obtain ⟨cc, es, uu, _, he⟩ := makes_push h5 hop
        rw [← (Prod.mk.inj (Option.some.inj hi)).2, he]; rfl
      · rename_i H2 hop
        rw [opI_plain hact] at hop
        obtain ⟨cc, es, uu, hu, _⟩ := makes_push h5 hop
        cases hu
      · cases hi
    rcases Nat.lt_or_ge p T with hpT | hpT
    · obtain ⟨g1, g2⟩ := iv.f2 p y j hpT h2 h3 hlj h5 h6
      have hlt : (Hh p).next < (Hh T).next := by have := iv.mono (p + 1) T (by omega) (Nat.le_refl _); omega
      refine ⟨fun hd => g1 (hnew _ hd hlt), ?_⟩
      rw [e1.get _ (by omega), hghost _ hlt g1]
      exact g2
    · have hpT' : p ≠ T := fun e => by subst e; rw [hx] at h2; cases h2; rw [hxa] at hact; cases hact
      have h9 := (ext p (by omega) (by omega)).1.next
      refine ⟨fun hd => ?_, ?_⟩
      · have := hrel.lt _ hd; omega
      · exact (ext2 (p + 1) T2 (by omega) (by omega) (Nat.le_refl _)).get _ (by omega)

end
end Go.RI
