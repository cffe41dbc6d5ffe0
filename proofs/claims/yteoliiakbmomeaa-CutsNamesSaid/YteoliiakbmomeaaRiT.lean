/- RI, part T: the theorem on a region that leaves its order open. Conditions: none. -/
import Derived.Test.YteoliiakbmomeaaRiS
namespace Go.RI
open Go

section
variable {ds : List Deferred} {P : Program} {G : AHeap} {lo nt : Nat} {call : CallI} {ops : Array Oper} {order : List Nat} {xs : List Item} {E : Nat → Env} {Hh : Nat → AHeap} {ρ0 : Ren} {D0 : Nat → Prop} {w0 : World}

/-- A slot holds a value. -/
def SR (ρ : Ren) (D : Nat → Prop) (nt : Nat) (a : Act) (s : Nat) (v : AVal) : Prop := s < nt ∧ a.tmps.getD s undef = ren ρ v ∧ ok ρ D v

/-- Where the machine is, some places done. 'T': the first act that is not. -/
structure Inv (ds : List Deferred) (G : AHeap) (lo nt : Nat) (ops : Array Oper) (order : List Nat) (xs : List Item) (E : Nat → Env) (Hh : Nat → AHeap) (ρ0 : Ren) (D0 : Nat → Prop) (w0 : World)
    (listed : Array Bool) (a : Act) (w : World) (T : Nat) (ρ : Ren) (D : Nat → Prop) : Prop where
  size : listed.size = ops.size
  closed : Closed ops listed
  TN : T ≤ xs.length
  act : T < xs.length → ∃ x i, xs[T]? = some x ∧ x.op.act = true ∧ order[T]? = some i ∧ listed.getD i false = false
  done : ∀ (q : Nat) (x : Item) (i : Nat), q < T → xs[q]? = some x → x.op.act = true → order[q]? = some i → listed.getD i false = true
  hrel : HRel G ρ D (Hh T) w
  step : Step lo ρ0 D0 (Hh 0) w0 ρ D (Hh T) w
  tsize : a.tmps.size = nt
  defers : a.defers = ds
  sa : ∀ (t : Nat) (x : Item) (i s : Nat) (v : AVal), t < T → xs[t]? = some x → order[t]? = some i → listed.getD i false = true → x.dst = some s → (E T).get s = some v → SR ρ D nt a s v
  sb : ∀ (s : Nat) (v : AVal), (∀ (t : Nat) (x : Item) (i : Nat), xs[t]? = some x → order[t]? = some i → listed.getD i false = true → x.dst ≠ some s) → (E 0).get s = some v → SR ρ D nt a s v
  wfs : ∀ t, t ≤ T → Wf (Hh t)
  mono : ∀ t t', t ≤ t' → t' ≤ T → (Hh t).next ≤ (Hh t').next
  f1 : ∀ (p : Nat) (x : Item) (i : Nat) (v : Option AVal), p < T → xs[p]? = some x → order[p]? = some i → listed.getD i false = false → x.op.looks = true → wantedI (E p) x.guard = some true →
    aop lo x.op (E p) (Hh p) = some (v, Hh p) → aop lo x.op (E p) (Hh T) = some (v, Hh T)
  f2 : ∀ (p : Nat) (x : Item) (i : Nat), p < T → xs[p]? = some x → order[p]? = some i → listed.getD i false = false → x.op.makes = true → wantedI (E p) x.guard = some true →
    ¬ D (Hh p).next ∧ (Hh T).get (Hh p).next = (Hh (p + 1)).get (Hh p).next

/-- What is known of the plan, and of the interpreter's run of it. -/
structure Ctx (P : Program) (G : AHeap) (lo nt : Nat) (call : CallI) (ops : Array Oper) (order : List Nat) (xs : List Item) (E : Nat → Env) (Hh : Nat → AHeap) (ρ0 : Ren) (D0 : Nat → Prop) : Prop where
  plan : Plan P nt ops order xs
  run : ∀ (t : Nat) (x : Item), xs[t]? = some x → itemI call lo x (E t) (Hh t) = some (E (t + 1), Hh (t + 1)) ∧ (skipI call x.op || (keepI x.op x.re (E t) (E (t + 1)) || reOk lo (E (t + 1)) (Hh (t + 1)) x.re)) = true
  calls : CallOK P G lo call
  glo : G.next ≤ lo
  gsize : G.next = P.globals.size
  gok : GOk G
  d0 : ∀ id, D0 id → id < (Hh 0).next
  g0 : G.next ≤ (Hh 0).next

variable (c : Ctx P G lo nt call ops order xs E Hh ρ0 D0)
include c

/-- A slot that nobody writes between stays. -/
theorem E_stay {s : Nat} : ∀ (k t : Nat), t + k ≤ xs.length → (∀ (j : Nat) (x : Item), t ≤ j → j < t + k → xs[j]? = some x → x.dst ≠ some s) → (E (t + k)).get s = (E t).get s := by
  intro k
  induction k with
  | zero => intro t _ _; rfl
  | succ k ih =>
    intro t hle h
    have hlt : t + k < xs.length := by omega
    obtain ⟨hi, _⟩ := c.run (t + k) xs[t + k] (List.getElem?_eq_getElem hlt)
    obtain ⟨v, hv⟩ := item_env hi
    have : t + (k + 1) = t + k + 1 := by omega
    rw [this, hv, get_putD_ne (h (t + k) _ (by omega) (by omega) (List.getElem?_eq_getElem hlt))]
    exact ih t (by omega) fun j x h1 h2 => h j x h1 (by omega)

theorem E_stay' {s t t' : Nat} (htt : t ≤ t') (hle : t' ≤ xs.length) (h : ∀ (j : Nat) (x : Item), t ≤ j → j < t' → xs[j]? = some x → x.dst ≠ some s) : (E t').get s = (E t).get s := by
  have := E_stay c (s := s) (t' - t) t (by omega) (fun j x h1 h2 => h j x h1 (by omega))
  rwa [show t + (t' - t) = t' by omega] at this

/-- Between two acts the heap has rows put behind it, and no more. -/
theorem ext_stay : ∀ (k t : Nat), t + k ≤ xs.length → Wf (Hh t) → (∀ (j : Nat) (x : Item), t ≤ j → j < t + k → xs[j]? = some x → x.op.act = false) → Ext (Hh t) (Hh (t + k)) ∧ Wf (Hh (t + k)) := by
  intro k
  induction k with
  | zero => intro t _ hw _; exact ⟨Ext.refl _, hw⟩
  | succ k ih =>
    intro t hle hw h
    have hlt : t + k < xs.length := by omega
    obtain ⟨hi, _⟩ := c.run (t + k) xs[t + k] (List.getElem?_eq_getElem hlt)
    obtain ⟨h1, h2⟩ := ih t (by omega) hw fun j x h1 h2 => h j x h1 (by omega)
    obtain ⟨h3, h4⟩ := float_step (h (t + k) _ (by omega) (by omega) (List.getElem?_eq_getElem hlt)) hi h2
    have : t + (k + 1) = t + k + 1 := by omega
    rw [this]
    exact ⟨h1.trans h3, h4⟩

theorem ext_stay' {t t' : Nat} (htt : t ≤ t') (hle : t' ≤ xs.length) (hw : Wf (Hh t)) (h : ∀ (j : Nat) (x : Item), t ≤ j → j < t' → xs[j]? = some x → x.op.act = false) : Ext (Hh t) (Hh t') ∧ Wf (Hh t') := by
  have := ext_stay c (t' - t) t (by omega) hw (fun j x h1 h2 => h j x h1 (by omega))
  rwa [show t + (t' - t) = t' by omega] at this

omit c in
/-- The first act from a place on, if there is one. -/
theorem next_act : ∀ (k t : Nat), t + k = xs.length → ∃ T, t ≤ T ∧ T ≤ xs.length ∧ (∀ (j : Nat) (x : Item), t ≤ j → j < T → xs[j]? = some x → x.op.act = false) ∧ (T < xs.length → ∃ x, xs[T]? = some x ∧ x.op.act = true) := by
  intro k
  induction k with
  | zero => intro t h; exact ⟨t, Nat.le_refl _, by omega, fun j x h1 h2 => by omega, fun h1 => by omega⟩
  | succ k ih =>
    intro t h
    have hlt : t < xs.length := by omega
    cases ha : xs[t].op.act with
    | true => exact ⟨t, Nat.le_refl _, by omega, fun j x h1 h2 => by omega, fun _ => ⟨xs[t], List.getElem?_eq_getElem hlt, ha⟩⟩
    | false =>
      obtain ⟨T, h1, h2, h3, h4⟩ := ih (t + 1) (by omega)
      refine ⟨T, by omega, h2, fun j x h5 h6 hx => ?_, h4⟩
      by_cases hj : j = t
      · subst hj; rw [List.getElem?_eq_getElem hlt] at hx; cases hx; exact ha
      · exact h3 j x (by omega) h6 hx

omit c in
/-- The last act ahead of a place. -/
theorem last_act (T p : Nat) (hTp : T < p) (hp : p ≤ xs.length) {x : Item} (hx : xs[T]? = some x) (ha : x.op.act = true) :
    ∃ q y, T ≤ q ∧ q < p ∧ xs[q]? = some y ∧ y.op.act = true ∧ ∀ (j : Nat) (z : Item), q < j → j < p → xs[j]? = some z → z.op.act = false := by
  induction p with
  | zero => omega
  | succ p ih =>
    have hlt : p < xs.length := by omega
    cases hpa : xs[p].op.act with
    | true => exact ⟨p, xs[p], by omega, by omega, List.getElem?_eq_getElem hlt, hpa, fun j z h1 h2 => by omega⟩
    | false =>
      have hne : T ≠ p := by
        intro e; subst e
        rw [List.getElem?_eq_getElem hlt] at hx; cases hx
        rw [ha] at hpa; cases hpa
      obtain ⟨q, y, h1, h2, h3, h4, h5⟩ := ih (by omega) (by omega)
      refine ⟨q, y, h1, by omega, h3, h4, fun j z h6 h7 hz => ?_⟩
      by_cases hj : j = p
      · subst hj; rw [List.getElem?_eq_getElem hlt] at hz; cases hz; exact hpa
      · exact h5 j z h6 (by omega) hz

/-- What must be ahead is ahead in the plan. -/
theorem Bef_lt {p t i j : Nat} (hp : order[p]? = some i) (ht : order[t]? = some j) (h : Bef ops j i) : t < p := by
  -- all that stands ahead of p
  let listed : Array Bool := (Array.range ops.size).map fun k => decide (∃ q, q < p ∧ order[q]? = some k)
  have hget : ∀ k, listed.getD k false = true ↔ k < ops.size ∧ ∃ q, q < p ∧ order[q]? = some k := by
    intro k
    simp only [listed, Array.getD_eq_getD_getElem?, Array.getElem?_map]
    rcases Nat.lt_or_ge k ops.size with h1 | h1
    · rw [Array.getElem?_eq_getElem (by simpa using h1)]
      simp [h1]
    · rw [Array.getElem?_eq_none (by simpa using h1)]
      simp; omega
  have hlt : ∀ {q k : Nat}, order[q]? = some k → k < ops.size := by
    intro q k hq
    obtain ⟨o, x, io, ho, _⟩ := c.plan.item q k hq
    rcases Nat.lt_or_ge k ops.size with h1 | h1
    · exact h1
    · rw [Array.getElem?_eq_none h1] at ho; cases ho
  have hcl : Closed ops listed := by
    intro k o e ho hk he hb
    obtain ⟨_, q, hq1, hq2⟩ := (hget k).1 hk
    obtain ⟨t', ht1, ht2⟩ := c.plan.topo q k o e hq2 ho he hb
    exact (hget _).2 ⟨hlt ht2, t', by omega, ht2⟩
  have hr : ReadyOr ops listed i := by
    intro o e ho he hb
    obtain ⟨t', ht1, ht2⟩ := c.plan.topo p i o e hp ho he hb
    exact (hget _).2 ⟨hlt ht2, t', ht1, ht2⟩
  obtain ⟨_, q, hq1, hq2⟩ := (hget j).1 (h listed hcl hr)
  have := c.plan.uniq t q j ht hq2
  omega

section
variable {listed : Array Bool} {a : Act} {w : World} {T : Nat} {ρ : Ren} {D : Nat → Prop}

theorem order_lt {t i : Nat} (h : order[t]? = some i) : t < xs.length := by
  rw [c.plan.len]
  rcases Nat.lt_or_ge t order.length with h1 | h1
  · exact h1
  · rw [List.getElem?_eq_none h1] at h; cases h

/-- What can be next, or is done, stands no later than the first act that is not done. -/
theorem pos_le (iv : Inv ds G lo nt ops order xs E Hh ρ0 D0 w0 listed a w T ρ D) : ∀ (p i : Nat), order[p]? = some i → ReadyOr ops listed i → p ≤ T := by
  intro p
  induction p using Nat.strongRecOn with
  | _ p ih =>
    intro i hp hr
    rcases Nat.lt_or_ge T p with hlt | hge
    · exfalso
      have hpl := order_lt c hp
      obtain ⟨x, iT, hx, ha, hoT, hl⟩ := iv.act (by omega)
      obtain ⟨q, y, hq1, hq2, hy, hya, hno⟩ := last_act T p hlt (by omega) hx ha
      have hql : q < order.length := by rw [← c.plan.len]; omega
      have hoq : order[q]? = some order[q] := List.getElem?_eq_getElem hql
      have hb := c.plan.greedy p q i order[q] y hp hoq hq2 hy hya hno listed iv.closed hr
      by_cases hqT : q = T
      · subst hqT; rw [hoq] at hoT; cases hoT; rw [hl] at hb; cases hb
      · have hrq : ReadyOr ops listed order[q] := fun o e ho he hbd => iv.closed order[q] o e ho hb he hbd
        have := ih q hq2 order[q] hoq hrq
        omega
    · exact hge

theorem listed_lt (iv : Inv ds G lo nt ops order xs E Hh ρ0 D0 w0 listed a w T ρ D) {p i : Nat} (hp : order[p]? = some i) (hl : listed.getD i false = true) : p < T := by
  have h1 := pos_le c iv p i hp (fun o e ho he hbd => iv.closed i o e ho hl he hbd)
  rcases Nat.lt_or_ge p T with h2 | h2
  · exact h2
  · exfalso
    have hpT : p = T := by omega
    subst hpT
    obtain ⟨x, iT, hx, ha, hoT, hlT⟩ := iv.act (order_lt c hp)
    rw [hp] at hoT; cases hoT; rw [hl] at hlT; cases hlT

/-- What an operation that is next reads stands in the slots. -/
theorem reads_ok (iv : Inv ds G lo nt ops order xs E Hh ρ0 D0 w0 listed a w T ρ D) {p i : Nat} {x : Item} (hp : order[p]? = some i) (hx : xs[p]? = some x) (hr : ReadyOr ops listed i) (hnl : listed.getD i false = false) :
    ∀ u ∈ x.reads, ∀ v, (E p).get u = some v → SR ρ D nt a u v := by
  intro u hu v hv
  have hpT := pos_le c iv p i hp hr
  have hTN := iv.TN
  by_cases hw : ∃ (t : Nat) (y : Item) (j : Nat), xs[t]? = some y ∧ order[t]? = some j ∧ listed.getD j false = true ∧ y.dst = some u
  · obtain ⟨t, y, j, hy, hj, hlj, hyd⟩ := hw
    have htT := listed_lt c iv hj hlj
    have htp : t < p := by
      rcases c.plan.conf p t i j x y u hp hj hx hy hu hyd with h | h | h
      · subst h; rw [hp] at hj; cases hj; rw [hnl] at hlj; cases hlj
      · -- the writer stands ahead: by the plan's own order
        rcases Nat.lt_or_ge t p with h1 | h1
        · exact h1
        · exfalso
          -- all places ahead of p, as listed, close under what must be ahead
          have := Bef_lt c hp hj h
          omega
      · exfalso
        have := h listed iv.closed (fun o e ho he hbd => iv.closed j o e ho hlj he hbd)
        rw [hnl] at this; cases this
    refine iv.sa t y j u v htT hy hj hlj hyd ?_
    have h1 : (E p).get u = (E (t + 1)).get u := E_stay' c (by omega) (by omega) fun k z h1 h2 hz hzd => by
      have := c.plan.dst t k y z u hy hz hyd hzd; omega
    have h2 : (E T).get u = (E (t + 1)).get u := E_stay' c (by omega) hTN fun k z h1 h2 hz hzd => by
      have := c.plan.dst t k y z u hy hz hyd hzd; omega
    rw [h2, ← h1]; exact hv
  · have hno : ∀ (t : Nat) (y : Item) (j : Nat), xs[t]? = some y → order[t]? = some j → listed.getD j false = true → y.dst ≠ some u := fun t y j h1 h2 h3 h4 => hw ⟨t, y, j, h1, h2, h3, h4⟩
    refine iv.sb u v hno ?_
    rw [← hv]
    symm
    refine E_stay' c (Nat.zero_le _) (by have := order_lt c hp; omega) fun t y h1 h2 hy hyd => ?_
    have htl : t < order.length := by rw [← c.plan.len]; have := order_lt c hp; omega
    have hj : order[t]? = some order[t] := List.getElem?_eq_getElem htl
    rcases c.plan.conf p t i order[t] x y u hp hj hx hy hu hyd with h | h | h
    · omega
    · exact hno t y _ hy hj (h listed iv.closed hr) hyd
    · have := Bef_lt c hj hp h; omega

end
end
end Go.RI
