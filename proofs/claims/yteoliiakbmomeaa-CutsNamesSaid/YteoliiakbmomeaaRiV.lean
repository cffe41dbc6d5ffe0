/- RI, part V: a region that leaves its order open, whole. Conditions: none. -/
import Derived.Test.YteoliiakbmomeaaRiU
namespace Go.RI
open Go

/-- How many places are not done. -/
def left (n : Nat) (listed : Array Bool) : Nat := ((List.range n).filter fun i => !listed.getD i false).length

theorem left_set {n i : Nat} {listed : Array Bool} (hi : i < listed.size) (hin : i < n) (hf : listed.getD i false = false) : left n (listed.setIfInBounds i true) < left n listed := by
  unfold left
  have hsub : ∀ l : List Nat, (l.filter fun j => !(listed.setIfInBounds i true).getD j false).length ≤ (l.filter fun j => !listed.getD j false).length ∧
      (i ∈ l → (l.filter fun j => !(listed.setIfInBounds i true).getD j false).length < (l.filter fun j => !listed.getD j false).length) := by
    intro l
    induction l with
    | nil => exact ⟨Nat.le_refl _, fun h => by cases h⟩
    | cons j l ih =>
      by_cases hj : j = i
      · subst hj
        have h1 : (listed.setIfInBounds j true).getD j false = true := (set_get hi).2 (.inl rfl)
        rw [List.filter_cons_of_neg (by simp only [h1]; simp), List.filter_cons_of_pos (by simp only [hf]; rfl)]
        simp only [List.length_cons]
        exact ⟨by omega, fun _ => by omega⟩
      · have h1 : (listed.setIfInBounds i true).getD j false = listed.getD j false := getD_set_ne false (fun e => hj e.symm)
        cases h2 : listed.getD j false with
        | true =>
          rw [List.filter_cons_of_neg (by rw [h1, h2]; simp), List.filter_cons_of_neg (by rw [h2]; simp)]
          exact ⟨ih.1, fun hm => ih.2 ((List.mem_cons.1 hm).resolve_left (fun e => hj e.symm))⟩
        | false =>
          rw [List.filter_cons_of_pos (by rw [h1, h2]; rfl), List.filter_cons_of_pos (by rw [h2]; rfl)]
          simp only [List.length_cons]
          exact ⟨by omega, fun hm => by have := ih.2 ((List.mem_cons.1 hm).resolve_left (fun e => hj e.symm)); omega⟩
  exact (hsub (List.range n)).2 (by simpa using hin)

section
variable {ds : List Deferred} {P : Program} {G : AHeap} {lo nt : Nat} {call : CallI} {ops : Array Oper} {order : List Nat} {xs : List Item} {E : Nat → Env} {Hh : Nat → AHeap} {ρ0 : Ren} {D0 : Nat → Prop} {w0 : World}
variable (c : Ctx P G lo nt call ops order xs E Hh ρ0 D0)
include c

theorem order_ops {t i : Nat} (h : order[t]? = some i) : i < ops.size := by
  obtain ⟨o, x, io, ho, _⟩ := c.plan.item t i h
  rcases Nat.lt_or_ge i ops.size with h1 | h1
  · exact h1
  · rw [Array.getElem?_eq_none h1] at ho; cases ho

/-- If a place is not done, one can be next. -/
theorem some_ready {listed : Array Bool} (hsz : listed.size = ops.size) {i : Nat} (hi : i < ops.size) (hl : listed.getD i false = false) : Region.ready .any ops listed ≠ [] := by
  obtain ⟨p, hp⟩ := c.plan.all i hi
  -- the first place of the plan that is not done
  have key : ∀ (p i : Nat), order[p]? = some i → listed.getD i false = false → ∃ j, j ∈ Region.ready .any ops listed := by
    intro p
    induction p using Nat.strongRecOn with
    | _ p ih =>
      intro i hp hl
      by_cases hex : ∃ q j, q < p ∧ order[q]? = some j ∧ listed.getD j false = false
      · obtain ⟨q, j, h1, h2, h3⟩ := hex
        exact ih q h1 j h2 h3
      · have hilt := order_ops c hp
        obtain ⟨o, x, io, ho, _⟩ := c.plan.item p i hp
        refine ⟨i, mem_ready.2 ⟨?_, o, ho, fun e he hb => ?_⟩⟩
        · have : i < listed.size := by rw [hsz]; exact hilt
          simp only [Array.getD, this, dif_pos] at hl ⊢; exact hl
        · obtain ⟨t', h1, h2⟩ := c.plan.topo p i o e hp ho he hb
          cases h3 : listed.getD e.on false with
          | true => rfl
          | false => exact absurd ⟨t', e.on, h1, h2, h3⟩ hex
  obtain ⟨j, hj⟩ := key p i hp hl
  intro h
  rw [h] at hj
  cases hj

omit c in
theorem trOpC_plain {o : Oper} {io : IOp} (hio : trOpC P o = some io) (ha : io.quiet.act = false) : trOp P o = some io := by
  unfold trOpC at hio
  split at hio
  · split at hio
    · cases hio; assumption
    · cases hio
  · split at hio
    · split at hio
      · rename_i io0 h0
        cases hio
        unfold trCall at h0
        split at h0
        · rw [Option.map_eq_some_iff] at h0
          obtain ⟨l, _, rfl⟩ := h0
          simp [IOp.quiet, IOp.act] at ha
        · split at h0
          · cases h0; simp [IOp.quiet, IOp.act] at ha
          · cases h0
        · cases h0
      · cases hio; simp [IOp.quiet, IOp.act] at ha
    · cases hio; simp [IOp.quiet, IOp.act] at ha

theorem draw_inv {R : Option Nat} {m : Nat} {Q : Exit → Act → World → Prop} (hQ : ∀ ρ' D' a' w', Step lo ρ0 D0 (Hh 0) w0 ρ' D' (Hh xs.length) w' → HRel G ρ' D' (Hh xs.length) w' → ARel ds ρ' D' nt (E xs.length) a' → Q .normal a' w') :
    ∀ (fuel : Nat) (listed : Array Bool) (a : Act) (w : World), left ops.size listed ≤ fuel → (∃ T ρ D, Inv ds G lo nt ops order xs E Hh ρ0 D0 w0 listed a w T ρ D) → wpAnyIn (FR R) m P .any ops Q fuel listed a w := by
  -- all done
  have fin : ∀ (listed : Array Bool) (a : Act) (w : World), (∃ T ρ D, Inv ds G lo nt ops order xs E Hh ρ0 D0 w0 listed a w T ρ D) → (∀ i, i < ops.size → listed.getD i false = true) → Q .normal a w := by
    rintro listed a w ⟨T, ρ, D, iv⟩ hall
    have hT : T = xs.length := by
      rcases Nat.lt_or_ge T xs.length with h | h
      · obtain ⟨x, i, _, _, hi, hl⟩ := iv.act h
        rw [hall i (order_ops c hi)] at hl; cases hl
      · have := iv.TN; omega
    subst hT
    refine hQ ρ D a w iv.step iv.hrel ⟨iv.tsize, iv.defers, fun s v hv => ?_⟩
    by_cases hw : ∃ (t : Nat) (y : Item), xs[t]? = some y ∧ y.dst = some s
    · obtain ⟨t, y, hy, hys⟩ := hw
      have htl : t < xs.length := by
        rcases Nat.lt_or_ge t xs.length with h | h
        · exact h
        · rw [List.getElem?_eq_none h] at hy; cases hy
      have hto : order[t]? = some (order[t]'(by rw [← c.plan.len]; exact htl)) := List.getElem?_eq_getElem _
      exact iv.sa t y _ s v htl hy hto (hall _ (order_ops c hto)) hys hv
    · refine iv.sb s v (fun t y j hy _ _ hys => hw ⟨t, y, hy, hys⟩) ?_
      rw [← hv]
      symm
      exact E_stay' c (Nat.zero_le _) (Nat.le_refl _) fun t y _ _ hy hys => hw ⟨t, y, hy, hys⟩
  have fin2 : ∀ (listed : Array Bool) (a : Act) (w : World), (∃ T ρ D, Inv ds G lo nt ops order xs E Hh ρ0 D0 w0 listed a w T ρ D) → Region.ready .any ops listed = [] → Q .normal a w := by
    intro listed a w hiv hr
    refine fin listed a w hiv fun i hi => ?_
    cases hl : listed.getD i false with
    | true => rfl
    | false =>
      obtain ⟨T, ρ, D, iv⟩ := hiv
      exact absurd hr (some_ready c iv.size hi hl)
  intro fuel
  induction fuel with
  | zero =>
    intro listed a w hleft hiv
    have hall : ∀ i, i < ops.size → listed.getD i false = true := by
      intro i hi
      cases hl : listed.getD i false with
      | true => rfl
      | false =>
        have h0 : left ops.size listed = 0 := by omega
        unfold left at h0
        have := List.eq_nil_of_length_eq_zero h0
        have hm : i ∈ (List.range ops.size).filter fun i => !listed.getD i false := List.mem_filter.2 ⟨by simpa using hi, by simp only [hl]; rfl⟩
        rw [this] at hm; cases hm
    refine ⟨?_, fin listed a w hiv hall⟩
    apply List.eq_nil_iff_forall_not_mem.2
    intro j hj
    obtain ⟨h1, o, ho, _⟩ := mem_ready.1 hj
    have hjlt : j < ops.size := by
      rcases Nat.lt_or_ge j ops.size with h | h
      · exact h
      · rw [Array.getElem?_eq_none h] at ho; cases ho
    obtain ⟨T, ρ, D, iv⟩ := hiv
    have h2 := hall j hjlt
    have : j < listed.size := by rw [iv.size]; exact hjlt
    simp only [Array.getD, this, dif_pos] at h1 h2
    rw [h2] at h1; cases h1
  | succ fuel ih =>
    intro listed a w hleft hiv
    refine ⟨fin2 listed a w hiv, fun i hi => ?_⟩
    obtain ⟨T, ρ, D, iv⟩ := hiv
    obtain ⟨h1, o, ho, hpre⟩ := mem_ready.1 hi
    have hilt : i < ops.size := by
      rcases Nat.lt_or_ge i ops.size with h | h
      · exact h
      · rw [Array.getElem?_eq_none h] at ho; cases ho
    have hisz : i < listed.size := by rw [iv.size]; exact hilt
    have hnl : listed.getD i false = false := by simp only [Array.getD, hisz, dif_pos] at h1 ⊢; exact h1
    have hr : ReadyOr ops listed i := fun o' e ho' he hb => by rw [ho] at ho'; cases ho'; exact hpre e he hb
    obtain ⟨p, hp⟩ := c.plan.all i hilt
    obtain ⟨o', x, io, ho', hx, hio, hxop, hguard, hxdst, hdst⟩ := c.plan.item p i hp
    rw [ho] at ho'; cases ho'
    have hpT := pos_le c iv p i hp hr
    have hplen := order_lt c hp
    -- what it reads
    have hreads := reads_ok c iv hp hx hr hnl
    have har : ARel ds ρ D nt ((E p).only x.reads) a := ⟨iv.tsize, iv.defers, fun t v hv => by
      rw [Env.get_only] at hv
      split at hv
      · rename_i hc; exact hreads t (by simpa using hc) v hv
      · cases hv⟩
    have hag : Agree x.reads ((E p).only x.reads) (E p) := agree_only _ fun u hu => hu
    have hrel : Rel P G ds ρ D nt ((E p).only x.reads) a (Hh T) w := ⟨c.gsize, c.gok, iv.hrel, har⟩
    obtain ⟨hi1, hi2⟩ := c.run p x hx
    have hcnt : left ops.size (listed.setIfInBounds i true) ≤ fuel := by have := left_set hisz hilt hnl; omega
    -- behind it: ahead of the first act
    have goF : p < T → ∀ (ρ' : Ren) (D' : Nat → Prop) (w' : World) (v : AVal), HRel G ρ' D' (Hh T) w' → Step lo ρ0 D0 (Hh 0) w0 ρ' D' (Hh T) w' → (∀ id, D id → D' id ∧ ρ' id = ρ id) →
        (∀ id, D' id → ¬ D id → x.op.makes = true ∧ wantedI (E p) x.guard = some true ∧ id = (Hh p).next) → ok ρ' D' v → E (p + 1) = putD (E p) x.dst v →
        wpAnyIn (FR R) m P .any ops Q fuel (listed.setIfInBounds i true) (a.put x.dst (ren ρ' v)) w' := fun hlt ρ' D' w' v g1 g2 g3 g4 g5 g6 =>
      ih _ _ _ hcnt ⟨T, ρ', D', inv_float c iv hp hx hnl hisz hr hlt g1 g2 g3 g4 g5 g6 hdst⟩
    have goA : p = T → x.op.act = true → ∀ (ρ' : Ren) (D' : Nat → Prop) (w' : World) (v : AVal), HRel G ρ' D' (Hh (p + 1)) w' → Step lo ρ0 D0 (Hh 0) w0 ρ' D' (Hh (p + 1)) w' → (∀ id, D id → D' id ∧ ρ' id = ρ id) →
        (∀ id, D' id → id < (Hh p).next → D id) → (∀ id, id < (Hh p).next → ¬ D id → (Hh (p + 1)).get id = (Hh p).get id) → (Hh p).next ≤ (Hh (p + 1)).next → ok ρ' D' v → E (p + 1) = putD (E p) x.dst v → (skipI call x.op = true → Ext (Hh p) (Hh (p + 1))) →
        wpAnyIn (FR R) m P .any ops Q fuel (listed.setIfInBounds i true) (a.put x.dst (ren ρ' v)) w' := by
      rintro rfl hxa ρ' D' w' v g1 g2 g3 g4 g5 g6 g7 g8 g9
      obtain ⟨T2, iv2⟩ := inv_act c iv hp hx hxa hnl hisz hr g1 g2 g3 g4 g5 g6 g7 g8 hdst g9
      exact ih _ _ _ hcnt ⟨T2, ρ', D', iv2⟩
    have hactT : x.op.act = true → p = T := fun hxa => by
      rcases Nat.lt_or_ge p T with h | h
      · have := iv.done p x i h hx hxa hp; rw [hnl] at this; cases this
      · omega
    have hfloatT : x.op.act = false → p < T := fun hxa => by
      rcases Nat.lt_or_ge p T with h | h
      · exact h
      · exfalso
        have : p = T := by omega
        subst this
        obtain ⟨y, j, hy, hya, _⟩ := iv.act hplen
        rw [hx] at hy; cases hy; rw [hxa] at hya; cases hya
    unfold wpOpIn
    rw [ho]
    simp only
    simp only [itemI] at hi1
    split at hi1
    · cases hi1
    · -- left out
      rename_i hw
      have hwe : wantedI ((E p).only x.reads) x.guard = some false := by rw [wanted_congr hag.r]; exact hw
      rw [guard_sim har hguard hwe]
      simp only [Bool.false_eq_true, if_false]
      refine ⟨fun _ _ => trivial, ?_⟩
      have hE : E (p + 1) = putD (E p) x.dst (.tu []) := (Prod.mk.inj (Option.some.inj hi1)).1.symm
      have hH : Hh (p + 1) = Hh p := (Prod.mk.inj (Option.some.inj hi1)).2.symm
      rw [← hxdst]
      cases hxa : x.op.act with
      | false => exact goF (hfloatT hxa) ρ D w (.tu []) iv.hrel iv.step (fun _ h => ⟨h, rfl⟩) (fun id h1 h2 => absurd h1 h2) (by simp [ok, okL]) hE
      | true =>
        have hpT2 := hactT hxa
        subst hpT2
        exact goA rfl hxa ρ D w (.tu []) (by rw [hH]; exact iv.hrel) (by rw [hH]; exact iv.step) (fun _ h => ⟨h, rfl⟩) (fun _ h _ => h) (fun _ _ _ => by rw [hH]) (by rw [hH]; exact Nat.le_refl _) (by simp [ok, okL]) hE (fun _ => by rw [hH]; exact Ext.refl _)
    · rename_i hw
      have hwe : wantedI ((E p).only x.reads) x.guard = some true := by rw [wanted_congr hag.r]; exact hw
      rw [guard_sim har hguard hwe]
      simp only [if_true]
      -- what it made
      obtain ⟨v, hv, hE⟩ : ∃ v, opI call lo x.op (E p) (Hh p) = some (v, Hh (p + 1)) ∧ E (p + 1) = putD (E p) x.dst (v.getD (.tu [])) := by
        split at hi1
        · rename_i v2 H2 hop
          have h2 := (Prod.mk.inj (Option.some.inj hi1)).2
          exact ⟨some v2, by rw [hop, h2], (Prod.mk.inj (Option.some.inj hi1)).1.symm⟩
        · rename_i H2 hop
          have h2 := (Prod.mk.inj (Option.some.inj hi1)).2
          exact ⟨none, by rw [hop, h2], (Prod.mk.inj (Option.some.inj hi1)).1.symm⟩
        · cases hi1
      have hnd := trOpC_nd hio (by rintro rfl; rw [hxop] at hv; simp [IOp.quiet, opI, aop] at hv)
      cases hxa : x.op.act with
      | true =>
        have hpT2 := hactT hxa
        subst hpT2
        have hv' : opI call lo io ((E p).only x.reads) (Hh p) = some (v, Hh (p + 1)) := by
          refine quiet_opI ?_
          rw [← hxop, opI_congr _ hag.l]; exact hv
        refine opC_sim c.calls hrel c.glo hio hv' ?_
        intro ρ' D' w' hst hrel' hok hsk
        rw [← hxdst]
        refine goA rfl hxa ρ' D' w' _ hrel' (iv.step.trans hst) hst.old hst.new hst.ghost hst.next hok hE (fun h => hsk ?_)
        rw [hxop] at h
        cases io <;> first | exact h | (simp [IOp.quiet, skipI] at h)
      | false =>
        have hlt := hfloatT hxa
        rw [opI_plain hxa] at hv
        have hplain : trOp P o = some io := trOpC_plain hio (by rw [← hxop]; exact hxa)
        -- it looks, or is still: at the heap as it stands now
        have now : aop lo x.op (E p) (Hh T) = some (v, Hh T) → (o.wpIn (FR R) m P a w (wpAnyIn (FR R) m P .any ops Q fuel (listed.setIfInBounds i true)) Q) := by
          intro h
          have h' : aop lo io ((E p).only x.reads) (Hh T) = some (v, Hh T) := by
            refine quiet_aop ?_
            rw [← hxop, aop_congr _ hag.l]; exact h
          obtain ⟨ρ', D', w', hrun, hst, hrel', hok⟩ := aop_sim hrel c.glo hplain h'
          have hDD : ∀ id, D' id → ¬ D id → False := fun id h1 h2 => h2 (hst.new id h1 (hrel'.lt id h1))
          refine ⟨fun _ _ => trivial, ?_⟩
          rw [Oper.semAt_eq _ _ _ hnd, hrun]
          cases v with
          | none =>
            have := goF hlt ρ' D' w' (.tu []) hrel' (iv.step.trans hst) hst.old (fun id h1 h2 => (hDD id h1 h2).elim) (by simp [ok, okL]) hE
            rw [hxdst] at this; exact this
          | some u =>
            have := goF hlt ρ' D' w' u hrel' (iv.step.trans hst) hst.old (fun id h1 h2 => (hDD id h1 h2).elim) (hok u rfl) hE
            rw [hxdst] at this; exact this
        rcases kinds x.op hxa with ⟨k1, k2⟩ | k1 | k1
        · obtain ⟨_, _, k3⟩ := aop_still hxa k1 k2 hv
          exact now (k3 (Hh T))
        · obtain ⟨k2, _, _⟩ := looks_ext (iv.wfs p (by omega)) (Ext.refl _) k1 hv
          rw [k2] at hv
          exact now (iv.f1 p x i v hlt hx hp hnl k1 hw hv)
        · -- a new row
          have hioq : io.quiet = io := by
            cases io <;> first | rfl | (rw [hxop] at k1; simp [IOp.quiet, IOp.makes] at k1)
          rw [hioq] at hxop
          have hv' : aop lo io ((E p).only x.reads) (Hh p) = some (v, Hh (p + 1)) := by
            rw [← hxop, aop_congr _ hag.l]; exact hv
          obtain ⟨cs, esz, u, C, el, w', rfl, hpush, hrun, hheap, hos, htp, hout, hlen, hget, hcok, hcone, hu⟩ := makes_sim (D := D) hrel hplain (by rw [← hxop]; exact k1) hv'
          obtain ⟨g1, g2⟩ := iv.f2 p x i hlt hx hp hnl k1 hw
          have hnx : (Hh (p + 1)).next = (Hh p).next + 1 := by rw [hpush]; rfl
          have hlt2 : (Hh p).next < (Hh T).next := by have := iv.mono (p + 1) T (by omega) (Nat.le_refl _); omega
          have hG : (Hh 0).next ≤ (Hh p).next := iv.mono 0 p (Nat.zero_le _) (by omega)
          have hGn : G.next ≤ (Hh 0).next := c.g0
          have hobj : (Hh T).get (Hh p).next = some (.cells cs esz false) := by
            rw [g2, hpush, AHeap.get_push, if_pos rfl]
          have hrel2 := ghost_sim iv.hrel g1 hlt2 (by omega) hobj hheap hlen hget hcok hcone
          have hst2 := iv.step.ghostly (L := ⟨w.heap.size, 0, C.size, esz⟩) hG g1 c.d0 (Nat.le_refl _) hheap hos htp hout
          have hold : ∀ id, D id → ins D (Hh p).next id ∧ upd ρ (Hh p).next ⟨w.heap.size, 0, C.size, esz⟩ id = ρ id := fun id hd => ⟨.inr hd, upd_other _ _ (fun e => g1 (e ▸ hd))⟩
          have huok : ok (upd ρ (Hh p).next ⟨w.heap.size, 0, C.size, esz⟩) (ins D (Hh p).next) u := by
            rcases hu with rfl | ⟨len, cap, rfl⟩ <;> simp [ok, ins]
          have := goF hlt _ _ w' u hrel2 hst2 hold (fun id h1 h2 => ⟨k1, hw, h1.resolve_right h2⟩) huok hE
          refine ⟨fun _ _ => trivial, ?_⟩
          rw [Oper.semAt_eq _ _ _ hnd, hrun]
          rw [hxdst] at this; exact this

end
end Go.RI
