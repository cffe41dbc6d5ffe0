/- RI, part P: a place in a region: a call, a guard; a region that leaves no order open. Conditions: none. -/
import Derived.Test.YteoliiakbmomeaaRiO
import Derived.OrdersIn
namespace Go.RI
open Go

/-- The wide fence, in a round of that record's, if there is one. -/
def FR (R : Option Nat) : Fence := { Fence.wide with round := R }
/-- What is translated is no defer statement. -/
theorem trOpC_nd {P : Program} {o : Oper} {io : IOp} (h : trOpC P o = some io) (hb : io ≠ .bad) : ∀ c, o.op ≠ .defer c := by
  intro c hc
  unfold trOpC trOp at h
  rw [hc] at h
  simp at h
  exact hb h.symm

/-- It is a function of the program's, with a body. -/
def HasBody (P : Program) (g : FuncId) : Prop := ∃ fn, P.funcs[g]? = some fn ∧ fn.body.isSome = true ∧ (fn.name == "runtime.NumGoroutine") = false
/-- The interpreter's calls are the machine's. -/
structure CallOK (P : Program) (G : AHeap) (lo : Nat) (call : CallI) : Prop where
  body : ∀ g args H r, call g args H = some r → HasBody P g ∨ ∃ n, r = (.i .i64 n, H) ∧ ∀ ρ w, (callFunc g (renL ρ args).toArray).run P w = .ok (.value (.int .i64 n)) w
  calls : ∀ g args H r H', call g args H = some (r, H') → HasBody P g → ∀ ρ D w, HRel G ρ D H w → okL ρ D args →
    Calls P g (renL ρ args).toArray w (fun e w' => ∃ ρ' D', e = .returned (ren ρ' r) ∧ Step lo ρ D H w ρ' D' H' w' ∧ HRel G ρ' D' H' w' ∧ ok ρ' D' r ∧ (call.pure g = true → Ext H H'))

section
variable {ds : List Deferred} {P : Program} {G : AHeap} {lo : Nat} {ρ : Ren} {D : Nat → Prop} {n : Nat} {e : Env} {a : Act} {H : AHeap} {w : World} {R : Option Nat} {m : Nat}

theorem run_callFunc {g : FuncId} {fn : Func} (hf : P.funcs[g]? = some fn) (hb : fn.body.isSome = true) (hn : (fn.name == "runtime.NumGoroutine") = false) (args : Array Value) : (callFunc g args).run P w = .ok (.enter g args) w := by
  obtain ⟨c, hc⟩ := Option.isSome_iff_exists.1 hb
  simp only [callFunc, Sem.run_bind, run_program, Result.andThen_ok, hf, hc]
  simp [hn]

/-- What comes of a call in the machine. -/
theorem upon_call {call : CallI} (hc : CallOK P G lo call) (r : Rel P G ds ρ D n e a H w) {o : Oper} {g : FuncId} {args : List AVal} {res : AVal} {H' : AHeap} (hcall : call g args H = some (res, H')) (hok : okL ρ D args) (hd : ∀ c, o.op ≠ .defer c)
    (hrun : (execOp a.eval o).run P w = (callFunc g (renL ρ args).toArray).run P w) {next : Act → World → Prop} {Q : Exit → Act → World → Prop}
    (h : ∀ ρ' D' w', Step lo ρ D H w ρ' D' H' w' → HRel G ρ' D' H' w' → ok ρ' D' res → (call.pure g = true → Ext H H') → next (a.put o.dst (ren ρ' res)) w') : o.wpIn (FR R) m P a w next Q := by
  rcases hc.body g args H _ hcall with ⟨fn, hf, hb, hn⟩ | ⟨n, hr, hx⟩
  · refine ⟨fun _ _ => trivial, ?_⟩
    rw [Oper.semAt_eq _ _ _ hd, hrun, run_callFunc hf hb hn, Oper.uponIn_enter]
    refine ⟨fun h => by simp [FR, Fence.wide] at h, ?_⟩
    have hcc : CallsIn (FR R) (m - 1) P g (renL ρ args).toArray w _ := callsIn_wide.2 (hc.calls g args H res H' hcall ⟨fn, hf, hb, hn⟩ ρ D w r.heap hok)
    refine hcc.mono ?_
    rintro en w' ⟨ρ', D', rfl, h1, h2, h3, h4⟩
    exact h ρ' D' w' h1 h2 h3 h4
  · cases hr
    refine ⟨fun _ _ => trivial, ?_⟩
    rw [Oper.semAt_eq _ _ _ hd, hrun, hx]
    exact h ρ D w (Step.refl lo ρ D H w r.heap.lt) r.heap (by simp [ok]) (fun _ => Ext.refl H)

theorem opC_sim {call : CallI} (hc : CallOK P G lo call) (r : Rel P G ds ρ D n e a H w) (hlo : G.next ≤ lo) {o : Oper} {io : IOp} (ho : trOpC P o = some io) {v : Option AVal} {H' : AHeap} (hs : opI call lo io e H = some (v, H'))
    {next : Act → World → Prop} {Q : Exit → Act → World → Prop}
    (h : ∀ ρ' D' w', Step lo ρ D H w ρ' D' H' w' → HRel G ρ' D' H' w' → ok ρ' D' (v.getD (.tu [])) → (skipI call io = true → Ext H H') → next (a.put o.dst (ren ρ' (v.getD (.tu [])))) w') : o.wpIn (FR R) m P a w next Q := by
  have hd := trOpC_nd ho (by rintro rfl; simp [opI, aop] at hs)
  have plain : skipI call io = false → trOp P o = some io → aop lo io e H = some (v, H') → o.wpIn (FR R) m P a w next Q := by
    intro h0 h1 h2
    obtain ⟨ρ', D', w', hrun, hst, hrel, hok⟩ := aop_sim r hlo h1 h2
    refine ⟨fun _ _ => trivial, ?_⟩
    rw [Oper.semAt_eq _ _ _ hd, hrun]
    cases v with
    | none => exact h ρ' D' w' hst hrel (by simp [ok, okL]) (fun h => by rw [h0] at h; cases h)
    | some u => exact h ρ' D' w' hst hrel (hok u rfl) (fun h => by rw [h0] at h; cases h)
  unfold trOpC at ho
  split at ho
  · rename_i io' hio
    split at ho
    · rename_i hisc
      cases ho
      refine plain (by cases io <;> first | rfl | (simp [IOp.isC] at hisc)) hio ?_
      cases io <;> simp only [opI] at hs <;> first
        | exact hs
        | (simp [IOp.isC] at hisc)
    · cases ho
  · split at ho
    · rename_i hnone c hop
      have bad : some IOp.bad = some io → o.wpIn (FR R) m P a w next Q := fun h => by cases h; simp [opI, aop] at hs
      split at ho
      case h_2 => exact bad ho
      rename_i io0 hio0
      simp only [Option.some.injEq] at ho; subst ho
      replace ho := hio0
      unfold trCall at ho
      split at ho
      · rename_i f hcal
        rw [Option.map_eq_some_iff] at ho
        obtain ⟨l, hl, rfl⟩ := ho
        simp only [opI] at hs
        split at hs
        · rename_i vs hvs
          split at hs
          · rename_i res H1 hcall
            cases hs
            obtain ⟨h1, h2⟩ := opds_sim r hl hvs
            refine upon_call hc r hcall h2 hd ?_ (fun ρ' D' w' => by simpa [skipI] using h ρ' D' w')
            have harr : c.args.map a.eval = (renL ρ vs).toArray := by apply Array.ext'; rw [Array.toList_map, h1]
            simp [execOp, hop, resolve, hcal, Act.eval, Deferred.ofValue, invoke, harr]
          · cases hs
        · cases hs
      · rename_i x hne hcal
        split at ho
        · rename_i x' l hx hl
          cases ho
          simp only [opI] at hs
          split at hs
          · rename_i f fst cap hv
            split at hs
            · rename_i vs hvs
              split at hs
              · rename_i res H1 hcall
                cases hs
                obtain ⟨h1, h2⟩ := opds_sim r hl hvs
                obtain ⟨h3, h4⟩ := opd_sim r hx hv
                simp only [ok] at h4
                refine upon_call hc r hcall (okL_append (okL_append h4.1 h2) h4.2) hd ?_ (fun ρ' D' w' h1 h2 h3 _ => by simpa using h ρ' D' w' h1 h2 h3 (fun h => by simp [skipI] at h))
                have harr : c.args.map a.eval = (renL ρ vs).toArray := by apply Array.ext'; rw [Array.toList_map, h1]
                simp [execOp, hop, resolve, hcal, h3, ren, Deferred.ofValue, invoke, harr, renL_map]
              · cases hs
            · cases hs
          · cases hs
        · cases ho
      · cases ho
    · cases ho; simp [opI, aop] at hs


/-! ### Guards -/
theorem guard_sim (r : ARel ds ρ D n e a) {ops : Array Oper} {o : Oper} {g : Option (Nat × Bool)} (hg : trGuard ops o.guard = some g) {b : Bool} (hw : wantedI e g = some b) : Region.wanted o (yielded ops a.tmps) = b := by
  unfold Region.wanted
  cases hog : o.guard with
  | none =>
    rw [hog] at hg
    simp only [trGuard, Option.some.injEq] at hg; subst hg
    simp only [wantedI, Option.some.injEq] at hw
    exact hw
  | some x =>
    obtain ⟨j, want⟩ := x
    rw [hog] at hg
    simp only [trGuard] at hg
    split at hg
    · rename_i t ht
      simp only [Option.some.injEq] at hg; subst hg
      simp only [wantedI] at hw
      have key : ∀ v, e.get t = some v → a.tmps[t]? = some (ren ρ v) := by
        intro v hv
        obtain ⟨h1, h2, _⟩ := r.get t v hv
        have hlt : t < a.tmps.size := by rw [r.size]; exact h1
        rw [Array.getElem?_eq_getElem hlt]
        simp only [Array.getD, hlt, dif_pos] at h2
        exact congrArg some h2
      split at hw
      · rename_i b' hv
        cases hw
        have := key _ hv
        simp only [yielded, ht, Option.bind_some, this, ren]
        cases b' <;> cases want <;> rfl
      · rename_i v hnb hv
        cases hw
        have := key _ hv
        simp only [yielded, ht, Option.bind_some, this]
        cases v <;> first
          | (simp [ren]; done)
          | (exact (hnb _ rfl).elim)
      · cases hw
    · cases hg

theorem put_sim (r : ARel ds ρ D n e a) {dst : Option Nat} (hd : dstOk n dst = true) {v : AVal} (hv : ok ρ D v) : ARel ds ρ D n (putD e dst v) (a.put dst (ren ρ v)) := by
  cases dst with
  | none => exact r
  | some t => exact r.put (by simpa [dstOk] using hd) hv

/-! ### A region that leaves no order open -/
theorem items_sim {call : CallI} (hc : CallOK P G lo call) (hlo : G.next ≤ lo) {ops : Array Oper} {Q : Exit → Act → World → Prop} : ∀ (os : List Oper) (k : Nat) (xs : List Item), (∀ j o, os[j]? = some o → ops[k + j]? = some o) →
    trItems P n ops os = some xs → ∀ (ρ : Ren) (D : Nat → Prop) (e : Env) (a : Act) (H : AHeap) (w : World) (e' : Env) (H' : AHeap), Rel P G ds ρ D n e a H w → itemsI call lo xs e H = some (e', H') →
    (∀ ρ' D' a' w', Step lo ρ D H w ρ' D' H' w' → HRel G ρ' D' H' w' → ARel ds ρ' D' n e' a' → Q .normal a' w') → wpOpsIn (FR R) m P ops Q (List.range' k os.length) a w := by
  intro os
  induction os with
  | nil =>
    intro k xs _ hx ρ D e a H w e' H' r hs h
    simp only [trItems, Option.some.injEq] at hx; subst hx
    simp only [itemsI, Option.some.injEq, Prod.mk.injEq] at hs
    obtain ⟨rfl, rfl⟩ := hs
    simp only [List.length_nil, List.range'_zero, wpOpsIn]
    exact h ρ D a w (Step.refl lo ρ D H w r.heap.lt) r.heap r.slots
  | cons o os ih =>
    intro k xs hal hx ρ D e a H w e' H' r hs h
    simp only [trItems] at hx
    split at hx
    · rename_i x xs' hxi hxs
      cases hx
      unfold trItem at hxi
      split at hxi
      · rename_i io g hio hg
        split at hxi
        · rename_i hdst
          cases hxi
          simp only [itemsI] at hs
          split at hs
          · rename_i e1 H1 hitem
            simp only [reOk, Bool.or_true, if_true] at hs
            have hok : ops[k]? = some o := by have := hal 0 o rfl; simpa using this
            have hal' : ∀ j o', os[j]? = some o' → ops[k + 1 + j]? = some o' := fun j o' hj => by
              have := hal (j + 1) o' (by simpa using hj)
              rw [← this]; congr 1; omega
            simp only [List.length_cons, List.range'_succ, wpOpsIn, hok]
            simp only [itemI] at hitem
            split at hitem
            · cases hitem
            · rename_i hw
              cases hitem
              rw [guard_sim r.slots hg hw]
              simp only [Bool.false_eq_true, if_false]
              have r1 : ARel ds ρ D n (putD e o.dst (.tu [])) (a.put o.dst undef) := put_sim r.slots hdst (v := .tu []) (by simp [ok, okL])
              exact ⟨fun _ _ => trivial, ih (k + 1) xs' hal' hxs ρ D _ _ H w e' H' ⟨r.gsize, r.gok, r.heap, r1⟩ hs h⟩
            · rename_i hw
              rw [guard_sim r.slots hg hw]
              simp only [if_true]
              have fin : ∀ (v : Option AVal), opI call lo io e H = some (v, H1) → e1 = putD e o.dst (v.getD (.tu [])) → o.wpIn (FR R) m P a w (wpOpsIn (FR R) m P ops Q (List.range' (k + 1) os.length)) Q := by
                intro v hop he1
                refine opC_sim hc r hlo hio hop ?_
                intro ρ' D' w' hst hrel hvok _
                have r1 : ARel ds ρ' D' n e1 (a.put o.dst (ren ρ' (v.getD (.tu [])))) := by rw [he1]; exact put_sim (r.slots.step hst) hdst hvok
                exact ih (k + 1) xs' hal' hxs ρ' D' e1 _ H1 w' e' H' ⟨r.gsize, r.gok, hrel, r1⟩ hs
                  (fun ρ2 D2 a2 w2 hst2 hrel2 har2 => h ρ2 D2 a2 w2 (hst.trans hst2) hrel2 har2)
              split at hitem
              · rename_i v H2 hop
                cases hitem
                exact fin (some v) hop rfl
              · rename_i H2 hop
                cases hitem
                exact fin none hop rfl
              · cases hitem
          · cases hs
        · cases hxi
      · cases hxi
    · cases hx

end
end Go.RI
