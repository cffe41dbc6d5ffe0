import Derived.Test.YtpkhhphpjhfoiaaGreatDoorM03
import Derived.RangeFuncRecord
import Derived.RangeFuncKeeps
import Derived.Test.YtpkhhphpjhfoiaaGreatDoorM04
set_option linter.unusedVariables false
set_option linter.unusedSimpArgs false
set_option linter.unusedSectionVars false
/- RI, part Yl: a loop over an iterator of one's own: the iterator is handed yield, a round is the loop's body. Conditions: none. -/
namespace Go.RI
open Go
set_option linter.unusedSimpArgs false

/-! ### Blocks that nobody names -/
/-- No row, no map. -/
def Odd (o : Obj) : Prop := (∀ C e fz, o ≠ .cells C e fz) ∧ ∀ E n, o ≠ .map E n

section
variable {G : AHeap} {lo : Nat} {ρ ρ' : Ren} {D D' : Nat → Prop} {H H' : AHeap} {w w' : World}

theorem HRel.odd (h : HRel G ρ D H w) {k : Nat} {o : Obj} (hk : w.heap[k]? = some o) (ho : Odd o) {id : Nat} {o' : AObj} (hd : D id) (hg : H.get id = some o') : (ρ id).blk ≠ k := by
  intro hb
  cases o' with
  | cells c esz ro =>
    obtain ⟨C, e, fz, h1, _⟩ := (h.cells id c esz ro hd hg).at_
    rw [hb, hk] at h1; exact ho.1 _ _ _ (Option.some.inj h1)
  | map es =>
    obtain ⟨⟨E, n, h1, _⟩, _⟩ := h.maps id es hd hg
    rw [hb, hk] at h1; exact ho.2 _ _ (Option.some.inj h1)

/-- It lies on. -/
theorem Step.keeps (s : Step lo ρ D H w ρ' D' H' w') (h : HRel G ρ D H w) {k : Nat} {o : Obj} (hk : w.heap[k]? = some o) (ho : Odd o) : w'.heap[k]? = some o := by
  rw [s.frame k (Array.getElem?_eq_some_iff.1 hk).1 fun id o' hd hg _ => h.odd hk ho hd hg]
  exact hk

theorem alloc_odd (h : HRel G ρ D H w) (o : Obj) : Step lo ρ D H w ρ D H (w.alloc o) ∧ HRel G ρ D H (w.alloc o) := by
  have hb : ∀ k, k < w.heap.size → (w.alloc o).heap[k]? = w.heap[k]? := fun k hk => RowKit.Below.heap_alloc w o k hk
  refine ⟨{ Step.refl lo ρ D H w h.lt with os := rfl, tape := rfl, output := rfl, froz := fun ad hlt => by simp only [World.frozen?, hb _ hlt], size := by simp, frame := fun k hk _ => hb k hk }, h.heap_eq hb⟩

theorem HRel.putOdd (h : HRel G ρ D H w) {k : Nat} {o : Obj} (hk : w.heap[k]? = some o) (ho : Odd o) (o' : Obj) : HRel G ρ D H (w.putObj k o') where
  lt := h.lt
  cells := fun id c esz ro hd hg => (h.cells id c esz ro hd hg).move (fun _ h => ⟨h, rfl⟩) (World.putObj_heap_other (h.odd hk ho hd hg))
  maps := fun id es hd hg => (h.maps id es hd hg).move (fun _ h => ⟨h, rfl⟩) (World.putObj_heap_other (h.odd hk ho hd hg))
  apart := h.apart
  glob := h.glob
  gnext := h.gnext
  wf := h.wf

theorem frozen_putObj {k : Nat} {o' : Obj} {ad : Addr} (h : ad.block ≠ k) : (w.putObj k o').frozen? ad = w.frozen? ad := by
  simp only [World.frozen?, World.putObj_heap_other h]

/-- A block that is new is turned. -/
theorem Step.putNew (s : Step lo ρ D H w ρ' D' H' w') {k : Nat} (hk : w.heap.size ≤ k) (o' : Obj) : Step lo ρ D H w ρ' D' H' (w'.putObj k o') :=
  { s with
    os := s.os, tape := s.tape, output := s.output
    froz := fun ad hlt => (frozen_putObj (by omega)).trans (s.froz ad hlt)
    size := by rw [World.putObj_size]; exact s.size
    frame := fun j hj hn => (World.putObj_heap_other (by omega)).trans (s.frame j hj hn) }

/-- A block is turned, and turned back. -/
theorem Step.around {k : Nat} {o o1 : Obj} (hk : w.heap[k]? = some o) (s : Step lo ρ D H (w.putObj k o1) ρ' D' H' w') (hw : k < w'.heap.size) : Step lo ρ D H w ρ' D' H' (w'.putObj k o) where
  old := s.old
  new := s.new
  ghost := s.ghost
  low := s.low
  next := s.next
  wr := s.wr
  fresh := fun id o' hd hn hg hw => by have := s.fresh id o' hd hn hg hw; rwa [World.putObj_size] at this
  os := s.os
  tape := s.tape
  output := s.output
  froz := fun ad hlt => by
    by_cases e : ad.block = k
    · simp only [World.frozen?, e, World.putObj_heap_same hw, hk]
    · rw [frozen_putObj e, s.froz ad (by rw [World.putObj_size]; exact hlt), frozen_putObj e]
  size := by rw [World.putObj_size]; have := s.size; rwa [World.putObj_size] at this
  frame := fun j hj hn => by
    by_cases e : j = k
    · subst e; rw [World.putObj_heap_same hw, hk]
    · rw [World.putObj_heap_other e, s.frame j (by rw [World.putObj_size]; exact hj) hn, World.putObj_heap_other e]
end

theorem odd_loop (r : Loop) : Odd (.loop r) := ⟨fun _ _ _ h => (by cases h), fun _ _ h => (by cases h)⟩
theorem odd_deferred (d : Option (List Deferred)) : Odd (.deferred d) := ⟨fun _ _ _ h => (by cases h), fun _ _ h => (by cases h)⟩

/-! ### A round -/
def putsE : Env → List Nat → List AVal → Env
  | e, p :: ps, v :: vs => putsE (e.put p v) ps vs
  | e, _, _ => e

/-- The loop's body, as what yield comes to. -/
noncomputable def runY (ex : Nat → ICode → Env → AHeap → Option (AExit × Env × AHeap)) (lo : Nat) (ia ib : ICode) (ps : List Nat) (e : Env) (vs : List AVal) (H : AHeap) : Option (AVal × AHeap) :=
  if vs.length = ps.length then
    match ex lo ia (putsE e ps vs) H with
    | some (.normal, e1, H1) => match ex lo ib e1 H1 with
      | some (.normal, _, H2) => some (.b true, H2)
      | _ => none
    | _ => none
  else none

section
variable {P : Program} {G : AHeap} {lo : Nat}

theorem puts_sim {ds : List Deferred} {nt : Nat} {ρ : Ren} {D : Nat → Prop} : ∀ (ps : List Nat) (vs : List AVal) (e : Env) (a : Act), vs.length = ps.length → (∀ p ∈ ps, p < nt) → ARel ds ρ D nt e a → okL ρ D vs →
    ARel ds ρ D nt (putsE e ps vs) { tmps := (ps.zip (renL ρ vs)).foldl (fun t (p, v) => t.setIfInBounds p v) a.tmps, defers := a.defers }
  | [], [], e, a, _, _, h, _ => h
  | p :: ps, v :: vs, e, a, hl, hp, h, hv => by
    simp only [okL] at hv
    have h1 := h.put (t := p) (v := v) (hp p (List.mem_cons_self ..)) hv.1
    exact puts_sim ps vs (e.put p v) (a.put (some p) (ren ρ v)) (by simpa using hl) (fun q hq => hp q (List.mem_cons_of_mem _ hq)) h1 hv.2
  | [], _ :: _, _, _, hl, _, _, _ => by simp at hl
  | _ :: _, [], _, _, hl, _, _, _ => by simp at hl

/-- What a call of yield comes to, from some world on. -/
def YOK (P : Program) (G : AHeap) (lo l : Nat) (ρ0 : Ren) (D0 : Nat → Prop) (H0 : AHeap) (w0 : World) (Y : List AVal → AHeap → Option (AVal × AHeap)) : Prop :=
  ∀ (vs : List AVal) (H : AHeap) (r : AVal) (H' : AHeap), Y vs H = some (r, H') → ∀ (ρ : Ren) (D : Nat → Prop) (w : World), HRel G ρ D H w → Step lo ρ0 D0 H0 w0 ρ D H w → okL ρ D vs → ∀ m : Nat,
    YieldAt (FR none) m P l (renL ρ vs).toArray w fun e w' => ∃ ρ' D', e = .returned (ren ρ' r) ∧ Step lo ρ D H w ρ' D' H' w' ∧ HRel G ρ' D' H' w' ∧ ok ρ' D' r

theorem round_ok {IP : FuncId → Option IFunc} {F : Nat} (hex : ExecOK P IP G F) (hg : G.next = P.globals.size) (hgo : GOk G) (hlo : G.next ≤ lo) {nt l fn : Nat} {tmps : Array Value} {ps : Array Tmp} {assign body : Code} {dk : Nat}
    {hsA hsA' hsB hsB' : List Hint} {ia ib : ICode} (hA : trCode P nt assign hsA = some (ia, hsA')) (hB : trCode P nt body hsB = some (ib, hsB')) (hps : ∀ p ∈ ps.toList, p < nt)
    {ρ0 : Ren} {D0 : Nat → Prop} {H0 : AHeap} {w0 : World} (h0 : HRel G ρ0 D0 H0 w0) {e : Env} (har : ARel [] ρ0 D0 nt e { tmps := tmps, defers := [] })
    (hl : w0.heap[l]? = some (.loop { state := .ready, pending := none, fn := fn, tmps := tmps, params := ps, assign := assign, body := body, defers := dk })) :
    YOK P G lo l ρ0 D0 H0 w0 (runY (exec IP G F) lo ia ib ps.toList e) := by
  intro vs H r H' hY ρ D w hrel hst hv m
  unfold runY at hY
  split at hY
  · rename_i hlen
    split at hY
    · rename_i e1 H1 hx1
      split at hY
      · rename_i e2 H2 hx2
        cases hY
        have hlw := hst.keeps h0 hl (odd_loop _)
        have har1 : ARel [] ρ D nt e { tmps := tmps, defers := [] } := har.step hst
        have har2 := puts_sim ps.toList vs e _ hlen hps har1 hv
        have hsz : (renL ρ vs).toArray.size = ps.size := by simp [renL_length, hlen]
        refine ⟨fn, _, assign, body, run_yield hlw hsz, roundIn_of_wpIn trivial ?_⟩
        have hfold : (ps.zip (renL ρ vs).toArray).foldl (fun t (x : Tmp × Value) => t.setIfInBounds x.1 x.2) tmps = (ps.toList.zip (renL ρ vs)).foldl (fun t (x : Nat × Value) => t.setIfInBounds x.1 x.2) tmps := by
          rw [← Array.foldl_toList, Array.toList_zip]
        show assign.wpIn (FR (some l)) m P _ _ w
        refine hex (some l) m [] nt lo hlo assign hsA ia hsA' hA ρ D (putsE e ps.toList vs) _ H w ⟨hg, hgo, hrel, ?_⟩ .normal e1 H1 hx1 _ ?_
        · have : { tmps := (ps.zip (renL ρ vs).toArray).foldl (fun t (x : Tmp × Value) => t.setIfInBounds x.1 x.2) tmps, defers := [] } = ({ tmps := (ps.toList.zip (renL ρ vs)).foldl (fun t (x : Nat × Value) => t.setIfInBounds x.1 x.2) tmps, defers := [] } : Act) := by rw [hfold]
          rw [this]; exact har2
        intro ρ1 D1 a1 w1 s1 r1 k1
        have hl1 := s1.keeps hrel hlw (odd_loop _)
        have hlt1 := (Array.getElem?_eq_some_iff.1 hl1).1
        refine ⟨_, run_beginRound hl1 rfl, ?_⟩
        have r1' := r1.putOdd hl1 (odd_loop _) (.loop { state := .busy, pending := none, fn := fn, tmps := tmps, params := ps, assign := assign, body := body, defers := dk })
        refine hex (some l) m [] nt lo hlo body hsB ib hsB' hB ρ1 D1 e1 a1 H1 _ ⟨hg, hgo, r1', k1⟩ .normal e2 _ hx2 _ ?_
        intro ρ2 D2 a2 w2 s2 r2 k2
        have hl2 := s2.keeps r1' (World.putObj_heap_same hlt1) (odd_loop _)
        have hlt2 := (Array.getElem?_eq_some_iff.1 hl2).1
        refine ⟨_, _, run_endRound none hl2, ρ2, D2, rfl, ?_, r2.putOdd hl2 (odd_loop _) _, by simp [ok]⟩
        exact s1.trans (Step.around hl1 s2 hlt2)
      · cases hY
    · cases hY
  · cases hY
end

/-! ### The iterator's own code -/
/-- An operation, where a call of yield comes to what is told. -/
noncomputable def opY (Y : List AVal → AHeap → Option (AVal × AHeap)) (l : Nat) (call : CallI) (lo : Nat) (o : IOp) (e : Env) (H : AHeap) : Option (Option AVal × AHeap) :=
  match o with
  | .callv x args => match x.eval e with
    | some (.fn (.yield k) [] []) => if k = l then (match evals e args with
      | some vs => match Y vs H with
        | some (v, H') => some (some v, H')
        | none => none
      | none => none) else none
    | _ => opI call lo (.callv x args) e H
  | o => opI call lo o e H

noncomputable def itemY (Y : List AVal → AHeap → Option (AVal × AHeap)) (l : Nat) (call : CallI) (lo : Nat) (x : Item) (e : Env) (H : AHeap) : Option (Env × AHeap) :=
  match wantedI e x.guard with
  | none => none
  | some false => some (putD e x.dst (.tu []), H)
  | some true => match opY Y l call lo x.op e H with
    | some (some v, H') => some (putD e x.dst v, H')
    | some (none, H') => some (putD e x.dst (.tu []), H')
    | none => none

noncomputable def itemsY (Y : List AVal → AHeap → Option (AVal × AHeap)) (l : Nat) (call : CallI) (lo : Nat) : List Item → Env → AHeap → Option (Env × AHeap)
  | [], e, H => some (e, H)
  | x :: xs, e, H => match itemY Y l call lo x e H with
    | some (e', H') => itemsY Y l call lo xs e' H'
    | none => none

def isV : IOp → Bool
  | .callv _ _ => true
  | _ => false
def hasV (xs : List Item) : Bool := xs.any fun x => isV x.op

noncomputable def execY (Y : List AVal → AHeap → Option (AVal × AHeap)) (l : Nat) (call : CallI) (lo : Nat) : Nat → ICode → Env → AHeap → Option (AExit × Env × AHeap)
  | 0, _, _, _ => none
  | f + 1, c, e, H =>
    match c with
    | .skip => some (.normal, e, H)
    | .region items kill => match (if hasV items then itemsY Y l call lo items e H else itemsI call lo items e H) with
      | some (e', H') => some (.normal, e'.kill kill, H')
      | none => none
    | .seq a b => match execY Y l call lo f a e H with
      | some (.normal, e', H') => execY Y l call lo f b e' H'
      | r => r
    | .cond x a b => match x.eval e with
      | some (.b true) => execY Y l call lo f a e H
      | some (.b false) => execY Y l call lo f b e H
      | _ => none
    | .block id b => match execY Y l call lo f b e H with
      | some (.exit id', e', H') => if id' = id then some (.normal, e', H') else some (.exit id', e', H')
      | r => r
    | .loop b => match execY Y l call lo f b e H with
      | some (.normal, e', H') => execY Y l call lo f (.loop b) e' H'
      | r => r
    | .exit id => some (.exit id, e, H)
    | .ret => some (.ret, e, H)

/-- Where an order is drawn no function value is called. -/
def noDV : Code → Bool
  | .region _ ops draw => !draw || ops.all fun o => match o.op with
    | .call c => (match c.callee with
      | .value (.func _) => true
      | .value _ => false
      | _ => true)
    | _ => true
  | .seq a b => noDV a && noDV b
  | .cond _ a b => noDV a && noDV b
  | .block _ b => noDV b
  | .loop b => noDV b
  | .scope b => noDV b
  | _ => true

section
variable {ds : List Deferred} {P : Program} {G : AHeap} {lo l n : Nat} {ρ : Ren} {D : Nat → Prop} {e : Env} {a : Act} {H : AHeap} {w : World} {m : Nat}
variable {ρ0 : Ren} {D0 : Nat → Prop} {H0 : AHeap} {w0 : World} {Y : List AVal → AHeap → Option (AVal × AHeap)} {call : CallI}

theorem opY_sim (hc : CallOK P G lo call) (hY : YOK P G lo l ρ0 D0 H0 w0 Y) (r : Rel P G ds ρ D n e a H w) (h0 : Step lo ρ0 D0 H0 w0 ρ D H w) (hlo : G.next ≤ lo) {o : Oper} {io : IOp} (ho : trOpC P o = some io) {v : Option AVal} {H' : AHeap} (hs : opY Y l call lo io e H = some (v, H'))
    {next : Act → World → Prop} {Q : Exit → Act → World → Prop}
    (h : ∀ ρ' D' w', Step lo ρ D H w ρ' D' H' w' → HRel G ρ' D' H' w' → ok ρ' D' (v.getD (.tu [])) → next (a.put o.dst (ren ρ' (v.getD (.tu [])))) w') : o.wpIn (FR none) m P a w next Q := by
  have plain : opI call lo io e H = some (v, H') → o.wpIn (FR none) m P a w next Q := fun hop => opC_sim hc r hlo ho hop fun ρ' D' w' g1 g2 g3 _ => h ρ' D' w' g1 g2 g3
  unfold opY at hs
  split at hs
  · rename_i x args
    split at hs
    · rename_i k hx
      split at hs
      · rename_i hk
        subst hk
        split at hs
        · rename_i vs hvs
          split at hs
          · rename_i u H1 hy
            cases hs
            have hd := trOpC_nd ho (by intro h; cases h)
            -- what is called
            have ho2 := ho
            unfold trOpC at ho2
            split at ho2
            · rename_i io' hio
              split at ho2
              · rename_i hisc
                cases ho2
                simp [IOp.isC] at hisc
              · cases ho2
            · split at ho2
              · rename_i c hop
                split at ho2
                · rename_i io0 hio0
                  cases ho2
                  unfold trCall at hio0
                  split at hio0
                  · rw [Option.map_eq_some_iff] at hio0
                    obtain ⟨_, _, hh⟩ := hio0; cases hh
                  · rename_i xx hne hcal
                    split at hio0
                    · rename_i x' l' hx' hl'
                      cases hio0
                      obtain ⟨g1, g2⟩ := opds_sim r hl' hvs
                      obtain ⟨g3, _⟩ := opd_sim r hx' hx
                      have harr : c.args.map a.eval = (renL ρ vs).toArray := by apply Array.ext'; rw [Array.toList_map, g1]
                      obtain ⟨fn, tmps, assign, body, hyr, hround⟩ := hY vs H u _ hy ρ D w r.heap h0 g2 (m - 1)
                      refine ⟨fun _ _ => trivial, ?_⟩
                      rw [Oper.semAt_eq _ _ _ hd]
                      have hrun : (execOp a.eval o).run P w = (Instr.yield k (renL ρ vs).toArray).run P w := by
                        simp [execOp, hop, resolve, hcal, g3, ren, Deferred.ofValue, invoke, harr, renL]
                      rw [hrun, hyr, Oper.uponIn_round]
                      refine ⟨fun h => by simp [FR, Fence.wide] at h, hround.mono ?_⟩
                      rintro en w' ⟨ρ', D', rfl, k1, k2, k3⟩
                      exact h ρ' D' w' k1 k2 k3
                    · cases hio0
                  · split at hio0
                    · cases hio0
                    · cases hio0
                  · cases hio0
                · cases ho2
              · cases ho2
          · cases hs
        · cases hs
      · cases hs
    · exact plain hs
  · exact plain hs

theorem itemsY_sim (hc : CallOK P G lo call) (hY : YOK P G lo l ρ0 D0 H0 w0 Y) (hlo : G.next ≤ lo) {ops : Array Oper} {Q : Exit → Act → World → Prop} : ∀ (os : List Oper) (k : Nat) (xs : List Item), (∀ j o, os[j]? = some o → ops[k + j]? = some o) →
    trItems P n ops os = some xs → ∀ (ρ : Ren) (D : Nat → Prop) (e : Env) (a : Act) (H : AHeap) (w : World) (e' : Env) (H' : AHeap), Rel P G ds ρ D n e a H w → Step lo ρ0 D0 H0 w0 ρ D H w → itemsY Y l call lo xs e H = some (e', H') →
    (∀ ρ' D' a' w', Step lo ρ D H w ρ' D' H' w' → HRel G ρ' D' H' w' → ARel ds ρ' D' n e' a' → Q .normal a' w') → wpOpsIn (FR none) m P ops Q (List.range' k os.length) a w := by
  intro os
  induction os with
  | nil =>
    intro k xs _ hx ρ D e a H w e' H' r _ hs h
    simp only [trItems, Option.some.injEq] at hx; subst hx
    simp only [itemsY, Option.some.injEq, Prod.mk.injEq] at hs
    obtain ⟨rfl, rfl⟩ := hs
    simp only [List.length_nil, List.range'_zero, wpOpsIn]
    exact h ρ D a w (Step.refl lo ρ D H w r.heap.lt) r.heap r.slots
  | cons o os ih =>
    intro k xs hal hx ρ D e a H w e' H' r h0 hs h
    simp only [trItems] at hx
    split at hx
    · rename_i x xs' hxi hxs
      cases hx
      unfold trItem at hxi
      split at hxi
      · rename_i io g hio hg
        split at hxi
        · rename_i hdst
          cases hxi
          simp only [itemsY] at hs
          split at hs
          · rename_i e1 H1 hitem
            have hok : ops[k]? = some o := by have := hal 0 o rfl; simpa using this
            have hal' : ∀ j o', os[j]? = some o' → ops[k + 1 + j]? = some o' := fun j o' hj => by
              have := hal (j + 1) o' (by simpa using hj)
              rw [← this]; congr 1; omega
            simp only [List.length_cons, List.range'_succ, wpOpsIn, hok]
            simp only [itemY] at hitem
            split at hitem
            · cases hitem
            · rename_i hw
              cases hitem
              rw [guard_sim r.slots hg hw]
              simp only [Bool.false_eq_true, if_false]
              have r1 : ARel ds ρ D n (putD e o.dst (.tu [])) (a.put o.dst undef) := put_sim r.slots hdst (v := .tu []) (by simp [ok, okL])
              exact ⟨fun _ _ => trivial, ih (k + 1) xs' hal' hxs ρ D _ _ H w e' H' ⟨r.gsize, r.gok, r.heap, r1⟩ h0 hs h⟩
            · rename_i hw
              rw [guard_sim r.slots hg hw]
              simp only [if_true]
              have fin : ∀ (v : Option AVal), opY Y l call lo io e H = some (v, H1) → e1 = putD e o.dst (v.getD (.tu [])) → o.wpIn (FR none) m P a w (wpOpsIn (FR none) m P ops Q (List.range' (k + 1) os.length)) Q := by
                intro v hop he1
                refine opY_sim hc hY r h0 hlo hio hop ?_
                intro ρ' D' w' hst hrel hvok
                have r1 : ARel ds ρ' D' n e1 (a.put o.dst (ren ρ' (v.getD (.tu [])))) := by rw [he1]; exact put_sim (r.slots.step hst) hdst hvok
                exact ih (k + 1) xs' hal' hxs ρ' D' e1 _ H1 w' e' H' ⟨r.gsize, r.gok, hrel, r1⟩ (h0.trans hst) hs
                  (fun ρ2 D2 a2 w2 hst2 hrel2 har2 => h ρ2 D2 a2 w2 (hst.trans hst2) hrel2 har2)
              split at hitem
              · rename_i v H2 hop
                cases hitem
                exact fin (some v) hop rfl
              · rename_i H2 hop
                cases hitem
                exact fin none hop rfl
              · cases hitem
          · cases hs
        · cases hxi
      · cases hxi
    · cases hx

/-- A region that leaves its order open, without a call of a function value. -/
theorem draw_noV {nt : Nat} {ops : Array Oper} {order : List Nat} {xs : List Item} (hx : trDraws P nt ops order = some xs) (hn : noDV (.region 0 ops true) = true) : hasV xs = false := by
  cases hv : hasV xs with
  | false => rfl
  | true =>
    exfalso
    unfold hasV at hv
    rw [List.any_eq_true] at hv
    obtain ⟨x, hxm, hxv⟩ := hv
    obtain ⟨_, o, io, ho, hio, hxop, _⟩ := draws_item hx hxm
    have hiov : isV io = true := by
      rw [hxop] at hxv
      cases io <;> first | exact hxv | (simp [IOp.quiet, isV] at hxv)
    simp only [noDV, Bool.not_true, Bool.false_or, Array.all_eq_true'] at hn
    have hom : o ∈ ops := Array.mem_of_getElem? ho
    have hno := hn o hom
    unfold trOpC at hio
    split at hio
    · rename_i io' _
      split at hio
      · rename_i hisc
        cases hio
        cases io <;> simp [isV, IOp.isC] at hiov hisc
      · cases hio
    · split at hio
      · rename_i c hop
        rw [hop] at hno
        split at hio
        · rename_i io0 hio0
          cases hio
          unfold trCall at hio0
          split at hio0
          · rw [Option.map_eq_some_iff] at hio0
            obtain ⟨_, _, hh⟩ := hio0
            rw [← hh] at hiov; simp [isV] at hiov
          · rename_i y hne hcal
            simp only [hcal] at hno
            first
              | cases hno
              | (split at hno
                 · rename_i f; exact hne f rfl
                 · cases hno
                 · rename_i hh; exact hh _ rfl)
          · split at hio0
            · cases hio0; simp [isV] at hiov
            · cases hio0
          · cases hio0
        · cases hio; simp [isV] at hiov
      · cases hio; simp [isV] at hiov

theorem execY_sim (hm : P.follows .mixedOrders = true) (hg : G.next = P.globals.size) (hgo : GOk G) (hlo : G.next ≤ lo) (hc : CallOK P G lo call) (hY : YOK P G lo l ρ0 D0 H0 w0 Y) : ∀ f,
    (∀ (m : Nat) (ds : List Deferred) (nt : Nat) (c : Code) (hs : List Hint) (ic : ICode) (hs' : List Hint), trCode P nt c hs = some (ic, hs') → noDV c = true → ∀ (ρ : Ren) (D : Nat → Prop) (e : Env) (a : Act) (H : AHeap) (w : World), Rel P G ds ρ D nt e a H w → Step lo ρ0 D0 H0 w0 ρ D H w →
      ∀ (x : AExit) (e' : Env) (H' : AHeap), execY Y l call lo f ic e H = some (x, e', H') → ∀ (Q : Exit → Act → World → Prop),
      (∀ ρ' D' a' w', Step lo ρ D H w ρ' D' H' w' → HRel G ρ' D' H' w' → ARel ds ρ' D' nt e' a' → Q x.conc a' w') → c.wpIn (FR none) m P Q a w) ∧
    (∀ (m : Nat) (ds : List Deferred) (nt : Nat) (c : Code) (hs : List Hint) (ic : ICode) (hs' : List Hint), trCode P nt c hs = some (ic, hs') → noDV c = true → ∀ (ρ : Ren) (D : Nat → Prop) (e : Env) (a : Act) (H : AHeap) (w : World), Rel P G ds ρ D nt e a H w → Step lo ρ0 D0 H0 w0 ρ D H w →
      ∀ (x : AExit) (e' : Env) (H' : AHeap), execY Y l call lo f (.loop ic) e H = some (x, e', H') → ∀ (Q : Exit → Act → World → Prop),
      (∀ ρ' D' a' w', Step lo ρ D H w ρ' D' H' w' → HRel G ρ' D' H' w' → ARel ds ρ' D' nt e' a' → Q x.conc a' w') → Code.roundsIn (FR none) m P c Q f a w) := by
  intro f
  induction f with
  | zero =>
    refine ⟨?_, ?_⟩
    · intro m ds nt c hs ic hs' hc ho ρ D e a H w r s0 x e' H' h; simp [execY] at h
    · intro m ds nt c hs ic hs' hc ho ρ D e a H w r s0 x e' H' h; simp [execY] at h
  | succ f ih =>
    obtain ⟨ihe, ihr⟩ := ih
    refine ⟨?_, ?_⟩
    · intro m ds nt c hs ic hs' hct ho ρ D e a H w r s0 x e' H' h Q hQ
      cases c <;> simp only [trCode] at hct <;> simp only [noDV, Bool.and_eq_true] at ho
      case skip =>
        split at hct
        · cases hct
        · cases hct
          simp only [execY] at h
          cases h
          exact wpIn_skip (hQ ρ D a w (Step.refl lo ρ D H w r.heap.lt) r.heap r.slots)
        · rename_i kill hs2 _
          cases hct
          simp only [execY, hasV, List.any_nil, Bool.false_eq_true, if_false, itemsI] at h
          cases h
          exact wpIn_skip (hQ ρ D a w (Step.refl lo ρ D H w r.heap.lt) r.heap (r.slots.kill _))
      case region id ops draw =>
        split at hct
        · cases hct
        · rename_i order kill hs2
          split at hct
          · rename_i xs hxs
            cases hct
            simp only [execY] at h
            split at h
            · rename_i e1 H1 hit
              cases h
              cases hv : hasV xs with
              | false =>
                rw [hv] at hit
                simp only [Bool.false_eq_true, if_false] at hit
                exact draw_or hm hc hlo hxs r hit fun ρ' D' a' w' g1 g2 g3 => hQ ρ' D' a' w' g1 g2 (g3.kill kill)
              | true =>
                rw [hv] at hit
                simp only [if_true] at hit
                cases draw with
                | true =>
                  simp only [if_true] at hxs
                  rw [draw_noV hxs (by simpa [noDV] using ho)] at hv; cases hv
                | false =>
                  simp only [Bool.false_eq_true, if_false] at hxs
                  refine wpIn_region ?_
                  have := itemsY_sim hc hY hlo (ops := ops) (Q := Q) (m := m) ops.toList 0 xs (fun j o hj => by simpa using hj) hxs ρ D e a H w e1 _ r s0 hit fun ρ' D' a' w' g1 g2 g3 => hQ ρ' D' a' w' g1 g2 (g3.kill kill)
                  simpa [List.range_eq_range'] using this
            · cases h
          · cases hct
      case seq ca cb =>
        split at hct
        · rename_i ia hs1 h1
          split at hct
          · rename_i ib hs2 h2
            cases hct
            simp only [execY] at h
            refine wpIn_seq ?_
            split at h
            · rename_i e1 H1 hx
              refine ihe m ds nt ca hs ia hs1 h1 ho.1 ρ D e a H w r s0 .normal e1 H1 hx _ fun ρ' D' a' w' g1 g2 g3 => ?_
              refine ihe m ds nt cb hs1 ib hs' h2 ho.2 ρ' D' e1 a' H1 w' ⟨hg, hgo, g2, g3⟩ (s0.trans g1) x e' H' h Q fun ρ2 D2 a2 w2 k1 k2 k3 => hQ ρ2 D2 a2 w2 (g1.trans k1) k2 k3
            · rename_i hne
              refine ihe m ds nt ca hs ia hs1 h1 ho.1 ρ D e a H w r s0 x e' H' h _ fun ρ' D' a' w' g1 g2 g3 => ?_
              have := hQ ρ' D' a' w' g1 g2 g3
              cases x with
              | normal => exact (hne _ _ h).elim
              | exit id => exact this
              | ret => exact this
          · cases hct
        · cases hct
      case cond co ca cb =>
        split at hct
        · rename_i ic' ia hs1 h0 h1
          split at hct
          · rename_i ib hs2 h2
            cases hct
            simp only [execY] at h
            split at h
            · rename_i hv
              obtain ⟨g1, _⟩ := opd_sim r h0 hv
              exact wpIn_cond_true (by rw [g1]; rfl) (ihe m ds nt ca hs ia hs1 h1 ho.1 ρ D e a H w r s0 x e' H' h Q hQ)
            · rename_i hv
              obtain ⟨g1, _⟩ := opd_sim r h0 hv
              exact wpIn_cond_false (by rw [g1]; rfl) (ihe m ds nt cb hs1 ib hs' h2 ho.2 ρ D e a H w r s0 x e' H' h Q hQ)
            · cases h
          · cases hct
        · cases hct
      case block id cb =>
        split at hct
        · rename_i ib hs1 h1
          cases hct
          simp only [execY] at h
          refine wpIn_block ?_
          split at h
          · rename_i id' e1 H1 hx
            refine ihe m ds nt cb hs ib hs' h1 ho ρ D e a H w r s0 (.exit id') e1 H1 hx _ fun ρ' D' a' w' g1 g2 g3 => ?_
            show (if id' = id then Q .normal a' w' else Q (.exit id') a' w')
            split at h
            · rename_i hid
              cases h
              rw [if_pos hid]
              exact hQ ρ' D' a' w' g1 g2 g3
            · rename_i hid
              cases h
              rw [if_neg hid]
              exact hQ ρ' D' a' w' g1 g2 g3
          · rename_i hne
            refine ihe m ds nt cb hs ib hs' h1 ho ρ D e a H w r s0 x e' H' h _ fun ρ' D' a' w' g1 g2 g3 => ?_
            have := hQ ρ' D' a' w' g1 g2 g3
            cases x with
            | normal => exact this
            | exit id' => exact (hne _ _ _ h).elim
            | ret => exact this
        · cases hct
      case loop cb =>
        split at hct
        · rename_i ib hs1 h1
          cases hct
          refine wpIn_loop_rounds (f + 1) ?_
          show cb.wpIn (FR none) m P (Exit.then (Code.roundsIn (FR none) m P cb Q f) Q) a w
          simp only [execY] at h
          split at h
          · rename_i e1 H1 hx
            refine ihe m ds nt cb hs ib hs' h1 ho ρ D e a H w r s0 .normal e1 H1 hx _ fun ρ' D' a' w' g1 g2 g3 => ?_
            refine ihr m ds nt cb hs ib hs' h1 ho ρ' D' e1 a' H1 w' ⟨hg, hgo, g2, g3⟩ (s0.trans g1) x e' H' h Q fun ρ2 D2 a2 w2 k1 k2 k3 => hQ ρ2 D2 a2 w2 (g1.trans k1) k2 k3
          · rename_i hne
            refine ihe m ds nt cb hs ib hs' h1 ho ρ D e a H w r s0 x e' H' h _ fun ρ' D' a' w' g1 g2 g3 => ?_
            have := hQ ρ' D' a' w' g1 g2 g3
            cases x with
            | normal => exact (hne _ _ h).elim
            | exit id => exact this
            | ret => exact this
        · cases hct
      case exit id =>
        cases hct
        simp only [execY] at h
        cases h
        exact wpIn_exit (hQ ρ D a w (Step.refl lo ρ D H w r.heap.lt) r.heap r.slots)
      case ret =>
        cases hct
        simp only [execY] at h
        cases h
        exact wpIn_ret (hQ ρ D a w (Step.refl lo ρ D H w r.heap.lt) r.heap r.slots)
      case scope cb =>
        split at hct
        · rename_i ib hs1 h1
          cases hct
          simp only [execY] at h
          have h' : execY Y l call lo f ib e H = some (x, e', H') := by
            cases f with
            | zero => simp [execY] at h
            | succ f => simpa [execY] using h
          refine wpIn_scope_straight (ihe m ds nt cb hs ib hs' h1 ho ρ D e a H w r s0 x e' H' h' _ fun ρ' D' a' w' g1 g2 g3 => ?_)
          have := hQ ρ' D' a' w' g1 g2 g3
          cases x <;> exact this
        · cases hct
      case label ll =>
        cases hct
        simp only [execY] at h
        cases h
        exact wpIn_label (hQ ρ D a w (Step.refl lo ρ D H w r.heap.lt) r.heap r.slots)
      all_goals cases hct
    · intro m ds nt cb hs ib hs' h1 ho ρ D e a H w r s0 x e' H' h Q hQ
      show cb.wpIn (FR none) m P (Exit.then (Code.roundsIn (FR none) m P cb Q f) Q) a w
      simp only [execY] at h
      split at h
      · rename_i e1 H1 hx
        refine ihe m ds nt cb hs ib hs' h1 ho ρ D e a H w r s0 .normal e1 H1 hx _ fun ρ' D' a' w' g1 g2 g3 => ?_
        refine ihr m ds nt cb hs ib hs' h1 ho ρ' D' e1 a' H1 w' ⟨hg, hgo, g2, g3⟩ (s0.trans g1) x e' H' h Q fun ρ2 D2 a2 w2 k1 k2 k3 => hQ ρ2 D2 a2 w2 (g1.trans k1) k2 k3
      · rename_i hne
        refine ihe m ds nt cb hs ib hs' h1 ho ρ D e a H w r s0 x e' H' h _ fun ρ' D' a' w' g1 g2 g3 => ?_
        have := hQ ρ' D' a' w' g1 g2 g3
        cases x with
        | normal => exact (hne _ _ h).elim
        | exit id => exact this
        | ret => exact this
end
end Go.RI

/-! ### The loop -/
namespace Go.RI
open Go
section
variable {P : Program} {G : AHeap} {lo : Nat} {ds : List Deferred} {ρ : Ren} {D : Nat → Prop} {nt : Nat} {e : Env} {a : Act} {H : AHeap} {w : World} {m : Nat}

theorem range_sim (hm : P.follows .mixedOrders = true) {IP : FuncId → Option IFunc} {F : Nat} (hex : ExecOK P IP G F) (hc : CallOK P G lo (callI (exec IP G F) IP G lo)) (hlo : G.next ≤ lo)
    {g : Operand} {x' : Opd} {ps : Array Tmp} {assign body : Code} {gf : FuncId} {caps : List AVal} {gfn : Func} {gc : Code} {gic : ICode} {hsG hsG' hsA hsA' hsB hsB' : List Hint} {ia ib : ICode} {rs : List IRes}
    (r : Rel P G ds ρ D nt e a H w) (hx : trOpd P g = some x') (hv : x'.eval e = some (.fn (.func gf) [] caps))
    (hf : P.funcs[gf]? = some gfn) (hb : gfn.body = some gc) (hname : (gfn.name == "runtime.NumGoroutine") = false) (hG : trCode P gfn.ntmps gc hsG = some (gic, hsG')) (hn : noDV gc = true) (hres : trRes P gfn.results.toList = some rs) (hlen : caps.length + 1 ≤ gfn.ntmps)
    (hA : trCode P nt assign hsA = some (ia, hsA')) (hB : trCode P nt body hsB = some (ib, hsB')) (hps : ∀ p ∈ ps.toList, p < nt)
    {H' : AHeap} (hrun : ∀ l, ∃ F' x eg vs, execY (runY (exec IP G F) lo ia ib ps.toList e) l (callI (exec IP G F) IP G lo) lo F' gic (initEnv 0 (.fn (.yield l) [] [] :: caps)) H = some (x, eg, H') ∧ (x = .normal ∨ x = .ret) ∧ resI eg H' rs = some vs)
    {Q : Exit → Act → World → Prop}
    (h : ∀ ρ' D' a' w' Dk, Step lo ρ D H w ρ' D' H' w' → HRel G ρ' D' H' w' → ARel ({ target := .collected Dk, args := #[] } :: ds) ρ' D' nt e a' → w.heap.size ≤ Dk → w'.heap[Dk]? = some (.deferred (some [])) → Q .normal a' w') :
    (Code.rangeFunc g ps assign body).wpIn (FR none) m P Q a w := by
  refine wpIn_rangeFunc ?_
  intro fn _
  obtain ⟨rec, hrec⟩ : ∃ rec : Loop, rec = { state := .ready, pending := none, fn := fn, tmps := a.tmps, params := ps, assign := assign, body := body, defers := w.heap.size } := ⟨_, rfl⟩
  obtain ⟨W1, hW1⟩ : ∃ W1, (w.alloc (.deferred (some []))).alloc (.loop rec) = W1 := ⟨_, rfl⟩
  obtain ⟨s1, r1⟩ := alloc_odd (lo := lo) r.heap (.deferred (some []))
  obtain ⟨s2, r2⟩ := alloc_odd (lo := lo) r1 (.loop rec)
  rw [hW1] at s2 r2
  have hL1 : W1.heap[w.heap.size + 1]? = some (.loop rec) := by
    rw [← hW1]; have := World.alloc_heap_new (w.alloc (.deferred (some []))) (.loop rec); rwa [World.size_alloc] at this
  have hK1 : W1.heap[w.heap.size]? = some (.deferred (some [])) := by
    rw [← hW1]; exact (RowKit.Below.heap_alloc _ _ _ (by simp)).trans (World.alloc_heap_new w _)
  obtain ⟨ha, hok⟩ := opd_sim r hx hv
  simp only [ren, renL] at ha
  simp only [ok] at hok
  obtain ⟨lb, hlb⟩ : ∃ lb, lb = (renL ρ caps).toArray := ⟨_, rfl⟩
  rw [← hlb] at ha
  have eg : ∀ args w, (callFunc gf args).run P w = .ok (.enter gf args) w := fun args w => run_callFunc hf (by rw [hb]; rfl) hname args
  refine ⟨w.heap.size + 1, [{ target := .collected w.heap.size, args := #[] }], W1, { target := .fn (.func gf) lb, args := #[.func (.yield (w.heap.size + 1)) #[] #[]] }, W1, gf,
    #[.func (.yield (w.heap.size + 1)) #[] #[]] ++ lb, W1, ?_, ?_, fun _ _ => trivial, ?_, fun h => by simp [FR, Fence.wide] at h, ?_⟩
  · rw [← hW1, hrec]; exact run_enterLoop_outer _ _ _ _ _
  · simp only [resolve, ha]
    simp [go_sem]
  · simp [invoke, go_sem, eg]
  · have hargs : #[.func (.yield (w.heap.size + 1)) #[] #[]] ++ lb = (renL ρ (.fn (.yield (w.heap.size + 1)) [] [] :: caps)).toArray := by
      rw [hlb]; simp [renL, ren]
    rw [hargs]
    have har0 : ARel [] ρ D nt e { tmps := a.tmps, defers := [] } := ⟨r.slots.size, rfl, r.slots.get⟩
    have hrec1 := hL1
    rw [hrec] at hrec1
    have hY := round_ok (lo := lo) hex r.gsize r.gok hlo hA hB hps r2 har0 hrec1
    obtain ⟨F', x, eg', vs, hx1, hx2, hx3⟩ := hrun (w.heap.size + 1)
    refine callsIn_of_wp hf hb trivial ?_ rfl
    have hokA : okL ρ D (.fn (.yield (w.heap.size + 1)) [] [] :: caps) := by simp only [okL, ok]; exact ⟨⟨trivial, trivial⟩, hok.2⟩
    have hend : ∀ ρ3 D3 a3 w3, Step lo ρ D H W1 ρ3 D3 H' w3 → HRel G ρ3 D3 H' w3 → ARel [] ρ3 D3 gfn.ntmps eg' a3 →
        a3.defers = [] ∧ ∃ v, (results gfn a3.tmps).run P w3 = .ok v w3 ∧ rangePost (FR none) m P (w.heap.size + 1) Q { a with defers := [{ target := .collected w.heap.size, args := #[] }] ++ a.defers } (.returned v) w3 := by
      intro ρ3 D3 a3 w3 s3 r3 k3
      obtain ⟨_, hr⟩ := results_sim (nt := gfn.ntmps) ⟨r.gsize, r.gok, r3, k3⟩ hres hx3
      have hl3 := s3.keeps r2 hL1 (odd_loop _)
      have hk3 := s3.keeps r2 hK1 (odd_deferred _)
      refine ⟨k3.defers, _, hr, none, w3.putObj (w.heap.size + 1) (.loop { rec with state := .exhausted }), ?_, ?_⟩
      · have := run_endLoop (P := P) hl3 (by rw [hrec]; simp)
        rw [this, hrec]
      · have hst := ((s1.trans s2).trans s3).putNew (k := w.heap.size + 1) (by omega) (.loop { rec with state := .exhausted })
        refine h ρ3 D3 _ _ w.heap.size hst (r3.putOdd hl3 (odd_loop _) _) ?_ (Nat.le_refl _) ((World.putObj_heap_other (by omega)).trans hk3)
        have := r.slots.step hst
        exact ⟨this.size, by simp [r.slots.defers], this.get⟩
    refine (execY_sim hm r.gsize r.gok hlo hc hY F').1 (m - 1) [] gfn.ntmps gc hsG gic hsG' hG hn ρ D _ _ H W1 ⟨r.gsize, r.gok, r2, init_rel (by simpa using hlen) hokA⟩ (Step.refl lo ρ D H W1 r2.lt) x eg' H' hx1 _ ?_
    intro ρ3 D3 a3 w3 s3 r3 k3
    rcases hx2 with rfl | rfl <;> exact hend ρ3 D3 a3 w3 s3 r3 k3

/-- A function that holds such a loop leaves. -/
theorem leave_sim {fn : Func} {rs : List IRes} {vs : List AVal} {ρ' : Ren} {D' : Nat → Prop} {e' : Env} {a' : Act} {H' : AHeap} {w' : World} (hg : G.next = P.globals.size) (hgo : GOk G) (hres : trRes P fn.results.toList = some rs) (hvs : resI e' H' rs = some vs)
    (s : Step lo ρ D H w ρ' D' H' w') (r : HRel G ρ' D' H' w') (k : ARel ds ρ' D' nt e' a') (hd : ds = [] ∨ ∃ Dk, ds = [{ target := .collected Dk, args := #[] }] ∧ w.heap.size ≤ Dk ∧ w'.heap[Dk]? = some (.deferred (some []))) :
    LeavesInM (FR none) m P fn a'.tmps (fun en w'' => ∃ ρ'' D'', en = .returned (ren ρ'' (tupI vs)) ∧ Step lo ρ D H w ρ'' D'' H' w'' ∧ HRel G ρ'' D'' H' w'' ∧ ok ρ'' D'' (tupI vs)) a'.defers .returning w' := by
  rcases hd with rfl | ⟨Dk, rfl, hk1, hk2⟩
  · rw [k.defers]
    obtain ⟨h1, h2⟩ := results_sim (nt := nt) ⟨hg, hgo, r, k⟩ hres hvs
    exact ⟨_, h2, ρ', D', rfl, s, r, h1⟩
  · rw [k.defers]
    refine ⟨by simp, .inl ⟨Dk, _, rfl, run_takeDeferred hk2, ?_⟩⟩
    have r2 := r.putOdd hk2 (odd_deferred _) (.deferred none)
    obtain ⟨h1, h2⟩ := results_sim (nt := nt) ⟨hg, hgo, r2, k⟩ hres hvs
    exact ⟨_, h2, ρ', D', rfl, s.putNew hk1 _, r2, h1⟩
end
end Go.RI

/- RI, part Cuts: layer 19's Of: its loop over an iterator of its own, as a plain loop. Conditions: none. -/
namespace Go.RI
open Go
set_option linter.unusedSimpArgs false

/-! ### Runs, taken apart -/
section
variable {C : CallI} {lo l : Nat} {Y : List AVal → AHeap → Option (AVal × AHeap)} {e : Env} {H : AHeap} {d : Option Nat} {op : IOp} {xs : List Item} {r : Env × AHeap}
theorem ic_nil {e' : Env} {H' : AHeap} : itemsI C lo [] e H = some (e', H') ↔ e = e' ∧ H = H' := by simp [itemsI]
theorem ic_cons : itemsI C lo (⟨d, op, none, []⟩ :: xs) e H = some r ↔ ∃ v H1, opI C lo op e H = some (v, H1) ∧ itemsI C lo xs (putD e d (v.getD (.tu []))) H1 = some r := by
  simp only [itemsI, itemI, wantedI, reOk, Bool.or_true, if_true]
  rcases opI C lo op e H with _ | ⟨_ | v, H1⟩
  · simp
  · exact ⟨fun h => ⟨none, H1, rfl, h⟩, fun ⟨_, _, h1, h2⟩ => by cases h1; exact h2⟩
  · exact ⟨fun h => ⟨some v, H1, rfl, h⟩, fun ⟨_, _, h1, h2⟩ => by cases h1; exact h2⟩
theorem iy_nil {e' : Env} {H' : AHeap} : itemsY Y l C lo [] e H = some (e', H') ↔ e = e' ∧ H = H' := by simp [itemsY]
theorem iy_cons : itemsY Y l C lo (⟨d, op, none, []⟩ :: xs) e H = some r ↔ ∃ v H1, opY Y l C lo op e H = some (v, H1) ∧ itemsY Y l C lo xs (putD e d (v.getD (.tu []))) H1 = some r := by
  simp only [itemsY, itemY, wantedI]
  rcases opY Y l C lo op e H with _ | ⟨_ | v, H1⟩
  · simp
  · exact ⟨fun h => ⟨none, H1, rfl, h⟩, fun ⟨_, _, h1, h2⟩ => by cases h1; exact h2⟩
  · exact ⟨fun h => ⟨some v, H1, rfl, h⟩, fun ⟨_, _, h1, h2⟩ => by cases h1; exact h2⟩
theorem iy_guard {t : Nat} {g : Bool} (h : e.get t = some (.b g)) : itemsY Y l C lo (⟨d, op, some (t, true), []⟩ :: xs) e H = some r ↔ if g then (∃ v H1, opY Y l C lo op e H = some (v, H1) ∧ itemsY Y l C lo xs (putD e d (v.getD (.tu []))) H1 = some r) else itemsY Y l C lo xs (putD e d (.tu [])) H = some r := by
  simp only [itemsY, itemY, wantedI, h]
  cases g
  · simp
  · simp only [beq_self_eq_true, if_true]
    rcases opY Y l C lo op e H with _ | ⟨_ | v, H1⟩
    · simp
    · exact ⟨fun h => ⟨none, H1, rfl, h⟩, fun ⟨_, _, h1, h2⟩ => by cases h1; exact h2⟩
    · exact ⟨fun h => ⟨some v, H1, rfl, h⟩, fun ⟨_, _, h1, h2⟩ => by cases h1; exact h2⟩
end

/-! ### More fuel -/
theorem execY_succ {Y : List AVal → AHeap → Option (AVal × AHeap)} {l : Nat} {C : CallI} {lo : Nat} : ∀ (f : Nat) (c : ICode) (e : Env) (H : AHeap) (r : AExit × Env × AHeap), execY Y l C lo f c e H = some r → execY Y l C lo (f + 1) c e H = some r := by
  intro f
  induction f with
  | zero => intro c e H r h; simp [execY] at h
  | succ f ih =>
    intro c e H r h
    cases c <;> rw [execY] at h ⊢
    case skip => exact h
    case region items kill => exact h
    case seq a b =>
      split at h
      · rename_i e' H' ha
        rw [ih _ _ _ _ ha]; exact ih _ _ _ _ h
      · rename_i hne
        rw [ih _ _ _ _ h]
        obtain ⟨x, e', H'⟩ := r
        cases x with
        | normal => exact (hne _ _ h).elim
        | exit id => rfl
        | ret => rfl
    case cond c a b =>
      split at h
      · exact ih _ _ _ _ h
      · exact ih _ _ _ _ h
      · cases h
    case block id b =>
      split at h
      · rename_i id' e' H' hb
        rw [ih _ _ _ _ hb]; exact h
      · rename_i hne
        rw [ih _ _ _ _ h]
        obtain ⟨x, e', H'⟩ := r
        cases x with
        | normal => rfl
        | exit id => exact (hne _ _ _ h).elim
        | ret => rfl
    case loop b =>
      split at h
      · rename_i e' H' ha
        rw [ih _ _ _ _ ha]; exact ih _ _ _ _ h
      · rename_i hne
        rw [ih _ _ _ _ h]
        obtain ⟨x, e', H'⟩ := r
        cases x with
        | normal => exact (hne _ _ h).elim
        | exit id => rfl
        | ret => rfl
    case exit id => exact h
    case ret => exact h
theorem execY_mono {Y : List AVal → AHeap → Option (AVal × AHeap)} {l : Nat} {C : CallI} {lo : Nat} {f f' : Nat} (hf : f ≤ f') {c : ICode} {e : Env} {H : AHeap} {r : AExit × Env × AHeap} (h : execY Y l C lo f c e H = some r) : execY Y l C lo f' c e H = some r := by
  induction hf with
  | refl => exact h
  | step _ ih => exact execY_succ _ _ _ _ _ ih

def noV : ICode → Bool
  | .region xs _ => !hasV xs
  | .seq a b => noV a && noV b
  | .cond _ a b => noV a && noV b
  | .block _ b => noV b
  | .loop b => noV b
  | _ => true
/-- A run without calls of function values, by calls with more fuel. -/
theorem exec_Y {IP : FuncId → Option IFunc} {G : AHeap} {F : Nat} {Y : List AVal → AHeap → Option (AVal × AHeap)} {l lo : Nat} : ∀ (f : Nat), f ≤ F → ∀ (c : ICode) (e : Env) (H : AHeap) (r : AExit × Env × AHeap), noV c = true → exec IP G f lo c e H = some r → execY Y l (callI (exec IP G F) IP G lo) lo f c e H = some r := by
  intro f
  induction f with
  | zero => intro _ c e H r _ h; simp [exec] at h
  | succ f ih =>
    intro hF c e H r hv h
    have ih := ih (by omega)
    cases c <;> rw [exec] at h <;> rw [execY] <;> simp only [noV, Bool.and_eq_true, Bool.not_eq_true'] at hv
    case skip => exact h
    case region items kill =>
      rw [hv]
      simp only [Bool.false_eq_true, if_false]
      split at h
      · rename_i e' H' hi
        rw [itemsI_mono (callI_mono (exec_mono (by omega)) IP G lo) hi]; exact h
      · cases h
    case seq a b =>
      split at h
      · rename_i e' H' ha
        rw [ih _ _ _ _ hv.1 ha]; exact ih _ _ _ _ hv.2 h
      · rename_i hne
        rw [ih _ _ _ _ hv.1 h]
        obtain ⟨x, e', H'⟩ := r
        cases x with
        | normal => exact (hne _ _ h).elim
        | exit id => rfl
        | ret => rfl
    case cond c a b =>
      split at h
      · rename_i hc; rw [hc]; exact ih _ _ _ _ hv.1 h
      · rename_i hc; rw [hc]; exact ih _ _ _ _ hv.2 h
      · cases h
    case block id b =>
      split at h
      · rename_i id' e' H' hb
        rw [ih _ _ _ _ hv hb]; exact h
      · rename_i hne
        rw [ih _ _ _ _ hv h]
        obtain ⟨x, e', H'⟩ := r
        cases x with
        | normal => rfl
        | exit id => exact (hne _ _ _ h).elim
        | ret => rfl
    case loop b =>
      split at h
      · rename_i e' H' ha
        rw [ih _ _ _ _ hv ha]; exact ih _ _ _ _ (by simpa [noV] using hv) h
      · rename_i hne
        rw [ih _ _ _ _ hv h]
        obtain ⟨x, e', H'⟩ := r
        cases x with
        | normal => exact (hne _ _ h).elim
        | exit id => rfl
        | ret => rfl
    case exit id => exact h
    case ret => exact h

/-! ### The code -/
def z4 : List AVal := [.i .i64 0, .i .i64 0, .i .i64 0, .i .i64 0]
/-- The iterator's loop: what one round does. -/
def itB (fK : Nat) : ICode :=
  .seq (.region [⟨some 9, .bin .lss (.t 8) (.t 7), none, []⟩] [])
    (.seq (.cond (.t 9) .skip (.exit 0))
      (.seq (.block 1
        (.seq (.region [⟨some 10, .mov (.t 8), none, []⟩, ⟨some 4, .mov (.t 10), none, []⟩] [])
        (.seq (.seq (.region [⟨some 11, .load none (.t 2), none, []⟩, ⟨some 12, .mov (.t 4), none, []⟩, ⟨some 13, .look false [1] (.b false) false (.t 11) (.t 12), none, []⟩, ⟨some 14, .un .not (.t 13), none, []⟩] [])
          (.cond (.t 14) (.exit 1) .skip))
        (.seq (.region [⟨some 15, .load none (.t 1), none, []⟩, ⟨some 16, .load none (.t 2), none, []⟩, ⟨some 17, .mov (.t 4), none, []⟩, ⟨some 18, .call fK [.t 15, .t 16, .t 17], none, []⟩, ⟨some 5, .alloc z4, none, []⟩, ⟨none, .store 4 (.t 5) (.t 18), none, []⟩] [])
        (.seq (.region [⟨some 19, .off (.t 5) 1, none, []⟩, ⟨some 20, .load none (.t 19), none, []⟩, ⟨some 21, .bin .gtr (.t 20) (.c (.i .i64 0)), none, []⟩, ⟨some 22, .mov (.t 21), none, []⟩,
            ⟨some 23, .mov (.t 0), some (22, true), []⟩, ⟨some 24, .load (some 4) (.t 5), some (22, true), []⟩, ⟨some 25, .callv (.t 23) [.t 24], some (22, true), []⟩, ⟨some 26, .un .not (.t 25), some (22, true), []⟩, ⟨some 27, .pick (.t 22) (.t 26) (.c (.b false)), none, []⟩] [])
          (.cond (.t 27) .ret .skip))))))
      (.region [⟨some 28, .bin .add (.t 8) (.c (.i .i64 1)), none, []⟩, ⟨some 8, .mov (.t 28), none, []⟩] [])))
def itC (fK : Nat) : ICode :=
  .seq (.region [⟨some 6, .load none (.t 1), none, []⟩, ⟨some 7, .lenk 0 (.t 6), none, []⟩, ⟨some 8, .mov (.c (.i .i64 0)), none, []⟩] []) (.block 0 (.loop (itB fK)))
/-- The loop's own round. -/
def rdA : ICode := .region [⟨some 10, .alloc z4, none, []⟩, ⟨none, .store 4 (.t 10) (.t 31), none, []⟩] []
def rdB : ICode := .block 1 (.region [⟨some 32, .load none (.t 9), none, []⟩, ⟨some 33, .load (some 4) (.t 10), none, []⟩, ⟨some 34, .bsl 4 1 z4 [(0, 4, .t 33)], none, []⟩, ⟨some 35, .app 4 32 (.t 32) (.t 34), none, []⟩, ⟨none, .store 1 (.t 9) (.t 35), none, []⟩] [])
/-- Both in one. -/
def dsB (fK : Nat) : ICode :=
  .seq (.region [⟨some 49, .bin .lss (.t 48) (.t 47), none, []⟩] [])
    (.seq (.cond (.t 49) .skip (.exit 0))
      (.seq (.block 1
        (.seq (.region [⟨some 51, .load none (.t 38), none, []⟩, ⟨some 53, .look false [1] (.b false) false (.t 51) (.t 48), none, []⟩] [])
        (.seq (.cond (.t 53) .skip (.exit 1))
        (.seq (.region [⟨some 55, .load none (.t 37), none, []⟩, ⟨some 56, .load none (.t 38), none, []⟩, ⟨some 58, .call fK [.t 55, .t 56, .t 48], none, []⟩, ⟨some 45, .alloc z4, none, []⟩, ⟨none, .store 4 (.t 45) (.t 58), none, []⟩,
            ⟨some 59, .off (.t 45) 1, none, []⟩, ⟨some 60, .load none (.t 59), none, []⟩, ⟨some 61, .bin .gtr (.t 60) (.c (.i .i64 0)), none, []⟩] [51, 53, 55, 56, 58, 59, 60])
          (.cond (.t 61)
            (.region [⟨some 64, .load (some 4) (.t 45), none, []⟩, ⟨some 10, .alloc z4, none, []⟩, ⟨none, .store 4 (.t 10) (.t 64), none, []⟩,
              ⟨some 32, .load none (.t 9), none, []⟩, ⟨some 33, .load (some 4) (.t 10), none, []⟩, ⟨some 34, .bsl 4 1 z4 [(0, 4, .t 33)], none, []⟩, ⟨some 35, .app 4 32 (.t 32) (.t 34), none, []⟩, ⟨none, .store 1 (.t 9) (.t 35), none, []⟩] [10, 32, 33, 34, 35, 45, 61, 64])
            .skip)))))
      (.region [⟨some 50, .bin .add (.t 48) (.c (.i .i64 1)), none, []⟩, ⟨some 48, .mov (.t 50), none, []⟩] [10, 45, 49, 50, 51, 53, 61])))

/-! ### Runs, whatever the fuel -/
def RunY (Y : List AVal → AHeap → Option (AVal × AHeap)) (l : Nat) (C : CallI) (lo : Nat) (c : ICode) (e : Env) (H : AHeap) (r : AExit × Env × AHeap) : Prop := ∃ f, execY Y l C lo f c e H = some r

section
variable {Y : List AVal → AHeap → Option (AVal × AHeap)} {l : Nat} {C : CallI} {lo : Nat} {e e1 e' : Env} {H H1 H' : AHeap} {a b : ICode} {r : AExit × Env × AHeap} {x : AExit}
theorem RunY.skip : RunY Y l C lo .skip e H (.normal, e, H) := ⟨1, rfl⟩
theorem RunY.exit {id : Nat} : RunY Y l C lo (.exit id) e H (.exit id, e, H) := ⟨1, rfl⟩
theorem RunY.ret : RunY Y l C lo .ret e H (.ret, e, H) := ⟨1, rfl⟩
theorem RunY.reg {xs : List Item} {k : List Nat} (hv : hasV xs = false) (h : itemsI C lo xs e H = some (e1, H1)) : RunY Y l C lo (.region xs k) e H (.normal, e1.kill k, H1) := ⟨1, by simp [execY, hv, h]⟩
theorem RunY.regV {xs : List Item} {k : List Nat} (hv : hasV xs = true) (h : itemsY Y l C lo xs e H = some (e1, H1)) : RunY Y l C lo (.region xs k) e H (.normal, e1.kill k, H1) := ⟨1, by simp [execY, hv, h]⟩
theorem RunY.seq (h1 : RunY Y l C lo a e H (.normal, e1, H1)) (h2 : RunY Y l C lo b e1 H1 r) : RunY Y l C lo (.seq a b) e H r := by
  obtain ⟨f1, h1⟩ := h1
  obtain ⟨f2, h2⟩ := h2
  refine ⟨max f1 f2 + 1, ?_⟩
  rw [execY, execY_mono (Nat.le_max_left f1 f2) h1]
  exact execY_mono (Nat.le_max_right f1 f2) h2
theorem RunY.seqX (h1 : RunY Y l C lo a e H (x, e1, H1)) (hx : x ≠ .normal) : RunY Y l C lo (.seq a b) e H (x, e1, H1) := by
  obtain ⟨f1, h1⟩ := h1
  refine ⟨f1 + 1, ?_⟩
  rw [execY, h1]
  cases x <;> first | rfl | exact absurd rfl hx
theorem RunY.condT {c : Opd} (hc : c.eval e = some (.b true)) (h : RunY Y l C lo a e H r) : RunY Y l C lo (.cond c a b) e H r := by
  obtain ⟨f, h⟩ := h
  exact ⟨f + 1, by rw [execY, hc]; exact h⟩
theorem RunY.condF {c : Opd} (hc : c.eval e = some (.b false)) (h : RunY Y l C lo b e H r) : RunY Y l C lo (.cond c a b) e H r := by
  obtain ⟨f, h⟩ := h
  exact ⟨f + 1, by rw [execY, hc]; exact h⟩
theorem RunY.block {id : Nat} (h : RunY Y l C lo b e H (x, e1, H1)) (hx : x = .normal ∨ x = .exit id) : RunY Y l C lo (.block id b) e H (.normal, e1, H1) := by
  obtain ⟨f, h⟩ := h
  refine ⟨f + 1, ?_⟩
  rw [execY, h]
  rcases hx with rfl | rfl
  · rfl
  · simp
theorem RunY.loop (h1 : RunY Y l C lo b e H (.normal, e1, H1)) (h2 : RunY Y l C lo (.loop b) e1 H1 r) : RunY Y l C lo (.loop b) e H r := by
  obtain ⟨f1, h1⟩ := h1
  obtain ⟨f2, h2⟩ := h2
  refine ⟨max f1 f2 + 1, ?_⟩
  rw [execY, execY_mono (Nat.le_max_left f1 f2) h1]
  exact execY_mono (Nat.le_max_right f1 f2) h2
theorem RunY.loopX (h1 : RunY Y l C lo b e H (x, e1, H1)) (hx : x ≠ .normal) : RunY Y l C lo (.loop b) e H (x, e1, H1) := by
  obtain ⟨f1, h1⟩ := h1
  refine ⟨f1 + 1, ?_⟩
  rw [execY, h1]
  cases x <;> first | rfl | exact absurd rfl hx

/-! taken apart -/
theorem inv_reg {f : Nat} {xs : List Item} {k : List Nat} (hv : hasV xs = false) (h : execY Y l C lo f (.region xs k) e H = some (x, e', H')) : x = .normal ∧ ∃ e1, itemsI C lo xs e H = some (e1, H') ∧ e' = e1.kill k := by
  cases f with
  | zero => simp [execY] at h
  | succ f =>
    rw [execY, hv] at h
    simp only [Bool.false_eq_true, if_false] at h
    split at h
    · rename_i e1 H1 hi; cases h; exact ⟨rfl, e1, hi, rfl⟩
    · cases h
theorem inv_seq {f : Nat} (h : execY Y l C lo f (.seq a b) e H = some (x, e', H')) : (∃ g e1 H1, g < f ∧ execY Y l C lo g a e H = some (.normal, e1, H1) ∧ execY Y l C lo g b e1 H1 = some (x, e', H')) ∨ (x ≠ .normal ∧ ∃ g, g < f ∧ execY Y l C lo g a e H = some (x, e', H')) := by
  cases f with
  | zero => simp [execY] at h
  | succ f =>
    rw [execY] at h
    split at h
    · rename_i e1 H1 ha; exact .inl ⟨f, e1, H1, Nat.lt_succ_self f, ha, h⟩
    · rename_i hne
      refine .inr ⟨fun hx => ?_, f, Nat.lt_succ_self f, h⟩
      subst hx; exact hne _ _ h
theorem inv_cond {f : Nat} {c : Opd} (h : execY Y l C lo f (.cond c a b) e H = some (x, e', H')) : (c.eval e = some (.b true) ∧ ∃ g, g < f ∧ execY Y l C lo g a e H = some (x, e', H')) ∨ (c.eval e = some (.b false) ∧ ∃ g, g < f ∧ execY Y l C lo g b e H = some (x, e', H')) := by
  cases f with
  | zero => simp [execY] at h
  | succ f =>
    rw [execY] at h
    split at h
    · rename_i hc; exact .inl ⟨hc, f, Nat.lt_succ_self f, h⟩
    · rename_i hc; exact .inr ⟨hc, f, Nat.lt_succ_self f, h⟩
    · cases h
theorem inv_block {f id : Nat} (h : execY Y l C lo f (.block id b) e H = some (x, e', H')) : ∃ g y, g < f ∧ execY Y l C lo g b e H = some (y, e', H') ∧ ((y = .exit id ∧ x = .normal) ∨ (y ≠ .exit id ∧ x = y)) := by
  cases f with
  | zero => simp [execY] at h
  | succ f =>
    rw [execY] at h
    split at h
    · rename_i id' e1 H1 hb
      split at h
      · rename_i hid; cases h; exact ⟨f, _, Nat.lt_succ_self f, hb, .inl ⟨by rw [hid], rfl⟩⟩
      · rename_i hid; cases h; exact ⟨f, _, Nat.lt_succ_self f, hb, .inr ⟨fun hh => hid (by injection hh), rfl⟩⟩
    · rename_i hne
      refine ⟨f, x, Nat.lt_succ_self f, h, .inr ⟨fun hx => ?_, rfl⟩⟩
      subst hx; exact hne _ _ _ h
theorem inv_loop {f : Nat} (h : execY Y l C lo f (.loop b) e H = some (x, e', H')) : (∃ g e1 H1, g < f ∧ execY Y l C lo g b e H = some (.normal, e1, H1) ∧ execY Y l C lo g (.loop b) e1 H1 = some (x, e', H')) ∨ (x ≠ .normal ∧ ∃ g, g < f ∧ execY Y l C lo g b e H = some (x, e', H')) := by
  cases f with
  | zero => simp [execY] at h
  | succ f =>
    rw [execY] at h
    split at h
    · rename_i e1 H1 ha; exact .inl ⟨f, e1, H1, Nat.lt_succ_self f, ha, h⟩
    · rename_i hne
      refine .inr ⟨fun hx => ?_, f, Nat.lt_succ_self f, h⟩
      subst hx; exact hne _ _ h
theorem inv_exit {f id : Nat} (h : execY Y l C lo f (.exit id) e H = some (x, e', H')) : x = .exit id ∧ e' = e ∧ H' = H := by
  cases f with
  | zero => simp [execY] at h
  | succ f => rw [execY] at h; cases h; exact ⟨rfl, rfl, rfl⟩
theorem inv_skip {f : Nat} (h : execY Y l C lo f .skip e H = some (x, e', H')) : x = .normal ∧ e' = e ∧ H' = H := by
  cases f with
  | zero => simp [execY] at h
  | succ f => rw [execY] at h; cases h; exact ⟨rfl, rfl, rfl⟩
end

section
variable {IP : FuncId → Option IFunc} {G : AHeap} {F lo fK l : Nat}

/-- What stands in both frames between two rounds. -/
structure SepY (e e2 : Env) (l : Nat) (o q1 q2 n k : AVal) : Prop where
  c9 : e.get 9 = some o
  c37 : e.get 37 = some q1
  c38 : e.get 38 = some q2
  c47 : e.get 47 = some n
  c48 : e.get 48 = some k
  d0 : e2.get 0 = some (.fn (.yield l) [] [])
  d1 : e2.get 1 = some q1
  d2 : e2.get 2 = some q2
  d7 : e2.get 7 = some n
  d8 : e2.get 8 = some k

theorem get_killL (ts : List Nat) : ∀ (e : Env) (s : Nat), (e.kill ts).get s = if s ∈ ts then none else e.get s := by
  induction ts with
  | nil => intro e s; simp [Env.kill]
  | cons t ts ih =>
    intro e s
    simp only [Env.kill, ih, Env.get_del, List.mem_cons]
    by_cases h1 : s ∈ ts
    · simp [h1]
    · by_cases h2 : s = t <;> simp [h1, h2]

theorem bool_of_not {v u : AVal} (h : unV .not v = some u) : ∃ b, v = .b b ∧ u = .b (!b) := by
  cases v <;> simp [unV] at h
  rename_i b
  exact ⟨b, rfl, h.symm⟩

theorem oc_call {C : CallI} {lo f : Nat} {args : List Opd} {e : Env} {H H1 : AHeap} {v : Option AVal} : opI C lo (.call f args) e H = some (v, H1) ↔ ∃ vs u, evals e args = some vs ∧ C.call f vs H = some (u, H1) ∧ v = some u := by
  have key : opI C lo (.call f args) e H = (evals e args).bind fun vs => (C.call f vs H).map fun x => (some x.1, x.2) := by
    simp only [opI]
    rcases evals e args with _ | vs
    · rfl
    · simp only [Option.bind_some]
      rcases C.call f vs H with _ | ⟨u, H2⟩ <;> rfl
  rw [key]
  simp only [Option.bind_eq_some_iff, Option.map_eq_some_iff, Prod.mk.injEq]
  constructor
  · rintro ⟨vs, h1, ⟨u, H2⟩, h2, rfl, rfl⟩; exact ⟨vs, u, h1, h2, rfl⟩
  · rintro ⟨vs, u, h1, h2, rfl⟩; exact ⟨vs, h1, (u, H1), h2, rfl, rfl⟩
section
variable {C : CallI} {lo : Nat} {e : Env} {H : AHeap} {d : Option Nat} {xs : List Item} {r : Env × AHeap}
theorem ic_pure {op : IOp} {g : Option AVal} (h : opI C lo op e H = g.map fun v => (some v, H)) : itemsI C lo (⟨d, op, none, []⟩ :: xs) e H = some r ↔ ∃ v, g = some v ∧ itemsI C lo xs (putD e d v) H = some r := by
  rw [ic_cons, h]
  constructor
  · rintro ⟨v, H1, h1, h2⟩
    rw [Option.map_eq_some_iff] at h1
    obtain ⟨u, hu, he⟩ := h1
    cases he
    exact ⟨u, hu, h2⟩
  · rintro ⟨u, hu, h2⟩
    exact ⟨some u, H, by rw [hu]; rfl, h2⟩
theorem ic_mov {x : Opd} : itemsI C lo (⟨d, .mov x, none, []⟩ :: xs) e H = some r ↔ ∃ v, x.eval e = some v ∧ itemsI C lo xs (putD e d v) H = some r := ic_pure rfl
theorem ic_load {n : Option Nat} {x : Opd} : itemsI C lo (⟨d, .load n x, none, []⟩ :: xs) e H = some r ↔ ∃ v, (x.eval e).bind (loadV H n) = some v ∧ itemsI C lo xs (putD e d v) H = some r := ic_pure rfl
theorem ic_off {n : Nat} {x : Opd} : itemsI C lo (⟨d, .off x n, none, []⟩ :: xs) e H = some r ↔ ∃ v, (x.eval e).bind (offV n) = some v ∧ itemsI C lo xs (putD e d v) H = some r := ic_pure rfl
theorem ic_un {n : UnOp} {x : Opd} : itemsI C lo (⟨d, .un n x, none, []⟩ :: xs) e H = some r ↔ ∃ v, (x.eval e).bind (unV n) = some v ∧ itemsI C lo xs (putD e d v) H = some r := ic_pure rfl
theorem ic_len {n : Nat} {x : Opd} : itemsI C lo (⟨d, .lenk n x, none, []⟩ :: xs) e H = some r ↔ ∃ v, (((x.eval e).bind (lenV H n)).map fun (m : Nat) => AVal.i .i64 (m : Int)) = some v ∧ itemsI C lo xs (putD e d v) H = some r := ic_pure rfl
theorem ic_bin {n : BinOp} {x y : Opd} : itemsI C lo (⟨d, .bin n x y, none, []⟩ :: xs) e H = some r ↔ ∃ v, ((x.eval e).bind fun a => (y.eval e).bind fun b => binV n a b) = some v ∧ itemsI C lo xs (putD e d v) H = some r := ic_pure (by
  simp only [opI, aop]
  rcases x.eval e with _ | a
  · rfl
  · rcases y.eval e with _ | b <;> rfl)
theorem ic_look {ag : Bool} {ks : List Nat} {z : AVal} {okf : Bool} {x y : Opd} : itemsI C lo (⟨d, .look ag ks z okf x y, none, []⟩ :: xs) e H = some r ↔ ∃ v, ((x.eval e).bind fun a => (y.eval e).bind fun b => lookV H ag ks z okf a b) = some v ∧ itemsI C lo xs (putD e d v) H = some r := ic_pure (by
  simp only [opI, aop]
  rcases x.eval e with _ | a
  · rfl
  · rcases y.eval e with _ | b <;> rfl)
theorem ic_alloc {z : List AVal} : itemsI C lo (⟨d, .alloc z, none, []⟩ :: xs) e H = some r ↔ itemsI C lo xs (putD e d (.p H.next 0)) (H.push (.cells z 1 false)) = some r := by
  rw [ic_cons]
  constructor
  · rintro ⟨v, H1, h1, h2⟩; cases h1; exact h2
  · intro h; exact ⟨_, _, rfl, h⟩
theorem ic_store {n : Nat} {x y : Opd} : itemsI C lo (⟨none, .store n x y, none, []⟩ :: xs) e H = some r ↔ ∃ H1, ((x.eval e).bind fun a => (y.eval e).bind fun b => storeV lo H n a b) = some H1 ∧ itemsI C lo xs e H1 = some r := by
  rw [ic_cons]
  simp only [opI, aop]
  constructor
  · rintro ⟨v, H1, h1, h2⟩
    rcases hx : x.eval e with _ | a
    · rw [hx] at h1; cases h1
    · rcases hy : y.eval e with _ | b
      · rw [hx, hy] at h1; cases h1
      · rw [hx, hy] at h1
        simp only [Option.map_eq_some_iff] at h1
        obtain ⟨H2, h3, h4⟩ := h1
        cases h4
        exact ⟨_, h3, h2⟩
  · rintro ⟨H1, h1, h2⟩
    rcases hx : x.eval e with _ | a
    · rw [hx] at h1; cases h1
    · rcases hy : y.eval e with _ | b
      · rw [hx, hy] at h1; cases h1
      · rw [hx, hy] at h1
        simp only [Option.bind_some] at h1
        exact ⟨none, H1, by simp only [h1]; rfl, h2⟩
theorem ic_call {f : Nat} {args : List Opd} : itemsI C lo (⟨d, .call f args, none, []⟩ :: xs) e H = some r ↔ ∃ vs u H1, evals e args = some vs ∧ C.call f vs H = some (u, H1) ∧ itemsI C lo xs (putD e d u) H1 = some r := by
  rw [ic_cons]
  constructor
  · rintro ⟨v, H1, h1, h2⟩
    obtain ⟨vs, u, h3, h4, rfl⟩ := oc_call.1 h1
    exact ⟨vs, u, H1, h3, h4, h2⟩
  · rintro ⟨vs, u, H1, h3, h4, h2⟩
    exact ⟨some u, H1, oc_call.2 ⟨vs, u, h3, h4, rfl⟩, h2⟩
theorem evals_nilC : evals e [] = some [] := rfl
theorem evals_consC {x : Opd} {l : List Opd} {vs : List AVal} : evals e (x :: l) = some vs ↔ ∃ v us, x.eval e = some v ∧ evals e l = some us ∧ vs = v :: us := by
  simp only [evals]
  rcases x.eval e with _ | v
  · simp
  · rcases evals e l with _ | us
    · simp
    · simp [eq_comm]
end
/-- The block of a round, in both. -/
def dsK (fK : Nat) : ICode := .block 1
        (.seq (.region [⟨some 51, .load none (.t 38), none, []⟩, ⟨some 53, .look false [1] (.b false) false (.t 51) (.t 48), none, []⟩] [])
        (.seq (.cond (.t 53) .skip (.exit 1))
        (.seq (.region [⟨some 55, .load none (.t 37), none, []⟩, ⟨some 56, .load none (.t 38), none, []⟩, ⟨some 58, .call fK [.t 55, .t 56, .t 48], none, []⟩, ⟨some 45, .alloc z4, none, []⟩, ⟨none, .store 4 (.t 45) (.t 58), none, []⟩,
            ⟨some 59, .off (.t 45) 1, none, []⟩, ⟨some 60, .load none (.t 59), none, []⟩, ⟨some 61, .bin .gtr (.t 60) (.c (.i .i64 0)), none, []⟩] [51, 53, 55, 56, 58, 59, 60])
          (.cond (.t 61)
            (.region [⟨some 64, .load (some 4) (.t 45), none, []⟩, ⟨some 10, .alloc z4, none, []⟩, ⟨none, .store 4 (.t 10) (.t 64), none, []⟩,
              ⟨some 32, .load none (.t 9), none, []⟩, ⟨some 33, .load (some 4) (.t 10), none, []⟩, ⟨some 34, .bsl 4 1 z4 [(0, 4, .t 33)], none, []⟩, ⟨some 35, .app 4 32 (.t 32) (.t 34), none, []⟩, ⟨none, .store 1 (.t 9) (.t 35), none, []⟩] [10, 32, 33, 34, 35, 45, 61, 64])
            .skip))))
def itK (fK : Nat) : ICode := .block 1
        (.seq (.region [⟨some 10, .mov (.t 8), none, []⟩, ⟨some 4, .mov (.t 10), none, []⟩] [])
        (.seq (.seq (.region [⟨some 11, .load none (.t 2), none, []⟩, ⟨some 12, .mov (.t 4), none, []⟩, ⟨some 13, .look false [1] (.b false) false (.t 11) (.t 12), none, []⟩, ⟨some 14, .un .not (.t 13), none, []⟩] [])
          (.cond (.t 14) (.exit 1) .skip))
        (.seq (.region [⟨some 15, .load none (.t 1), none, []⟩, ⟨some 16, .load none (.t 2), none, []⟩, ⟨some 17, .mov (.t 4), none, []⟩, ⟨some 18, .call fK [.t 15, .t 16, .t 17], none, []⟩, ⟨some 5, .alloc z4, none, []⟩, ⟨none, .store 4 (.t 5) (.t 18), none, []⟩] [])
        (.seq (.region [⟨some 19, .off (.t 5) 1, none, []⟩, ⟨some 20, .load none (.t 19), none, []⟩, ⟨some 21, .bin .gtr (.t 20) (.c (.i .i64 0)), none, []⟩, ⟨some 22, .mov (.t 21), none, []⟩,
            ⟨some 23, .mov (.t 0), some (22, true), []⟩, ⟨some 24, .load (some 4) (.t 5), some (22, true), []⟩, ⟨some 25, .callv (.t 23) [.t 24], some (22, true), []⟩, ⟨some 26, .un .not (.t 25), some (22, true), []⟩, ⟨some 27, .pick (.t 22) (.t 26) (.c (.b false)), none, []⟩] [])
          (.cond (.t 27) .ret .skip)))))
theorem block_rel {C : CallI} {Y0 Y : List AVal → AHeap → Option (AVal × AHeap)} {l0 : Nat} {e e2 : Env} {o q1 q2 n k : AVal} (hs : SepY e e2 l o q1 q2 n k) {H : AHeap} {x : AExit} {e' : Env} {H' : AHeap} {f : Nat}
    (hY : ∀ (v : AVal) (H1 : AHeap) (ea eb : Env) (H2 : AHeap), ea.get 9 = some o → ea.get 64 = some v → itemsI C lo [⟨some 10, .alloc z4, none, []⟩, ⟨none, .store 4 (.t 10) (.t 64), none, []⟩,
              ⟨some 32, .load none (.t 9), none, []⟩, ⟨some 33, .load (some 4) (.t 10), none, []⟩, ⟨some 34, .bsl 4 1 z4 [(0, 4, .t 33)], none, []⟩, ⟨some 35, .app 4 32 (.t 32) (.t 34), none, []⟩, ⟨none, .store 1 (.t 9) (.t 35), none, []⟩] ea H1 = some (eb, H2) → eb.get 9 = some o ∧ eb.get 37 = ea.get 37 ∧ eb.get 38 = ea.get 38 ∧ eb.get 47 = ea.get 47 ∧ eb.get 48 = ea.get 48 ∧ Y [v] H1 = some (.b true, H2))
    (h : execY Y0 l0 C lo f (dsK fK) e H = some (x, e', H')) : x = .normal ∧ ∃ e2', RunY Y l C lo (itK fK) e2 H (.normal, e2', H') ∧ SepY e' e2' l o q1 q2 n k := by
  obtain ⟨s1, s2, s3, s4, s5, t0, t1, t2, t3, t4⟩ := hs
  obtain ⟨g, y, _, h, hy⟩ := inv_block h
  rcases inv_seq h with ⟨g, ea, Ha, _, ha, h⟩ | ⟨hx, g, _, ha⟩
  rotate_left
  · exact absurd (inv_reg rfl ha).1 hx
  obtain ⟨_, eb, hb, rfl⟩ := inv_reg rfl ha
  simp [ic_nil, ic_mov, ic_load, ic_off, ic_un, ic_len, ic_bin, ic_look, ic_alloc, ic_store, ic_call, evals_nilC, evals_consC, Opd.eval, putD, s3, s5, Env.get_put] at hb
  obtain ⟨m, hm, wv, hw, rfl, rfl⟩ := hb
  have rA : RunY Y l C lo (.region [⟨some 10, .mov (.t 8), none, []⟩, ⟨some 4, .mov (.t 10), none, []⟩] []) e2 H (.normal, (e2.put 10 k).put 4 k, H) := by
    refine RunY.reg (e1 := (e2.put 10 k).put 4 k) (k := []) rfl ?_
    simp [ic_nil, ic_mov, ic_load, ic_off, ic_un, ic_len, ic_bin, ic_look, ic_alloc, ic_store, ic_call, evals_nilC, evals_consC, Opd.eval, putD, t4, Env.get_put]
  have rL : ∀ b, wv = .b b → RunY Y l C lo (.region [⟨some 11, .load none (.t 2), none, []⟩, ⟨some 12, .mov (.t 4), none, []⟩, ⟨some 13, .look false [1] (.b false) false (.t 11) (.t 12), none, []⟩, ⟨some 14, .un .not (.t 13), none, []⟩] []) ((e2.put 10 k).put 4 k) H
      (.normal, ((((((e2.put 10 k).put 4 k).put 11 m).put 12 k).put 13 wv).put 14 (.b (!b))), H) := by
    intro b hb
    subst hb
    refine RunY.reg (e1 := ((((((e2.put 10 k).put 4 k).put 11 m).put 12 k).put 13 (.b b)).put 14 (.b (!b)))) (k := []) rfl ?_
    simp [ic_nil, ic_mov, ic_load, ic_off, ic_un, ic_len, ic_bin, ic_look, ic_alloc, ic_store, ic_call, evals_nilC, evals_consC, Opd.eval, putD, t2, Env.get_put, hm, hw, unV]
  rcases inv_seq h with ⟨g2, ec, Hc, _, hc, h⟩ | ⟨hx, g2, _, hc⟩
  rotate_left
  · rcases inv_cond hc with ⟨hv, g3, _, h3⟩ | ⟨hv, g3, _, h3⟩
    · exact absurd (inv_skip h3).1 hx
    · obtain ⟨rfl, rfl, rfl⟩ := inv_exit h3
      simp [Opd.eval, Env.kill, Env.get_put] at hv
      rcases hy with ⟨_, rfl⟩ | ⟨hne, _⟩
      · refine ⟨rfl, _, RunY.block (RunY.seq rA (RunY.seqX (RunY.seq (rL _ hv) (RunY.condT (by simp [Opd.eval, Env.get_put]) RunY.exit)) (by simp))) (.inr rfl), ?_⟩
        constructor <;> simp [Env.kill, Env.get_put, *]
      · exact absurd rfl hne
  rcases inv_cond hc with ⟨hv, g3, _, h3⟩ | ⟨hv, g3, _, h3⟩
  rotate_left
  · exact absurd (inv_exit h3).1 (by simp)
  obtain ⟨_, he3, hH3⟩ := inv_skip h3
  rw [he3, hH3] at h
  simp [Opd.eval, Env.kill, Env.get_put] at hv
  have rL' := rL _ hv
  rcases inv_seq h with ⟨g4, ed, Hd, _, hd, h⟩ | ⟨hx, g4, _, hd⟩
  rotate_left
  · exact absurd (inv_reg rfl hd).1 hx
  obtain ⟨_, ef, hb, rfl⟩ := inv_reg rfl hd
  simp [ic_nil, ic_mov, ic_load, ic_off, ic_un, ic_len, ic_bin, ic_look, ic_alloc, ic_store, ic_call, evals_nilC, evals_consC, Opd.eval, putD, s2, s3, s5, Env.get_put, Env.kill] at hb
  obtain ⟨v1, hl1, v2, hl2, u, Hu, hcall, H1, hst, v59, h59, v60, h60, v61, h61, rfl, rfl⟩ := hb
  obtain ⟨e3, he3⟩ : ∃ e3, e3 = ((((((e2.put 10 k).put 4 k).put 11 m).put 12 k).put 13 wv).put 14 (.b false)) := ⟨_, rfl⟩
  have r3 : RunY Y l C lo (.seq (.region [⟨some 11, .load none (.t 2), none, []⟩, ⟨some 12, .mov (.t 4), none, []⟩, ⟨some 13, .look false [1] (.b false) false (.t 11) (.t 12), none, []⟩, ⟨some 14, .un .not (.t 13), none, []⟩] []) (.cond (.t 14) (.exit 1) .skip)) ((e2.put 10 k).put 4 k) H (.normal, e3, H) := by
    rw [he3]
    exact RunY.seq rL' (RunY.condF (by simp [Opd.eval, Env.get_put]) RunY.skip)
  obtain ⟨e4, he4⟩ : ∃ e4, e4 = (((((e3.put 15 v1).put 16 v2).put 17 k).put 18 u).put 5 (.p Hu.next 0)) := ⟨_, rfl⟩
  have r4 : RunY Y l C lo (.region [⟨some 15, .load none (.t 1), none, []⟩, ⟨some 16, .load none (.t 2), none, []⟩, ⟨some 17, .mov (.t 4), none, []⟩, ⟨some 18, .call fK [.t 15, .t 16, .t 17], none, []⟩, ⟨some 5, .alloc z4, none, []⟩, ⟨none, .store 4 (.t 5) (.t 18), none, []⟩] []) e3 H (.normal, e4, H1) := by
    refine RunY.reg (e1 := e4) (k := []) rfl ?_
    simp [ic_nil, ic_mov, ic_load, ic_off, ic_un, ic_len, ic_bin, ic_look, ic_alloc, ic_store, ic_call, evals_nilC, evals_consC, Opd.eval, putD, Env.get_put, he3, he4, t1, t2, hl1, hl2, hcall]
    exact ⟨u, Hu, ⟨rfl, rfl⟩, hst, rfl⟩
  have fin : ∀ (H2 : AHeap) (e5 : Env), RunY Y l C lo (.region [⟨some 19, .off (.t 5) 1, none, []⟩, ⟨some 20, .load none (.t 19), none, []⟩, ⟨some 21, .bin .gtr (.t 20) (.c (.i .i64 0)), none, []⟩, ⟨some 22, .mov (.t 21), none, []⟩,
            ⟨some 23, .mov (.t 0), some (22, true), []⟩, ⟨some 24, .load (some 4) (.t 5), some (22, true), []⟩, ⟨some 25, .callv (.t 23) [.t 24], some (22, true), []⟩, ⟨some 26, .un .not (.t 25), some (22, true), []⟩, ⟨some 27, .pick (.t 22) (.t 26) (.c (.b false)), none, []⟩] []) e4 H1 (.normal, e5, H2) →
      e5.get 27 = some (.b false) → RunY Y l C lo (itK fK) e2 H (.normal, e5, H2) := fun H2 e5 h1 h2 =>
    RunY.block (RunY.seq rA (RunY.seq r3 (RunY.seq r4 (RunY.seq h1 (RunY.condF (by simpa [Opd.eval] using h2) RunY.skip))))) (.inl rfl)
  rcases inv_cond h with ⟨hv2, g5, _, h5⟩ | ⟨hv2, g5, _, h5⟩
  · simp [Opd.eval, get_killL, Env.get_put] at hv2
    subst hv2
    obtain ⟨hyn, eg, hg, rfl⟩ := inv_reg rfl h5
    rw [ic_load] at hg
    obtain ⟨v64, h64, hg⟩ := hg
    simp [Opd.eval, get_killL, Env.get_put] at h64
    obtain ⟨g1, g2, g3, g4, g5, g6⟩ := hY v64 _ _ eg _ (by simp [putD, get_killL, Env.get_put, s1]) (by simp [putD, Env.get_put]) hg
    simp [putD, get_killL, Env.get_put, s2, s3, s4, s5] at g1 g2 g3 g4 g5
    rcases hy with ⟨hy1, _⟩ | ⟨_, rfl⟩
    · rw [hyn] at hy1; cases hy1
    refine ⟨hyn, _, fin H' ((((((((((e4.put 19 v59).put 20 v60).put 21 (.b true)).put 22 (.b true)).put 23 (.fn (.yield l) [] [])).put 24 v64).put 25 (.b true)).put 26 (.b false)).put 27 (.b false))) (RunY.regV (k := []) rfl ?_) (by simp [Env.get_put]), ?_⟩
    · simp [itemsY, itemY, wantedI, opY, opI, aop, evals, Opd.eval, putD, Env.get_put, he4, he3, h59, h60, h61, h64, t0, g6, unV]
    · constructor <;> simp [get_killL, Env.get_put, he4, he3, *]
  · simp [Opd.eval, get_killL, Env.get_put] at hv2
    subst hv2
    obtain ⟨hyn, rfl, rfl⟩ := inv_skip h5
    rcases hy with ⟨hy1, _⟩ | ⟨_, rfl⟩
    · rw [hyn] at hy1; cases hy1
    refine ⟨hyn, _, fin _ ((((((((((e4.put 19 v59).put 20 v60).put 21 (.b false)).put 22 (.b false)).put 23 (.tu [])).put 24 (.tu [])).put 25 (.tu [])).put 26 (.tu [])).put 27 (.b false))) (RunY.regV (k := []) rfl ?_) (by simp [Env.get_put]), ?_⟩
    · simp [itemsY, itemY, wantedI, opY, opI, aop, evals, Opd.eval, putD, Env.get_put, he4, he3, h59, h60, h61, t0]
    · constructor <;> simp [get_killL, Env.get_put, he4, he3, *]

/-- What the loop's own round is asked. -/
def AsksY (C : CallI) (lo : Nat) (o : AVal) (Y : List AVal → AHeap → Option (AVal × AHeap)) : Prop :=
  ∀ (v : AVal) (H1 : AHeap) (ea eb : Env) (H2 : AHeap), ea.get 9 = some o → ea.get 64 = some v → itemsI C lo [⟨some 10, .alloc z4, none, []⟩, ⟨none, .store 4 (.t 10) (.t 64), none, []⟩,
    ⟨some 32, .load none (.t 9), none, []⟩, ⟨some 33, .load (some 4) (.t 10), none, []⟩, ⟨some 34, .bsl 4 1 z4 [(0, 4, .t 33)], none, []⟩, ⟨some 35, .app 4 32 (.t 32) (.t 34), none, []⟩, ⟨none, .store 1 (.t 9) (.t 35), none, []⟩] ea H1 = some (eb, H2) →
    eb.get 9 = some o ∧ eb.get 37 = ea.get 37 ∧ eb.get 38 = ea.get 38 ∧ eb.get 47 = ea.get 47 ∧ eb.get 48 = ea.get 48 ∧ Y [v] H1 = some (.b true, H2)

theorem round_rel {C : CallI} {Y0 Y : List AVal → AHeap → Option (AVal × AHeap)} {l0 : Nat} {e e2 : Env} {o q1 q2 n k : AVal} (hs : SepY e e2 l o q1 q2 n k) {H : AHeap} {x : AExit} {e' : Env} {H' : AHeap} {f : Nat}
    (hY : AsksY C lo o Y)
    (h : execY Y0 l0 C lo f (dsB fK) e H = some (x, e', H')) :
    (x = .exit 0 ∧ ∃ e2', RunY Y l C lo (itB fK) e2 H (.exit 0, e2', H') ∧ e'.get 9 = some o) ∨ (x = .normal ∧ ∃ e2' k', RunY Y l C lo (itB fK) e2 H (.normal, e2', H') ∧ SepY e' e2' l o q1 q2 n k') := by
  obtain ⟨s1, s2, s3, s4, s5, t0, t1, t2, t3, t4⟩ := hs
  rcases inv_seq h with ⟨g, ea, Ha, _, ha, h⟩ | ⟨hx, g, _, ha⟩
  rotate_left
  · exact absurd (inv_reg rfl ha).1 hx
  obtain ⟨_, eb, hb, rfl⟩ := inv_reg rfl ha
  simp [ic_nil, ic_bin, Opd.eval, putD, s4, s5] at hb
  obtain ⟨v9, hv9, rfl, rfl⟩ := hb
  clear ha
  have r1 : RunY Y l C lo (.region [⟨some 9, .bin .lss (.t 8) (.t 7), none, []⟩] []) e2 H (.normal, e2.put 9 v9, H) := by
    refine RunY.reg (e1 := e2.put 9 v9) (k := []) rfl ?_
    simp [ic_nil, ic_bin, Opd.eval, putD, t3, t4, hv9]
  rcases inv_seq h with ⟨g2, ea, Ha, _, ha, h⟩ | ⟨hx, g2, _, ha⟩
  rotate_left
  · rcases inv_cond ha with ⟨hc, g3, _, h3⟩ | ⟨hc, g3, _, h3⟩
    · exact absurd (inv_skip h3).1 hx
    · obtain ⟨rfl, rfl, rfl⟩ := inv_exit h3
      simp [Opd.eval, Env.kill, Env.get_put] at hc
      subst hc
      refine .inl ⟨rfl, _, RunY.seq r1 (RunY.seqX (RunY.condF (by simp [Opd.eval, Env.get_put]) RunY.exit) (by simp)), ?_⟩
      simp [Env.kill, Env.get_put, s1]
  rcases inv_cond ha with ⟨hc, g3, _, h3⟩ | ⟨hc, g3, _, h3⟩
  rotate_left
  · exact absurd (inv_exit h3).1 (by simp)
  obtain ⟨_, he3, hH3⟩ := inv_skip h3
  rw [he3, hH3] at h
  simp [Opd.eval, Env.kill, Env.get_put] at hc
  subst hc
  have r2 : RunY Y l C lo (.cond (.t 9) .skip (.exit 0)) (e2.put 9 (.b true)) H (.normal, e2.put 9 (.b true), H) := RunY.condT (by simp [Opd.eval, Env.get_put]) RunY.skip
  refine .inr ?_
  have hs2 : SepY ((e.put 49 (.b true)).kill []) (e2.put 9 (.b true)) l o q1 q2 n k := by constructor <;> simp [Env.kill, Env.get_put, *]
  rcases inv_seq h with ⟨g4, eb, Hb, _, hb, h⟩ | ⟨hx, g4, _, hb⟩
  rotate_left
  · exact absurd (block_rel (fK := fK) hs2 hY hb).1 hx
  obtain ⟨_, e2b, r5, hs3⟩ := block_rel (fK := fK) hs2 hY hb
  obtain ⟨hxn, ec, hc, rfl⟩ := inv_reg rfl h
  simp [ic_nil, ic_bin, ic_mov, Opd.eval, putD, Env.get_put, hs3.c48] at hc
  obtain ⟨v50, hv50, rfl, rfl⟩ := hc
  refine ⟨hxn, (e2b.put 28 v50).put 8 v50, v50, RunY.seq r1 (RunY.seq r2 (RunY.seq r5 (RunY.reg (e1 := (e2b.put 28 v50).put 8 v50) (k := []) rfl ?_))), ?_⟩
  · simp [ic_nil, ic_bin, ic_mov, Opd.eval, putD, Env.get_put, hs3.d8, hv50]
  · obtain ⟨a1, a2, a3, a4, a5, b0, b1, b2, b3, b4⟩ := hs3
    constructor <;> simp [get_killL, Env.get_put, *]

theorem loop_rel {C : CallI} {Y0 Y : List AVal → AHeap → Option (AVal × AHeap)} {l0 : Nat} {o q1 q2 n : AVal} (hY : AsksY C lo o Y) : ∀ (f : Nat) (e e2 : Env) (k : AVal) (H : AHeap) (x : AExit) (e' : Env) (H' : AHeap), SepY e e2 l o q1 q2 n k → execY Y0 l0 C lo f (.loop (dsB fK)) e H = some (x, e', H') →
    x = .exit 0 ∧ e'.get 9 = some o ∧ ∃ e2', RunY Y l C lo (.loop (itB fK)) e2 H (.exit 0, e2', H') := by
  intro f
  induction f using Nat.strongRecOn with
  | _ f ih =>
    intro e e2 k H x e' H' hs h
    rcases inv_loop h with ⟨g, e1, H1, hg, h1, h2⟩ | ⟨hx, g, hg, h1⟩
    · rcases round_rel hs hY h1 with ⟨h3, _⟩ | ⟨_, e2', k', r, hs'⟩
      · cases h3
      · obtain ⟨h4, h5, e2'', r2⟩ := ih g hg e1 e2' k' H1 x e' H' hs' h2
        exact ⟨h4, h5, e2'', RunY.loop r r2⟩
    · rcases round_rel hs hY h1 with ⟨rfl, e2', r, h9⟩ | ⟨h3, _⟩
      · exact ⟨rfl, h9, e2', RunY.loopX r (by simp)⟩
      · exact absurd h3 hx

theorem ic_box {C : CallI} {e : Env} {H : AHeap} {d : Option Nat} {xs : List Item} {r : Env × AHeap} {x : Opd} : itemsI C lo (⟨d, .box x, none, []⟩ :: xs) e H = some r ↔ ∃ v, x.eval e = some v ∧ v.tup = false ∧ itemsI C lo xs (putD e d (.p H.next 0)) (H.push (.cells v.cells 1 false)) = some r := by
  rw [ic_cons]
  simp only [opI, aop]
  constructor
  · rintro ⟨v, H1, h1, h2⟩
    rcases hx : x.eval e with _ | a
    · rw [hx] at h1; cases h1
    · rw [hx] at h1
      simp only at h1
      split at h1
      · rename_i ht; cases h1; exact ⟨a, rfl, ht, h2⟩
      · cases h1
  · rintro ⟨v, h1, h2, h3⟩
    exact ⟨some (.p H.next 0), _, by rw [h1]; simp only [h2, if_true], h3⟩

theorem ic_bsl {C : CallI} {e : Env} {H : AHeap} {d : Option Nat} {xs : List Item} {r : Env × AHeap} {esz len : Nat} {z : List AVal} {ps : List (Nat × Nat × Opd)} : itemsI C lo (⟨d, .bsl esz len z ps, none, []⟩ :: xs) e H = some r ↔ ∃ us cs, evalParts e ps = some us ∧ fillA z us = some cs ∧ itemsI C lo xs (putD e d (.sl H.next 0 len (some len))) (H.push (.cells cs esz false)) = some r := by
  rw [ic_cons]
  simp only [opI, aop]
  constructor
  · rintro ⟨v, H1, h1, h2⟩
    rcases hx : evalParts e ps with _ | us
    · rw [hx] at h1; cases h1
    · rw [hx] at h1
      simp only at h1
      rcases hy : fillA z us with _ | cs
      · rw [hy] at h1; cases h1
      · rw [hy] at h1; cases h1; exact ⟨us, cs, rfl, hy, h2⟩
  · rintro ⟨us, cs, h1, h2, h3⟩
    exact ⟨some (.sl H.next 0 len (some len)), _, by rw [h1]; simp only [h2], h3⟩
theorem ic_app {C : CallI} {e : Env} {H : AHeap} {d : Option Nat} {xs : List Item} {r : Env × AHeap} {esz bytes : Nat} {x y : Opd} : itemsI C lo (⟨d, .app esz bytes x y, none, []⟩ :: xs) e H = some r ↔ ∃ a b v H1, x.eval e = some a ∧ y.eval e = some b ∧ appV lo H esz bytes a b = some (v, H1) ∧ itemsI C lo xs (putD e d v) H1 = some r := by
  rw [ic_cons]
  simp only [opI, aop]
  constructor
  · rintro ⟨v, H1, h1, h2⟩
    rcases hx : x.eval e with _ | a
    · rw [hx] at h1; cases h1
    · rcases hy : y.eval e with _ | b
      · rw [hx, hy] at h1; cases h1
      · rw [hx, hy] at h1
        simp only [Option.map_eq_some_iff] at h1
        obtain ⟨⟨u, H2⟩, h3, h4⟩ := h1
        cases h4
        exact ⟨a, b, u, _, rfl, rfl, h3, h2⟩
  · rintro ⟨a, b, v, H1, h1, h2, h3, h4⟩
    exact ⟨some v, H1, by rw [h1, h2]; simp only [h3]; rfl, h4⟩

/-! ### The function -/
def c0I : ICode := .region [⟨some 2, .box (.t 0), none, []⟩, ⟨some 4, .mov (.c .ns), none, []⟩, ⟨some 5, .mov (.c (.i .i64 0)), none, []⟩] []
def c1I (fV : Nat) : ICode := .region [⟨some 12, .load (some 2) (.t 2), none, []⟩, ⟨some 13, .mov (.t 1), none, []⟩, ⟨some 14, .call fV [.t 12, .t 13], none, []⟩, ⟨some 11, .mov (.t 14), none, []⟩, ⟨some 15, .ext (.t 11) 0, none, []⟩, ⟨some 16, .ext (.t 11) 1, none, []⟩,
  ⟨some 6, .mov (.t 15), none, []⟩, ⟨some 7, .mov (.t 16), none, []⟩] []
def c2I : ICode := .seq (.region [⟨some 17, .mov (.t 7), none, []⟩, ⟨some 18, .bin .neq (.t 17) (.c (.i .i64 0)), none, []⟩] []) (.cond (.t 18) (.seq (.region [⟨some 19, .mov (.t 7), none, []⟩, ⟨some 4, .mov (.c .ns), none, []⟩, ⟨some 5, .mov (.t 19), none, []⟩] []) .ret) .skip)
def c4I : ICode := .region [⟨some 20, .off (.t 2) 0, none, []⟩, ⟨some 21, .load none (.t 20), none, []⟩, ⟨some 22, .mov (.t 1), none, []⟩, ⟨some 23, .iaddr 4 (.t 21) (.t 22), none, []⟩, ⟨some 24, .off (.t 23) 3, none, []⟩, ⟨some 25, .load none (.t 24), none, []⟩, ⟨some 8, .mov (.t 25), none, []⟩] []
def c5I : ICode := .region [⟨some 9, .alloc [.ns], none, []⟩] []
def c6I (fBeg fBlk : Nat) : ICode := .region [⟨some 26, .mov (.t 8), none, []⟩, ⟨some 27, .mov (.t 8), none, []⟩, ⟨some 28, .mov (.t 6), none, []⟩, ⟨some 29, .call fBeg [.t 27, .t 28], none, []⟩, ⟨some 30, .call fBlk [.t 26, .t 29], none, []⟩] []
def c6D (fBeg : Nat) : ICode := .region [⟨some 26, .mov (.t 8), none, []⟩, ⟨some 27, .mov (.t 8), none, []⟩, ⟨some 28, .mov (.t 6), none, []⟩, ⟨some 29, .call fBeg [.t 27, .t 28], none, []⟩, ⟨some 37, .box (.t 26), none, []⟩, ⟨some 38, .box (.t 29), none, []⟩] []
def lpD (fK : Nat) : ICode := .seq (.region [⟨some 46, .load none (.t 37), none, []⟩, ⟨some 47, .lenk 0 (.t 46), none, []⟩, ⟨some 48, .mov (.c (.i .i64 0)), none, []⟩] []) (.block 0 (.loop (dsB fK)))
def c9I : ICode := .region [⟨some 36, .load none (.t 9), none, []⟩, ⟨some 4, .mov (.t 36), none, []⟩, ⟨some 5, .mov (.c (.i .i64 0)), none, []⟩] []
def ofC (fV fBeg fK : Nat) : ICode := .seq c0I (.seq (c1I fV) (.seq c2I (.seq c4I (.seq c5I (.seq (.seq (c6D fBeg) (lpD fK)) (.seq c9I .ret))))))
def ofI (fV fBeg fK mode : Nat) : IFunc := ⟨ofC fV fBeg fK, 65, 2, [.t 4, .t 5], mode⟩

/-- The maker of the iterator. -/
def BlkOK (IP : FuncId → Option IFunc) (fBlk fIt : FuncId) : Prop := ∀ (G : AHeap) (n lo : Nat) (a b : AVal) (H : AHeap), a.tup = false → b.tup = false →
  callB (exec IP G (n + 4)) IP G lo fBlk [a, b] H = some (.fn (.func fIt) [] [.p H.next 0, .p (H.next + 1) 0], (H.push (.cells a.cells 1 false)).push (.cells b.cells 1 false))

theorem asks_run {e6 : Env} {o : AVal} (h9 : e6.get 9 = some o) {F : Nat} : AsksY (callI (exec IP G (F + 4)) IP G lo) lo o (runY (exec IP G (F + 4)) lo rdA rdB [31] e6) := by
  intro v H1 ea eb H2 g1 g2 h
  simp [ic_nil, ic_mov, ic_load, ic_alloc, ic_store, ic_bsl, ic_app, evalParts, Opd.eval, putD, Env.get_put, g1, g2] at h
  obtain ⟨Ha, ha, w1, hw1, w2, hw2, cs, hcs, w3, Hb, happ, hst, rfl⟩ := h
  refine ⟨by simp [Env.get_put, g1], by simp [Env.get_put], by simp [Env.get_put], by simp [Env.get_put], by simp [Env.get_put], ?_⟩
  simp [runY, putsE, rdA, rdB, exec, itemsI, itemI, wantedI, opI, aop, evalParts, Opd.eval, putD, Env.get_put, Env.kill, skipI, reOk, h9, ha, hw1, hw2, hcs, happ, hst]
end

theorem exec_some {IP : FuncId → Option IFunc} {G : AHeap} {F lo : Nat} {a b : ICode} {e : Env} {H : AHeap} {r : AExit × Env × AHeap} (h : exec IP G F lo (.seq a b) e H = some r) : ∃ n, F = n + 1 ∧ exec IP G (n + 1) lo (.seq a b) e H = some r := by
  cases F with
  | zero => simp [exec] at h
  | succ n => exact ⟨n, rfl, h⟩

theorem seq_reg {IP : FuncId → Option IFunc} {G : AHeap} {f lo : Nat} {xs : List Item} {k : List Nat} {b : ICode} {e : Env} {H : AHeap} {r : AExit × Env × AHeap} (h : exec IP G (f + 1) lo (.seq (.region xs k) b) e H = some r) : ∃ e1 H1, exec IP G f lo b e1 H1 = some r := by
  rw [exec] at h
  split at h
  · rename_i e1 H1 _; exact ⟨e1, H1, h⟩
  · rename_i hne
    cases f with
    | zero => simp [exec] at h
    | succ f =>
      rw [exec] at h hne
      split at h
      · rename_i e1 H1 hi
        simp only [hi] at hne
        exact absurd rfl (hne _ _)
      · cases h
theorem seq_one {IP : FuncId → Option IFunc} {G : AHeap} {lo : Nat} {a b : ICode} {e : Env} {H : AHeap} : exec IP G 1 lo (.seq a b) e H = none := by simp [exec]
theorem noneOK {P : Program} {G : AHeap} {lo l : Nat} {ρ0 : Ren} {D0 : Nat → Prop} {H0 : AHeap} {w0 : World} : YOK P G lo l ρ0 D0 H0 w0 (fun _ _ => none) := by
  intro vs H r H' h; cases h

theorem lp_rel {C : CallI} {lo fK : Nat} {Y0 : List AVal → AHeap → Option (AVal × AHeap)} {l0 : Nat} {o q1 q2 : AVal} {f : Nat} {e e' : Env} {H H' : AHeap} {x : AExit} (g9 : e.get 9 = some o) (g1 : e.get 37 = some q1) (g2 : e.get 38 = some q2) (h : execY Y0 l0 C lo f (lpD fK) e H = some (x, e', H'))
    {Y : List AVal → AHeap → Option (AVal × AHeap)} (hY : AsksY C lo o Y) (l : Nat) :
    x = .normal ∧ e'.get 9 = some o ∧ ∃ e2', RunY Y l C lo (itC fK) (initEnv 0 [.fn (.yield l) [] [], q1, q2]) H (.normal, e2', H') := by
  rcases inv_seq h with ⟨g, ea, Ha, _, ha, h⟩ | ⟨hx, g, _, ha⟩
  rotate_left
  · exact absurd (inv_reg rfl ha).1 hx
  obtain ⟨_, eb, hb, rfl⟩ := inv_reg rfl ha
  simp [ic_nil, ic_load, ic_len, ic_mov, Opd.eval, putD, Env.get_put, g1] at hb
  obtain ⟨v46, h46, _, ⟨n, hn, rfl⟩, rfl, rfl⟩ := hb
  obtain ⟨g3, y, _, h, hy⟩ := inv_block h
  have hs : SepY ((((e.put 46 v46).put 47 (.i .i64 (n : Int))).put 48 (.i .i64 0)).kill []) ((((initEnv 0 [.fn (.yield l) [] [], q1, q2]).put 6 v46).put 7 (.i .i64 (n : Int))).put 8 (.i .i64 0)) l o q1 q2 (.i .i64 (n : Int)) (.i .i64 0) := by
    constructor <;> simp [Env.kill, Env.get_put, initEnv, Env.get, g9, g1, g2]
  obtain ⟨rfl, h9, e2', r⟩ := loop_rel hY g3 _ _ _ _ _ _ _ hs h
  rcases hy with ⟨_, rfl⟩ | ⟨hne, _⟩
  · refine ⟨rfl, h9, e2', RunY.seq (RunY.reg (e1 := ((((initEnv 0 [.fn (.yield l) [] [], q1, q2]).put 6 v46).put 7 (.i .i64 (n : Int))).put 8 (.i .i64 0))) (k := []) rfl ?_) (RunY.block r (.inr rfl))⟩
    simp [ic_nil, ic_load, ic_len, ic_mov, Opd.eval, putD, Env.get_put, initEnv, Env.get, h46, hn]
  · exact absurd rfl hne

set_option maxHeartbeats 1000000 in
theorem cus_of {P : Program} {IP : FuncId → Option IFunc} {fOf fV fBeg fK fBlk fIt mode b0 : Nat} {fn gn : Func} {gc c0 c1 c2 c4 c5 c6 c9 ca cb : Code} {g : Operand} {hs2 hsG : List Hint}
    (hmode : mode ≤ 1) (hfn : P.funcs[fOf]? = some fn) (hname : (fn.name == "runtime.NumGoroutine") = false)
    (hb : fn.body = some (.seq c0 (.seq c1 (.seq c2 (.seq c4 (.seq c5 (.seq (.seq c6 (.block b0 (.rangeFunc g #[31] ca cb))) (.seq c9 .ret))))))))
    (hg30 : trOpd P g = some (.t 30)) (hnt : fn.ntmps = 37) (hres : trRes P fn.results.toList = some [.t 4, .t 5])
    (h0 : trCode P 37 c0 [([], [])] = some (c0I, [])) (h1 : trCode P 37 c1 [([], [])] = some (c1I fV, [])) (h2 : trCode P 37 c2 hs2 = some (c2I, [])) (h4 : trCode P 37 c4 [([], [])] = some (c4I, [])) (h5 : trCode P 37 c5 [([], [])] = some (c5I, []))
    (h6 : trCode P 37 c6 [([], [])] = some (c6I fBeg fBlk, [])) (h9 : trCode P 37 c9 [([], [])] = some (c9I, [])) (hA : trCode P 37 ca [([], [])] = some (rdA, [])) (hB : trCode P 37 cb [([], [])] = some (rdB, []))
    (hnd : (noDV c0 && noDV c1 && noDV c2 && noDV c4 && noDV c5 && noDV c6 && noDV c9) = true)
    (hgn : P.funcs[fIt]? = some gn) (hgb : gn.body = some gc) (hgname : (gn.name == "runtime.NumGoroutine") = false) (hgt : trCode P gn.ntmps gc hsG = some (itC fK, [])) (hgnt : 3 ≤ gn.ntmps) (hgv : noDV gc = true) (hgres : trRes P gn.results.toList = some [])
    (hblk : BlkOK IP fBlk fIt) : CusOK P IP fOf (ofI fV fBeg fK mode) := by
  refine ⟨⟨fn, hfn, by rw [hb]; rfl, hname⟩, hmode, ?_⟩
  intro G F hm hg hgo hex hc lo hlo args H r H' hrun ρ D w hrel hok
  have hcc := hc lo hlo
  simp only [Bool.and_eq_true] at hnd
  obtain ⟨⟨⟨⟨⟨⟨n0, n1⟩, n2⟩, n4⟩, n5⟩, n6⟩, n9⟩ := hnd
  unfold bodyI at hrun
  split at hrun
  rotate_left
  · cases hrun
  rename_i hlen
  -- the run
  obtain ⟨x, e', H1, vs, hx, hxe, hvs, rfl, rfl⟩ : ∃ x e' H1 vs, exec IP G (F + 1) lo (ofC fV fBeg fK) (initEnv 0 args) H = some (x, e', H1) ∧ (∀ id, x ≠ .exit id) ∧ resI e' H1 [.t 4, .t 5] = some vs ∧ r = tupI vs ∧ H' = H1 := by
    split at hrun
    · cases hrun
    · rename_i x e1 H1 hne he
      split at hrun
      · rename_i vs hvs
        cases hrun
        exact ⟨x, e1, _, vs, he, hne, hvs, rfl, rfl⟩
      · cases hrun
    · cases hrun
  clear hrun
  -- fuel
  obtain ⟨n, rfl⟩ : ∃ n, F = n + 4 := by
    rcases F with _ | _ | _ | _ | n
    · exfalso; rw [ofC, seq_one] at hx; cases hx
    · exfalso
      obtain ⟨e1, H2, h3⟩ := seq_reg hx
      rw [seq_one] at h3; cases h3
    · exfalso
      obtain ⟨e1, H2, h3⟩ := seq_reg hx
      obtain ⟨e1, H2, h3⟩ := seq_reg h3
      rw [seq_one] at h3; cases h3
    · exfalso
      obtain ⟨e1, H2, h3⟩ := seq_reg hx
      obtain ⟨e1, H2, h3⟩ := seq_reg h3
      rw [exec, c2I, seq_one] at h3; cases h3
    · exact ⟨n, rfl⟩
  obtain ⟨C, hC⟩ : ∃ C, C = callI (exec IP G (n + 4)) IP G lo := ⟨_, rfl⟩
  have hxY : (∃ g e1 H2, execY (fun _ _ => none) 0 C lo g c0I (initEnv 0 args) H = some (.normal, e1, H2) ∧ execY (fun _ _ => none) 0 C lo g (.seq (c1I fV) (.seq c2I (.seq c4I (.seq c5I (.seq (.seq (c6D fBeg) (lpD fK)) (.seq c9I .ret)))))) e1 H2 = some (x, e', H')) := by
    unfold ofC at hx
    rw [exec] at hx
    split at hx
    · rename_i e1 H2 h3
      exact ⟨n + 4, e1, H2, by rw [hC]; exact exec_Y _ (Nat.le_refl _) _ _ _ _ rfl h3, by rw [hC]; exact exec_Y _ (Nat.le_refl _) _ _ _ _ rfl hx⟩
    · rename_i hne
      have h3 := exec_Y (Y := fun _ _ => none) (l := 0) (n + 4) (Nat.le_refl _) c0I _ _ _ rfl hx
      have := (inv_reg (x := x) rfl h3).1
      subst this
      exact (hne _ _ hx).elim
  rw [← hC] at hcc
  clear hx
  obtain ⟨g0, e1, H2, hx0, hx⟩ := hxY
  refine (callsIn_wide (n := 0)).1 (callsIn_of_wp_marks hfn hb trivial ?_)
  show Code.wpIn (FR none) 0 P _ _ _ w
  have har : ARel [] ρ D 37 (initEnv 0 args) { tmps := (renL ρ args).toArray ++ Array.replicate (fn.ntmps - (renL ρ args).toArray.size) undef, defers := [] } := by
    rw [hnt]
    exact init_rel (by rw [hlen]; show 2 ≤ 37; omega) hok
  have es := execY_sim (P := P) hm hg hgo hlo hcc (noneOK (P := P) (G := G) (lo := lo) (l := 0) (ρ0 := ρ) (D0 := D) (H0 := H) (w0 := w))
  refine wpIn_seq ?_
  refine (es g0).1 0 [] 37 c0 _ c0I _ h0 n0 ρ D _ _ H w ⟨hg, hgo, hrel, har⟩ (Step.refl lo ρ D H w hrel.lt) .normal e1 H2 hx0 _ ?_
  intro ρ1 D1 a1 w1 s1 r1 k1
  show (Code.seq c1 _).wpIn (FR none) 0 P _ a1 w1
  rcases inv_seq hx with ⟨g1, e2, H3, _, hx1, hx⟩ | ⟨hne, g1, _, hx1⟩
  rotate_left
  · exact absurd (inv_reg rfl hx1).1 hne
  refine wpIn_seq ?_
  refine (es g1).1 0 [] 37 c1 _ _ _ h1 n1 ρ1 D1 _ _ H2 w1 ⟨hg, hgo, r1, k1⟩ s1 .normal e2 H3 hx1 _ ?_
  intro ρ2 D2 a2 w2 s2' r2 k2
  have s2 := s1.trans s2'
  show (Code.seq c2 _).wpIn (FR none) 0 P _ a2 w2
  rcases inv_seq hx with ⟨g2, e3, H4, _, hx2, hx⟩ | ⟨hne, g2, _, hx2⟩
  rotate_left
  · refine wpIn_seq ?_
    refine (es g2).1 0 [] 37 c2 _ _ _ h2 n2 ρ2 D2 _ _ H3 w2 ⟨hg, hgo, r2, k2⟩ s2 x e' H' hx2 _ ?_
    intro ρ3 D3 a3 w3 s3' r3 k3
    cases x with
    | normal => exact absurd rfl hne
    | exit id => exact absurd rfl (hxe id)
    | ret => exact leave_sim hg hgo hres hvs (s2.trans s3') r3 k3 (.inl rfl)
  refine wpIn_seq ?_
  refine (es g2).1 0 [] 37 c2 _ _ _ h2 n2 ρ2 D2 _ _ H3 w2 ⟨hg, hgo, r2, k2⟩ s2 .normal e3 H4 hx2 _ ?_
  intro ρ3 D3 a3 w3 s3' r3 k3
  have s3 := s2.trans s3'
  show (Code.seq c4 _).wpIn (FR none) 0 P _ a3 w3
  rcases inv_seq hx with ⟨g4, e4, H5, _, hx4, hx⟩ | ⟨hne, g4, _, hx4⟩
  rotate_left
  · exact absurd (inv_reg rfl hx4).1 hne
  refine wpIn_seq ?_
  refine (es g4).1 0 [] 37 c4 _ _ _ h4 n4 ρ3 D3 _ _ H4 w3 ⟨hg, hgo, r3, k3⟩ s3 .normal e4 H5 hx4 _ ?_
  intro ρ4 D4 a4 w4 s4' r4 k4
  have s4 := s3.trans s4'
  show (Code.seq c5 _).wpIn (FR none) 0 P _ a4 w4
  rcases inv_seq hx with ⟨g5, e5, H6, _, hx5, hx⟩ | ⟨hne, g5, _, hx5⟩
  rotate_left
  · exact absurd (inv_reg rfl hx5).1 hne
  refine wpIn_seq ?_
  refine (es g5).1 0 [] 37 c5 _ _ _ h5 n5 ρ4 D4 _ _ H5 w4 ⟨hg, hgo, r4, k4⟩ s4 .normal e5 H6 hx5 _ ?_
  intro ρ5 D5 a5 w5 s5' r5 k5
  have s5 := s4.trans s5'
  -- the row that grows
  obtain ⟨o, h9o⟩ : ∃ o, e5.get 9 = some o := by
    obtain ⟨_, ex, hex5, rfl⟩ := inv_reg rfl hx5
    simp [ic_nil, ic_alloc, putD] at hex5
    obtain ⟨rfl, _⟩ := hex5
    exact ⟨_, by simp [Env.kill, Env.get_put]; rfl⟩
  show (Code.seq (.seq c6 _) _).wpIn (FR none) 0 P _ a5 w5
  -- the maker of the iterator
  have six : ∀ {f : Nat} {y : AExit} {e7 : Env} {H8 : AHeap}, execY (fun _ _ => none) 0 C lo f (.seq (c6D fBeg) (lpD fK)) e5 H6 = some (y, e7, H8) → ∃ e6 H7 g e6d q1 q2, execY (fun _ _ => none) 0 C lo 1 (c6I fBeg fBlk) e5 H6 = some (.normal, e6, H7) ∧ e6.get 30 = some (.fn (.func fIt) [] [q1, q2]) ∧ e6.get 9 = some o ∧
      e6d.get 9 = some o ∧ e6d.get 37 = some q1 ∧ e6d.get 38 = some q2 ∧ execY (fun _ _ => none) 0 C lo g (lpD fK) e6d H7 = some (y, e7, H8) := by
    intro f y e7 H8 h
    rcases inv_seq h with ⟨g, ea, Ha, _, ha, h⟩ | ⟨hne, g, _, ha⟩
    rotate_left
    · exact absurd (inv_reg rfl ha).1 hne
    obtain ⟨_, eb, hb, rfl⟩ := inv_reg rfl ha
    simp [ic_nil, ic_mov, ic_call, ic_box, evals_nilC, evals_consC, Opd.eval, putD, Env.get_put] at hb
    obtain ⟨v, hv8, v1, hv8', v2, hv6, u, Hu, hcall, ht1, ht2, rfl, rfl⟩ := hb
    have hb2 : C.call fBlk [v, u] Hu = some (.fn (.func fIt) [] [.p Hu.next 0, .p (Hu.next + 1) 0], (Hu.push (.cells v.cells 1 false)).push (.cells u.cells 1 false)) := by rw [hC]; exact hblk G n lo v u Hu ht1 ht2
    have hi : itemsI C lo [⟨some 26, .mov (.t 8), none, []⟩, ⟨some 27, .mov (.t 8), none, []⟩, ⟨some 28, .mov (.t 6), none, []⟩, ⟨some 29, .call fBeg [.t 27, .t 28], none, []⟩, ⟨some 30, .call fBlk [.t 26, .t 29], none, []⟩] e5 H6 =
        some (((((e5.put 26 v).put 27 v1).put 28 v2).put 29 u).put 30 (.fn (.func fIt) [] [.p Hu.next 0, .p (Hu.next + 1) 0]), (Hu.push (.cells v.cells 1 false)).push (.cells u.cells 1 false)) := by
      simp [ic_nil, ic_mov, ic_call, evals_nilC, evals_consC, Opd.eval, putD, Env.get_put, hv8, hv6]
      rw [hv8] at hv8'
      cases hv8'
      refine ⟨u, Hu, hcall, ?_⟩
      exact ⟨_, hb2, rfl⟩
    refine ⟨((((e5.put 26 v).put 27 v1).put 28 v2).put 29 u).put 30 (.fn (.func fIt) [] [.p Hu.next 0, .p (Hu.next + 1) 0]), _, g, _, .p Hu.next 0, .p (Hu.next + 1) 0, ?_, ?_, ?_, ?_, ?_, ?_, h⟩
    · simp only [execY, c6I]
      rw [show hasV _ = false from rfl]
      simp only [Bool.false_eq_true, if_false, hi]
      rfl
    · simp [Env.get_put]
    · simp [Env.get_put, h9o]
    · simp [Env.kill, Env.get_put, h9o]
    · simp [Env.kill, Env.get_put]
    · simp [Env.kill, Env.get_put, AHeap.next_push]
  have hasks : ∀ e6 : Env, e6.get 9 = some o → AsksY C lo o (runY (exec IP G (n + 4)) lo rdA rdB [31] e6) := fun e6 h => by rw [hC]; exact asks_run h
  rcases inv_seq hx with ⟨g6, e7, H8, _, hx6, hx⟩ | ⟨hne, g6, _, hx6⟩
  rotate_left
  · obtain ⟨e6, H7, g, e6d, q1, q2, x6, a30, a9, d9, d37, d38, hl⟩ := six hx6
    exact absurd (lp_rel d9 d37 d38 hl (hasks e6 a9) 0).1 hne
  obtain ⟨e6, H7, g, e6d, q1, q2, x6, a30, a9, d9, d37, d38, hl⟩ := six hx6
  have hlp := fun l => lp_rel d9 d37 d38 hl (hasks e6 a9) l
  have h9' := (hlp 0).2.1
  refine wpIn_seq ?_
  refine wpIn_seq ?_
  refine (es 1).1 0 [] 37 c6 _ _ _ h6 n6 ρ5 D5 _ _ H6 w5 ⟨hg, hgo, r5, k5⟩ s5 .normal e6 H7 x6 _ ?_
  intro ρ6 D6 a6 w6 s6' r6 k6
  have s6 := s5.trans s6'
  show (Code.block b0 _).wpIn (FR none) 0 P _ a6 w6
  refine wpIn_block ?_
  have hcc' := hcc
  rw [hC] at hcc'
  have hlp' : ∀ l, ∃ F' x eg vs, execY (runY (exec IP G (n + 4)) lo rdA rdB (#[31] : Array Tmp).toList e6) l (callI (exec IP G (n + 4)) IP G lo) lo F' (itC fK) (initEnv 0 (.fn (.yield l) [] [] :: [q1, q2])) H7 = some (x, eg, H8) ∧ (x = .normal ∨ x = .ret) ∧ resI eg H8 [] = some vs := fun l => by
    obtain ⟨_, _, e2', f2, hf2⟩ := hlp l
    rw [hC] at hf2
    exact ⟨f2, .normal, e2', [], hf2, .inl rfl, rfl⟩
  refine range_sim hm hex hcc' hlo ⟨hg, hgo, r6, k6⟩ hg30 (by simpa [Opd.eval] using a30) hgn hgb hgname hgt hgv hgres (by simpa using hgnt) hA hB (by simp) hlp' ?_
  intro ρ7 D7 a7 w7 Dk s7' r7 k7 hd1 hd2
  have s7 := s6.trans s7'
  show (Code.seq c9 .ret).wpIn (FR none) 0 P _ a7 w7
  -- what is handed back
  rcases inv_seq hx with ⟨g9, e8, H9, _, hx9, hx⟩ | ⟨hne, g9, _, hx9⟩
  rotate_left
  · exact absurd (inv_reg rfl hx9).1 hne
  obtain ⟨_, ex, hex9, rfl⟩ := inv_reg rfl hx9
  simp [ic_nil, ic_load, ic_mov, Opd.eval, putD, Env.get_put, h9'] at hex9
  obtain ⟨v36, h36, rfl, rfl⟩ := hex9
  have x9 : execY (fun _ _ => none) 0 C lo 1 c9I e6 H8 = some (.normal, ((e6.put 36 v36).put 4 v36).put 5 (.i .i64 0), H8) := by
    have hi : itemsI C lo [⟨some 36, .load none (.t 9), none, []⟩, ⟨some 4, .mov (.t 36), none, []⟩, ⟨some 5, .mov (.c (.i .i64 0)), none, []⟩] e6 H8 = some (((e6.put 36 v36).put 4 v36).put 5 (.i .i64 0), H8) := by
      simp [ic_nil, ic_load, ic_mov, Opd.eval, putD, Env.get_put, a9, h36]
    simp only [execY, c9I]
    rw [show hasV _ = false from rfl]
    simp only [Bool.false_eq_true, if_false, hi]
    rfl
  have hret : x = .ret ∧ e' = ((((e7.put 36 v36).put 4 v36).put 5 (.i .i64 0)).kill []) ∧ H' = H8 := by
    cases g9 with
    | zero => simp [execY] at hx
    | succ g9 => rw [execY] at hx; cases hx; exact ⟨rfl, rfl, rfl⟩
  obtain ⟨rfl, rfl, rfl⟩ := hret
  have hvs' : resI (((e6.put 36 v36).put 4 v36).put 5 (.i .i64 0)) H' [.t 4, .t 5] = some vs := by
    rw [← hvs]
    simp [resI, Env.kill, Env.get_put]
  refine wpIn_seq ?_
  have es7 := execY_sim (P := P) hm hg hgo hlo hcc (noneOK (P := P) (G := G) (lo := lo) (l := 0) (ρ0 := ρ) (D0 := D) (H0 := H) (w0 := w))
  refine (es7 1).1 0 _ 37 c9 _ _ _ h9 n9 ρ7 D7 _ _ H' w7 ⟨hg, hgo, r7, k7⟩ s7 .normal _ H' x9 _ ?_
  intro ρ8 D8 a8 w8 s8' r8 k8
  show Code.ret.wpIn (FR none) 0 P _ a8 w8
  refine wpIn_ret ?_
  exact leave_sim hg hgo hres hvs' (s7.trans s8') r8 k8 (.inr ⟨Dk, rfl, Nat.le_trans s6.size hd1, s8'.keeps r7 hd2 (odd_deferred _)⟩)

/-- The maker of the iterator, as it is turned. -/
def blkI (fIt : FuncId) (k1 k2 : List Nat) (mode : Nat) : IFunc := ⟨.seq (.region [⟨some 2, .box (.t 0), none, []⟩, ⟨some 3, .box (.t 1), none, []⟩, ⟨some 4, .mov (.c .nf), none, []⟩] k1) (.seq (.region [⟨some 5, .mkf fIt [] [.t 2, .t 3], none, []⟩, ⟨some 4, .mov (.t 5), none, []⟩] k2) .ret), 6, 2, [.t 4], mode⟩
theorem blk_ok {IP : FuncId → Option IFunc} {fBlk fIt mode : Nat} (hm : mode ≤ 1) (h : IP fBlk = some (blkI fIt [] [] mode)) : BlkOK IP fBlk fIt := by
  intro G n lo a b H h1 h2
  rcases (show mode = 0 ∨ mode = 1 by omega) with rfl | rfl <;>
  simp [callB, h, blkI, bodyI, exec, initEnv, itemsI, itemI, wantedI, opI, aop, evals, Opd.eval, putD, Env.put, Env.get, Env.kill, skipI, reOk, resI, tupI, h1, h2, AHeap.next_push]
theorem blk_okK {IP : FuncId → Option IFunc} {fBlk fIt mode : Nat} (hm : mode ≤ 1) (h : IP fBlk = some (blkI fIt [0, 1, 4] [2, 3, 5] mode)) : BlkOK IP fBlk fIt := by
  intro G n lo a b H h1 h2
  rcases (show mode = 0 ∨ mode = 1 by omega) with rfl | rfl <;>
  simp [callB, h, blkI, bodyI, exec, initEnv, itemsI, itemI, wantedI, opI, aop, evals, Opd.eval, putD, Env.put, Env.get, Env.kill, Env.del, skipI, reOk, resI, tupI, h1, h2, AHeap.next_push]
end Go.RI

