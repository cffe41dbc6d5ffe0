/- RI, part Yl: a loop over an iterator of one's own: the iterator is handed yield, a round is the loop's body. Conditions: none. -/
import Derived.Test.YteoliiakbmomeaaRiZ
import Derived.RangeFuncRecord
import Derived.RangeFuncKeeps
namespace Go.RI
open Go
set_option linter.unusedSimpArgs false

/-! ### Blocks that nobody names -/
/-- No row, no map. -/
def Odd (o : Obj) : Prop := (∀ C e fz, o ≠ .cells C e fz) ∧ ∀ E n, o ≠ .map E n

section
variable {G : AHeap} {lo : Nat} {ρ ρ' : Ren} {D D' : Nat → Prop} {H H' : AHeap} {w w' : World}

theorem HRel.odd (h : HRel G ρ D H w) {k : Nat} {o : Obj} (hk : w.heap[k]? = some o) (ho : Odd o) {id : Nat} {o' : AObj} (hd : D id) (hg : H.get id = some o') : (ρ id).blk ≠ k := by
  intro hb
  cases o' with
  | cells c esz ro =>
    obtain ⟨C, e, fz, h1, _⟩ := (h.cells id c esz ro hd hg).at_
    rw [hb, hk] at h1; exact ho.1 _ _ _ (Option.some.inj h1)
  | map es =>
    obtain ⟨⟨E, n, h1, _⟩, _⟩ := h.maps id es hd hg
    rw [hb, hk] at h1; exact ho.2 _ _ (Option.some.inj h1)

/-- It lies on. -/
theorem Step.keeps (s : Step lo ρ D H w ρ' D' H' w') (h : HRel G ρ D H w) {k : Nat} {o : Obj} (hk : w.heap[k]? = some o) (ho : Odd o) : w'.heap[k]? = some o := by
  rw [s.frame k (Array.getElem?_eq_some_iff.1 hk).1 fun id o' hd hg _ => h.odd hk ho hd hg]
  exact hk

theorem alloc_odd (h : HRel G ρ D H w) (o : Obj) : Step lo ρ D H w ρ D H (w.alloc o) ∧ HRel G ρ D H (w.alloc o) := by
  have hb : ∀ k, k < w.heap.size → (w.alloc o).heap[k]? = w.heap[k]? := fun k hk => RowKit.Below.heap_alloc w o k hk
  refine ⟨{ Step.refl lo ρ D H w h.lt with os := rfl, tape := rfl, output := rfl, froz := fun ad hlt => by simp only [World.frozen?, hb _ hlt], size := by simp, frame := fun k hk _ => hb k hk }, h.heap_eq hb⟩

theorem HRel.putOdd (h : HRel G ρ D H w) {k : Nat} {o : Obj} (hk : w.heap[k]? = some o) (ho : Odd o) (o' : Obj) : HRel G ρ D H (w.putObj k o') where
  lt := h.lt
  cells := fun id c esz ro hd hg => (h.cells id c esz ro hd hg).move (fun _ h => ⟨h, rfl⟩) (World.putObj_heap_other (h.odd hk ho hd hg))
  maps := fun id es hd hg => (h.maps id es hd hg).move (fun _ h => ⟨h, rfl⟩) (World.putObj_heap_other (h.odd hk ho hd hg))
  apart := h.apart
  glob := h.glob
  gnext := h.gnext
  wf := h.wf

theorem frozen_putObj {k : Nat} {o' : Obj} {ad : Addr} (h : ad.block ≠ k) : (w.putObj k o').frozen? ad = w.frozen? ad := by
  simp only [World.frozen?, World.putObj_heap_other h]

/-- A block that is new is turned. -/
theorem Step.putNew (s : Step lo ρ D H w ρ' D' H' w') {k : Nat} (hk : w.heap.size ≤ k) (o' : Obj) : Step lo ρ D H w ρ' D' H' (w'.putObj k o') :=
  { s with
    os := s.os, tape := s.tape, output := s.output
    froz := fun ad hlt => (frozen_putObj (by omega)).trans (s.froz ad hlt)
    size := by rw [World.putObj_size]; exact s.size
    frame := fun j hj hn => (World.putObj_heap_other (by omega)).trans (s.frame j hj hn) }

/-- A block is turned, and turned back. -/
theorem Step.around {k : Nat} {o o1 : Obj} (hk : w.heap[k]? = some o) (s : Step lo ρ D H (w.putObj k o1) ρ' D' H' w') (hw : k < w'.heap.size) : Step lo ρ D H w ρ' D' H' (w'.putObj k o) where
  old := s.old
  new := s.new
  ghost := s.ghost
  low := s.low
  next := s.next
  wr := s.wr
  fresh := fun id o' hd hn hg hw => by have := s.fresh id o' hd hn hg hw; rwa [World.putObj_size] at this
  os := s.os
  tape := s.tape
  output := s.output
  froz := fun ad hlt => by
    by_cases e : ad.block = k
    · simp only [World.frozen?, e, World.putObj_heap_same hw, hk]
    · rw [frozen_putObj e, s.froz ad (by rw [World.putObj_size]; exact hlt), frozen_putObj e]
  size := by rw [World.putObj_size]; have := s.size; rwa [World.putObj_size] at this
  frame := fun j hj hn => by
    by_cases e : j = k
    · subst e; rw [World.putObj_heap_same hw, hk]
    · rw [World.putObj_heap_other e, s.frame j (by rw [World.putObj_size]; exact hj) hn, World.putObj_heap_other e]
end

theorem odd_loop (r : Loop) : Odd (.loop r) := ⟨fun _ _ _ h => (by cases h), fun _ _ h => (by cases h)⟩
theorem odd_deferred (d : Option (List Deferred)) : Odd (.deferred d) := ⟨fun _ _ _ h => (by cases h), fun _ _ h => (by cases h)⟩

/-! ### A round -/
def putsE : Env → List Nat → List AVal → Env
  | e, p :: ps, v :: vs => putsE (e.put p v) ps vs
  | e, _, _ => e

/-- The loop's body, as what yield comes to. -/
noncomputable def runY (ex : Nat → ICode → Env → AHeap → Option (AExit × Env × AHeap)) (lo : Nat) (ia ib : ICode) (ps : List Nat) (e : Env) (vs : List AVal) (H : AHeap) : Option (AVal × AHeap) :=
  if vs.length = ps.length then
    match ex lo ia (putsE e ps vs) H with
    | some (.normal, e1, H1) => match ex lo ib e1 H1 with
      | some (.normal, _, H2) => some (.b true, H2)
      | _ => none
    | _ => none
  else none

section
variable {P : Program} {G : AHeap} {lo : Nat}

theorem puts_sim {ds : List Deferred} {nt : Nat} {ρ : Ren} {D : Nat → Prop} : ∀ (ps : List Nat) (vs : List AVal) (e : Env) (a : Act), vs.length = ps.length → (∀ p ∈ ps, p < nt) → ARel ds ρ D nt e a → okL ρ D vs →
    ARel ds ρ D nt (putsE e ps vs) { tmps := (ps.zip (renL ρ vs)).foldl (fun t (p, v) => t.setIfInBounds p v) a.tmps, defers := a.defers }
  | [], [], e, a, _, _, h, _ => h
  | p :: ps, v :: vs, e, a, hl, hp, h, hv => by
    simp only [okL] at hv
    have h1 := h.put (t := p) (v := v) (hp p (List.mem_cons_self ..)) hv.1
    exact puts_sim ps vs (e.put p v) (a.put (some p) (ren ρ v)) (by simpa using hl) (fun q hq => hp q (List.mem_cons_of_mem _ hq)) h1 hv.2
  | [], _ :: _, _, _, hl, _, _, _ => by simp at hl
  | _ :: _, [], _, _, hl, _, _, _ => by simp at hl

/-- What a call of yield comes to, from some world on. -/
def YOK (P : Program) (G : AHeap) (lo l : Nat) (ρ0 : Ren) (D0 : Nat → Prop) (H0 : AHeap) (w0 : World) (Y : List AVal → AHeap → Option (AVal × AHeap)) : Prop :=
  ∀ (vs : List AVal) (H : AHeap) (r : AVal) (H' : AHeap), Y vs H = some (r, H') → ∀ (ρ : Ren) (D : Nat → Prop) (w : World), HRel G ρ D H w → Step lo ρ0 D0 H0 w0 ρ D H w → okL ρ D vs → ∀ m : Nat,
    YieldAt (FR none) m P l (renL ρ vs).toArray w fun e w' => ∃ ρ' D', e = .returned (ren ρ' r) ∧ Step lo ρ D H w ρ' D' H' w' ∧ HRel G ρ' D' H' w' ∧ ok ρ' D' r

theorem round_ok {IP : FuncId → Option IFunc} {F : Nat} (hex : ExecOK P IP G F) (hg : G.next = P.globals.size) (hgo : GOk G) (hlo : G.next ≤ lo) {nt l fn : Nat} {tmps : Array Value} {ps : Array Tmp} {assign body : Code} {dk : Nat}
    {hsA hsA' hsB hsB' : List Hint} {ia ib : ICode} (hA : trCode P nt assign hsA = some (ia, hsA')) (hB : trCode P nt body hsB = some (ib, hsB')) (hps : ∀ p ∈ ps.toList, p < nt)
    {ρ0 : Ren} {D0 : Nat → Prop} {H0 : AHeap} {w0 : World} (h0 : HRel G ρ0 D0 H0 w0) {e : Env} (har : ARel [] ρ0 D0 nt e { tmps := tmps, defers := [] })
    (hl : w0.heap[l]? = some (.loop { state := .ready, pending := none, fn := fn, tmps := tmps, params := ps, assign := assign, body := body, defers := dk })) :
    YOK P G lo l ρ0 D0 H0 w0 (runY (exec IP G F) lo ia ib ps.toList e) := by
  intro vs H r H' hY ρ D w hrel hst hv m
  unfold runY at hY
  split at hY
  · rename_i hlen
    split at hY
    · rename_i e1 H1 hx1
      split at hY
      · rename_i e2 H2 hx2
        cases hY
        have hlw := hst.keeps h0 hl (odd_loop _)
        have har1 : ARel [] ρ D nt e { tmps := tmps, defers := [] } := har.step hst
        have har2 := puts_sim ps.toList vs e _ hlen hps har1 hv
        have hsz : (renL ρ vs).toArray.size = ps.size := by simp [renL_length, hlen]
        refine ⟨fn, _, assign, body, run_yield hlw hsz, roundIn_of_wpIn trivial ?_⟩
        have hfold : (ps.zip (renL ρ vs).toArray).foldl (fun t (x : Tmp × Value) => t.setIfInBounds x.1 x.2) tmps = (ps.toList.zip (renL ρ vs)).foldl (fun t (x : Nat × Value) => t.setIfInBounds x.1 x.2) tmps := by
          rw [← Array.foldl_toList, Array.toList_zip]
        show assign.wpIn (FR (some l)) m P _ _ w
        refine hex (some l) m [] nt lo hlo assign hsA ia hsA' hA ρ D (putsE e ps.toList vs) _ H w ⟨hg, hgo, hrel, ?_⟩ .normal e1 H1 hx1 _ ?_
        · have : { tmps := (ps.zip (renL ρ vs).toArray).foldl (fun t (x : Tmp × Value) => t.setIfInBounds x.1 x.2) tmps, defers := [] } = ({ tmps := (ps.toList.zip (renL ρ vs)).foldl (fun t (x : Nat × Value) => t.setIfInBounds x.1 x.2) tmps, defers := [] } : Act) := by rw [hfold]
          rw [this]; exact har2
        intro ρ1 D1 a1 w1 s1 r1 k1
        have hl1 := s1.keeps hrel hlw (odd_loop _)
        have hlt1 := (Array.getElem?_eq_some_iff.1 hl1).1
        refine ⟨_, run_beginRound hl1 rfl, ?_⟩
        have r1' := r1.putOdd hl1 (odd_loop _) (.loop { state := .busy, pending := none, fn := fn, tmps := tmps, params := ps, assign := assign, body := body, defers := dk })
        refine hex (some l) m [] nt lo hlo body hsB ib hsB' hB ρ1 D1 e1 a1 H1 _ ⟨hg, hgo, r1', k1⟩ .normal e2 _ hx2 _ ?_
        intro ρ2 D2 a2 w2 s2 r2 k2
        have hl2 := s2.keeps r1' (World.putObj_heap_same hlt1) (odd_loop _)
        have hlt2 := (Array.getElem?_eq_some_iff.1 hl2).1
        refine ⟨_, _, run_endRound none hl2, ρ2, D2, rfl, ?_, r2.putOdd hl2 (odd_loop _) _, by simp [ok]⟩
        exact s1.trans (Step.around hl1 s2 hlt2)
      · cases hY
    · cases hY
  · cases hY
end

/-! ### The iterator's own code -/
/-- An operation, where a call of yield comes to what is told. -/
noncomputable def opY (Y : List AVal → AHeap → Option (AVal × AHeap)) (l : Nat) (call : CallI) (lo : Nat) (o : IOp) (e : Env) (H : AHeap) : Option (Option AVal × AHeap) :=
  match o with
  | .callv x args => match x.eval e with
    | some (.fn (.yield k) [] []) => if k = l then (match evals e args with
      | some vs => match Y vs H with
        | some (v, H') => some (some v, H')
        | none => none
      | none => none) else none
    | _ => opI call lo (.callv x args) e H
  | o => opI call lo o e H

noncomputable def itemY (Y : List AVal → AHeap → Option (AVal × AHeap)) (l : Nat) (call : CallI) (lo : Nat) (x : Item) (e : Env) (H : AHeap) : Option (Env × AHeap) :=
  match wantedI e x.guard with
  | none => none
  | some false => some (putD e x.dst (.tu []), H)
  | some true => match opY Y l call lo x.op e H with
    | some (some v, H') => some (putD e x.dst v, H')
    | some (none, H') => some (putD e x.dst (.tu []), H')
    | none => none

noncomputable def itemsY (Y : List AVal → AHeap → Option (AVal × AHeap)) (l : Nat) (call : CallI) (lo : Nat) : List Item → Env → AHeap → Option (Env × AHeap)
  | [], e, H => some (e, H)
  | x :: xs, e, H => match itemY Y l call lo x e H with
    | some (e', H') => itemsY Y l call lo xs e' H'
    | none => none

def isV : IOp → Bool
  | .callv _ _ => true
  | _ => false
def hasV (xs : List Item) : Bool := xs.any fun x => isV x.op

noncomputable def execY (Y : List AVal → AHeap → Option (AVal × AHeap)) (l : Nat) (call : CallI) (lo : Nat) : Nat → ICode → Env → AHeap → Option (AExit × Env × AHeap)
  | 0, _, _, _ => none
  | f + 1, c, e, H =>
    match c with
    | .skip => some (.normal, e, H)
    | .region items kill => match (if hasV items then itemsY Y l call lo items e H else itemsI call lo items e H) with
      | some (e', H') => some (.normal, e'.kill kill, H')
      | none => none
    | .seq a b => match execY Y l call lo f a e H with
      | some (.normal, e', H') => execY Y l call lo f b e' H'
      | r => r
    | .cond x a b => match x.eval e with
      | some (.b true) => execY Y l call lo f a e H
      | some (.b false) => execY Y l call lo f b e H
      | _ => none
    | .block id b => match execY Y l call lo f b e H with
      | some (.exit id', e', H') => if id' = id then some (.normal, e', H') else some (.exit id', e', H')
      | r => r
    | .loop b => match execY Y l call lo f b e H with
      | some (.normal, e', H') => execY Y l call lo f (.loop b) e' H'
      | r => r
    | .exit id => some (.exit id, e, H)
    | .ret => some (.ret, e, H)

/-- Where an order is drawn no function value is called. -/
def noDV : Code → Bool
  | .region _ ops draw => !draw || ops.all fun o => match o.op with
    | .call c => (match c.callee with
      | .value (.func _) => true
      | .value _ => false
      | _ => true)
    | _ => true
  | .seq a b => noDV a && noDV b
  | .cond _ a b => noDV a && noDV b
  | .block _ b => noDV b
  | .loop b => noDV b
  | .scope b => noDV b
  | _ => true

section
variable {ds : List Deferred} {P : Program} {G : AHeap} {lo l n : Nat} {ρ : Ren} {D : Nat → Prop} {e : Env} {a : Act} {H : AHeap} {w : World} {m : Nat}
variable {ρ0 : Ren} {D0 : Nat → Prop} {H0 : AHeap} {w0 : World} {Y : List AVal → AHeap → Option (AVal × AHeap)} {call : CallI}

theorem opY_sim (hc : CallOK P G lo call) (hY : YOK P G lo l ρ0 D0 H0 w0 Y) (r : Rel P G ds ρ D n e a H w) (h0 : Step lo ρ0 D0 H0 w0 ρ D H w) (hlo : G.next ≤ lo) {o : Oper} {io : IOp} (ho : trOpC P o = some io) {v : Option AVal} {H' : AHeap} (hs : opY Y l call lo io e H = some (v, H'))
    {next : Act → World → Prop} {Q : Exit → Act → World → Prop}
    (h : ∀ ρ' D' w', Step lo ρ D H w ρ' D' H' w' → HRel G ρ' D' H' w' → ok ρ' D' (v.getD (.tu [])) → next (a.put o.dst (ren ρ' (v.getD (.tu [])))) w') : o.wpIn (FR none) m P a w next Q := by
  have plain : opI call lo io e H = some (v, H') → o.wpIn (FR none) m P a w next Q := fun hop => opC_sim hc r hlo ho hop fun ρ' D' w' g1 g2 g3 _ => h ρ' D' w' g1 g2 g3
  unfold opY at hs
  split at hs
  · rename_i x args
    split at hs
    · rename_i k hx
      split at hs
      · rename_i hk
        subst hk
        split at hs
        · rename_i vs hvs
          split at hs
          · rename_i u H1 hy
            cases hs
            have hd := trOpC_nd ho (by intro h; cases h)
            -- what is called
            have ho2 := ho
            unfold trOpC at ho2
            split at ho2
            · rename_i io' hio
              split at ho2
              · rename_i hisc
                cases ho2
                simp [IOp.isC] at hisc
              · cases ho2
            · split at ho2
              · rename_i c hop
                split at ho2
                · rename_i io0 hio0
                  cases ho2
                  unfold trCall at hio0
                  split at hio0
                  · rw [Option.map_eq_some_iff] at hio0
                    obtain ⟨_, _, hh⟩ := hio0; cases hh
                  · rename_i xx hne hcal
                    split at hio0
                    · rename_i x' l' hx' hl'
                      cases hio0
                      obtain ⟨g1, g2⟩ := opds_sim r hl' hvs
                      obtain ⟨g3, _⟩ := opd_sim r hx' hx
                      have harr : c.args.map a.eval = (renL ρ vs).toArray := by apply Array.ext'; rw [Array.toList_map, g1]
                      obtain ⟨fn, tmps, assign, body, hyr, hround⟩ := hY vs H u _ hy ρ D w r.heap h0 g2 (m - 1)
                      refine ⟨fun _ _ => trivial, ?_⟩
                      rw [Oper.semAt_eq _ _ _ hd]
                      have hrun : (execOp a.eval o).run P w = (Instr.yield k (renL ρ vs).toArray).run P w := by
                        simp [execOp, hop, resolve, hcal, g3, ren, Deferred.ofValue, invoke, harr, renL]
                      rw [hrun, hyr, Oper.uponIn_round]
                      refine ⟨fun h => by simp [FR, Fence.wide] at h, hround.mono ?_⟩
                      rintro en w' ⟨ρ', D', rfl, k1, k2, k3⟩
                      exact h ρ' D' w' k1 k2 k3
                    · cases hio0
                  · cases hio0
                · cases ho2
              · cases ho2
          · cases hs
        · cases hs
      · cases hs
    · exact plain hs
  · exact plain hs

theorem itemsY_sim (hc : CallOK P G lo call) (hY : YOK P G lo l ρ0 D0 H0 w0 Y) (hlo : G.next ≤ lo) {ops : Array Oper} {Q : Exit → Act → World → Prop} : ∀ (os : List Oper) (k : Nat) (xs : List Item), (∀ j o, os[j]? = some o → ops[k + j]? = some o) →
    trItems P n ops os = some xs → ∀ (ρ : Ren) (D : Nat → Prop) (e : Env) (a : Act) (H : AHeap) (w : World) (e' : Env) (H' : AHeap), Rel P G ds ρ D n e a H w → Step lo ρ0 D0 H0 w0 ρ D H w → itemsY Y l call lo xs e H = some (e', H') →
    (∀ ρ' D' a' w', Step lo ρ D H w ρ' D' H' w' → HRel G ρ' D' H' w' → ARel ds ρ' D' n e' a' → Q .normal a' w') → wpOpsIn (FR none) m P ops Q (List.range' k os.length) a w := by
  intro os
  induction os with
  | nil =>
    intro k xs _ hx ρ D e a H w e' H' r _ hs h
    simp only [trItems, Option.some.injEq] at hx; subst hx
    simp only [itemsY, Option.some.injEq, Prod.mk.injEq] at hs
    obtain ⟨rfl, rfl⟩ := hs
    simp only [List.length_nil, List.range'_zero, wpOpsIn]
    exact h ρ D a w (Step.refl lo ρ D H w r.heap.lt) r.heap r.slots
  | cons o os ih =>
    intro k xs hal hx ρ D e a H w e' H' r h0 hs h
    simp only [trItems] at hx
    split at hx
    · rename_i x xs' hxi hxs
      cases hx
      unfold trItem at hxi
      split at hxi
      · rename_i io g hio hg
        split at hxi
        · rename_i hdst
          cases hxi
          simp only [itemsY] at hs
          split at hs
          · rename_i e1 H1 hitem
            have hok : ops[k]? = some o := by have := hal 0 o rfl; simpa using this
            have hal' : ∀ j o', os[j]? = some o' → ops[k + 1 + j]? = some o' := fun j o' hj => by
              have := hal (j + 1) o' (by simpa using hj)
              rw [← this]; congr 1; omega
            simp only [List.length_cons, List.range'_succ, wpOpsIn, hok]
            simp only [itemY] at hitem
            split at hitem
            · cases hitem
            · rename_i hw
              cases hitem
              rw [guard_sim r.slots hg hw]
              simp only [Bool.false_eq_true, if_false]
              have r1 : ARel ds ρ D n (putD e o.dst (.tu [])) (a.put o.dst undef) := put_sim r.slots hdst (v := .tu []) (by simp [ok, okL])
              exact ⟨fun _ _ => trivial, ih (k + 1) xs' hal' hxs ρ D _ _ H w e' H' ⟨r.gsize, r.gok, r.heap, r1⟩ h0 hs h⟩
            · rename_i hw
              rw [guard_sim r.slots hg hw]
              simp only [if_true]
              have fin : ∀ (v : Option AVal), opY Y l call lo io e H = some (v, H1) → e1 = putD e o.dst (v.getD (.tu [])) → o.wpIn (FR none) m P a w (wpOpsIn (FR none) m P ops Q (List.range' (k + 1) os.length)) Q := by
                intro v hop he1
                refine opY_sim hc hY r h0 hlo hio hop ?_
                intro ρ' D' w' hst hrel hvok
                have r1 : ARel ds ρ' D' n e1 (a.put o.dst (ren ρ' (v.getD (.tu [])))) := by rw [he1]; exact put_sim (r.slots.step hst) hdst hvok
                exact ih (k + 1) xs' hal' hxs ρ' D' e1 _ H1 w' e' H' ⟨r.gsize, r.gok, hrel, r1⟩ (h0.trans hst) hs
                  (fun ρ2 D2 a2 w2 hst2 hrel2 har2 => h ρ2 D2 a2 w2 (hst.trans hst2) hrel2 har2)
              split at hitem
              · rename_i v H2 hop
                cases hitem
                exact fin (some v) hop rfl
              · rename_i H2 hop
                cases hitem
                exact fin none hop rfl
              · cases hitem
          · cases hs
        · cases hxi
      · cases hxi
    · cases hx

/-- A region that leaves its order open, without a call of a function value. -/
theorem draw_noV {nt : Nat} {ops : Array Oper} {order : List Nat} {xs : List Item} (hx : trDraw P nt ops order = some xs) (hn : noDV (.region 0 ops true) = true) : hasV xs = false := by
  have hp := draw_plan hx
  cases hv : hasV xs with
  | false => rfl
  | true =>
    exfalso
    unfold hasV at hv
    rw [List.any_eq_true] at hv
    obtain ⟨x, hxm, hxv⟩ := hv
    obtain ⟨t, ht⟩ := List.mem_iff_getElem?.1 hxm
    have htl : t < order.length := by
      rw [← hp.len]
      rcases Nat.lt_or_ge t xs.length with h | h
      · exact h
      · rw [List.getElem?_eq_none h] at ht; cases ht
    obtain ⟨o, x', io, ho, hx', hio, hxop, _⟩ := hp.item t order[t] (List.getElem?_eq_getElem htl)
    rw [ht] at hx'; cases hx'
    have hiov : isV io = true := by
      rw [hxop] at hxv
      cases io <;> first | exact hxv | (simp [IOp.quiet, isV] at hxv)
    simp only [noDV, Bool.not_true, Bool.false_or, Array.all_eq_true'] at hn
    have hom : o ∈ ops := Array.mem_of_getElem? ho
    have hno := hn o hom
    unfold trOpC at hio
    split at hio
    · rename_i io' _
      split at hio
      · rename_i hisc
        cases hio
        cases io <;> simp [isV, IOp.isC] at hiov hisc
      · cases hio
    · split at hio
      · rename_i c hop
        rw [hop] at hno
        split at hio
        · rename_i io0 hio0
          cases hio
          unfold trCall at hio0
          split at hio0
          · rw [Option.map_eq_some_iff] at hio0
            obtain ⟨_, _, hh⟩ := hio0
            rw [← hh] at hiov; simp [isV] at hiov
          · rename_i y hne hcal
            simp only [hcal] at hno
            first
              | cases hno
              | (split at hno
                 · rename_i f; exact hne f rfl
                 · cases hno
                 · rename_i hh; exact hh _ rfl)
          · cases hio0
        · cases hio; simp [isV] at hiov
      · cases hio; simp [isV] at hiov

theorem execY_sim (hm : P.follows .mixedOrders = true) (hg : G.next = P.globals.size) (hgo : GOk G) (hlo : G.next ≤ lo) (hc : CallOK P G lo call) (hY : YOK P G lo l ρ0 D0 H0 w0 Y) : ∀ f,
    (∀ (m : Nat) (ds : List Deferred) (nt : Nat) (c : Code) (hs : List Hint) (ic : ICode) (hs' : List Hint), trCode P nt c hs = some (ic, hs') → noDV c = true → ∀ (ρ : Ren) (D : Nat → Prop) (e : Env) (a : Act) (H : AHeap) (w : World), Rel P G ds ρ D nt e a H w → Step lo ρ0 D0 H0 w0 ρ D H w →
      ∀ (x : AExit) (e' : Env) (H' : AHeap), execY Y l call lo f ic e H = some (x, e', H') → ∀ (Q : Exit → Act → World → Prop),
      (∀ ρ' D' a' w', Step lo ρ D H w ρ' D' H' w' → HRel G ρ' D' H' w' → ARel ds ρ' D' nt e' a' → Q x.conc a' w') → c.wpIn (FR none) m P Q a w) ∧
    (∀ (m : Nat) (ds : List Deferred) (nt : Nat) (c : Code) (hs : List Hint) (ic : ICode) (hs' : List Hint), trCode P nt c hs = some (ic, hs') → noDV c = true → ∀ (ρ : Ren) (D : Nat → Prop) (e : Env) (a : Act) (H : AHeap) (w : World), Rel P G ds ρ D nt e a H w → Step lo ρ0 D0 H0 w0 ρ D H w →
      ∀ (x : AExit) (e' : Env) (H' : AHeap), execY Y l call lo f (.loop ic) e H = some (x, e', H') → ∀ (Q : Exit → Act → World → Prop),
      (∀ ρ' D' a' w', Step lo ρ D H w ρ' D' H' w' → HRel G ρ' D' H' w' → ARel ds ρ' D' nt e' a' → Q x.conc a' w') → Code.roundsIn (FR none) m P c Q f a w) := by
  intro f
  induction f with
  | zero =>
    refine ⟨?_, ?_⟩
    · intro m ds nt c hs ic hs' hc ho ρ D e a H w r s0 x e' H' h; simp [execY] at h
    · intro m ds nt c hs ic hs' hc ho ρ D e a H w r s0 x e' H' h; simp [execY] at h
  | succ f ih =>
    obtain ⟨ihe, ihr⟩ := ih
    refine ⟨?_, ?_⟩
    · intro m ds nt c hs ic hs' hct ho ρ D e a H w r s0 x e' H' h Q hQ
      cases c <;> simp only [trCode] at hct <;> simp only [noDV, Bool.and_eq_true] at ho
      case skip =>
        split at hct
        · cases hct
        · cases hct
          simp only [execY] at h
          cases h
          exact wpIn_skip (hQ ρ D a w (Step.refl lo ρ D H w r.heap.lt) r.heap r.slots)
        · rename_i kill hs2 _
          cases hct
          simp only [execY, hasV, List.any_nil, Bool.false_eq_true, if_false, itemsI] at h
          cases h
          exact wpIn_skip (hQ ρ D a w (Step.refl lo ρ D H w r.heap.lt) r.heap (r.slots.kill _))
      case region id ops draw =>
        split at hct
        · cases hct
        · rename_i order kill hs2
          split at hct
          · rename_i xs hxs
            cases hct
            simp only [execY] at h
            split at h
            · rename_i e1 H1 hit
              cases h
              cases hv : hasV xs with
              | false =>
                rw [hv] at hit
                simp only [Bool.false_eq_true, if_false] at hit
                exact draw_or hm hc hlo hxs r hit fun ρ' D' a' w' g1 g2 g3 => hQ ρ' D' a' w' g1 g2 (g3.kill kill)
              | true =>
                rw [hv] at hit
                simp only [if_true] at hit
                cases draw with
                | true =>
                  simp only [if_true] at hxs
                  rw [draw_noV hxs (by simpa [noDV] using ho)] at hv; cases hv
                | false =>
                  simp only [Bool.false_eq_true, if_false] at hxs
                  refine wpIn_region ?_
                  have := itemsY_sim hc hY hlo (ops := ops) (Q := Q) (m := m) ops.toList 0 xs (fun j o hj => by simpa using hj) hxs ρ D e a H w e1 _ r s0 hit fun ρ' D' a' w' g1 g2 g3 => hQ ρ' D' a' w' g1 g2 (g3.kill kill)
                  simpa [List.range_eq_range'] using this
            · cases h
          · cases hct
      case seq ca cb =>
        split at hct
        · rename_i ia hs1 h1
          split at hct
          · rename_i ib hs2 h2
            cases hct
            simp only [execY] at h
            refine wpIn_seq ?_
            split at h
            · rename_i e1 H1 hx
              refine ihe m ds nt ca hs ia hs1 h1 ho.1 ρ D e a H w r s0 .normal e1 H1 hx _ fun ρ' D' a' w' g1 g2 g3 => ?_
              refine ihe m ds nt cb hs1 ib hs' h2 ho.2 ρ' D' e1 a' H1 w' ⟨hg, hgo, g2, g3⟩ (s0.trans g1) x e' H' h Q fun ρ2 D2 a2 w2 k1 k2 k3 => hQ ρ2 D2 a2 w2 (g1.trans k1) k2 k3
            · rename_i hne
              refine ihe m ds nt ca hs ia hs1 h1 ho.1 ρ D e a H w r s0 x e' H' h _ fun ρ' D' a' w' g1 g2 g3 => ?_
              have := hQ ρ' D' a' w' g1 g2 g3
              cases x with
              | normal => exact (hne _ _ h).elim
              | exit id => exact this
              | ret => exact this
          · cases hct
        · cases hct
      case cond co ca cb =>
        split at hct
        · rename_i ic' ia hs1 h0 h1
          split at hct
          · rename_i ib hs2 h2
            cases hct
            simp only [execY] at h
            split at h
            · rename_i hv
              obtain ⟨g1, _⟩ := opd_sim r h0 hv
              exact wpIn_cond_true (by rw [g1]; rfl) (ihe m ds nt ca hs ia hs1 h1 ho.1 ρ D e a H w r s0 x e' H' h Q hQ)
            · rename_i hv
              obtain ⟨g1, _⟩ := opd_sim r h0 hv
              exact wpIn_cond_false (by rw [g1]; rfl) (ihe m ds nt cb hs1 ib hs' h2 ho.2 ρ D e a H w r s0 x e' H' h Q hQ)
            · cases h
          · cases hct
        · cases hct
      case block id cb =>
        split at hct
        · rename_i ib hs1 h1
          cases hct
          simp only [execY] at h
          refine wpIn_block ?_
          split at h
          · rename_i id' e1 H1 hx
            refine ihe m ds nt cb hs ib hs' h1 ho ρ D e a H w r s0 (.exit id') e1 H1 hx _ fun ρ' D' a' w' g1 g2 g3 => ?_
            show (if id' = id then Q .normal a' w' else Q (.exit id') a' w')
            split at h
            · rename_i hid
              cases h
              rw [if_pos hid]
              exact hQ ρ' D' a' w' g1 g2 g3
            · rename_i hid
              cases h
              rw [if_neg hid]
              exact hQ ρ' D' a' w' g1 g2 g3
          · rename_i hne
            refine ihe m ds nt cb hs ib hs' h1 ho ρ D e a H w r s0 x e' H' h _ fun ρ' D' a' w' g1 g2 g3 => ?_
            have := hQ ρ' D' a' w' g1 g2 g3
            cases x with
            | normal => exact this
            | exit id' => exact (hne _ _ _ h).elim
            | ret => exact this
        · cases hct
      case loop cb =>
        split at hct
        · rename_i ib hs1 h1
          cases hct
          refine wpIn_loop_rounds (f + 1) ?_
          show cb.wpIn (FR none) m P (Exit.then (Code.roundsIn (FR none) m P cb Q f) Q) a w
          simp only [execY] at h
          split at h
          · rename_i e1 H1 hx
            refine ihe m ds nt cb hs ib hs' h1 ho ρ D e a H w r s0 .normal e1 H1 hx _ fun ρ' D' a' w' g1 g2 g3 => ?_
            refine ihr m ds nt cb hs ib hs' h1 ho ρ' D' e1 a' H1 w' ⟨hg, hgo, g2, g3⟩ (s0.trans g1) x e' H' h Q fun ρ2 D2 a2 w2 k1 k2 k3 => hQ ρ2 D2 a2 w2 (g1.trans k1) k2 k3
          · rename_i hne
            refine ihe m ds nt cb hs ib hs' h1 ho ρ D e a H w r s0 x e' H' h _ fun ρ' D' a' w' g1 g2 g3 => ?_
            have := hQ ρ' D' a' w' g1 g2 g3
            cases x with
            | normal => exact (hne _ _ h).elim
            | exit id => exact this
            | ret => exact this
        · cases hct
      case exit id =>
        cases hct
        simp only [execY] at h
        cases h
        exact wpIn_exit (hQ ρ D a w (Step.refl lo ρ D H w r.heap.lt) r.heap r.slots)
      case ret =>
        cases hct
        simp only [execY] at h
        cases h
        exact wpIn_ret (hQ ρ D a w (Step.refl lo ρ D H w r.heap.lt) r.heap r.slots)
      case scope cb =>
        split at hct
        · rename_i ib hs1 h1
          cases hct
          simp only [execY] at h
          have h' : execY Y l call lo f ib e H = some (x, e', H') := by
            cases f with
            | zero => simp [execY] at h
            | succ f => simpa [execY] using h
          refine wpIn_scope_straight (ihe m ds nt cb hs ib hs' h1 ho ρ D e a H w r s0 x e' H' h' _ fun ρ' D' a' w' g1 g2 g3 => ?_)
          have := hQ ρ' D' a' w' g1 g2 g3
          cases x <;> exact this
        · cases hct
      case label ll =>
        cases hct
        simp only [execY] at h
        cases h
        exact wpIn_label (hQ ρ D a w (Step.refl lo ρ D H w r.heap.lt) r.heap r.slots)
      all_goals cases hct
    · intro m ds nt cb hs ib hs' h1 ho ρ D e a H w r s0 x e' H' h Q hQ
      show cb.wpIn (FR none) m P (Exit.then (Code.roundsIn (FR none) m P cb Q f) Q) a w
      simp only [execY] at h
      split at h
      · rename_i e1 H1 hx
        refine ihe m ds nt cb hs ib hs' h1 ho ρ D e a H w r s0 .normal e1 H1 hx _ fun ρ' D' a' w' g1 g2 g3 => ?_
        refine ihr m ds nt cb hs ib hs' h1 ho ρ' D' e1 a' H1 w' ⟨hg, hgo, g2, g3⟩ (s0.trans g1) x e' H' h Q fun ρ2 D2 a2 w2 k1 k2 k3 => hQ ρ2 D2 a2 w2 (g1.trans k1) k2 k3
      · rename_i hne
        refine ihe m ds nt cb hs ib hs' h1 ho ρ D e a H w r s0 x e' H' h _ fun ρ' D' a' w' g1 g2 g3 => ?_
        have := hQ ρ' D' a' w' g1 g2 g3
        cases x with
        | normal => exact (hne _ _ h).elim
        | exit id => exact this
        | ret => exact this
end
end Go.RI

/-! ### The loop -/
namespace Go.RI
open Go
section
variable {P : Program} {G : AHeap} {lo : Nat} {ds : List Deferred} {ρ : Ren} {D : Nat → Prop} {nt : Nat} {e : Env} {a : Act} {H : AHeap} {w : World} {m : Nat}

theorem range_sim (hm : P.follows .mixedOrders = true) {IP : FuncId → Option IFunc} {F : Nat} (hex : ExecOK P IP G F) (hc : CallOK P G lo (callI (exec IP G F) IP G lo)) (hlo : G.next ≤ lo)
    {g : Operand} {x' : Opd} {ps : Array Tmp} {assign body : Code} {gf : FuncId} {caps : List AVal} {gfn : Func} {gc : Code} {gic : ICode} {hsG hsG' hsA hsA' hsB hsB' : List Hint} {ia ib : ICode} {rs : List IRes}
    (r : Rel P G ds ρ D nt e a H w) (hx : trOpd P g = some x') (hv : x'.eval e = some (.fn (.func gf) [] caps))
    (hf : P.funcs[gf]? = some gfn) (hb : gfn.body = some gc) (hname : (gfn.name == "runtime.NumGoroutine") = false) (hG : trCode P gfn.ntmps gc hsG = some (gic, hsG')) (hn : noDV gc = true) (hres : trRes P gfn.results.toList = some rs) (hlen : caps.length + 1 ≤ gfn.ntmps)
    (hA : trCode P nt assign hsA = some (ia, hsA')) (hB : trCode P nt body hsB = some (ib, hsB')) (hps : ∀ p ∈ ps.toList, p < nt)
    {H' : AHeap} (hrun : ∀ l, ∃ F' x eg vs, execY (runY (exec IP G F) lo ia ib ps.toList e) l (callI (exec IP G F) IP G lo) lo F' gic (initEnv 0 (.fn (.yield l) [] [] :: caps)) H = some (x, eg, H') ∧ (x = .normal ∨ x = .ret) ∧ resI eg H' rs = some vs)
    {Q : Exit → Act → World → Prop}
    (h : ∀ ρ' D' a' w' Dk, Step lo ρ D H w ρ' D' H' w' → HRel G ρ' D' H' w' → ARel ({ target := .collected Dk, args := #[] } :: ds) ρ' D' nt e a' → w.heap.size ≤ Dk → w'.heap[Dk]? = some (.deferred (some [])) → Q .normal a' w') :
    (Code.rangeFunc g ps assign body).wpIn (FR none) m P Q a w := by
  refine wpIn_rangeFunc ?_
  intro fn _
  obtain ⟨rec, hrec⟩ : ∃ rec : Loop, rec = { state := .ready, pending := none, fn := fn, tmps := a.tmps, params := ps, assign := assign, body := body, defers := w.heap.size } := ⟨_, rfl⟩
  obtain ⟨W1, hW1⟩ : ∃ W1, (w.alloc (.deferred (some []))).alloc (.loop rec) = W1 := ⟨_, rfl⟩
  obtain ⟨s1, r1⟩ := alloc_odd (lo := lo) r.heap (.deferred (some []))
  obtain ⟨s2, r2⟩ := alloc_odd (lo := lo) r1 (.loop rec)
  rw [hW1] at s2 r2
  have hL1 : W1.heap[w.heap.size + 1]? = some (.loop rec) := by
    rw [← hW1]; have := World.alloc_heap_new (w.alloc (.deferred (some []))) (.loop rec); rwa [World.size_alloc] at this
  have hK1 : W1.heap[w.heap.size]? = some (.deferred (some [])) := by
    rw [← hW1]; exact (RowKit.Below.heap_alloc _ _ _ (by simp)).trans (World.alloc_heap_new w _)
  obtain ⟨ha, hok⟩ := opd_sim r hx hv
  simp only [ren, renL] at ha
  simp only [ok] at hok
  obtain ⟨lb, hlb⟩ : ∃ lb, lb = (renL ρ caps).toArray := ⟨_, rfl⟩
  rw [← hlb] at ha
  have eg : ∀ args w, (callFunc gf args).run P w = .ok (.enter gf args) w := fun args w => run_callFunc hf (by rw [hb]; rfl) hname args
  refine ⟨w.heap.size + 1, [{ target := .collected w.heap.size, args := #[] }], W1, { target := .fn (.func gf) lb, args := #[.func (.yield (w.heap.size + 1)) #[] #[]] }, W1, gf,
    #[.func (.yield (w.heap.size + 1)) #[] #[]] ++ lb, W1, ?_, ?_, fun _ _ => trivial, ?_, fun h => by simp [FR, Fence.wide] at h, ?_⟩
  · rw [← hW1, hrec]; exact run_enterLoop_outer _ _ _ _ _
  · simp only [resolve, ha]
    simp [go_sem]
  · simp [invoke, go_sem, eg]
  · have hargs : #[.func (.yield (w.heap.size + 1)) #[] #[]] ++ lb = (renL ρ (.fn (.yield (w.heap.size + 1)) [] [] :: caps)).toArray := by
      rw [hlb]; simp [renL, ren]
    rw [hargs]
    have har0 : ARel [] ρ D nt e { tmps := a.tmps, defers := [] } := ⟨r.slots.size, rfl, r.slots.get⟩
    have hrec1 := hL1
    rw [hrec] at hrec1
    have hY := round_ok (lo := lo) hex r.gsize r.gok hlo hA hB hps r2 har0 hrec1
    obtain ⟨F', x, eg', vs, hx1, hx2, hx3⟩ := hrun (w.heap.size + 1)
    refine callsIn_of_wp hf hb trivial ?_ rfl
    have hokA : okL ρ D (.fn (.yield (w.heap.size + 1)) [] [] :: caps) := by simp only [okL, ok]; exact ⟨⟨trivial, trivial⟩, hok.2⟩
    have hend : ∀ ρ3 D3 a3 w3, Step lo ρ D H W1 ρ3 D3 H' w3 → HRel G ρ3 D3 H' w3 → ARel [] ρ3 D3 gfn.ntmps eg' a3 →
        a3.defers = [] ∧ ∃ v, (results gfn a3.tmps).run P w3 = .ok v w3 ∧ rangePost (FR none) m P (w.heap.size + 1) Q { a with defers := [{ target := .collected w.heap.size, args := #[] }] ++ a.defers } (.returned v) w3 := by
      intro ρ3 D3 a3 w3 s3 r3 k3
      obtain ⟨_, hr⟩ := results_sim (nt := gfn.ntmps) ⟨r.gsize, r.gok, r3, k3⟩ hres hx3
      have hl3 := s3.keeps r2 hL1 (odd_loop _)
      have hk3 := s3.keeps r2 hK1 (odd_deferred _)
      refine ⟨k3.defers, _, hr, none, w3.putObj (w.heap.size + 1) (.loop { rec with state := .exhausted }), ?_, ?_⟩
      · have := run_endLoop (P := P) hl3 (by rw [hrec]; simp)
        rw [this, hrec]
      · have hst := ((s1.trans s2).trans s3).putNew (k := w.heap.size + 1) (by omega) (.loop { rec with state := .exhausted })
        refine h ρ3 D3 _ _ w.heap.size hst (r3.putOdd hl3 (odd_loop _) _) ?_ (Nat.le_refl _) ((World.putObj_heap_other (by omega)).trans hk3)
        have := r.slots.step hst
        exact ⟨this.size, by simp [r.slots.defers], this.get⟩
    refine (execY_sim hm r.gsize r.gok hlo hc hY F').1 (m - 1) [] gfn.ntmps gc hsG gic hsG' hG hn ρ D _ _ H W1 ⟨r.gsize, r.gok, r2, init_rel (by simpa using hlen) hokA⟩ (Step.refl lo ρ D H W1 r2.lt) x eg' H' hx1 _ ?_
    intro ρ3 D3 a3 w3 s3 r3 k3
    rcases hx2 with rfl | rfl <;> exact hend ρ3 D3 a3 w3 s3 r3 k3

/-- A function that holds such a loop leaves. -/
theorem leave_sim {fn : Func} {rs : List IRes} {vs : List AVal} {ρ' : Ren} {D' : Nat → Prop} {e' : Env} {a' : Act} {H' : AHeap} {w' : World} (hg : G.next = P.globals.size) (hgo : GOk G) (hres : trRes P fn.results.toList = some rs) (hvs : resI e' H' rs = some vs)
    (s : Step lo ρ D H w ρ' D' H' w') (r : HRel G ρ' D' H' w') (k : ARel ds ρ' D' nt e' a') (hd : ds = [] ∨ ∃ Dk, ds = [{ target := .collected Dk, args := #[] }] ∧ w.heap.size ≤ Dk ∧ w'.heap[Dk]? = some (.deferred (some []))) :
    LeavesInM (FR none) m P fn a'.tmps (fun en w'' => ∃ ρ'' D'', en = .returned (ren ρ'' (tupI vs)) ∧ Step lo ρ D H w ρ'' D'' H' w'' ∧ HRel G ρ'' D'' H' w'' ∧ ok ρ'' D'' (tupI vs)) a'.defers .returning w' := by
  rcases hd with rfl | ⟨Dk, rfl, hk1, hk2⟩
  · rw [k.defers]
    obtain ⟨h1, h2⟩ := results_sim (nt := nt) ⟨hg, hgo, r, k⟩ hres hvs
    exact ⟨_, h2, ρ', D', rfl, s, r, h1⟩
  · rw [k.defers]
    refine ⟨by simp, .inl ⟨Dk, _, rfl, run_takeDeferred hk2, ?_⟩⟩
    have r2 := r.putOdd hk2 (odd_deferred _) (.deferred none)
    obtain ⟨h1, h2⟩ := results_sim (nt := nt) ⟨hg, hgo, r2, k⟩ hres hvs
    exact ⟨_, h2, ρ', D', rfl, s.putNew hk1 _, r2, h1⟩
end
end Go.RI
