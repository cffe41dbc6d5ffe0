/- RI, part R: rows that are made early or late; what is looked at stays. Conditions: none. -/
import Derived.Test.YteoliiakbmomeaaRiQ
namespace Go.RI
open Go

/-- A new row, told apart from the interpreter's heap. -/
def Made (ρ : Ren) (D : Nat → Prop) (H : AHeap) (w : World) (run : Result Next) (v : Option AVal) (H' : AHeap) : Prop :=
  ∃ (c : List AVal) (esz : Nat) (u : AVal) (C : Array Value) (el : TypeId) (w' : World), v = some u ∧ H' = H.push (.cells c esz false) ∧
    run = .ok (.value (ren (upd ρ H.next ⟨w.heap.size, 0, C.size, esz⟩) u)) w' ∧ w'.heap = w.heap.push (.cells C el) ∧ w'.os = w.os ∧ w'.tape = w.tape ∧ w'.output = w.output ∧
    c.length ≤ C.size ∧ (∀ (j : Nat) v, c[j]? = some v → C[j]? = some (ren ρ v)) ∧ okL ρ D c ∧ oneL c = true ∧ (u = .p H.next 0 ∨ ∃ len cap, u = .sl H.next 0 len (some cap))

section
variable {ds : List Deferred} {P : Program} {G : AHeap} {lo : Nat} {ρ : Ren} {D : Nat → Prop} {n : Nat} {e : Env} {a : Act} {H H1 : AHeap} {w : World}

theorem trBin_makes {op : BinOp} {t : TypeId} {x y : Opd} {io : IOp} (h : trBin P op t x y = some io) : io.makes = false := by
  unfold trBin at h
  revert h
  repeat' split
  all_goals (intro h; first | (cases h; done) | (cases h; rfl) | (rw [Option.map_eq_some_iff] at h; obtain ⟨_, _, rfl⟩ := h; rfl))
theorem trBi_makes {c : Call} {io : IOp} (h : trBi P c = some io) : io.makes = false := by
  unfold trBi at h
  revert h
  repeat' split
  all_goals (intro h; first | (cases h; done) | (cases h; rfl))

theorem makes_sim (r : Rel P G ds ρ D n e a H1 w) {o : Oper} {io : IOp} (ho : trOp P o = some io) (hm : io.makes = true) {v : Option AVal} {H' : AHeap} (hs : aop lo io e H = some (v, H')) :
    Made ρ D H w ((execOp a.eval o).run P w) v H' := by
  cases hop : o.op <;> simp only [trOp, hop] at ho <;> try (cases ho; done)
  case alloc t =>
    rw [Option.map_eq_some_iff] at ho
    obtain ⟨z, hz, rfl⟩ := ho
    simp only [aop] at hs
    cases hs
    obtain ⟨i, v, _, _, hrun, hcells, hid, hone⟩ := zeroC_run hz
    refine ⟨z, 1, _, v.cells, t, { w with heap := w.heap.push (.cells v.cells t) }, rfl, rfl, ?_, rfl, rfl, rfl, rfl, by rw [hcells ρ]; simp [renL_length], fun j u hu => by rw [hcells ρ]; simp [renL_get, hu], noIdL_ok ρ D z hid, hone, .inl rfl⟩
    simp [execOp, hop, Instr.alloc, hrun, run_newVar, ren, upd_same]
  case box t x =>
    rw [Option.map_eq_some_iff] at ho
    obtain ⟨x', hx', rfl⟩ := ho
    simp only [aop] at hs
    split at hs
    · rename_i u hu
      split at hs
      · rename_i ht
        cases hs
        obtain ⟨h1, h2⟩ := opd_sim r hx' hu
        have hc := ren_cells ρ u
        refine ⟨u.cells, 1, _, (ren ρ u).cells, t, { w with heap := w.heap.push (.cells (ren ρ u).cells t) }, rfl, rfl, ?_, rfl, rfl, rfl, rfl, by rw [hc]; simp [renL_length], fun j u hu => by rw [hc]; simp [renL_get, hu], cells_ok h2, cells_one h2 ht, .inl rfl⟩
        simp [execOp, hop, Instr.box, h1, run_newVar, ren, upd_same]
      · cases hs
    · cases hs
  case buildSlice t len parts =>
    split at ho
    · rename_i el ht
      split at ho
      · rename_i i z hi hz
        split at ho
        · rename_i hc
          rw [Option.map_eq_some_iff] at ho
          obtain ⟨l', hl', rfl⟩ := ho
          simp only [aop] at hs
          split at hs
          · rename_i ps hps
            split at hs
            · rename_i cs hcs
              cases hs
              obtain ⟨i', v, hi', hzero, _, hcells, hid, hone⟩ := zeroC_run hz
              obtain rfl : i = i' := by rw [hi] at hi'; exact Option.some.inj hi'
              obtain ⟨hok0, hone0⟩ := repCells_ok (ρ := ρ) (D := D) z len hid hone
              obtain ⟨f1, f2, f3, f4⟩ := fill_sim r hl' hps hcs hok0 hone0
              have hrun : (Instr.buildSlice t len (parts.map fun (x : Nat × Operand) => (x.1, a.eval x.2))).run P w = .ok (.slice (some ⟨w.heap.size, 0, none⟩) len len) { w with heap := w.heap.push (.cells (renL ρ cs).toArray el) } := by
                have hsm : ¬ len * i.size > 2 ^ 24 := by have := hc.2; simp; omega
                by_cases h0 : len * i.size = 0
                · have hre : repCells z len = [] := List.eq_nil_of_length_eq_zero (by rw [repCells_length, hc.1]; exact h0)
                  rw [hre] at f1
                  simp only [renL] at f1
                  have hr0 : (Array.range 0).map (fun (_ : Nat) => (default : Value)) = #[] := by simp
                  simp [Instr.buildSlice, run_underlying ht, sizeOf, typeInfo, hi, h0, newRow, hr0, f1]
                · have hfill : Instr.fill (fun j => some (j * i.size, i.size)) ((Array.range (len * i.size)).map (v.cells[· % v.cells.size]!)) (parts.map fun (x : Nat × Operand) => (x.1, a.eval x.2)).toList = some (renL ρ cs).toArray := by
                    rw [zeros_eq ρ z i.size len hc.1 v.cells (hcells ρ), Array.toList_map]; exact f1
                  exact run_buildSlice w t el len _ _ i v ht hi hzero hsm h0 hfill
              refine ⟨cs, i.size, _, (renL ρ cs).toArray, el, { w with heap := w.heap.push (.cells (renL ρ cs).toArray el) }, rfl, rfl, ?_, rfl, rfl, rfl, rfl, by simp [renL_length], fun j u hu => by simp [renL_get, hu], f2, f3, .inr ⟨len, len, rfl⟩⟩
              simp [execOp, hop, hrun, ren, upd_same]
            · cases hs
          · cases hs
        · cases ho
      · cases ho
    · cases ho
  case makeSlice t l c =>
    split at ho
    · rename_i el ht
      split at ho
      · rename_i i z l' c' hi hz hl' hc'
        split at ho
        · rename_i hzl
          cases ho
          simp only [aop] at hs
          split at hs
          · rename_i k1 n1 k2 n2 hn hm'
            split at hs
            · rename_i hc
              cases hs
              obtain ⟨i', v, hi', hzero, _, hcells, hid, hone⟩ := zeroC_run hz
              obtain rfl : i = i' := by rw [hi] at hi'; exact Option.some.inj hi'
              obtain ⟨hok0, hone0⟩ := repCells_ok (ρ := ρ) (D := D) z n2.toNat hid hone
              have hrun := makeSlice_run (P := P) (w := w) (ρ := ρ) (k := k1) (k' := k2) ht hi hz hzl hc.1 hc.2.1 hc.2.2.1 hc.2.2.2
              refine ⟨repCells z n2.toNat, i.size, _, (renL ρ (repCells z n2.toNat)).toArray, el, { w with heap := w.heap.push (.cells (renL ρ (repCells z n2.toNat)).toArray el) }, rfl, rfl, ?_, rfl, rfl, rfl, rfl, by simp [renL_length], fun j u hu => by simp [renL_get, hu], hok0, hone0, .inr ⟨n1.toNat, n2.toNat, rfl⟩⟩
              have e1 : a.eval l = .int k1 n1 := by rw [(opd_sim r hl' hn).1]; rfl
              have e2 : a.eval c = .int k2 n2 := by rw [(opd_sim r hc' hm').1]; rfl
              simp [execOp, hop, e1, e2, hrun, ren, upd_same]
            · cases hs
          · cases hs
        · cases ho
      · cases ho
    · cases ho
  case binOp op t x y t' =>
    exfalso
    split at ho
    · rw [trBin_makes ho] at hm; cases hm
    · cases ho
  case call c =>
    exfalso
    rw [trBi_makes ho] at hm; cases hm
  case makeMap t hint =>
    exfalso
    cases hint with
    | some _ => cases ho
    | none => cases ho; simp [IOp.makes] at hm
  case makeFunc fn x y =>
    exfalso
    cases fn <;> simp only at ho <;> try (cases ho; done)
    split at ho
    · cases ho; simp [IOp.makes] at hm
    · cases ho
  all_goals
    exfalso
    revert ho hm
    repeat' split
    all_goals (intro hm ho; first | (cases ho; done) | (cases ho; simp [IOp.makes] at hm; done) | (simp only [Option.map_eq_some_iff] at ho; obtain ⟨_, _, rfl⟩ := ho; simp [IOp.makes] at hm; done))


/-- A new row that the interpreter's heap holds already. -/
theorem ghost_sim {G : AHeap} {ρ : Ren} {D : Nat → Prop} {A : AHeap} {w w' : World} (h : HRel G ρ D A w) {id : Nat} (hid : ¬ D id) (hlt : id < A.next) (hG : G.next ≤ id)
    {c : List AVal} {esz : Nat} (hg : A.get id = some (.cells c esz false)) {C : Array Value} {el : TypeId} (hw : w'.heap = w.heap.push (.cells C el)) (hC : c.length ≤ C.size)
    (hget : ∀ (j : Nat) v, c[j]? = some v → C[j]? = some (ren ρ v)) (hok : okL ρ D c) (hone : oneL c = true) :
    HRel G (upd ρ id ⟨w.heap.size, 0, C.size, esz⟩) (ins D id) A w' := by
  have hold : ∀ j, D j → ins D id j ∧ upd ρ id ⟨w.heap.size, 0, C.size, esz⟩ j = ρ j := fun j hd =>
    ⟨.inr hd, upd_other _ _ (fun e => hid (e ▸ hd))⟩
  have hblk : ∀ k, k < w.heap.size → w'.heap[k]? = w.heap[k]? := fun k hk => by rw [hw, Array.getElem?_push, if_neg (by omega)]
  exact {
    lt := fun j hd => by
      rcases hd with rfl | hd
      · exact hlt
      · exact h.lt j hd
    cells := fun j c' esz' ro hd hj => by
      by_cases hji : j = id
      · subst hji
        rw [hg] at hj
        obtain ⟨rfl, rfl, rfl⟩ : c = c' ∧ esz = esz' ∧ false = ro := by simpa using hj
        rw [upd_same]
        refine ⟨rfl, hC, ⟨C, el, (0, 0), ?_, ?_, ?_, ?_⟩, okL_mono hold c hok, hone⟩
        · rw [hw]; simp
        · simp
        · intro k v hv
          rw [ren_congr (fun i hd => (hold i hd).2) v (okL_get hok hv)]
          simpa using hget k v hv
        · intro _ o _ _; simp
      · have hd' : D j := hd.resolve_left hji
        rw [upd_other _ _ hji]
        exact (h.cells j c' esz' ro hd' hj).move hold (hblk _ (h.blk_lt hd' hj))
    maps := fun j es hd hj => by
      by_cases hji : j = id
      · subst hji; rw [hg] at hj; simp at hj
      · have hd' : D j := hd.resolve_left hji
        rw [upd_other _ _ hji]
        exact (h.maps j es hd' hj).move hold (hblk _ (h.blk_lt hd' hj))
    apart := fun i j o o' hdi hdj hne hi hj hwr => by
      by_cases hii : i = id
      · have hji : j ≠ id := fun e => hne (hii.trans e.symm)
        subst hii
        rw [upd_same, upd_other _ _ hji]
        have := h.blk_lt (hdj.resolve_left hji) hj
        simp only; omega
      · by_cases hji : j = id
        · subst hji
          rw [upd_same, upd_other _ _ hii]
          have := h.blk_lt (hdi.resolve_left hii) hi
          simp only; omega
        · rw [upd_other _ _ hii, upd_other _ _ hji]
          exact h.apart i j o o' (hdi.resolve_left hii) (hdj.resolve_left hji) hne hi hj hwr
    glob := fun g hgl => by
      obtain ⟨h1, h2, h3, h4⟩ := h.glob g hgl
      have hne : g ≠ id := by omega
      exact ⟨.inr h1, by rw [upd_other _ _ hne]; exact h2, by rw [upd_other _ _ hne]; exact h3, h4⟩
    gnext := h.gnext
    wf := h.wf }

/-- More in the interpreter's heap that the machine has not made yet. -/
theorem heapExt_sim {G : AHeap} {ρ : Ren} {D : Nat → Prop} {H H2 : AHeap} {w : World} (h : HRel G ρ D H w) (x : Ext H H2) (hw2 : Wf H2) : HRel G ρ D H2 w where
  lt := fun id hd => Nat.lt_of_lt_of_le (h.lt id hd) x.next
  cells := fun id c esz ro hd hg => h.cells id c esz ro hd (by rw [← x.get id (h.lt id hd)]; exact hg)
  maps := fun id es hd hg => h.maps id es hd (by rw [← x.get id (h.lt id hd)]; exact hg)
  apart := fun i j o o' hdi hdj hne hi hj hwr => h.apart i j o o' hdi hdj hne (by rw [← x.get i (h.lt i hdi)]; exact hi) (by rw [← x.get j (h.lt j hdj)]; exact hj) hwr
  glob := fun g hg => by
    obtain ⟨h1, h2, h3, h4⟩ := h.glob g hg
    exact ⟨h1, h2, h3, by rw [x.get g (Nat.lt_of_lt_of_le hg h.gnext)]; exact h4⟩
  gnext := Nat.le_trans h.gnext x.next
  wf := hw2

theorem Step.ext {lo : Nat} {ρ ρ' : Ren} {D D' : Nat → Prop} {H H' H2 : AHeap} {w w' : World} (s : Step lo ρ D H w ρ' D' H' w') (hlt : ∀ id, D' id → id < H'.next) (x : Ext H' H2) : Step lo ρ D H w ρ' D' H2 w' where
  old := s.old
  new := s.new
  ghost := fun id h1 h2 => (x.get id (Nat.lt_of_lt_of_le h1 s.next)).trans (s.ghost id h1 h2)
  low := fun id h1 h2 => (x.get id (Nat.lt_of_lt_of_le h2 s.next)).trans (s.low id h1 h2)
  next := Nat.le_trans s.next x.next
  wr := fun id o' h1 h2 h3 h4 => s.wr id o' h1 h2 (by rw [← x.get id (Nat.lt_of_lt_of_le h1 s.next)]; exact h3) h4
  fresh := fun id o' h1 h2 h3 h4 => s.fresh id o' h1 h2 (by rw [← x.get id (hlt id h1)]; exact h3) h4
  os := s.os
  tape := s.tape
  output := s.output
  froz := s.froz
  size := s.size
  frame := s.frame

theorem Step.ghostly {lo : Nat} {ρ ρ' : Ren} {D D' : Nat → Prop} {H A : AHeap} {w w' w2 : World} (s : Step lo ρ D H w ρ' D' A w') {id : Nat} (hid : H.next ≤ id) (hn : ¬ D' id) (hD : ∀ id, D id → id < H.next) {L : Loc} (hL : w'.heap.size ≤ L.blk)
    {x : Obj} (hw : w2.heap = w'.heap.push x) (hos : w2.os = w'.os) (htp : w2.tape = w'.tape) (hout : w2.output = w'.output) : Step lo ρ D H w (upd ρ' id L) (ins D' id) A w2 where
  old := fun j hd => ⟨.inr (s.old j hd).1, by rw [upd_other _ _ (by have := hD j hd; omega)]; exact (s.old j hd).2⟩
  new := fun j hd hlt => by
    rcases hd with rfl | hd
    · omega
    · exact s.new j hd hlt
  ghost := s.ghost
  low := s.low
  next := s.next
  wr := s.wr
  fresh := fun j o' hd hj hg hwr => by
    by_cases hji : j = id
    · subst hji; rw [upd_same]; exact .inl (Nat.le_trans s.size hL)
    · rw [upd_other _ _ hji]; exact s.fresh j o' (hd.resolve_left hji) hj hg hwr
  os := hos.trans s.os
  tape := htp.trans s.tape
  output := hout.trans s.output
  froz := fun ad h => (frozen_push hw ad (Nat.lt_of_lt_of_le h s.size)).trans (s.froz ad h)
  size := by rw [hw]; have := s.size; simp; omega
  frame := fun k hk hn' => by
    have := s.size
    rw [hw, Array.getElem?_push, if_neg (by omega)]
    exact s.frame k hk hn'

/-! ### What is looked at -/
theorem get_ext {H H2 : AHeap} (hw : Wf H) (x : Ext H H2) {id : Nat} {o : AObj} (h : H.get id = some o) : H2.get id = some o := by
  have : id < H.next := by
    rcases Nat.lt_or_ge id H.next with h1 | h1
    · exact h1
    · rw [hw id h1] at h; cases h
  rw [x.get id this]; exact h

theorem slV_ext {esz : Nat} {H H2 : AHeap} (hw : Wf H) (x : Ext H H2) {u : AVal} {l h m : Option Nat} {v : AVal} {H' : AHeap} (hs : slV esz H u l h m = some (v, H')) (hn : H'.next = H.next) :
    ∃ H3, slV esz H2 u l h m = some (v, H3) ∧ H3.next = H2.next := by
  cases u <;> simp only [slV] at hs ⊢ <;> try (cases hs; done)
  case ns =>
    split at hs
    · rename_i hc; cases hs; exact ⟨H2, by rw [if_pos hc], rfl⟩
    · cases hs
  case es =>
    split at hs
    · rename_i hc; cases hs; exact ⟨H2, by rw [if_pos hc], rfl⟩
    · cases hs
  case sl id off len cap =>
    cases cap with
    | some c =>
      simp only at hs ⊢
      split at hs
      · rename_i hc; cases hs; exact ⟨H2, by rw [if_pos hc], rfl⟩
      · cases hs
    | none =>
      cases m with
      | some m' =>
        simp only at hs ⊢
        split at hs
        · rename_i hc; cases hs; exact ⟨H2, by rw [if_pos hc], rfl⟩
        · cases hs
      | none =>
        simp only at hs ⊢
        split at hs
        · rename_i hc
          rw [if_pos hc]
          split at hs
          · rename_i h0; cases hs; exact ⟨H2, by rw [if_pos h0], rfl⟩
          · rename_i h0
            rw [if_neg h0]
            split at hs
            · rename_i hlt
              rw [if_pos hlt]
              split at hs
              · rename_i cs esz' ro hg
                rw [get_ext hw x hg]
                split at hs
                · rename_i he; cases hs; exact ⟨H2, by simp [he], rfl⟩
                · cases hs
              · cases hs
            · cases hs; simp at hn
        · cases hs
  case fs tmp full len cs =>
    split at hs
    · rename_i hl
      cases m with
      | some m' =>
        simp only at hs ⊢
        split at hs
        · rename_i hc; cases hs; exact ⟨H2, by rw [if_pos hl, if_pos hc], rfl⟩
        · cases hs
      | none =>
        simp only at hs ⊢
        split at hs
        · rename_i hc; cases hs; exact ⟨H2, by rw [if_pos hl, if_pos hc], rfl⟩
        · cases hs
    · cases hs

theorem looks_ext {lo : Nat} {o : IOp} {e : Env} {H H2 : AHeap} (hw : Wf H) (x : Ext H H2) (hl : o.looks = true) {v : Option AVal} {H' : AHeap} (h : aop lo o e H = some (v, H')) :
    H' = H ∧ (∃ u, v = some u) ∧ aop lo o e H2 = some (v, H2) := by
  cases o <;> simp only [IOp.looks] at hl <;> (try (cases hl; done)) <;> simp only [aop] at h ⊢
  case load n y =>
    rw [Option.map_eq_some_iff] at h
    obtain ⟨u, hu, he⟩ := h
    cases he
    rw [Option.bind_eq_some_iff] at hu
    obtain ⟨p, hp, hv⟩ := hu
    refine ⟨rfl, ⟨u, rfl⟩, ?_⟩
    have : loadV H2 n p = some u := by
      cases p <;> simp only [loadV] at hv ⊢ <;> try (cases hv; done)
      case fp l => exact hv
      cases n with
      | none =>
        simp only at hv ⊢
        split at hv
        · rename_i hg; rw [get_ext hw x hg]; exact hv
        · cases hv
      | some k =>
        simp only [Option.map_eq_some_iff] at hv ⊢
        obtain ⟨l, hl, rfl⟩ := hv
        refine ⟨l, ?_, rfl⟩
        unfold rowAt at hl ⊢
        split at hl
        · rename_i hg; rw [get_ext hw x hg]; exact hl
        · cases hl
    rw [hp]; simp [this]
  case lenk k y =>
    rw [Option.map_eq_some_iff] at h
    obtain ⟨u, hu, he⟩ := h
    cases he
    rw [Option.map_eq_some_iff] at hu
    obtain ⟨m, hm, rfl⟩ := hu
    rw [Option.bind_eq_some_iff] at hm
    obtain ⟨p, hp, hv⟩ := hm
    refine ⟨rfl, ⟨_, rfl⟩, ?_⟩
    have : lenV H2 k p = some m := by
      unfold lenV at hv ⊢
      split at hv <;> first
        | exact hv
        | (split at hv
           · rename_i hg; simp only [get_ext hw x hg]; exact hv
           · cases hv)
        | cases hv
    rw [hp]; simp [this]
  case slq esz y l hi mx =>
    split at h
    · rename_i u a b c h1 h2 h3 h4
      split at h
      · rename_i w' H3 hs
        split at h
        · rename_i hn
          cases h
          obtain ⟨H4, h5, h6⟩ := slV_ext hw x hs hn.1
          exact ⟨rfl, ⟨_, rfl⟩, by simp only [h5, h6]; rw [if_pos ⟨trivial, hn.2⟩]⟩
        · cases h
      · cases h
    · cases h
  case look ag ks z okf y k =>
    split at h
    · rename_i m kk h1 h2
      rw [Option.map_eq_some_iff] at h
      obtain ⟨u, hu, he⟩ := h
      cases he
      refine ⟨rfl, ⟨_, rfl⟩, ?_⟩
      have : lookV H2 ag ks z okf m kk = some u := by
        unfold lookV at hu ⊢
        split at hu
        · rename_i es hes
          have hes2 : mapEs H2 m = some es := by
            unfold mapEs at hes ⊢
            split at hes
            · exact hes
            · split at hes
              · rename_i hg; simp only [get_ext hw x hg]; exact hes
              · cases hes
            · cases hes
          rw [hes2]; exact hu
        · cases hu
      simp [this]
    · cases h

end
end Go.RI
