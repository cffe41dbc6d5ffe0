/- RI, part E: the relation behind a new row, a store, an append in place, a draw. Conditions: none. -/
import Derived.Test.YteoliiakbmomeaaRiD
namespace Go.RI
open Go

def upd (ρ : Ren) (id : Nat) (L : Loc) : Ren := fun j => if j = id then L else ρ j
def ins (D : Nat → Prop) (id : Nat) : Nat → Prop := fun j => j = id ∨ D j

theorem upd_same (ρ : Ren) (id : Nat) (L : Loc) : upd ρ id L id = L := by simp [upd]
theorem upd_other (ρ : Ren) {id j : Nat} (L : Loc) (h : j ≠ id) : upd ρ id L j = ρ j := by simp [upd, h]

theorem CellsAt.move {ρ ρ' : Ren} {D D' : Nat → Prop} {L : Loc} {c : List AVal} {esz : Nat} {ro : Bool} {w w' : World} (h : CellsAt ρ D L c esz ro w)
    (hD : ∀ id, D id → D' id ∧ ρ' id = ρ id) (hb : w'.heap[L.blk]? = w.heap[L.blk]?) : CellsAt ρ' D' L c esz ro w' where
  esz_eq := h.esz_eq
  len := h.len
  at_ := by
    obtain ⟨C, e, fz, h1, h2, h3, h4⟩ := h.at_
    refine ⟨C, e, fz, hb.trans h1, h2, fun j v hv => ?_, h4⟩
    rw [ren_congr (fun id hd => (hD id hd).2) v (okL_get h.ok hv)]
    exact h3 j v hv
  ok := okL_mono hD c h.ok
  one := h.one

theorem MapAt.move {ρ ρ' : Ren} {D D' : Nat → Prop} {L : Loc} {es : List (AVal × AVal)} {w w' : World} (h : MapAt ρ D L es w)
    (hD : ∀ id, D id → D' id ∧ ρ' id = ρ id) (hb : w'.heap[L.blk]? = w.heap[L.blk]?) : MapAt ρ' D' L es w' := by
  obtain ⟨⟨E, k, h1, h2, h3, h4⟩, h5⟩ := h
  refine ⟨⟨E, k, hb.trans h1, h2, h3, ?_⟩, fun x hx => ⟨ok_mono hD _ (h5 x hx).1, ok_mono hD _ (h5 x hx).2⟩⟩
  rw [h4]
  apply List.map_congr_left
  intro x hx
  rw [ren_congr (fun id hd => (hD id hd).2) _ (h5 x hx).1, ren_congr (fun id hd => (hD id hd).2) _ (h5 x hx).2]

theorem HRel.blk_lt {G : AHeap} {ρ : Ren} {D : Nat → Prop} {H : AHeap} {w : World} (h : HRel G ρ D H w) {id : Nat} {o : AObj} (hd : D id) (hg : H.get id = some o) : (ρ id).blk < w.heap.size := by
  cases o with
  | cells c esz ro =>
    obtain ⟨C, e, fz, h1, _⟩ := (h.cells id c esz ro hd hg).at_
    rcases Nat.lt_or_ge (ρ id).blk w.heap.size with hlt | hge
    · exact hlt
    · rw [Array.getElem?_eq_none hge] at h1; cases h1
  | map es =>
    obtain ⟨⟨E, k, h1, _⟩, _⟩ := h.maps id es hd hg
    rcases Nat.lt_or_ge (ρ id).blk w.heap.size with hlt | hge
    · exact hlt
    · rw [Array.getElem?_eq_none hge] at h1; cases h1

/-- Nothing but the streams' position has turned: the relation stays. -/
theorem HRel.heap_eq {G : AHeap} {ρ : Ren} {D : Nat → Prop} {H : AHeap} {w w' : World} (h : HRel G ρ D H w) (hw : ∀ k, k < w.heap.size → w'.heap[k]? = w.heap[k]?) : HRel G ρ D H w' where
  lt := h.lt
  cells := fun id c esz ro hd hg => (h.cells id c esz ro hd hg).move (fun _ h => ⟨h, rfl⟩) (hw _ (h.blk_lt hd hg))
  maps := fun id es hd hg => (h.maps id es hd hg).move (fun _ h => ⟨h, rfl⟩) (hw _ (h.blk_lt hd hg))
  apart := h.apart
  glob := h.glob
  gnext := h.gnext
  wf := h.wf

/-- A world that has at most drawn. -/
structure Drew (w w' : World) : Prop where
  heap : w'.heap = w.heap
  os : w'.os = w.os
  tape : w'.tape = w.tape
  output : w'.output = w.output
theorem Drew.refl (w : World) : Drew w w := ⟨rfl, rfl, rfl, rfl⟩

theorem drew_sim {G : AHeap} {lo : Nat} {ρ : Ren} {D : Nat → Prop} {H : AHeap} {w w' : World} (h : HRel G ρ D H w) (hw : Drew w w') :
    Step lo ρ D H w ρ D H w' ∧ HRel G ρ D H w' := by
  refine ⟨{ Step.refl lo ρ D H w h.lt with os := hw.os, tape := hw.tape, output := hw.output, froz := fun ad _ => by simp only [World.frozen?, hw.heap], size := by rw [hw.heap]; exact Nat.le_refl _, frame := fun k _ _ => by rw [hw.heap] }, h.heap_eq fun k _ => by rw [hw.heap]⟩

/-- A new object: a row of cells in a new block. -/
theorem frozen_push {w w' : World} {x : Obj} (hw : w'.heap = w.heap.push x) (ad : Addr) (h : ad.block < w.heap.size) : w'.frozen? ad = w.frozen? ad := by
  simp only [World.frozen?, hw, Array.getElem?_push]
  rw [if_neg (by omega)]
theorem frozen_put {w w' : World} {b : Nat} {C C' : Array Value} {e : TypeId} {fz : Nat × Nat} (hb : w.heap[b]? = some (.cells C e fz)) (hb' : w'.heap[b]? = some (.cells C' e fz)) (ho : ∀ k, k ≠ b → w'.heap[k]? = w.heap[k]?) (ad : Addr) : w'.frozen? ad = w.frozen? ad := by
  simp only [World.frozen?]
  by_cases h : ad.block = b
  · rw [h, hb, hb']
  · rw [ho _ h]

theorem push_sim {G : AHeap} {lo : Nat} {ρ : Ren} {D : Nat → Prop} {H : AHeap} {w w' : World} (h : HRel G ρ D H w)
    {C : Array Value} {e : TypeId} {fz : Nat × Nat} {c : List AVal} {esz : Nat}
    (hw : w'.heap = w.heap.push (.cells C e fz)) (hos : w'.os = w.os) (htp : w'.tape = w.tape) (hout : w'.output = w.output)
    (hC : c.length ≤ C.size) (hget : ∀ (j : Nat) v, c[j]? = some v → C[j]? = some (ren ρ v)) (hfz : ∀ o, o < C.size → (decide (fz.1 ≤ o) && decide (o < fz.2)) = false)
    (hok : okL ρ D c) (hone : oneL c = true) :
    let L : Loc := ⟨w.heap.size, 0, C.size, esz⟩
    Step lo ρ D H w (upd ρ H.next L) (ins D H.next) (H.push (.cells c esz false)) w' ∧ HRel G (upd ρ H.next L) (ins D H.next) (H.push (.cells c esz false)) w' := by
  intro L
  have hold : ∀ id, D id → ins D H.next id ∧ upd ρ H.next L id = ρ id := fun id hd =>
    ⟨.inr hd, upd_other _ _ (by have := h.lt id hd; omega)⟩
  have hblk : ∀ k, k < w.heap.size → w'.heap[k]? = w.heap[k]? := fun k hk => by rw [hw, Array.getElem?_push, if_neg (by omega)]
  have hgo : ∀ id, id ≠ H.next → (H.push (.cells c esz false)).get id = H.get id := fun id hne => by rw [AHeap.get_push, if_neg hne]
  have hgn : (H.push (.cells c esz false)).get H.next = some (.cells c esz false) := by rw [AHeap.get_push, if_pos rfl]
  constructor
  · exact {
      old := hold
      new := fun id hd hlt => by rcases hd with rfl | hd; omega; exact hd
      ghost := fun id hlt _ => hgo id (by omega)
      low := fun id _ hlt => hgo id (by omega)
      next := by rw [AHeap.next_push]; omega
      wr := fun id o' hlt _ hg hw => ⟨o', by rw [← hgo id (by omega)]; exact hg, hw⟩
      fresh := fun id o' hd hn hg _ => by
        rcases hd with rfl | hd
        · left; rw [upd_same]; exact Nat.le_refl _
        · have := h.lt id hd; omega
      os := hos
      tape := htp
      output := hout
      froz := frozen_push hw
      size := by rw [hw]; simp
      frame := fun k hk _ => hblk k hk }
  · exact {
      lt := fun id hd => by
        rw [AHeap.next_push]
        rcases hd with rfl | hd
        · omega
        · have := h.lt id hd; omega
      cells := fun id c' esz' ro hd hg => by
        by_cases hid : id = H.next
        · subst hid
          rw [hgn] at hg
          obtain ⟨rfl, rfl, rfl⟩ : c = c' ∧ esz = esz' ∧ false = ro := by simpa using hg
          rw [upd_same]
          refine ⟨rfl, hC, ⟨C, e, fz, ?_, ?_, ?_, ?_⟩, okL_mono hold c hok, hone⟩
          · rw [hw]; simp [L]
          · simp [L]
          · intro j v hv
            rw [ren_congr (fun id hd => (hold id hd).2) v (okL_get hok hv)]
            simpa [L] using hget j v hv
          · intro _ o _ ho
            exact hfz o (by simpa [L] using ho)
        · have hd' : D id := hd.resolve_left hid
          rw [hgo id hid] at hg
          rw [upd_other _ _ hid]
          exact (h.cells id c' esz' ro hd' hg).move hold (hblk _ (h.blk_lt hd' hg))
      maps := fun id es hd hg => by
        by_cases hid : id = H.next
        · subst hid; rw [hgn] at hg; simp at hg
        · have hd' : D id := hd.resolve_left hid
          rw [hgo id hid] at hg
          rw [upd_other _ _ hid]
          exact (h.maps id es hd' hg).move hold (hblk _ (h.blk_lt hd' hg))
      apart := fun id id' o o' hd hd' hne hg hg' hwr => by
        by_cases hid : id = H.next
        · have hid' : id' ≠ H.next := fun e => hne (hid.trans e.symm)
          subst hid
          rw [upd_same, upd_other _ _ hid']
          rw [hgo id' hid'] at hg'
          have := h.blk_lt (hd'.resolve_left hid') hg'
          simp only [L]; omega
        · by_cases hid' : id' = H.next
          · subst hid'
            rw [upd_same, upd_other _ _ hid]
            rw [hgo id hid] at hg
            have := h.blk_lt (hd.resolve_left hid) hg
            simp only [L]; omega
          · rw [upd_other _ _ hid, upd_other _ _ hid']
            rw [hgo id hid] at hg
            rw [hgo id' hid'] at hg'
            exact h.apart id id' o o' (hd.resolve_left hid) (hd'.resolve_left hid') hne hg hg' hwr
      glob := fun g hg => by
        obtain ⟨h1, h2, h3, h4⟩ := h.glob g hg
        have hne : g ≠ H.next := by have := h.gnext; omega
        exact ⟨.inr h1, by rw [upd_other _ _ hne]; exact h2, by rw [upd_other _ _ hne]; exact h3, (hgo g hne).trans h4⟩
      gnext := by rw [AHeap.next_push]; have := h.gnext; omega
      wf := fun j hj => by rw [AHeap.next_push] at hj; rw [hgo j (by omega)]; exact h.wf j (by omega) }

/-- A new object in a new block, or a store into an old one: what an old object's block holds now. -/
theorem store_sim {G : AHeap} {lo : Nat} {ρ : Ren} {D : Nat → Prop} {H : AHeap} {w w' : World} (h : HRel G ρ D H w) (hlo : G.next ≤ lo)
    {id off : Nat} {c l : List AVal} {esz : Nat} (hd : D id) (hg : H.get id = some (.cells c esz false)) (hid : lo ≤ id) (hl : off + l.length ≤ c.length) (hok : okL ρ D l) (hone : oneL l = true)
    {C : Array Value} {e : TypeId} {fz : Nat × Nat} (hb : w.heap[(ρ id).blk]? = some (.cells C e fz))
    (hb' : w'.heap[(ρ id).blk]? = some (.cells (putArr C ((ρ id).base + off) (renL ρ l)) e fz)) (ho : ∀ k, k ≠ (ρ id).blk → w'.heap[k]? = w.heap[k]?)
    (hsz : w'.heap.size = w.heap.size) (hos : w'.os = w.os) (htp : w'.tape = w.tape) (hout : w'.output = w.output) :
    Step lo ρ D H w ρ D (H.put id (some (.cells (putCells c off l) esz false))) w' ∧ HRel G ρ D (H.put id (some (.cells (putCells c off l) esz false))) w' := by
  have hgo : ∀ j, j ≠ id → (H.put id (some (.cells (putCells c off l) esz false))).get j = H.get j := fun j hne => by rw [AHeap.get_put, if_neg hne]
  have hgi : (H.put id (some (.cells (putCells c off l) esz false))).get id = some (.cells (putCells c off l) esz false) := by rw [AHeap.get_put, if_pos rfl]
  have hc := h.cells id c esz false hd hg
  obtain ⟨C0, e0, fz0, hb0, hsz0, hget0, hfz0⟩ := hc.at_
  rw [hb] at hb0
  obtain ⟨rfl, rfl, rfl⟩ : C = C0 ∧ e = e0 ∧ fz = fz0 := by simpa using hb0
  have hlen := hc.len
  constructor
  · exact {
      old := fun _ h => ⟨h, rfl⟩
      new := fun _ h _ => h
      ghost := fun j _ hnd => hgo j (fun e => hnd (e ▸ hd))
      low := fun j hj _ => hgo j (by omega)
      next := Nat.le_refl _
      wr := fun j o' _ _ hj hw => by
        by_cases hji : j = id
        · subst hji; exact ⟨_, hg, rfl⟩
        · rw [hgo j hji] at hj; exact ⟨o', hj, hw⟩
      fresh := fun j _ hdj hn _ _ => by have := h.lt j hdj; omega
      os := hos
      tape := htp
      output := hout
      froz := fun ad _ => frozen_put hb hb' ho ad
      size := by omega
      frame := fun k _ hn => ho k (fun e => hn id _ hd hg rfl e.symm) }
  · exact {
      lt := h.lt
      cells := fun j c' esz' ro hdj hj => by
        by_cases hji : j = id
        · subst hji
          rw [hgi] at hj
          obtain ⟨rfl, rfl, rfl⟩ : putCells c off l = c' ∧ esz = esz' ∧ false = ro := by simpa using hj
          refine ⟨hc.esz_eq, by rw [putCells_length]; exact hlen, ⟨_, e, fz, hb', by rw [putArr_size]; exact hsz0, ?_, hfz0⟩, ?_, ?_⟩
          · intro k v hv
            rw [putCells_get l c off k hl] at hv
            rw [putArr_get _ _ _ _ (by rw [renL_length]; omega), renL_length]
            by_cases hk : off ≤ k ∧ k < off + l.length
            · rw [if_pos hk] at hv
              rw [if_pos (by omega), renL_get]
              have : (ρ j).base + k - ((ρ j).base + off) = k - off := by omega
              rw [this, hv]; rfl
            · rw [if_neg hk] at hv
              rw [if_neg (by omega)]
              exact hget0 k v hv
          · exact okL_iff.2 fun v hv => (putCells_mem hl hv).elim (okL_iff.1 hc.ok v) (okL_iff.1 hok v)
          · exact oneL_iff.2 fun v hv => (putCells_mem hl hv).elim (oneL_iff.1 hc.one v) (oneL_iff.1 hone v)
        · rw [hgo j hji] at hj
          have := h.apart id j _ _ hd hdj (fun e => hji e.symm) hg hj rfl
          exact (h.cells j c' esz' ro hdj hj).move (fun _ h => ⟨h, rfl⟩) (ho _ (fun e => this e.symm))
      maps := fun j es hdj hj => by
        by_cases hji : j = id
        · subst hji; rw [hgi] at hj; simp at hj
        · rw [hgo j hji] at hj
          have := h.apart id j _ _ hd hdj (fun e => hji e.symm) hg hj rfl
          exact (h.maps j es hdj hj).move (fun _ h => ⟨h, rfl⟩) (ho _ (fun e => this e.symm))
      apart := fun i j o o' hdi hdj hne hi hj hwr => by
        have lift : ∀ x (o : AObj), (H.put id (some (.cells (putCells c off l) esz false))).get x = some o → ∃ o0, H.get x = some o0 ∧ o0.wr = o.wr := by
          intro x o hx
          by_cases hxi : x = id
          · subst hxi; rw [hgi] at hx; exact ⟨_, hg, by simp at hx; rw [← hx]; rfl⟩
          · rw [hgo x hxi] at hx; exact ⟨o, hx, rfl⟩
        obtain ⟨a, ha, haw⟩ := lift i o hi
        obtain ⟨b, hb1, _⟩ := lift j o' hj
        exact h.apart i j a b hdi hdj hne ha hb1 (haw.trans hwr)
      glob := fun g hgl => by
        obtain ⟨h1, h2, h3, h4⟩ := h.glob g hgl
        exact ⟨h1, h2, h3, (hgo g (by omega)).trans h4⟩
      gnext := h.gnext
      wf := fun j hj => by rw [AHeap.next_put] at hj; have := h.lt id hd; rw [hgo j (by omega)]; exact h.wf j hj }

/-- A row gets a new name behind an append in place. -/
theorem rename_sim {G : AHeap} {lo : Nat} {ρ : Ren} {D : Nat → Prop} {H : AHeap} {w w' : World} (h : HRel G ρ D H w) (hlo : G.next ≤ lo)
    {id off n : Nat} {c l : List AVal} {esz : Nat} (hd : D id) (hg : H.get id = some (.cells c esz false)) (hid : lo ≤ id) (hn : off + n ≤ c.length) (hext : off + n + l.length ≤ (ρ id).ext)
    (hok : okL ρ D l) (hone : oneL l = true)
    {C : Array Value} {e : TypeId} {fz : Nat × Nat} (hb : w.heap[(ρ id).blk]? = some (.cells C e fz))
    (hb' : w'.heap[(ρ id).blk]? = some (.cells (putArr C ((ρ id).base + (off + n)) (renL ρ l)) e fz)) (ho : ∀ k, k ≠ (ρ id).blk → w'.heap[k]? = w.heap[k]?)
    (hsz : w'.heap.size = w.heap.size) (hos : w'.os = w.os) (htp : w'.tape = w.tape) (hout : w'.output = w.output) :
    let L : Loc := ⟨(ρ id).blk, (ρ id).base + off, (ρ id).ext - off, esz⟩
    let H' := (H.put id none).push (.cells ((c.drop off).take n ++ l) esz false)
    Step lo ρ D H w (upd ρ H.next L) (ins D H.next) H' w' ∧ HRel G (upd ρ H.next L) (ins D H.next) H' w' := by
  intro L H'
  have hlt := h.lt id hd
  have hgo : ∀ j, j ≠ id → j ≠ H.next → H'.get j = H.get j := fun j h1 h2 => by
    simp only [H']; rw [AHeap.get_push, AHeap.next_put, if_neg h2, AHeap.get_put, if_neg h1]
  have hgi : H'.get id = none := by simp only [H']; rw [AHeap.get_push, AHeap.next_put, if_neg (by omega), AHeap.get_put, if_pos rfl]
  have hgn : H'.get H.next = some (.cells ((c.drop off).take n ++ l) esz false) := by simp only [H']; rw [AHeap.get_push, AHeap.next_put, if_pos rfl]
  have hnx : H'.next = H.next + 1 := rfl
  have hold : ∀ j, D j → ins D H.next j ∧ upd ρ H.next L j = ρ j := fun j hdj => ⟨.inr hdj, upd_other _ _ (by have := h.lt j hdj; omega)⟩
  have hc := h.cells id c esz false hd hg
  obtain ⟨C0, e0, fz0, hb0, hsz0, hget0, hfz0⟩ := hc.at_
  rw [hb] at hb0
  obtain ⟨rfl, rfl, rfl⟩ : C = C0 ∧ e = e0 ∧ fz = fz0 := by simpa using hb0
  have hlen := hc.len
  have hlenT : ((c.drop off).take n).length = n := by simp; omega
  constructor
  · exact {
      old := hold
      new := fun j hdj hlt => by rcases hdj with rfl | hdj; omega; exact hdj
      ghost := fun j hj hnd => hgo j (fun e => hnd (e ▸ hd)) (by omega)
      low := fun j hj hj2 => hgo j (by omega) (by omega)
      next := by rw [hnx]; omega
      wr := fun j o' hj _ hgj hw => by
        by_cases hji : j = id
        · subst hji; rw [hgi] at hgj; cases hgj
        · rw [hgo j hji (by omega)] at hgj; exact ⟨o', hgj, hw⟩
      fresh := fun j o' hdj hnj _ _ => by
        rcases hdj with rfl | hdj
        · right; rw [upd_same]; exact ⟨id, _, hd, hg, rfl, rfl⟩
        · have := h.lt j hdj; omega
      os := hos
      tape := htp
      output := hout
      froz := fun ad _ => frozen_put hb hb' ho ad
      size := by omega
      frame := fun k _ hnk => ho k (fun e => hnk id _ hd hg rfl e.symm) }
  · exact {
      lt := fun j hdj => by
        rw [hnx]
        rcases hdj with rfl | hdj
        · omega
        · have := h.lt j hdj; omega
      cells := fun j c' esz' ro hdj hj => by
        by_cases hjn : j = H.next
        · subst hjn
          rw [hgn] at hj
          obtain ⟨rfl, rfl, rfl⟩ : (c.drop off).take n ++ l = c' ∧ esz = esz' ∧ false = ro := by simpa using hj
          rw [upd_same]
          refine ⟨rfl, by simp [L, hlenT]; omega, ⟨_, e, fz, hb', by rw [putArr_size]; simp only [L]; omega, ?_, ?_⟩, ?_, ?_⟩
          · intro k v hv
            have hvok : ok ρ D v := by
              rcases List.mem_append.1 (List.mem_of_getElem? hv) with hm | hm
              · exact okL_iff.1 hc.ok v (List.mem_of_mem_drop (List.mem_of_mem_take hm))
              · exact okL_iff.1 hok v hm
            rw [ren_congr (fun id hd => (hold id hd).2) v hvok]
            rw [putArr_get _ _ _ _ (by rw [renL_length]; omega), renL_length]
            simp only [L]
            by_cases hk : k < n
            · rw [if_neg (by omega)]
              rw [List.getElem?_append_left (by omega), List.getElem?_take, if_pos hk, List.getElem?_drop] at hv
              have := hget0 _ _ hv
              rw [← this]; congr 1; omega
            · rw [List.getElem?_append_right (by omega), hlenT] at hv
              have hkl : k - n < l.length := by
                rcases Nat.lt_or_ge (k - n) l.length with h1 | h1
                · exact h1
                · rw [List.getElem?_eq_none h1] at hv; cases hv
              rw [if_pos (by omega), renL_get]
              have : (ρ id).base + off + k - ((ρ id).base + (off + n)) = k - n := by omega
              rw [this, hv]; rfl
          · intro _ o h1 h2
            exact hfz0 rfl o (by simp only [L] at h1; omega) (by simp only [L] at h2; omega)
          · exact okL_mono hold _ (okL_append (okL_sub hc.ok fun v hv => List.mem_of_mem_drop (List.mem_of_mem_take hv)) hok)
          · exact oneL_append (oneL_sub hc.one fun v hv => List.mem_of_mem_drop (List.mem_of_mem_take hv)) hone
        · by_cases hji : j = id
          · subst hji; rw [hgi] at hj; cases hj
          · have hdj' : D j := hdj.resolve_left hjn
            rw [hgo j hji hjn] at hj
            rw [upd_other _ _ hjn]
            have := h.apart id j _ _ hd hdj' (fun e => hji e.symm) hg hj rfl
            exact (h.cells j c' esz' ro hdj' hj).move hold (ho _ (fun e => this e.symm))
      maps := fun j es hdj hj => by
        by_cases hjn : j = H.next
        · subst hjn; rw [hgn] at hj; simp at hj
        · by_cases hji : j = id
          · subst hji; rw [hgi] at hj; cases hj
          · have hdj' : D j := hdj.resolve_left hjn
            rw [hgo j hji hjn] at hj
            rw [upd_other _ _ hjn]
            have := h.apart id j _ _ hd hdj' (fun e => hji e.symm) hg hj rfl
            exact (h.maps j es hdj' hj).move hold (ho _ (fun e => this e.symm))
      apart := fun i j o o' hdi hdj hne hi hj hwr => by
        by_cases hin : i = H.next
        · have hjn : j ≠ H.next := fun e => hne (hin.trans e.symm)
          have hji : j ≠ id := fun e => by subst e; rw [hgi] at hj; cases hj
          subst hin
          rw [upd_same, upd_other _ _ hjn]
          rw [hgo j hji hjn] at hj
          exact h.apart id j _ _ hd (hdj.resolve_left hjn) (fun e => hji e.symm) hg hj rfl
        · have hii : i ≠ id := fun e => by subst e; rw [hgi] at hi; cases hi
          rw [hgo i hii hin] at hi
          by_cases hjn : j = H.next
          · subst hjn
            rw [upd_same, upd_other _ _ hin]
            exact h.apart i id o _ (hdi.resolve_left hin) hd hii hi hg hwr
          · have hji : j ≠ id := fun e => by subst e; rw [hgi] at hj; cases hj
            rw [hgo j hji hjn] at hj
            rw [upd_other _ _ hin, upd_other _ _ hjn]
            exact h.apart i j o o' (hdi.resolve_left hin) (hdj.resolve_left hjn) hne hi hj hwr
      glob := fun g hgl => by
        obtain ⟨h1, h2, h3, h4⟩ := h.glob g hgl
        have hne : g ≠ H.next := by have := h.gnext; omega
        exact ⟨.inr h1, by rw [upd_other _ _ hne]; exact h2, by rw [upd_other _ _ hne]; exact h3, (hgo g (by omega) hne).trans h4⟩
      gnext := by rw [hnx]; have := h.gnext; omega
      wf := fun j hj => by rw [hnx] at hj; rw [hgo j (by omega) (by omega)]; exact h.wf j (by omega) }

/-- A name for a place that holds nothing that may be read. -/
theorem alias_sim {G : AHeap} {lo : Nat} {ρ : Ren} {D : Nat → Prop} {H : AHeap} {w : World} (h : HRel G ρ D H w) (L : Loc) :
    let H' : AHeap := { next := H.next + 1, tbl := H.tbl.put none (H.next + 1) H.next }
    Step lo ρ D H w (upd ρ H.next L) (ins D H.next) H' w ∧ HRel G (upd ρ H.next L) (ins D H.next) H' w := by
  intro H'
  have hold : ∀ j, D j → ins D H.next j ∧ upd ρ H.next L j = ρ j := fun j hdj => ⟨.inr hdj, upd_other _ _ (by have := h.lt j hdj; omega)⟩
  have hget : ∀ j, H'.get j = if j = H.next then none else H.get j := fun j => Trie.get_put _ _ _ _ _ (Nat.lt_succ_self H.next)
  have hgo : ∀ j, j ≠ H.next → H'.get j = H.get j := fun j hj => by rw [hget, if_neg hj]
  have hgn : H'.get H.next = none := by rw [hget, if_pos rfl]
  constructor
  · exact {
      old := hold
      new := fun j hdj hlt => by rcases hdj with rfl | hdj; omega; exact hdj
      ghost := fun j hj _ => hgo j (by omega)
      low := fun j _ hj => hgo j (by omega)
      next := Nat.le_succ _
      wr := fun j o' hj _ hgj hw => ⟨o', by rw [← hgo j (by omega)]; exact hgj, hw⟩
      fresh := fun j o' hdj hnj hgj _ => by
        rcases hdj with rfl | hdj
        · rw [hgn] at hgj; cases hgj
        · have := h.lt j hdj; omega
      os := rfl
      tape := rfl
      output := rfl
      froz := fun _ _ => rfl
      size := Nat.le_refl _
      frame := fun _ _ _ => rfl }
  · exact {
      lt := fun j hdj => by
        show j < H.next + 1
        rcases hdj with rfl | hdj
        · omega
        · have := h.lt j hdj; omega
      cells := fun j c' esz' ro hdj hj => by
        by_cases hjn : j = H.next
        · subst hjn; rw [hgn] at hj; cases hj
        · rw [hgo j hjn] at hj
          rw [upd_other _ _ hjn]
          exact (h.cells j c' esz' ro (hdj.resolve_left hjn) hj).move hold rfl
      maps := fun j es hdj hj => by
        by_cases hjn : j = H.next
        · subst hjn; rw [hgn] at hj; cases hj
        · rw [hgo j hjn] at hj
          rw [upd_other _ _ hjn]
          exact (h.maps j es (hdj.resolve_left hjn) hj).move hold rfl
      apart := fun i j o o' hdi hdj hne hi hj hwr => by
        have hin : i ≠ H.next := fun e => by subst e; rw [hgn] at hi; cases hi
        have hjn : j ≠ H.next := fun e => by subst e; rw [hgn] at hj; cases hj
        rw [hgo i hin] at hi
        rw [hgo j hjn] at hj
        rw [upd_other _ _ hin, upd_other _ _ hjn]
        exact h.apart i j o o' (hdi.resolve_left hin) (hdj.resolve_left hjn) hne hi hj hwr
      glob := fun g hgl => by
        obtain ⟨h1, h2, h3, h4⟩ := h.glob g hgl
        have hne : g ≠ H.next := by have := h.gnext; omega
        exact ⟨.inr h1, by rw [upd_other _ _ hne]; exact h2, by rw [upd_other _ _ hne]; exact h3, (hgo g hne).trans h4⟩
      gnext := by show G.next ≤ H.next + 1; have := h.gnext; omega
      wf := fun j hj => by have hj' : H.next + 1 ≤ j := hj; rw [hgo j (by omega)]; exact h.wf j (by omega) }

end Go.RI
