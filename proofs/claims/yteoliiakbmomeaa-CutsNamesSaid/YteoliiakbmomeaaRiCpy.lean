/- RI: copy; a new map. Conditions: none. -/
import Derived.Test.YteoliiakbmomeaaRiMap
namespace Go.RI
open Go
set_option linter.unusedSimpArgs false

section
variable {ds : List Deferred} {P : Program} {G : AHeap} {lo : Nat} {ρ : Ren} {D : Nat → Prop} {n : Nat} {e : Env} {a : Act} {H : AHeap} {w : World}

theorem srcLen_sim {y : AVal} {m : Nat} (hy : ok ρ D y) (h : srcLen y = some m) : (Builtin.lenOf (ren ρ y)).run P w = .ok m w ∧ ∀ esz, (Builtin.firstCells esz 0 (ren ρ y)).run P w = .ok #[] w := by
  cases y <;> simp only [srcLen] at h <;> try (cases h; done)
  case s v =>
    cases h
    refine ⟨by simp [ren, Builtin.lenOf, bytes_size], fun esz => ?_⟩
    have : (ByteArray.mk v.toArray).extract 0 0 = ByteArray.mk #[] := by apply ByteArray.ext; simp [ByteArray.data_extract]
    simp [ren, Builtin.firstCells, this, ByteArray.toList_eq]
  case ns => cases h; exact ⟨by simp [ren, Builtin.lenOf], fun esz => by simp [ren, Builtin.firstCells]⟩
  case es ad => cases h; exact ⟨by simp [ren, Builtin.lenOf], fun esz => by simp [ren, Builtin.firstCells, loadCells, loadCellsFrom]⟩
  case sl id off len cap => cases h; exact ⟨by simp [ren, Builtin.lenOf], fun esz => by simp [ren, Builtin.firstCells, loadCells, loadCellsFrom]⟩
  case fs => simp [ok] at hy

theorem srcCells_sim (h : HRel G ρ D H w) {y : AVal} {esz k : Nat} {ys : List AVal} (hy : ok ρ D y) (hc : srcCells H esz k y = some ys) :
    (Builtin.firstCells esz k (ren ρ y)).run P w = .ok (renL ρ ys).toArray w ∧ okL ρ D ys ∧ oneL ys = true := by
  cases y <;> simp only [srcCells] at hc <;> try (cases hc; done)
  case s v =>
    cases hc
    obtain ⟨b1, b2⟩ := bytes_ok (ρ := ρ) (D := D) (v.take k)
    refine ⟨?_, b1, b2⟩
    have : ((ByteArray.mk v.toArray).extract 0 k).toList = v.take k := by rw [ByteArray.toList_eq]; simp [ByteArray.data_extract]
    rw [bytes_ren]
    have h2 : ((ByteArray.mk v.toArray).extract 0 k).data = (v.take k).toArray := by
      apply Array.ext'; rw [← ByteArray.toList_eq, this]
    simp [ren, Builtin.firstCells, h2]
  case sl id off len cap =>
    simp only [ok] at hy
    obtain ⟨h1, h2, h3, h4⟩ := rowAt_sim (P := P) h hy.1 hc
    exact ⟨by simp [ren, Builtin.firstCells, h4], h2, h3⟩
  case fs => simp [ok] at hy

theorem cpy_sim (r : Rel P G ds ρ D n e a H w) (hlo : G.next ≤ lo) {o : Oper} {t t2 el : TypeId} {x y : Operand} (ho : o.op = .call { callee := .builtin .copy, args := #[x, y], argTypes := #[t, t2] }) (ht : P.underlying t = some (.slice el)) {i : TypeInfo} (hi : P.info? el = some i)
    {u v z : AVal} {H' : AHeap} (hx : a.eval x = ren ρ u) (hu : ok ρ D u) (hy : a.eval y = ren ρ v) (hv : ok ρ D v) (hs : cpyV lo H i.size u v = some (z, H')) : Sim G lo ρ D H w ((execOp a.eval o).run P w) (some z) H' := by
  have hexec : ∀ V w', (Builtin.copy_ #[t, t2] o.type #[ren ρ u, ren ρ v]).run P w = .ok V w' → (execOp a.eval o).run P w = .ok (.value V) w' := by
    intro V w' hr
    simp [execOp, ho, resolve, hx, hy, invoke, builtin, hr]
  unfold cpyV at hs
  split at hs
  · cases hs
  · rename_i m hm
    obtain ⟨s1, s2⟩ := srcLen_sim (P := P) (w := w) hv hm
    cases u <;> simp only at hs <;> try (cases hs; done)
    case ns =>
      cases hs
      refine sim_val r.heap (hexec _ _ ?_) (by simp [ok])
      simp [Builtin.copy_, ren, run_underlying ht, s1, run_sizeOf' hi, s2, goInt]
    case es ad =>
      cases hs
      refine sim_val r.heap (hexec _ _ ?_) (by simp [ok])
      simp [Builtin.copy_, ren, run_underlying ht, s1, run_sizeOf' hi, s2, goInt, storeCells]
    case sl id off len cap =>
      simp only [ok] at hu
      split at hs
      · rename_i h0
        cases hs
        refine sim_val r.heap (hexec _ _ ?_) (by simp [ok])
        have h0' : m.min len = 0 := h0
        simp [Builtin.copy_, ren, run_underlying ht, s1, run_sizeOf' hi, h0', s2, goInt, storeCells]
      · rename_i h0
        split at hs
        · cases hs
        · rename_i ys hys
          split at hs
          · rename_i hid
            split at hs
            · rename_i cs esz' ro hg
              split at hs
              · rename_i hc
                obtain ⟨rfl, hyl, hoff⟩ := hc
                cases hs
                obtain ⟨c1, c2, c3⟩ := srcCells_sim (P := P) r.heap hv hys
                have hcc := r.heap.cells id cs esz' false hu.1 hg
                obtain ⟨C, el', fz, hb, hsz, hget, hfz⟩ := hcc.at_
                have hl2 := hcc.len
                obtain ⟨w', hrun, hb', hoth, hsize, hos, htp, hout⟩ := run_storeCells (P := P) (off := (ρ id).base + off) (e := el') (fz := fz) (renL ρ ys) 0 w C hb
                  (oneCell_renL ρ c3) (by rw [renL_length]; omega) (fun o h1 h2 => hfz rfl o (by omega) (by rw [renL_length] at h2; omega))
                obtain ⟨h1, h2⟩ := store_sim (lo := lo) (off := off) r.heap hlo hu.1 hg hid (by omega) c2 c3 hb (by simpa using hb') hoth hsize hos htp hout
                refine ⟨ρ, D, w', hexec _ _ ?_, h1, h2, fun u hu => by cases hu; simp [ok]⟩
                have c1' : (Builtin.firstCells i.size (m.min len) (ren ρ v)).run P w = .ok (renL ρ ys).toArray w := c1
                have hrun' : (storeCells ⟨(ρ id).blk, (ρ id).base + off, none⟩ (renL ρ ys)).run P w = .ok () w' := hrun
                simp [Builtin.copy_, ren, run_underlying ht, s1, run_sizeOf' hi, c1', hrun', goInt]
              · cases hs
            · cases hs
          · cases hs

/-! ### A new map -/
theorem pushmap_sim {w' : World} (h : HRel G ρ D H w) (hw : w'.heap = w.heap.push (.map #[] 0)) (hos : w'.os = w.os) (htp : w'.tape = w.tape) (hout : w'.output = w.output) :
    let L : Loc := ⟨w.heap.size, 0, 0, 1⟩
    Step lo ρ D H w (upd ρ H.next L) (ins D H.next) (H.push (.map [])) w' ∧ HRel G (upd ρ H.next L) (ins D H.next) (H.push (.map [])) w' := by
  intro L
  have hold : ∀ id, D id → ins D H.next id ∧ upd ρ H.next L id = ρ id := fun id hd =>
    ⟨.inr hd, upd_other _ _ (by have := h.lt id hd; omega)⟩
  have hblk : ∀ k, k < w.heap.size → w'.heap[k]? = w.heap[k]? := fun k hk => by rw [hw, Array.getElem?_push, if_neg (by omega)]
  have hgo : ∀ id, id ≠ H.next → (H.push (.map [])).get id = H.get id := fun id hne => by rw [AHeap.get_push, if_neg hne]
  have hgn : (H.push (.map [])).get H.next = some (.map []) := by rw [AHeap.get_push, if_pos rfl]
  have hnew : w'.heap[w.heap.size]? = some (.map #[] 0) := by rw [hw]; simp
  constructor
  · exact {
      old := hold
      new := fun id hd hlt => by rcases hd with rfl | hd; omega; exact hd
      ghost := fun id hlt _ => hgo id (by omega)
      low := fun id _ hlt => hgo id (by omega)
      next := by rw [AHeap.next_push]; omega
      wr := fun id o' hlt _ hg hw => ⟨o', by rw [← hgo id (by omega)]; exact hg, hw⟩
      fresh := fun id o' hd hn hg _ => by
        rcases hd with rfl | hd
        · left; rw [upd_same]; exact Nat.le_refl _
        · have := h.lt id hd; omega
      os := hos
      tape := htp
      output := hout
      froz := frozen_push hw
      size := by rw [hw]; simp
      frame := fun k hk _ => hblk k hk }
  · exact {
      lt := fun id hd => by
        rw [AHeap.next_push]
        rcases hd with rfl | hd
        · omega
        · have := h.lt id hd; omega
      cells := fun id c esz ro hd hg => by
        rcases hd with rfl | hd
        · rw [hgn] at hg; simp at hg
        · have hlt := h.lt id hd
          rw [hgo id (by omega)] at hg
          have := (h.cells id c esz ro hd hg).move hold (w' := w') (hblk _ (h.blk_lt hd hg))
          rw [upd_other _ _ (by omega)]; exact this
      maps := fun id es hd hg => by
        rcases hd with rfl | hd
        · rw [hgn] at hg
          simp only [Option.some.injEq, AObj.map.injEq] at hg
          subst hg
          rw [upd_same]
          exact ⟨⟨#[], 0, hnew, by simp, by simp, by simp⟩, by simp⟩
        · have hlt := h.lt id hd
          rw [hgo id (by omega)] at hg
          have := (h.maps id es hd hg).move hold (w' := w') (hblk _ (h.blk_lt hd hg))
          rw [upd_other _ _ (by omega)]; exact this
      apart := fun i j o o' hi hj hne hgi hgj hwr => by
        rcases hi with rfl | hi
        · rcases hj with rfl | hj
          · exact (hne rfl).elim
          · have hlt := h.lt j hj
            rw [hgo j (by omega)] at hgj
            have := h.blk_lt hj hgj
            rw [upd_same, upd_other _ _ (by omega)]
            show w.heap.size ≠ _
            omega
        · have hlti := h.lt i hi
          rw [hgo i (by omega)] at hgi
          rcases hj with rfl | hj
          · have := h.blk_lt hi hgi
            rw [upd_same, upd_other _ _ (by omega)]
            show _ ≠ w.heap.size
            omega
          · have hltj := h.lt j hj
            rw [hgo j (by omega)] at hgj
            rw [upd_other _ _ (by omega), upd_other _ _ (by omega)]
            exact h.apart i j o o' hi hj hne hgi hgj hwr
      glob := fun g hg => by
        obtain ⟨h1, h2, h3, h4⟩ := h.glob g hg
        have := h.gnext
        rw [upd_other _ _ (by omega)]
        exact ⟨.inr h1, h2, h3, (hgo g (by omega)).trans h4⟩
      gnext := by have := h.gnext; rw [AHeap.next_push]; omega
      wf := fun j hj => by rw [AHeap.next_push] at hj; rw [hgo j (by omega)]; exact h.wf j (by omega) }

theorem mkmap_sim (r : Rel P G ds ρ D n e a H w) {o : Oper} {t : TypeId} (ho : o.op = .makeMap t none) : Sim G lo ρ D H w ((execOp a.eval o).run P w) (some (.m H.next)) (H.push (.map [])) := by
  obtain ⟨h1, h2⟩ := pushmap_sim (lo := lo) (w' := { w with heap := w.heap.push (.map #[] 0) }) r.heap rfl rfl rfl rfl
  refine ⟨_, _, _, ?_, h1, h2, fun u hu => ?_⟩
  · simp [execOp, ho, Instr.makeMap, newObj, ren, upd_same, Sem.run]
  · cases hu; simp [ok, ins]

end
end Go.RI
