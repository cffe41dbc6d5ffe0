/- RI, part G: each of the machine's operations that is no call, beside the interpreter's. Conditions: none. -/
import Derived.Test.YteoliiakbmomeaaRiF
namespace Go.RI
open Go

def isAggD : TypeDesc → Bool
  | .struct _ | .array _ _ => true
  | _ => false

/-- A type's zero value, in cells. -/
def zeroC (P : Program) (t : TypeId) : Option (List AVal) :=
  match P.info? t with
  | some i => match i.zero with
    | some z => match ofVal z with
      | some a => if a.tup = false then some a.cells else none
      | none => none
    | none => none
  | none => none

section
variable {ds : List Deferred} {P : Program} {G : AHeap} {lo : Nat} {ρ : Ren} {D : Nat → Prop} {n : Nat} {e : Env} {a : Act} {H : AHeap} {w : World}

theorem run_sizeOf' {t : TypeId} {i : TypeInfo} (h : P.info? t = some i) (w : World) : (sizeOf t).run P w = .ok i.size w := by simp [sizeOf, typeInfo, h]
theorem run_isAgg' {t : TypeId} {d : TypeDesc} (h : P.underlying t = some d) (w : World) : (isAgg t).run P w = .ok (isAggD d) w := by
  cases d <;> simp [isAgg, run_underlying h, isAggD]
theorem run_typeInfo' {t : TypeId} {i : TypeInfo} (h : P.info? t = some i) (w : World) : (typeInfo t).run P w = .ok i w := by simp [typeInfo, h]

theorem zeroC_run {t : TypeId} {z : List AVal} (h : zeroC P t = some z) : ∃ i v, P.info? t = some i ∧ i.zero = some v ∧ (∀ w, (zeroValue t).run P w = .ok v w) ∧ (∀ ρ, v.cells = (renL ρ z).toArray) ∧ noIdL z = true ∧ oneL z = true := by
  unfold zeroC at h
  split at h
  · rename_i i hi
    split at h
    · rename_i v hv
      split at h
      · rename_i u hu
        split at h
        · rename_i ht
          simp only [Option.some.injEq] at h; subst h
          obtain ⟨h1, h2⟩ := ofVal_ren v u hu
          refine ⟨i, v, hi, hv, fun w => by simp [zeroValue, typeInfo, hi, hv], fun ρ => by rw [← h2 ρ, ren_cells], ?_, ?_⟩
          · cases u <;> simp_all [AVal.cells, noIdL, noId]
          · exact cells_one (noId_ok (fun _ => ⟨0, 0, 0, 0⟩) (fun _ => True) u h1) ht
        · cases h
      · cases h
    · cases h
  · cases h

/-! ### Making variables -/
theorem run_newVar (t : TypeId) (v : Value) (w : World) : (newVar t v).run P w = .ok ⟨w.heap.size, 0, none⟩ { w with heap := w.heap.push (.cells v.cells t) } := by
  simp [newVar, newRow]

theorem alloc_sim (r : Rel P G ds ρ D n e a H w) {o : Oper} {t : TypeId} (ho : o.op = .alloc t) {z : List AVal} (hz : zeroC P t = some z) :
    Sim G lo ρ D H w ((execOp a.eval o).run P w) (some (.p H.next 0)) (H.push (.cells z 1 false)) := by
  obtain ⟨i, v, _, _, hrun, hcells, hid, hone⟩ := zeroC_run hz
  obtain ⟨h1, h2⟩ := push_sim (lo := lo) (esz := 1) r.heap (w' := { w with heap := w.heap.push (.cells v.cells t) }) (c := z) rfl rfl rfl rfl
    (by rw [hcells ρ]; simp [renL_length]) (fun j u hu => by rw [hcells ρ]; simp [renL_get, hu]) (fun o ho => by simp) (noIdL_ok ρ D z hid) hone
  refine ⟨_, _, _, ?_, h1, h2, fun u hu => ?_⟩
  · simp [execOp, ho, Instr.alloc, hrun, run_newVar, ren, upd_same]
  · cases hu; simp [ok, ins]

theorem box_sim (r : Rel P G ds ρ D n e a H w) {o : Oper} {t : TypeId} {x : Operand} (ho : o.op = .box t x) {v : AVal} (hx : a.eval x = ren ρ v) (hv : ok ρ D v) (ht : v.tup = false) :
    Sim G lo ρ D H w ((execOp a.eval o).run P w) (some (.p H.next 0)) (H.push (.cells v.cells 1 false)) := by
  have hc := ren_cells ρ v
  obtain ⟨h1, h2⟩ := push_sim (lo := lo) (esz := 1) r.heap (w' := { w with heap := w.heap.push (.cells (ren ρ v).cells t) }) (c := v.cells) rfl rfl rfl rfl
    (by rw [hc]; simp [renL_length]) (fun j u hu => by rw [hc]; simp [renL_get, hu]) (fun o ho => by simp) (cells_ok hv) (cells_one hv ht)
  refine ⟨_, _, _, ?_, h1, h2, fun u hu => ?_⟩
  · simp [execOp, ho, Instr.box, hx, run_newVar, ren, upd_same]
  · cases hu; simp [ok, ins]

/-! ### Reading -/
theorem rowAt_sim (h : HRel G ρ D H w) {id off m : Nat} {l : List AVal} (hd : D id) (hl : rowAt H id off m = some l) :
    l.length = m ∧ okL ρ D l ∧ oneL l = true ∧ (loadCells ⟨(ρ id).blk, (ρ id).base + off, none⟩ m).run P w = .ok (renL ρ l).toArray w := by
  unfold rowAt at hl
  split at hl
  · rename_i c esz ro hg
    split at hl
    · rename_i hle
      simp only [Option.some.injEq] at hl; subst hl
      have hc := h.cells id c esz ro hd hg
      obtain ⟨C, e, fz, hb, hsz, hget, _⟩ := hc.at_
      have hlen : ((c.drop off).take m).length = m := by simp; omega
      refine ⟨hlen, okL_sub hc.ok fun v hv => List.mem_of_mem_drop (List.mem_of_mem_take hv), oneL_sub hc.one fun v hv => List.mem_of_mem_drop (List.mem_of_mem_take hv), ?_⟩
      have hlr : (renL ρ ((c.drop off).take m)).length = m := by rw [renL_length, hlen]
      have hrun := run_loadCells (P := P) hb (off := (ρ id).base + off) (renL ρ ((c.drop off).take m)) 0 #[] (fun j v hv => by
        rw [renL_get] at hv
        rw [List.getElem?_take] at hv
        by_cases hj : j < m
        · rw [if_pos hj, List.getElem?_drop] at hv
          cases hcj : c[off + j]? with
          | none => rw [hcj] at hv; cases hv
          | some u =>
            rw [hcj] at hv; simp only [Option.map_some, Option.some.injEq] at hv; subst hv
            have := hget _ _ hcj
            rw [← this]; congr 1; omega
        · rw [if_neg hj] at hv; cases hv)
      rw [hlr] at hrun
      simpa [loadCells] using hrun
    · cases hl
  · cases hl

theorem load_sim (r : Rel P G ds ρ D n e a H w) {o : Oper} {t : TypeId} {x : Operand} (ho : o.op = .load t x) {d : TypeDesc} {i : TypeInfo} (hd : P.underlying t = some d) (hi : P.info? t = some i)
    {p v : AVal} (hx : a.eval x = ren ρ p) (hp : ok ρ D p) (hl : loadV H (if isAggD d then some i.size else none) p = some v) :
    Sim G lo ρ D H w ((execOp a.eval o).run P w) (some v) H := by
  cases p <;> simp only [loadV] at hl <;> try (cases hl; done)
  case fp l => simp [ok] at hp
  case p id off =>
    simp only [ok] at hp
    cases hagg : isAggD d with
    | true =>
      rw [hagg] at hl
      simp only [if_true] at hl
      rw [Option.map_eq_some_iff] at hl
      obtain ⟨l, hl, rfl⟩ := hl
      obtain ⟨_, h2, h3, h4⟩ := rowAt_sim (P := P) r.heap hp hl
      refine sim_val r.heap ?_ (by simp only [ok]; exact ⟨h2, h3⟩)
      simp [execOp, ho, Instr.loadAt, hx, ren, Instr.sureAddr, loadVar, run_isAgg' hd, hagg, run_sizeOf' hi, h4]
    | false =>
      rw [hagg] at hl
      simp only [Bool.false_eq_true, if_false] at hl
      split at hl
      · rename_i c esz ro hg
        have hc := r.heap.cells id c esz ro hp hg
        obtain ⟨C, e, fz, hb, hsz, hget, _⟩ := hc.at_
        refine sim_val r.heap ?_ (okL_get hc.ok hl)
        have hcell : w.cell? ⟨(ρ id).blk, (ρ id).base + off, none⟩ = some (ren ρ v) := by rw [cell?_at hb]; exact hget _ _ hl
        simp [execOp, ho, Instr.loadAt, hx, ren, Instr.sureAddr, loadVar, run_isAgg' hd, hagg, hcell]
      · cases hl

/-! ### Writing -/
theorem storeV_sim (r : Rel P G ds ρ D n e a H w) (hlo : G.next ≤ lo) {o : Oper} {t : TypeId} {x y : Operand} (ho : o.op = .store t x y) {i : TypeInfo} (hi : P.info? t = some i)
    {p v : AVal} {H' : AHeap} (hx : a.eval x = ren ρ p) (hp : ok ρ D p) (hy : a.eval y = ren ρ v) (hv : ok ρ D v) (hs : storeV lo H i.size p v = some H') :
    Sim G lo ρ D H w ((execOp a.eval o).run P w) none H' := by
  cases p <;> simp only [storeV] at hs <;> try (cases hs; done)
  case p id off =>
    simp only [ok] at hp
    split at hs
    · rename_i hle
      split at hs
      · rename_i c esz ro hg
        split at hs
        · rename_i hc
          obtain ⟨rfl, htup, hlen, hoff⟩ := hc
          simp only [Option.some.injEq] at hs; subst hs
          have hcc := r.heap.cells id c esz false hp hg
          obtain ⟨C, e, fz, hb, hsz, hget, hfz⟩ := hcc.at_
          have hl2 := hcc.len
          obtain ⟨w', hrun, hb', hoth, hsize, hos, htp, hout⟩ := run_storeCells (P := P) (off := (ρ id).base + off) (e := e) (fz := fz) (renL ρ v.cells) 0 w C hb
            (oneCell_renL ρ (cells_one hv htup)) (by rw [renL_length]; omega) (fun o h1 h2 => hfz rfl o (by omega) (by rw [renL_length] at h2; omega))
          obtain ⟨h1, h2⟩ := store_sim (lo := lo) (off := off) r.heap hlo hp hg hle (by omega) (cells_ok hv) (cells_one hv htup) hb (by simpa using hb') hoth hsize hos htp hout
          refine ⟨ρ, D, w', ?_, h1, h2, fun u hu => by cases hu⟩
          have hc2 := ren_cells ρ v
          simp [execOp, ho, Instr.storeAt, hx, hy, ren, Instr.sureAddr, storeVar, run_sizeOf' hi, hc2, renL_length, hlen, hrun]
        · cases hs
      · cases hs
    · cases hs

end
end Go.RI
