/- RI: texts to bytes. Conditions: none. -/
import Derived.Test.YteoliiakbmomeaaRiL
import Derived.Lib.ConvBytes
namespace Go.RI
open Go
set_option linter.unusedSimpArgs false

section
variable {ds : List Deferred} {P : Program} {G : AHeap} {lo : Nat} {ρ : Ren} {D : Nat → Prop} {n : Nat} {e : Env} {a : Act} {H : AHeap} {w : World}

theorem bytes_ok (v : List UInt8) : okL ρ D (v.map fun b => AVal.i .u8 b.toNat) ∧ oneL (v.map fun b => AVal.i .u8 b.toNat) = true := by
  induction v with
  | nil => exact ⟨trivial, rfl⟩
  | cons b v ih => exact ⟨⟨trivial, ih.1⟩, by simp [oneL, one, ih.2]⟩

theorem bytes_ren (v : List UInt8) : renL ρ (v.map fun b => AVal.i .u8 b.toNat) = v.map fun b => Value.int .u8 b.toNat := by
  induction v with
  | nil => rfl
  | cons b v ih => simp [renL, ren, ih]

theorem s2b_sim (r : Rel P G ds ρ D n e a H w) {o : Oper} {s t el : TypeId} {x : Operand} (ho : o.op = .convert s t x) {ds : TypeDesc} (hs : P.underlying s = some ds) (ht : P.underlying t = some (.slice el)) (hel : P.underlying el = some (.int .u8)) {v : List UInt8}
    (hx : a.eval x = ren ρ (.s v)) : Sim G lo ρ D H w ((execOp a.eval o).run P w) (some (.sl H.next 0 v.length none)) (H.push (.cells (v.map fun b => .i .u8 b.toNat) 1 false)) := by
  have hrun := Lib.run_convert_string_bytes (P := P) w s t el ⟨v.toArray⟩ hs ht hel
  have hsize : (ByteArray.mk v.toArray).size = v.length := by simp [ByteArray.size]
  have hcap : v.length ≤ grownCap w (ByteArray.mk v.toArray).size 0 el := by
    simp only [grownCap, Question.cut, hsize]; omega
  have hC : (Lib.bytesCells w el ⟨v.toArray⟩).size = grownCap w (ByteArray.mk v.toArray).size 0 el := by
    simp only [Lib.bytesCells, Array.size_append, Array.size_map, Array.size_replicate]
    rw [hsize] at hcap ⊢
    simp only [List.size_toArray]; omega
  have hrow : Lib.bytesCells w el ⟨v.toArray⟩ = (renL ρ (v.map fun b => AVal.i .u8 b.toNat)).toArray ++ Array.replicate (grownCap w (ByteArray.mk v.toArray).size 0 el - (ByteArray.mk v.toArray).size) (.int .u8 0) := by
    rw [bytes_ren]; simp [Lib.bytesCells]
  have hheap : (Lib.bytesWorld w el ⟨v.toArray⟩).heap = w.heap.push (.cells (Lib.bytesCells w el ⟨v.toArray⟩) el ((Lib.bytesCells w el ⟨v.toArray⟩).size, (Lib.bytesCells w el ⟨v.toArray⟩).size + 1)) := by
    apply Array.ext_getElem?
    intro j
    rw [Array.getElem?_push]
    by_cases hj : j = w.heap.size
    · rw [if_pos hj, hj]; exact Lib.bytesWorld_at_new w el _
    · rw [if_neg hj]
      rcases Nat.lt_or_ge j w.heap.size with h | h
      · exact Lib.bytesWorld_at_old w el _ j h
      · rw [Array.getElem?_eq_none h, Array.getElem?_eq_none (by rw [Lib.bytesWorld_size]; omega)]
  obtain ⟨g1, g2⟩ := push_sim (lo := lo) (esz := 1) r.heap (w' := Lib.bytesWorld w el ⟨v.toArray⟩) (c := v.map fun b => .i .u8 b.toNat) hheap rfl rfl rfl
    (by rw [hC]; simpa using hcap) (fun j u hu => by
      have hj : j < v.length := by
        rcases Nat.lt_or_ge j v.length with h | h
        · exact h
        · rw [List.getElem?_eq_none (by simpa using h)] at hu; cases hu
      rw [hrow, Array.getElem?_append_left (by simp [renL_length]; exact hj)]
      simp only [List.getElem?_toArray, renL_get, hu, Option.map_some]) (fun o ho => by simp; omega) (bytes_ok (ρ := ρ) (D := D) v).1 (bytes_ok (ρ := ρ) (D := D) v).2
  refine ⟨_, _, _, ?_, g1, g2, fun u hu => ?_⟩
  · have : (execOp a.eval o).run P w = .ok (.value (.slice (some ⟨w.heap.size, 0, none⟩) (ByteArray.mk v.toArray).size (grownCap w (ByteArray.mk v.toArray).size 0 el))) (Lib.bytesWorld w el ⟨v.toArray⟩) := by
      simp [execOp, ho, hx, ren, hrun]
    rw [this]
    simp [ren, upd_same, hC, hsize]
  · cases hu
    simp only [ok, ins, upd_same, hC]
    exact ⟨.inl trivial, fun _ => by simpa using hcap⟩

end
end Go.RI
