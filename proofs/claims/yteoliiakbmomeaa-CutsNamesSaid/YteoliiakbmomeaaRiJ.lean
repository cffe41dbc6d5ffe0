/- RI, part J: slices: literals, make, slicing, len, append; the greatest and the least. Conditions: none. -/
import Derived.Test.YteoliiakbmomeaaRiI
import Derived.Great.BuildSlice
namespace Go.RI
open Go

theorem repCells_length (z : List AVal) (k : Nat) : (repCells z k).length = k * z.length := by
  induction k with
  | zero => simp [repCells]
  | succ k ih => simp [repCells, ih, Nat.succ_mul]; omega

theorem repCells_mem {z : List AVal} {k : Nat} {v : AVal} (h : v ∈ repCells z k) : v ∈ z := by
  induction k with
  | zero => simp [repCells] at h
  | succ k ih => rcases List.mem_append.1 h with h1 | h1; exact h1; exact ih h1

theorem repCells_get (z : List AVal) (k j : Nat) (h : j < k * z.length) : (repCells z k)[j]? = z[j % z.length]? := by
  induction k generalizing j with
  | zero => omega
  | succ k ih =>
    rw [Nat.succ_mul] at h
    simp only [repCells]
    by_cases hj : j < z.length
    · rw [List.getElem?_append_left hj, Nat.mod_eq_of_lt hj]
    · rw [List.getElem?_append_right (by omega), ih _ (by omega)]
      congr 1
      rw [← Nat.sub_add_cancel (Nat.le_of_not_lt hj)]
      rw [Nat.add_mod_right]
      simp

/-- What the machine fills a row with. -/
theorem zeros_eq (ρ : Ren) (z : List AVal) (s k : Nat) (hs : z.length = s) (Z : Array Value) (hZ : Z = (renL ρ z).toArray) :
    ((Array.range (k * s)).map (Z[· % Z.size]!)) = (renL ρ (repCells z k)).toArray := by
  subst hZ
  apply Array.ext
  · simp [renL_length, repCells_length, hs]
  · intro j h1 h2
    have hj : j < k * s := by simpa using h1
    have hpos : 0 < s := by rcases Nat.eq_zero_or_pos s with h | h; subst h; omega; exact h
    have hm : j % s < s := Nat.mod_lt _ hpos
    have hg := repCells_get z k j (by rw [hs]; exact hj)
    rw [hs] at hg
    have hz : z[j % s]? = some z[j % s] := List.getElem?_eq_getElem (by omega)
    rw [hz] at hg
    have e1 : (renL ρ (repCells z k))[j]? = some (ren ρ z[j % s]) := by rw [renL_get, hg]; rfl
    have e2 : (renL ρ z)[j % s]? = some (ren ρ z[j % s]) := by rw [renL_get, hz]; rfl
    simp only [Array.getElem_map, Array.getElem_range, List.size_toArray, renL_length, hs, List.getElem_toArray]
    have h3 : (renL ρ (repCells z k))[j]'(by simpa using h2) = ren ρ z[j % s] := by
      have := List.getElem?_eq_getElem (l := renL ρ (repCells z k)) (i := j) (by simpa using h2)
      rw [e1] at this; exact (Option.some.inj this).symm
    rw [h3]
    have hlt : j % s < (renL ρ z).toArray.size := by simp [renL_length, hs, hm]
    rw [getElem!_pos (renL ρ z).toArray (j % s) hlt]
    have := List.getElem?_eq_getElem (l := renL ρ z) (i := j % s) (by rw [renL_length, hs]; exact hm)
    rw [e2] at this
    simpa using (Option.some.inj this).symm

section
variable {ds : List Deferred} {P : Program} {G : AHeap} {lo : Nat} {ρ : Ren} {D : Nat → Prop} {n : Nat} {e : Env} {a : Act} {H : AHeap} {w : World}

theorem repCells_ok (z : List AVal) (k : Nat) (hid : noIdL z = true) (hone : oneL z = true) : okL ρ D (repCells z k) ∧ oneL (repCells z k) = true :=
  ⟨okL_sub (noIdL_ok ρ D z hid) fun _ h => repCells_mem h, oneL_sub hone fun _ h => repCells_mem h⟩

theorem bsl_sim (r : Rel P G ds ρ D n e a H w) {o : Oper} {t el : TypeId} {len : Nat} {parts : Array (Nat × Operand)} (ho : o.op = .buildSlice t len parts) (ht : P.underlying t = some (.slice el)) {i : TypeInfo} (hi : P.info? el = some i)
    {z : List AVal} (hz : zeroC P el = some z) (hzl : z.length = i.size) (hsmall : len * i.size ≤ 16777216)
    {l' : List (Nat × Nat × Opd)} {ps : List (Nat × Nat × AVal)} {cs : List AVal} (h1 : trParts P (fun j => some (j * i.size, i.size)) parts.toList = some l') (h2 : evalParts e l' = some ps) (h3 : fillA (repCells z len) ps = some cs) :
    Sim G lo ρ D H w ((execOp a.eval o).run P w) (some (.sl H.next 0 len (some len))) (H.push (.cells cs i.size false)) := by
  obtain ⟨i', v, hi', hzero, _, hcells, hid, hone⟩ := zeroC_run hz
  obtain rfl : i = i' := by rw [hi] at hi'; exact Option.some.inj hi'
  obtain ⟨hok0, hone0⟩ := repCells_ok (ρ := ρ) (D := D) z len hid hone
  obtain ⟨f1, f2, f3, f4⟩ := fill_sim r h1 h2 h3 hok0 hone0
  have hrun : (Instr.buildSlice t len (parts.map fun (x : Nat × Operand) => (x.1, a.eval x.2))).run P w = .ok (.slice (some ⟨w.heap.size, 0, none⟩) len len) { w with heap := w.heap.push (.cells (renL ρ cs).toArray el) } := by
    have hsm : ¬ len * i.size > 2 ^ 24 := by simp; omega
    by_cases h0 : len * i.size = 0
    · have hre : repCells z len = [] := List.eq_nil_of_length_eq_zero (by rw [repCells_length, hzl]; exact h0)
      rw [hre] at f1
      simp only [renL] at f1
      have hr0 : (Array.range 0).map (fun (_ : Nat) => (default : Value)) = #[] := by simp
      simp [Instr.buildSlice, run_underlying ht, sizeOf, typeInfo, hi, h0, newRow, hr0, f1]
    · have hfill : Instr.fill (fun j => some (j * i.size, i.size)) ((Array.range (len * i.size)).map (v.cells[· % v.cells.size]!)) (parts.map fun (x : Nat × Operand) => (x.1, a.eval x.2)).toList = some (renL ρ cs).toArray := by
        rw [zeros_eq ρ z i.size len hzl v.cells (hcells ρ), Array.toList_map]; exact f1
      exact run_buildSlice w t el len _ _ i v ht hi hzero hsm h0 hfill
  obtain ⟨g1, g2⟩ := push_sim (lo := lo) (esz := i.size) r.heap (w' := { w with heap := w.heap.push (.cells (renL ρ cs).toArray el) }) (c := cs) rfl rfl rfl rfl
    (by simp [renL_length]) (fun j u hu => by simp [renL_get, hu]) (fun o ho => by simp) f2 f3
  refine ⟨_, _, _, ?_, g1, g2, fun u hu => ?_⟩
  · simp [execOp, ho, hrun, ren, upd_same]
  · cases hu; simp [ok, ins]

theorem makeSlice_run {t el : TypeId} (ht : P.underlying t = some (.slice el)) {i : TypeInfo} (hi : P.info? el = some i)
    {z : List AVal} (hz : zeroC P el = some z) (hzl : z.length = i.size) {k k' : IntKind} {l c : Int} (h0 : 0 ≤ l) (hlc : l ≤ c) (hb : i.bytes * c ≤ 281474976710656) (hb0 : 0 < i.bytes) :
    (Instr.makeSlice t (.int k l) (.int k' c)).run P w = .ok (.slice (some ⟨w.heap.size, 0, none⟩) l.toNat c.toNat) { w with heap := w.heap.push (.cells (renL ρ (repCells z c.toNat)).toArray el) } := by
  obtain ⟨i', v, hi', hzero, hzrun, hcells, hid, hone⟩ := zeroC_run hz
  obtain rfl : i = i' := by rw [hi] at hi'; exact Option.some.inj hi'
  have hc : c ≤ 281474976710656 := by
    have h1 : (1 : Int) * c ≤ i.bytes * c := Int.mul_le_mul_of_nonneg_right (by omega) (by omega)
    omega
  have wl : IntKind.i64.wrap l = l := by rw [← wrapI_eq]; simp only [wrapI]; rw [if_pos (by omega)]
  have wc : IntKind.i64.wrap c = c := by rw [← wrapI_eq]; simp only [wrapI]; rw [if_pos (by omega)]
  have ht1 : (decide (c < 0) || decide ((i.bytes : Int) * c > 2 ^ 48)) = false := by
    simp only [Bool.or_eq_false_iff, decide_eq_false_iff_not]; omega
  have h2 : ((decide (c < 0) || decide ((i.bytes : Int) * c > 2 ^ 48)) || decide (l < 0) || decide (l > c)) = false := by rw [ht1]; simp; omega
  simp only [Instr.makeSlice, Sem.run_bind, run_underlying ht, Result.andThen_ok, asInt, asIntOf, Sem.run_pure, run_typeInfo' hi, wl, wc, h2, Bool.false_eq_true, if_false]
  simp only [run_askRoom, Result.andThen_ok, run_sizeOf' hi]
  by_cases hn : c.toNat * i.size = 0
  · have hre : repCells z c.toNat = [] := List.eq_nil_of_length_eq_zero (by rw [repCells_length, hzl]; exact hn)
    have hr0 : (Array.range 0).map (fun (_ : Nat) => (default : Value)) = #[] := by simp
    simp [hn, newRow, hre, renL, hr0]
  · have hze := zeros_eq ρ z i.size c.toNat hzl v.cells (hcells ρ)
    simp [hn, newRow, hzrun, hze]

theorem mksl_sim (r : Rel P G ds ρ D n e a H w) {o : Oper} {t el : TypeId} {x y : Operand} (ho : o.op = .makeSlice t x y) (ht : P.underlying t = some (.slice el)) {i : TypeInfo} (hi : P.info? el = some i)
    {z : List AVal} (hz : zeroC P el = some z) (hzl : z.length = i.size) {k k' : IntKind} {l c : Int} (hx : a.eval x = .int k l) (hy : a.eval y = .int k' c) (h0 : 0 ≤ l) (hlc : l ≤ c) (hb : i.bytes * c ≤ 281474976710656) (hb0 : 0 < i.bytes) :
    Sim G lo ρ D H w ((execOp a.eval o).run P w) (some (.sl H.next 0 l.toNat (some c.toNat))) (H.push (.cells (repCells z c.toNat) i.size false)) := by
  have hrun := makeSlice_run (P := P) (w := w) (ρ := ρ) (k := k) (k' := k') ht hi hz hzl h0 hlc hb hb0
  obtain ⟨i', v, hi', hzero, hzrun, hcells, hid, hone⟩ := zeroC_run hz
  obtain ⟨hok0, hone0⟩ := repCells_ok (ρ := ρ) (D := D) z c.toNat hid hone
  obtain ⟨g1, g2⟩ := push_sim (lo := lo) (esz := i.size) r.heap (w' := { w with heap := w.heap.push (.cells (renL ρ (repCells z c.toNat)).toArray el) }) (c := repCells z c.toNat) rfl rfl rfl rfl
    (by simp [renL_length]) (fun j u hu => by simp [renL_get, hu]) (fun o ho => by simp) hok0 hone0
  refine ⟨_, _, _, ?_, g1, g2, fun u hu => ?_⟩
  · simp [execOp, ho, hx, hy, hrun, ren, upd_same]
  · cases hu; simp [ok, ins]

def lenD : Nat → TypeDesc → Bool
  | 0, .slice _ => true
  | 1, .string => true
  | 2, .map _ _ => true
  | _, _ => false

theorem len_sim (r : Rel P G ds ρ D n e a H w) {o : Oper} {t : TypeId} {x : Operand} (ho : o.op = .call { callee := .builtin .len, args := #[x], argTypes := #[t] }) {d : TypeDesc} (ht : P.underlying t = some d)
    {u : AVal} {m k : Nat} (hx : a.eval x = ren ρ u) (hu : ok ρ D u) (hd : lenD k d = true) (hm : lenV H k u = some m) :
    Sim G lo ρ D H w ((execOp a.eval o).run P w) (some (.i .i64 m)) H := by
  refine sim_val r.heap ?_ (by simp [ok])
  have : (Builtin.len_ #[t] o.type #[ren ρ u]).run P w = .ok (.int .i64 m) w := by
    match k, d, hd with
    | 0, .slice _, _ =>
      cases u <;> simp only [lenV] at hm <;> (try (cases hm; done)) <;> (try (simp [ok] at hu; done)) <;> cases hm <;> simp [Builtin.len_, run_underlying ht, ren, goInt]
    | 1, .string, _ =>
      cases u <;> simp only [lenV] at hm <;> (try (cases hm; done)) <;> cases hm <;> simp [Builtin.len_, run_underlying ht, ren, goInt, bytes_size]
    | 2, .map _ _, _ =>
      cases u <;> simp only [lenV] at hm <;> try (cases hm; done)
      · cases hm; simp [Builtin.len_, run_underlying ht, ren, goInt]
      · rename_i id
        split at hm
        · rename_i es hg
          cases hm
          simp only [ok] at hu
          obtain ⟨⟨E, k, h1, _, _, h2⟩, _⟩ := r.heap.maps id es hu hg
          have hsz : E.size = es.length := by have := congrArg List.length h2; simpa using this
          have : (getObj (ρ id).blk).run P w = .ok (.map E k) w := by simp [getObj, Sem.run, h1]
          simp [Builtin.len_, run_underlying ht, ren, goInt, this, hsz]
        · cases hm
  simp [execOp, ho, resolve, hx, invoke, builtin, this, ren]

theorem mm_run (mx : Bool) : ∀ (l : List AVal) (x v : AVal), mmV mx x l = some v →
    ((renL ρ l).foldlM (if mx then Builtin.max2 else Builtin.min2) (ren ρ x)).run P w = .ok (ren ρ v) w ∧ (l ≠ [] → noId v = true) := by
  intro l
  induction l with
  | nil => intro x v h; simp only [mmV, Option.some.injEq] at h; subst h; exact ⟨by simp [renL], fun h => absurd rfl h⟩
  | cons y l ih =>
    intro x v h
    cases x <;> cases y <;> simp only [mmV] at h <;> try (cases h; done)
    rename_i k p k' q
    split at h
    · rename_i hk
      subst hk
      obtain ⟨h1, h2⟩ := ih _ _ h
      refine ⟨?_, fun _ => ?_⟩
      · cases mx
        · simp only [renL, List.foldlM_cons, Bool.false_eq_true, if_false, ren] at h1 ⊢
          simp only [Builtin.min2, decide_eq_true_eq] at h1 ⊢
          simpa using h1
        · simp only [renL, List.foldlM_cons, if_true, ren] at h1 ⊢
          simp only [Builtin.max2, decide_eq_true_eq] at h1 ⊢
          simpa using h1
      · by_cases hl : l = []
        · subst hl; simp only [mmV, Option.some.injEq] at h; subst h; rfl
        · exact h2 hl
    · cases h

theorem mm_sim (r : Rel P G ds ρ D n e a H w) {o : Oper} {mx : Bool} {x : Operand} {l : List Operand} {ts : Array TypeId} (ho : o.op = .call { callee := .builtin (if mx then .max else .min), args := (x :: l).toArray, argTypes := ts })
    {u v : AVal} {us : List AVal} (hx : a.eval x = ren ρ u) (hu : ok ρ D u) (hl : l.map a.eval = renL ρ us) (hus : okL ρ D us) (hv : mmV mx u us = some v) : Sim G lo ρ D H w ((execOp a.eval o).run P w) (some v) H := by
  obtain ⟨h1, h2⟩ := mm_run (P := P) (ρ := ρ) (w := w) mx us u v hv
  refine sim_val r.heap ?_ ?_
  · cases mx
    · simp only [Bool.false_eq_true, if_false] at h1 ho
      simp [execOp, ho, resolve, invoke, builtin, Builtin.min_, hx, hl, h1]
    · simp only [if_true] at h1 ho
      simp [execOp, ho, resolve, invoke, builtin, Builtin.max_, hx, hl, h1]
  · by_cases hn : us = []
    · subst hn; simp only [mmV, Option.some.injEq] at hv; subst hv; exact hu
    · exact noId_ok _ _ _ (h2 hn)

end
end Go.RI
