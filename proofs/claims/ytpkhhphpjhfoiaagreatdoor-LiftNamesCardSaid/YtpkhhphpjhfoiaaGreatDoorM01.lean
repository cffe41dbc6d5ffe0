import Derived.Test.YtpkhhphpjhfoiaaGreatDoorM00
import Derived.Great.BuildSlice
import Derived.Lib.ConvBytes
import Derived.MapKept
/- RI, part I: building values and slices, slicing, append. Conditions: none. -/
namespace Go.RI
open Go

section
variable {ds : List Deferred} {P : Program} {G : AHeap} {lo : Nat} {ρ : Ren} {D : Nat → Prop} {n : Nat} {e : Env} {a : Act} {H : AHeap} {w : World}

/-! ### Filling -/
theorem foldl_put (off : Nat) : ∀ (l : List Value) (k : Nat) (C : Array Value), (l.zipIdx k).foldl (fun cs (x : Value × Nat) => cs.setIfInBounds (off + x.2) x.1) C = putArr C (off + k) l := by
  intro l
  induction l with
  | nil => intro k C; rfl
  | cons v l ih => intro k C; simp only [List.zipIdx_cons, List.foldl_cons, putArr]; rw [ih]; congr 1

theorem putArr_ren (ρ : Ren) : ∀ (l cs : List AVal) (off : Nat), putArr (renL ρ cs).toArray off (renL ρ l) = (renL ρ (putCells cs off l)).toArray := by
  intro l
  induction l with
  | nil => intro cs off; rfl
  | cons v l ih =>
    intro cs off
    simp only [renL, putArr, putCells]
    rw [← ih]
    congr 1
    simp [renL_map, List.map_set]

/-- The parts of a value that is built: of the machine, and the interpreter's. 'pl': where a part lies, and how many cells it has. -/
def trParts (P : Program) (pl : Nat → Option (Nat × Nat)) : List (Nat × Operand) → Option (List (Nat × Nat × Opd))
  | [] => some []
  | (j, x) :: l => match pl j, trOpd P x, trParts P pl l with
    | some (o, s), some x', some l' => some ((o, s, x') :: l')
    | _, _, _ => none

theorem fill_sim (r : Rel P G ds ρ D n e a H w) {pl : Nat → Option (Nat × Nat)} : ∀ {l : List (Nat × Operand)} {l' : List (Nat × Nat × Opd)} {ps : List (Nat × Nat × AVal)} {z cs : List AVal},
    trParts P pl l = some l' → evalParts e l' = some ps → fillA z ps = some cs → okL ρ D z → oneL z = true →
    Instr.fill pl (renL ρ z).toArray (l.map fun x => (x.1, a.eval x.2)) = some (renL ρ cs).toArray ∧ okL ρ D cs ∧ oneL cs = true ∧ cs.length = z.length := by
  intro l
  induction l with
  | nil =>
    intro l' ps z cs h1 h2 h3 h4 h5
    simp only [trParts, Option.some.injEq] at h1; subst h1
    simp only [evalParts, Option.some.injEq] at h2; subst h2
    simp only [fillA, Option.some.injEq] at h3; subst h3
    exact ⟨rfl, h4, h5, rfl⟩
  | cons x l ih =>
    obtain ⟨j, x⟩ := x
    intro l' ps z cs h1 h2 h3 h4 h5
    simp only [trParts] at h1
    split at h1
    · rename_i o s x' l1 hpl hx hl
      simp only [Option.some.injEq] at h1; subst h1
      simp only [evalParts] at h2
      split at h2
      · rename_i v hv
        split at h2
        · rename_i vs hvs
          simp only [Option.some.injEq] at h2; subst h2
          simp only [fillA] at h3
          split at h3
          · rename_i hc
            obtain ⟨htup, hlen, hle⟩ := hc
            obtain ⟨he, hok⟩ := opd_sim r hx hv
            have hone := cells_one hok htup
            have hcok := cells_ok hok
            have hle' : o + v.cells.length ≤ z.length := by omega
            obtain ⟨i1, i2, i3, i4⟩ := ih hl hvs h3 (okL_iff.2 fun u hu => (putCells_mem hle' hu).elim (okL_iff.1 h4 u) (okL_iff.1 hcok u)) (oneL_iff.2 fun u hu => (putCells_mem hle' hu).elim (oneL_iff.1 h5 u) (oneL_iff.1 hone u))
            refine ⟨?_, i2, i3, by rw [i4, putCells_length]⟩
            have hcells := ren_cells ρ v
            have hsz : (ren ρ v).cells.size = s := by rw [hcells]; simp [renL_length, hlen]
            simp only [List.map_cons, Instr.fill, hpl, he, hsz]
            have hcond : (decide (s ≠ s) || decide (o + s > (renL ρ z).toArray.size)) = false := by
              simp [renL_length]; omega
            rw [if_neg (by rw [hcond]; simp)]
            rw [← i1]
            congr 1
            rw [hcells, ← putArr_ren, ← Nat.add_zero o, ← foldl_put o (renL ρ v.cells) 0]
            simp
          · cases h3
        · cases h2
      · cases h2
    · cases h1

/-- Where a struct's, or an array's, parts lie. -/
def placeOf (P : Program) (t : TypeId) : Option (Nat → Option (Nat × Nat)) :=
  match P.underlying t with
  | some (.struct fs) => match fs.toList.mapM (fun f => (P.info? f.type).map fun i => (f.offset, i.size)) with
    | some places => some (places.toArray[·]?)
    | none => none
  | some (.array _ el) => match P.info? el with
    | some i => some fun j => some (j * i.size, i.size)
    | none => none
  | _ => none

theorem build_sim (r : Rel P G ds ρ D n e a H w) {o : Oper} {t : TypeId} {parts : Array (Nat × Operand)} (ho : o.op = .build t parts) {pl : Nat → Option (Nat × Nat)} (hpl : placeOf P t = some pl) {z : List AVal} (hz : zeroC P t = some z)
    {l' : List (Nat × Nat × Opd)} {ps : List (Nat × Nat × AVal)} {cs : List AVal} (h1 : trParts P pl parts.toList = some l') (h2 : evalParts e l' = some ps) (h3 : fillA z ps = some cs) :
    Sim G lo ρ D H w ((execOp a.eval o).run P w) (some (.ag cs)) H := by
  obtain ⟨i, v, hi, hzero, _, hcells, hid, hone⟩ := zeroC_run hz
  obtain ⟨f1, f2, f3, _⟩ := fill_sim r h1 h2 h3 (noIdL_ok ρ D z hid) hone
  refine sim_val r.heap ?_ (by simp only [ok]; exact ⟨f2, f3⟩)
  have hb : P.built t (parts.toList.map fun x => (x.1, a.eval x.2)) = some (renL ρ cs).toArray := by
    unfold placeOf at hpl
    unfold Program.built
    split at hpl
    · rename_i fs hu
      split at hpl
      · rename_i places hp
        cases hpl
        simp only [hi, hu, hzero, hp]
        rw [hcells ρ]; exact f1
      · cases hpl
    · rename_i m el hu
      split at hpl
      · rename_i ie hie
        cases hpl
        simp only [hi, hu, hzero, hie]
        rw [hcells ρ]; exact f1
      · cases hpl
    · cases hpl
  have hrun := run_build (P := P) w t (parts.map fun x => (x.1, a.eval x.2)) (renL ρ cs).toArray (by rw [Array.toList_map]; exact hb)
  simp [execOp, ho, hrun, ren]

end
end Go.RI

/- RI, part J: slices: literals, make, slicing, len, append; the greatest and the least. Conditions: none. -/
namespace Go.RI
open Go

theorem repCells_length (z : List AVal) (k : Nat) : (repCells z k).length = k * z.length := by
  induction k with
  | zero => simp [repCells]
  | succ k ih => simp [repCells, ih, Nat.succ_mul]; omega

theorem repCells_mem {z : List AVal} {k : Nat} {v : AVal} (h : v ∈ repCells z k) : v ∈ z := by
  induction k with
  | zero => simp [repCells] at h
  | succ k ih => rcases List.mem_append.1 h with h1 | h1; exact h1; exact ih h1

theorem repCells_get (z : List AVal) (k j : Nat) (h : j < k * z.length) : (repCells z k)[j]? = z[j % z.length]? := by
  induction k generalizing j with
  | zero => omega
  | succ k ih =>
    rw [Nat.succ_mul] at h
    simp only [repCells]
    by_cases hj : j < z.length
    · rw [List.getElem?_append_left hj, Nat.mod_eq_of_lt hj]
    · rw [List.getElem?_append_right (by omega), ih _ (by omega)]
      congr 1
      rw [← Nat.sub_add_cancel (Nat.le_of_not_lt hj)]
      rw [Nat.add_mod_right]
      simp

/-- What the machine fills a row with. -/
theorem zeros_eq (ρ : Ren) (z : List AVal) (s k : Nat) (hs : z.length = s) (Z : Array Value) (hZ : Z = (renL ρ z).toArray) :
    ((Array.range (k * s)).map (Z[· % Z.size]!)) = (renL ρ (repCells z k)).toArray := by
  subst hZ
  apply Array.ext
  · simp [renL_length, repCells_length, hs]
  · intro j h1 h2
    have hj : j < k * s := by simpa using h1
    have hpos : 0 < s := by rcases Nat.eq_zero_or_pos s with h | h; subst h; omega; exact h
    have hm : j % s < s := Nat.mod_lt _ hpos
    have hg := repCells_get z k j (by rw [hs]; exact hj)
    rw [hs] at hg
    have hz : z[j % s]? = some z[j % s] := List.getElem?_eq_getElem (by omega)
    rw [hz] at hg
    have e1 : (renL ρ (repCells z k))[j]? = some (ren ρ z[j % s]) := by rw [renL_get, hg]; rfl
    have e2 : (renL ρ z)[j % s]? = some (ren ρ z[j % s]) := by rw [renL_get, hz]; rfl
    simp only [Array.getElem_map, Array.getElem_range, List.size_toArray, renL_length, hs, List.getElem_toArray]
    have h3 : (renL ρ (repCells z k))[j]'(by simpa using h2) = ren ρ z[j % s] := by
      have := List.getElem?_eq_getElem (l := renL ρ (repCells z k)) (i := j) (by simpa using h2)
      rw [e1] at this; exact (Option.some.inj this).symm
    rw [h3]
    have hlt : j % s < (renL ρ z).toArray.size := by simp [renL_length, hs, hm]
    rw [getElem!_pos (renL ρ z).toArray (j % s) hlt]
    have := List.getElem?_eq_getElem (l := renL ρ z) (i := j % s) (by rw [renL_length, hs]; exact hm)
    rw [e2] at this
    simpa using (Option.some.inj this).symm

section
variable {ds : List Deferred} {P : Program} {G : AHeap} {lo : Nat} {ρ : Ren} {D : Nat → Prop} {n : Nat} {e : Env} {a : Act} {H : AHeap} {w : World}

theorem repCells_ok (z : List AVal) (k : Nat) (hid : noIdL z = true) (hone : oneL z = true) : okL ρ D (repCells z k) ∧ oneL (repCells z k) = true :=
  ⟨okL_sub (noIdL_ok ρ D z hid) fun _ h => repCells_mem h, oneL_sub hone fun _ h => repCells_mem h⟩

theorem bsl_sim (r : Rel P G ds ρ D n e a H w) {o : Oper} {t el : TypeId} {len : Nat} {parts : Array (Nat × Operand)} (ho : o.op = .buildSlice t len parts) (ht : P.underlying t = some (.slice el)) {i : TypeInfo} (hi : P.info? el = some i)
    {z : List AVal} (hz : zeroC P el = some z) (hzl : z.length = i.size) (hsmall : len * i.size ≤ 16777216)
    {l' : List (Nat × Nat × Opd)} {ps : List (Nat × Nat × AVal)} {cs : List AVal} (h1 : trParts P (fun j => some (j * i.size, i.size)) parts.toList = some l') (h2 : evalParts e l' = some ps) (h3 : fillA (repCells z len) ps = some cs) :
    Sim G lo ρ D H w ((execOp a.eval o).run P w) (some (.sl H.next 0 len (some len))) (H.push (.cells cs i.size false)) := by
  obtain ⟨i', v, hi', hzero, _, hcells, hid, hone⟩ := zeroC_run hz
  obtain rfl : i = i' := by rw [hi] at hi'; exact Option.some.inj hi'
  obtain ⟨hok0, hone0⟩ := repCells_ok (ρ := ρ) (D := D) z len hid hone
  obtain ⟨f1, f2, f3, f4⟩ := fill_sim r h1 h2 h3 hok0 hone0
  have hrun : (Instr.buildSlice t len (parts.map fun (x : Nat × Operand) => (x.1, a.eval x.2))).run P w = .ok (.slice (some ⟨w.heap.size, 0, none⟩) len len) { w with heap := w.heap.push (.cells (renL ρ cs).toArray el) } := by
    have hsm : ¬ len * i.size > 2 ^ 24 := by simp; omega
    by_cases h0 : len * i.size = 0
    · have hre : repCells z len = [] := List.eq_nil_of_length_eq_zero (by rw [repCells_length, hzl]; exact h0)
      rw [hre] at f1
      simp only [renL] at f1
      have hr0 : (Array.range 0).map (fun (_ : Nat) => (default : Value)) = #[] := by simp
      simp [Instr.buildSlice, run_underlying ht, sizeOf, typeInfo, hi, h0, newRow, hr0, f1]
    · have hfill : Instr.fill (fun j => some (j * i.size, i.size)) ((Array.range (len * i.size)).map (v.cells[· % v.cells.size]!)) (parts.map fun (x : Nat × Operand) => (x.1, a.eval x.2)).toList = some (renL ρ cs).toArray := by
        rw [zeros_eq ρ z i.size len hzl v.cells (hcells ρ), Array.toList_map]; exact f1
      exact run_buildSlice w t el len _ _ i v ht hi hzero hsm h0 hfill
  obtain ⟨g1, g2⟩ := push_sim (lo := lo) (esz := i.size) r.heap (w' := { w with heap := w.heap.push (.cells (renL ρ cs).toArray el) }) (c := cs) rfl rfl rfl rfl
    (by simp [renL_length]) (fun j u hu => by simp [renL_get, hu]) (fun o ho => by simp) f2 f3
  refine ⟨_, _, _, ?_, g1, g2, fun u hu => ?_⟩
  · simp [execOp, ho, hrun, ren, upd_same]
  · cases hu; simp [ok, ins]

theorem makeSlice_run {t el : TypeId} (ht : P.underlying t = some (.slice el)) {i : TypeInfo} (hi : P.info? el = some i)
    {z : List AVal} (hz : zeroC P el = some z) (hzl : z.length = i.size) {k k' : IntKind} {l c : Int} (h0 : 0 ≤ l) (hlc : l ≤ c) (hb : i.bytes * c ≤ 281474976710656) (hb0 : 0 < i.bytes) :
    (Instr.makeSlice t (.int k l) (.int k' c)).run P w = .ok (.slice (some ⟨w.heap.size, 0, none⟩) l.toNat c.toNat) { w with heap := w.heap.push (.cells (renL ρ (repCells z c.toNat)).toArray el) } := by
  obtain ⟨i', v, hi', hzero, hzrun, hcells, hid, hone⟩ := zeroC_run hz
  obtain rfl : i = i' := by rw [hi] at hi'; exact Option.some.inj hi'
  have hc : c ≤ 281474976710656 := by
    have h1 : (1 : Int) * c ≤ i.bytes * c := Int.mul_le_mul_of_nonneg_right (by omega) (by omega)
    omega
  have wl : IntKind.i64.wrap l = l := by rw [← wrapI_eq]; simp only [wrapI]; rw [if_pos (by omega)]
  have wc : IntKind.i64.wrap c = c := by rw [← wrapI_eq]; simp only [wrapI]; rw [if_pos (by omega)]
  have ht1 : (decide (c < 0) || decide ((i.bytes : Int) * c > 2 ^ 48)) = false := by
    simp only [Bool.or_eq_false_iff, decide_eq_false_iff_not]; omega
  have h2 : ((decide (c < 0) || decide ((i.bytes : Int) * c > 2 ^ 48)) || decide (l < 0) || decide (l > c)) = false := by rw [ht1]; simp; omega
  simp only [Instr.makeSlice, Sem.run_bind, run_underlying ht, Result.andThen_ok, asInt, asIntOf, Sem.run_pure, run_typeInfo' hi, wl, wc, h2, Bool.false_eq_true, if_false]
  simp only [run_askRoom, Result.andThen_ok, run_sizeOf' hi]
  by_cases hn : c.toNat * i.size = 0
  · have hre : repCells z c.toNat = [] := List.eq_nil_of_length_eq_zero (by rw [repCells_length, hzl]; exact hn)
    have hr0 : (Array.range 0).map (fun (_ : Nat) => (default : Value)) = #[] := by simp
    simp [hn, newRow, hre, renL, hr0]
  · have hze := zeros_eq ρ z i.size c.toNat hzl v.cells (hcells ρ)
    simp [hn, newRow, hzrun, hze]

theorem mksl_sim (r : Rel P G ds ρ D n e a H w) {o : Oper} {t el : TypeId} {x y : Operand} (ho : o.op = .makeSlice t x y) (ht : P.underlying t = some (.slice el)) {i : TypeInfo} (hi : P.info? el = some i)
    {z : List AVal} (hz : zeroC P el = some z) (hzl : z.length = i.size) {k k' : IntKind} {l c : Int} (hx : a.eval x = .int k l) (hy : a.eval y = .int k' c) (h0 : 0 ≤ l) (hlc : l ≤ c) (hb : i.bytes * c ≤ 281474976710656) (hb0 : 0 < i.bytes) :
    Sim G lo ρ D H w ((execOp a.eval o).run P w) (some (.sl H.next 0 l.toNat (some c.toNat))) (H.push (.cells (repCells z c.toNat) i.size false)) := by
  have hrun := makeSlice_run (P := P) (w := w) (ρ := ρ) (k := k) (k' := k') ht hi hz hzl h0 hlc hb hb0
  obtain ⟨i', v, hi', hzero, hzrun, hcells, hid, hone⟩ := zeroC_run hz
  obtain ⟨hok0, hone0⟩ := repCells_ok (ρ := ρ) (D := D) z c.toNat hid hone
  obtain ⟨g1, g2⟩ := push_sim (lo := lo) (esz := i.size) r.heap (w' := { w with heap := w.heap.push (.cells (renL ρ (repCells z c.toNat)).toArray el) }) (c := repCells z c.toNat) rfl rfl rfl rfl
    (by simp [renL_length]) (fun j u hu => by simp [renL_get, hu]) (fun o ho => by simp) hok0 hone0
  refine ⟨_, _, _, ?_, g1, g2, fun u hu => ?_⟩
  · simp [execOp, ho, hx, hy, hrun, ren, upd_same]
  · cases hu; simp [ok, ins]

def lenD : Nat → TypeDesc → Bool
  | 0, .slice _ => true
  | 1, .string => true
  | 2, .map _ _ => true
  | _, _ => false

theorem len_sim (r : Rel P G ds ρ D n e a H w) {o : Oper} {t : TypeId} {x : Operand} (ho : o.op = .call { callee := .builtin .len, args := #[x], argTypes := #[t] }) {d : TypeDesc} (ht : P.underlying t = some d)
    {u : AVal} {m k : Nat} (hx : a.eval x = ren ρ u) (hu : ok ρ D u) (hd : lenD k d = true) (hm : lenV H k u = some m) :
    Sim G lo ρ D H w ((execOp a.eval o).run P w) (some (.i .i64 m)) H := by
  refine sim_val r.heap ?_ (by simp [ok])
  have : (Builtin.len_ #[t] o.type #[ren ρ u]).run P w = .ok (.int .i64 m) w := by
    match k, d, hd with
    | 0, .slice _, _ =>
      cases u <;> simp only [lenV] at hm <;> (try (cases hm; done)) <;> (try (simp [ok] at hu; done)) <;> cases hm <;> simp [Builtin.len_, run_underlying ht, ren, goInt]
    | 1, .string, _ =>
      cases u <;> simp only [lenV] at hm <;> (try (cases hm; done)) <;> cases hm <;> simp [Builtin.len_, run_underlying ht, ren, goInt, bytes_size]
    | 2, .map _ _, _ =>
      cases u <;> simp only [lenV] at hm <;> try (cases hm; done)
      · cases hm; simp [Builtin.len_, run_underlying ht, ren, goInt]
      · rename_i id
        split at hm
        · rename_i es hg
          cases hm
          simp only [ok] at hu
          obtain ⟨⟨E, k, h1, _, _, h2⟩, _⟩ := r.heap.maps id es hu hg
          have hsz : E.size = es.length := by have := congrArg List.length h2; simpa using this
          have : (getObj (ρ id).blk).run P w = .ok (.map E k) w := by simp [getObj, Sem.run, h1]
          simp [Builtin.len_, run_underlying ht, ren, goInt, this, hsz]
        · cases hm
  simp [execOp, ho, resolve, hx, invoke, builtin, this, ren]

theorem mm_run (mx : Bool) : ∀ (l : List AVal) (x v : AVal), mmV mx x l = some v →
    ((renL ρ l).foldlM (if mx then Builtin.max2 else Builtin.min2) (ren ρ x)).run P w = .ok (ren ρ v) w ∧ (l ≠ [] → noId v = true) := by
  intro l
  induction l with
  | nil => intro x v h; simp only [mmV, Option.some.injEq] at h; subst h; exact ⟨by simp [renL], fun h => absurd rfl h⟩
  | cons y l ih =>
    intro x v h
    cases x <;> cases y <;> simp only [mmV] at h <;> try (cases h; done)
    rename_i k p k' q
    split at h
    · rename_i hk
      subst hk
      obtain ⟨h1, h2⟩ := ih _ _ h
      refine ⟨?_, fun _ => ?_⟩
      · cases mx
        · simp only [renL, List.foldlM_cons, Bool.false_eq_true, if_false, ren] at h1 ⊢
          simp only [Builtin.min2, decide_eq_true_eq] at h1 ⊢
          simpa using h1
        · simp only [renL, List.foldlM_cons, if_true, ren] at h1 ⊢
          simp only [Builtin.max2, decide_eq_true_eq] at h1 ⊢
          simpa using h1
      · by_cases hl : l = []
        · subst hl; simp only [mmV, Option.some.injEq] at h; subst h; rfl
        · exact h2 hl
    · cases h

theorem mm_sim (r : Rel P G ds ρ D n e a H w) {o : Oper} {mx : Bool} {x : Operand} {l : List Operand} {ts : Array TypeId} (ho : o.op = .call { callee := .builtin (if mx then .max else .min), args := (x :: l).toArray, argTypes := ts })
    {u v : AVal} {us : List AVal} (hx : a.eval x = ren ρ u) (hu : ok ρ D u) (hl : l.map a.eval = renL ρ us) (hus : okL ρ D us) (hv : mmV mx u us = some v) : Sim G lo ρ D H w ((execOp a.eval o).run P w) (some v) H := by
  obtain ⟨h1, h2⟩ := mm_run (P := P) (ρ := ρ) (w := w) mx us u v hv
  refine sim_val r.heap ?_ ?_
  · cases mx
    · simp only [Bool.false_eq_true, if_false] at h1 ho
      simp [execOp, ho, resolve, invoke, builtin, Builtin.min_, hx, hl, h1]
    · simp only [if_true] at h1 ho
      simp [execOp, ho, resolve, invoke, builtin, Builtin.max_, hx, hl, h1]
  · by_cases hn : us = []
    · subst hn; simp only [mmV, Option.some.injEq] at hv; subst hv; exact hu
    · exact noId_ok _ _ _ (h2 hn)

end
end Go.RI

/- RI, part K: slicing and append. Conditions: none. -/
namespace Go.RI
open Go
set_option linter.unusedSimpArgs false

/-- An index that may be left out: the machine's, and the interpreter's. -/
def OptRel (a : Act) (x : Option Operand) (l : Option Nat) : Prop := (x = none ∧ l = none) ∨ ∃ y k i, x = some y ∧ a.eval y = .int k i ∧ 0 ≤ i ∧ l = some i.toNat

theorem run_bound {P : Program} {w : World} {k : IntKind} {i : Int} {y : Nat} (h0 : 0 ≤ i) (hy : i.toNat ≤ y) (c : BoundsCode) : (Instr.sliceBound (.int k i) y c).run P w = .ok i.toNat w := by
  have : 0 ≤ i ∧ i ≤ y := ⟨h0, by omega⟩
  simp [Instr.sliceBound, asIntOf, this]

theorem run_bounds {P : Program} {w : World} {a : Act} {lo hi mx : Option Operand} {l h m : Option Nat} (hl : OptRel a lo l) (hh : OptRel a hi h) (hm : OptRel a mx m) (isS : Bool) {len cap : Nat}
    (h1 : m.getD cap ≤ cap) (h2 : h.getD len ≤ m.getD cap) (h3 : l.getD 0 ≤ h.getD len) (h4 : m.isSome = true → h.isSome = true) :
    (Instr.sliceBounds isS len cap (lo.map a.eval) (hi.map a.eval) (mx.map a.eval)).run P w = .ok (l.getD 0, h.getD len, m.getD cap) w := by
  rcases hm with ⟨rfl, rfl⟩ | ⟨ym, km, im, rfl, em, pm, rfl⟩
  · rcases hh with ⟨rfl, rfl⟩ | ⟨yh, kh, ih, rfl, eh, ph, rfl⟩
    · rcases hl with ⟨rfl, rfl⟩ | ⟨yl, kl, il, rfl, el, pl, rfl⟩
      · simp [Instr.sliceBounds]
      · simp only [Option.getD_some, Option.getD_none] at *
        simp [Instr.sliceBounds, el, run_bound pl h3]
    · rcases hl with ⟨rfl, rfl⟩ | ⟨yl, kl, il, rfl, el, pl, rfl⟩
      · simp only [Option.getD_some, Option.getD_none] at *
        simp [Instr.sliceBounds, eh, run_bound ph h2]
      · simp only [Option.getD_some, Option.getD_none] at *
        simp [Instr.sliceBounds, eh, el, run_bound ph h2, run_bound pl h3]
  · rcases hh with ⟨rfl, rfl⟩ | ⟨yh, kh, ih, rfl, eh, ph, rfl⟩
    · simp at h4
    · rcases hl with ⟨rfl, rfl⟩ | ⟨yl, kl, il, rfl, el, pl, rfl⟩
      · simp only [Option.getD_some, Option.getD_none] at *
        simp [Instr.sliceBounds, em, eh, run_bound pm h1, run_bound ph h2]
      · simp only [Option.getD_some, Option.getD_none] at *
        simp [Instr.sliceBounds, em, eh, el, run_bound pm h1, run_bound ph h2, run_bound pl h3]

section
variable {ds : List Deferred} {P : Program} {G : AHeap} {lo : Nat} {ρ : Ren} {D : Nat → Prop} {n : Nat} {e : Env} {a : Act} {H : AHeap} {w : World}

theorem opt_sim (r : Rel P G ds ρ D n e a H w) {x : Option Operand} {x' : Option Opd} {l : Option Nat} (hx : trOpt P x = some x') (hl : optI e x' = some l) : OptRel a x l := by
  cases x with
  | none =>
    simp only [trOpt, Option.some.injEq] at hx; subst hx
    simp only [optI, Option.some.injEq] at hl; subst hl
    exact .inl ⟨rfl, rfl⟩
  | some x =>
    simp only [trOpt, Option.map_eq_some_iff] at hx
    obtain ⟨y, hy, rfl⟩ := hx
    simp only [optI] at hl
    split at hl
    · rename_i k i hv
      split at hl
      · rename_i h0
        cases hl
        obtain ⟨h1, _⟩ := opd_sim r hy hv
        exact .inr ⟨x, k, i, rfl, by rw [h1]; rfl, h0, rfl⟩
      · cases hl
    · cases hl

theorem slS_sim (r : Rel P G ds ρ D n e a H w) {o : Oper} {t : TypeId} {x : Operand} {lo' hi : Option Operand} (ho : o.op = .slice t x lo' hi none) (ht : P.underlying t = some .string) {v : List UInt8} {l h : Option Nat} {z : AVal}
    (hx : a.eval x = ren ρ (.s v)) (hl : OptRel a lo' l) (hh : OptRel a hi h) (hz : slSV v l h = some z) : Sim G lo ρ D H w ((execOp a.eval o).run P w) (some z) H := by
  simp only [slSV] at hz
  split at hz
  · rename_i hc
    cases hz
    refine sim_val r.heap ?_ (by simp [ok])
    have hb := run_bounds (P := P) (w := w) hl hh (.inl ⟨rfl, rfl⟩ : OptRel a none none) false (len := v.length) (cap := v.length) (by simp) (by simpa using hc.1) hc.2 (by simp)
    simp only [Option.map_none] at hb
    have hext : (ByteArray.mk v.toArray).extract (l.getD 0) (h.getD v.length) = ByteArray.mk ((v.take (h.getD v.length)).drop (l.getD 0)).toArray := by
      apply ByteArray.ext
      simp [ByteArray.data_extract, List.drop_take]
    simp [execOp, ho, Instr.sliceAt, run_underlying ht, Instr.slice, hx, ren, bytes_size, hb, hext]
  · cases hz

theorem sl_run {t el : TypeId} {i : TypeInfo} (ht : P.underlying t = some (.slice el)) (hi : P.info? el = some i) {ad : Option Addr} {len cap : Nat} {lo' hi' mx : Option Operand} {l h m : Option Nat}
    (hl : OptRel a lo' l) (hh : OptRel a hi' h) (hm : OptRel a mx m) (h1 : m.getD cap ≤ cap) (h2 : h.getD len ≤ m.getD cap) (h3 : l.getD 0 ≤ h.getD len) (h4 : m.isSome = true → h.isSome = true) :
    (Instr.sliceAt t (.slice ad len cap) (lo'.map a.eval) (hi'.map a.eval) (mx.map a.eval)).run P w = .ok (.slice (if m.getD cap = l.getD 0 then ad else ad.map (·.add (l.getD 0 * i.size))) (h.getD len - l.getD 0) (m.getD cap - l.getD 0)) w := by
  have hb := run_bounds (P := P) (w := w) hl hh hm true (len := len) (cap := cap) h1 h2 h3 h4
  simp [Instr.sliceAt, run_underlying ht, Instr.slice, hb, run_sizeOf' hi]

theorem sl_sim (r : Rel P G ds ρ D n e a H w) {o : Oper} {t el : TypeId} {x : Operand} {lo' hi' mx : Option Operand} (ho : o.op = .slice t x lo' hi' mx) {i : TypeInfo} (ht : P.underlying t = some (.slice el)) (hi : P.info? el = some i)
    {u v : AVal} {l h m : Option Nat} {H' : AHeap} (hx : a.eval x = ren ρ u) (hu : ok ρ D u) (hl : OptRel a lo' l) (hh : OptRel a hi' h) (hm : OptRel a mx m) (hs : slV i.size H u l h m = some (v, H')) :
    Sim G lo ρ D H w ((execOp a.eval o).run P w) (some v) H' := by
  have hexec : ∀ (V : Value) (w' : World), (Instr.sliceAt t (ren ρ u) (lo'.map a.eval) (hi'.map a.eval) (mx.map a.eval)).run P w = .ok V w' → (execOp a.eval o).run P w = .ok (.value V) w' := by
    intro V w' h; simp [execOp, ho, hx, h]
  cases u <;> simp only [slV] at hs <;> (try (cases hs; done)) <;> (try (simp [ok] at hu; done))
  case ns =>
    split at hs
    · rename_i hc
      obtain ⟨c1, c2, c3, c4⟩ := hc
      cases hs
      refine sim_val r.heap (hexec _ _ ?_) (by simp [ok])
      have := sl_run (P := P) (w := w) ht hi (ad := none) (len := 0) (cap := 0) hl hh hm (by omega) (by omega) (by omega) c4
      simp only [ren, this, c1, c2, c3]
      simp
    · cases hs
  case es ad =>
    split at hs
    · rename_i hc
      obtain ⟨c1, c2, c3, c4⟩ := hc
      cases hs
      refine sim_val r.heap (hexec _ _ ?_) (by simp [ok])
      have := sl_run (P := P) (w := w) ht hi (ad := some ad) (len := 0) (cap := 0) hl hh hm (by omega) (by omega) (by omega) c4
      simp only [ren, this, c1, c2, c3]
      simp
    · cases hs
  case sl id off len cap =>
    simp only [ok] at hu
    cases cap with
    | some c =>
      simp only at hs
      split at hs
      · rename_i hc
        obtain ⟨c1, c2, c3, c4⟩ := hc
        cases hs
        refine sim_val r.heap (hexec _ _ ?_) (by simp [ok, hu.1])
        have := sl_run (P := P) (w := w) ht hi (ad := some ⟨(ρ id).blk, (ρ id).base + off, none⟩) (len := len) (cap := c) hl hh hm c1 c2 c3 c4
        simp only [ren, Option.getD_some, this]
        by_cases hml : m.getD c = l.getD 0
        · simp [hml]
        · simp [hml, addr_add, Nat.add_assoc]
      · cases hs
    | none =>
      have hcap := hu.2 rfl
      cases m with
      | some m' =>
        simp only at hs
        split at hs
        · rename_i hc
          obtain ⟨c1, c2, c3, c4⟩ := hc
          cases hs
          refine sim_val r.heap (hexec _ _ ?_) (by simp [ok, hu.1])
          have := sl_run (P := P) (w := w) ht hi (ad := some ⟨(ρ id).blk, (ρ id).base + off, none⟩) (len := len) (cap := ((ρ id).ext - off) / (ρ id).esz) hl hh hm (by simp; omega) (by simpa using c2) c3 (fun _ => c4)
          simp only [ren, Option.getD_some, Option.getD_none, this]
          by_cases hml : m' = l.getD 0
          · simp [hml]
          · simp [hml, addr_add, Nat.add_assoc]
        · cases hs
      | none =>
        simp only at hs
        split at hs
        · rename_i hc
          obtain ⟨c1, c2⟩ := hc
          have hrun := sl_run (P := P) (w := w) ht hi (ad := some ⟨(ρ id).blk, (ρ id).base + off, none⟩) (len := len) (cap := ((ρ id).ext - off) / (ρ id).esz) hl hh hm (by simp) (by simp; omega) c2 (by simp)
          simp only [Option.getD_none] at hrun
          split at hs
          · rename_i hl0
            cases hs
            refine sim_val r.heap (hexec _ _ ?_) (by simp only [ok]; exact ⟨hu.1, fun _ => by omega⟩)
            simp only [ren, Option.getD_none, hrun, hl0]
            simp [addr_add]
          · rename_i hl0
            split at hs
            · rename_i hlt
              split at hs
              · rename_i cs esz' ro hg
                split at hs
                · rename_i he
                  subst he
                  cases hs
                  have hesz := (r.heap.cells id cs i.size ro hu.1 hg).esz_eq
                  have hmul : i.size * (l.getD 0) ≤ (ρ id).ext - off := by
                    have h1 : l.getD 0 ≤ ((ρ id).ext - off) / (ρ id).esz := by omega
                    rw [hesz] at h1
                    calc i.size * l.getD 0 ≤ i.size * (((ρ id).ext - off) / i.size) := Nat.mul_le_mul_left _ h1
                      _ ≤ (ρ id).ext - off := Nat.mul_div_le _ _
                  have hdiv : ((ρ id).ext - (off + l.getD 0 * i.size)) / i.size = ((ρ id).ext - off) / i.size - l.getD 0 := by
                    rw [← Nat.sub_mul_div _ _ _ , Nat.sub_sub, Nat.mul_comm]
                  refine sim_val r.heap (hexec _ _ ?_) (by simp only [ok]; exact ⟨hu.1, fun _ => by rw [hesz] at hcap ⊢; rw [hdiv]; omega⟩)
                  have hne : ¬ ((ρ id).ext - off) / (ρ id).esz = l.getD 0 := by omega
                  simp only [ren, Option.getD_none, hrun, hne, if_false]
                  rw [hesz, hdiv]
                  simp [addr_add, Nat.add_assoc]
                · cases hs
              · cases hs
            · rename_i hlt
              cases hs
              have hz : h.getD len - l.getD 0 = 0 := by omega
              obtain ⟨g1, g2⟩ := alias_sim (lo := lo) (w := w) r.heap
                ⟨(ρ id).blk, if ((ρ id).ext - off) / (ρ id).esz = l.getD 0 then (ρ id).base + off else (ρ id).base + off + l.getD 0 * i.size, ((ρ id).ext - off) / (ρ id).esz - l.getD 0, 1⟩
              refine ⟨_, _, w, hexec _ _ ?_, g1, g2, fun u hu' => ?_⟩
              · simp only [ren, Option.getD_none, hrun, upd_same, hz]
                split <;> simp [addr_add, Nat.add_assoc]
              · cases hu'; simp [ok, ins]
        · cases hs

/-! ### append -/
theorem more_sim (r : Rel P G ds ρ D n e a H w) {y : AVal} {esz k : Nat} {ys : List AVal} (hy : ok ρ D y) (h : moreV H esz y = some (k, ys)) :
    (Builtin.lenOf (ren ρ y)).run P w = .ok k w ∧ (∀ w', w'.heap = w.heap → (Builtin.firstCells esz k (ren ρ y)).run P w' = .ok (renL ρ ys).toArray w') ∧ okL ρ D ys ∧ oneL ys = true := by
  cases y <;> simp only [moreV] at h <;> (try (cases h; done)) <;> (try (simp [ok] at hy; done))
  case s v =>
    cases h
    refine ⟨by simp [ren, Builtin.lenOf, bytes_size], fun w' _ => ?_, okL_iff.2 (by simp [ok]), oneL_iff.2 (by simp [one])⟩
    have : (ByteArray.mk v.toArray).extract 0 v.length = ByteArray.mk v.toArray := by
      apply ByteArray.ext; simp [ByteArray.data_extract]
    simp [ren, Builtin.firstCells, this, renL_map, Function.comp_def]
  case ns =>
    cases h
    exact ⟨by simp [ren, Builtin.lenOf], fun w' _ => by simp [ren, Builtin.firstCells, renL], by simp [okL], rfl⟩
  case es ad =>
    cases h
    exact ⟨by simp [ren, Builtin.lenOf], fun w' _ => by simp [ren, Builtin.firstCells, renL, loadCells, loadCellsFrom], by simp [okL], rfl⟩
  case sl id off len cap =>
    simp only [ok] at hy
    split at h
    · rename_i h0
      cases h
      exact ⟨by simp [ren, Builtin.lenOf, h0], fun w' _ => by simp [ren, Builtin.firstCells, renL, loadCells, loadCellsFrom], by simp [okL], rfl⟩
    · rw [Option.map_eq_some_iff] at h
      obtain ⟨l, hl, he⟩ := h
      cases he
      obtain ⟨h1, h2, h3, _⟩ := rowAt_sim (P := P) r.heap hy.1 hl
      refine ⟨by simp [ren, Builtin.lenOf], fun w' hw' => ?_, h2, h3⟩
      obtain ⟨_, _, _, h4⟩ := rowAt_sim (P := P) (r.heap.heap_eq (w' := w') fun k _ => by rw [hw']) hy.1 hl
      simp [ren, Builtin.firstCells, h4]

theorem growBy_le (m : Nat) : ∀ (r c : Nat), c ≤ 2 * m + 192 → Builtin.growBy m r c ≤ 2 * m + 192 := by
  intro r
  induction r with
  | zero => intro c h; exact h
  | succ r ih =>
    intro c h
    simp only [Builtin.growBy]
    split
    · exact h
    · exact ih _ (by omega)

theorem nextcap_le {m c : Nat} (h : c < m) : Builtin.nextslicecap m c ≤ 2 * m + 192 := by
  unfold Builtin.nextslicecap
  split
  · omega
  · split
    · omega
    · exact growBy_le m 4 c (by omega)

theorem kill_sim {G : AHeap} {lo : Nat} {ρ : Ren} {D : Nat → Prop} {H : AHeap} {w : World} (h : HRel G ρ D H w) (hlo : G.next ≤ lo) {id : Nat} (hd : D id) (hid : lo ≤ id) :
    Step lo ρ D H w ρ D (H.put id none) w ∧ HRel G ρ D (H.put id none) w := by
  have hgo : ∀ j, j ≠ id → (H.put id none).get j = H.get j := fun j hj => by rw [AHeap.get_put, if_neg hj]
  have hgi : (H.put id none).get id = none := by rw [AHeap.get_put, if_pos rfl]
  have hsub : ∀ j o, (H.put id none).get j = some o → j ≠ id ∧ H.get j = some o := fun j o hj => by
    by_cases e : j = id
    · subst e; rw [hgi] at hj; cases hj
    · exact ⟨e, by rw [← hgo j e]; exact hj⟩
  constructor
  · exact {
      old := fun _ h => ⟨h, rfl⟩
      new := fun _ h _ => h
      ghost := fun j _ hnd => hgo j (fun e => hnd (e ▸ hd))
      low := fun j hj _ => hgo j (by omega)
      next := Nat.le_refl _
      wr := fun j o' _ _ hj hw => ⟨o', (hsub j o' hj).2, hw⟩
      fresh := fun j _ hdj hn _ _ => by have := h.lt j hdj; omega
      os := rfl
      tape := rfl
      output := rfl
      froz := fun _ _ => rfl
      size := Nat.le_refl _
      frame := fun _ _ _ => rfl }
  · exact {
      lt := h.lt
      cells := fun j c esz ro hdj hj => h.cells j c esz ro hdj (hsub j _ hj).2
      maps := fun j es hdj hj => h.maps j es hdj (hsub j _ hj).2
      apart := fun i j o o' hdi hdj hne hi hj hwr => h.apart i j o o' hdi hdj hne (hsub i o hi).2 (hsub j o' hj).2 hwr
      glob := fun g hg => by
        obtain ⟨h1, h2, h3, h4⟩ := h.glob g hg
        exact ⟨h1, h2, h3, (hgo g (by omega)).trans h4⟩
      gnext := h.gnext
      wf := fun j hj => by rw [AHeap.next_put] at hj; have := h.lt id hd; rw [hgo j (by omega)]; exact h.wf j hj }

end
end Go.RI

/- RI, part L: append. Conditions: none. -/
namespace Go.RI
open Go
set_option linter.unusedSimpArgs false
set_option linter.unusedVariables false
set_option linter.unusedSectionVars false

section
variable {ds : List Deferred} {P : Program} {G : AHeap} {lo : Nat} {ρ : Ren} {D : Nat → Prop} {n : Nat} {e : Env} {a : Act} {H : AHeap} {w : World}

/-- The machine's append, in place. -/
theorem run_append_in {t t2 el ty : TypeId} {d2 : TypeDesc} {i : TypeInfo} (ht : P.underlying t = some (.slice el)) (ht2 : P.underlying t2 = some d2) (hd2 : d2 = .string ∨ ∃ el2, d2 = .slice el2) (hi : P.info? el = some i)
    {base : Option Addr} {len cap k : Nat} {y : Value} {cells : Array Value} (hlen : (Builtin.lenOf y).run P w = .ok k w) (hfirst : (Builtin.firstCells i.size k y).run P w = .ok cells w) (hfit : len + k ≤ cap)
    {w' : World} (hst : ∀ b, base = some b → (storeCells (b.add (len * i.size)) cells.toList).run P w = .ok () w') (hnone : base = none → w' = w) :
    (Builtin.append_ #[t, t2] ty #[.slice base len cap, y]).run P w = .ok (.slice base (len + k) cap) w' := by
  cases base with
  | none =>
    cases hnone rfl
    rcases hd2 with rfl | ⟨el2, rfl⟩ <;> simp [Builtin.append_, run_underlying ht, run_underlying ht2, run_sizeOf' hi, hlen, hfit, hfirst]
  | some b =>
    rcases hd2 with rfl | ⟨el2, rfl⟩ <;> simp [Builtin.append_, run_underlying ht, run_underlying ht2, run_sizeOf' hi, hlen, hfit, hfirst, hst b rfl]

/-- The machine's append into a new row. -/
theorem run_append_new {t t2 el ty : TypeId} {d2 : TypeDesc} {i : TypeInfo} (ht : P.underlying t = some (.slice el)) (ht2 : P.underlying t2 = some d2) (hd2 : d2 = .string ∨ ∃ el2, d2 = .slice el2) (hi : P.info? el = some i)
    {zv : Value} (hzv : i.zero = some zv) {base : Option Addr} {len cap k : Nat} {y : Value} {cells old : Array Value} (hlen : (Builtin.lenOf y).run P w = .ok k w) (hfirst : ∀ w', w'.heap = w.heap → (Builtin.firstCells i.size k y).run P w' = .ok cells w')
    (hold : ∀ w', w'.heap = w.heap → (Builtin.firstCells i.size len (.slice base len cap)).run P w' = .ok old w') (hfit : cap < len + k) (hb0 : 0 < i.bytes) (hb : (2 * (len + k) + 192) * i.bytes ≤ 281474976710656) :
    ∃ newCap, len + k ≤ newCap ∧ (Builtin.append_ #[t, t2] ty #[.slice base len cap, y]).run P w = .ok (.slice (some ⟨w.heap.size, 0, none⟩) (len + k) newCap)
      { w with heap := w.heap.push (.cells (old ++ cells ++ Builtin.zeroCells zv.cells (newCap - (len + k))) el), drawn := w.drawn + 1 } := by
  refine ⟨(Question.appendCap (len + k) cap el).cut (w.tape w.drawn (.appendCap (len + k) cap el)), by simp [Question.cut], ?_⟩
  have h1 : ¬ len + k ≤ cap := by omega
  have h2 : ¬ i.bytes = 0 := by omega
  have h3 : ¬ Builtin.nextslicecap (len + k) cap * i.bytes > 2 ^ 48 := by
    have := nextcap_le hfit
    have h4 : Builtin.nextslicecap (len + k) cap * i.bytes ≤ (2 * (len + k) + 192) * i.bytes := Nat.mul_le_mul_right _ this
    simp; omega
  have e1 := hold { w with drawn := w.drawn + 1 } rfl
  have e2 := hfirst { w with drawn := w.drawn + 1 } rfl
  rcases hd2 with rfl | ⟨el2, rfl⟩ <;>
      (simp only [Builtin.append_, List.getElem?_toArray, List.getElem?_cons_zero, List.getElem?_cons_succ, Sem.run_bind, run_underlying ht, run_underlying ht2, Result.andThen_ok, Sem.run_pure, run_sizeOf' hi, hlen, Bool.false_eq_true, if_false, h1, run_typeInfo' hi, h2, false_or, and_false, h3, run_choose, Question.forced, run_askRoom, Bool.not_false, if_true, zeroValue, hzv, newRow, run_newObj]
       rw [e1]
       simp only [Result.andThen_ok]
       rw [e2]
       simp only [Result.andThen_ok])

/-- append, whatever is appended. -/
theorem app_core (r : Rel P G ds ρ D n e a H w) (hlo : G.next ≤ lo) {o : Oper} {t t2 el : TypeId} {i : TypeInfo} {zv : Value} {z : List AVal} (hzcells : ∀ ρ, zv.cells = (renL ρ z).toArray) (hzl : z.length = i.size)
    {u res : AVal} {Y : Value} {k : Nat} {ys : List AVal} {H' : AHeap} (hu : ok ρ D u)
    (hexec : ∀ (V : Value) (w' : World), (Builtin.append_ #[t, t2] o.type #[ren ρ u, Y]).run P w = .ok V w' → (execOp a.eval o).run P w = .ok (.value V) w')
    (hin : ∀ (base : Option Addr) (len cap : Nat) (w' : World), len + k ≤ cap → (∀ b, base = some b → (storeCells (b.add (len * i.size)) (renL ρ ys)).run P w = .ok () w') → (base = none → w' = w) →
      (Builtin.append_ #[t, t2] o.type #[.slice base len cap, Y]).run P w = .ok (.slice base (len + k) cap) w')
    (hnew : ∀ (base : Option Addr) (len cap : Nat) (old : Array Value), (∀ w', w'.heap = w.heap → (Builtin.firstCells i.size len (.slice base len cap)).run P w' = .ok old w') → cap < len + k → (2 * (len + k) + 192) * i.bytes ≤ 281474976710656 →
      ∃ newCap, len + k ≤ newCap ∧ (Builtin.append_ #[t, t2] o.type #[.slice base len cap, Y]).run P w = .ok (.slice (some ⟨w.heap.size, 0, none⟩) (len + k) newCap)
        { w with heap := w.heap.push (.cells (old ++ (renL ρ ys).toArray ++ Builtin.zeroCells zv.cells (newCap - (len + k))) el), drawn := w.drawn + 1 })
    (hylen : ys.length = k * i.size) (hesz : 0 < i.size) (hyok : okL ρ D ys) (hyone : oneL ys = true)
    (hs : appB lo H i.size i.bytes k ys u = some (res, H')) :
    Sim G lo ρ D H w ((execOp a.eval o).run P w) (some res) H' := by
  -- into a new row: what stands in it
  have newrow : ∀ (xs : List AVal) (base : Option Addr) (len cap : Nat) (H0 : AHeap), ren ρ u = .slice base len cap → xs.length = len * i.size → okL ρ D xs → oneL xs = true → cap < len + k → (2 * (len + k) + 192) * i.bytes ≤ 281474976710656 →
      (∀ w', w'.heap = w.heap → (Builtin.firstCells i.size len (.slice base len cap)).run P w' = .ok (renL ρ xs).toArray w') → Step lo ρ D H w ρ D H0 w → HRel G ρ D H0 w → H0.next = H.next →
      Sim G lo ρ D H w ((execOp a.eval o).run P w) (some (.sl H.next 0 (len + k) none)) (H0.push (.cells (xs ++ ys) i.size false)) := by
    intro xs base len cap H0 hren hxl hxok hxone hfit hb hold hstep hrel hnext
    obtain ⟨nc, hnc, hrun⟩ := hnew base len cap _ hold hfit hb
    have hzs : zv.cells.size = i.size := by rw [hzcells ρ]; simp [renL_length, hzl]
    have hsz : ((renL ρ xs).toArray ++ (renL ρ ys).toArray ++ Builtin.zeroCells zv.cells (nc - (len + k))).size = nc * i.size := by
      simp [Builtin.zeroCells, renL_length, hxl, hylen, hzs, ← Nat.add_mul]
      congr 1; omega
    have hall : xs.length + ys.length ≤ nc * i.size := by
      rw [hxl, hylen, ← Nat.add_mul]; exact Nat.mul_le_mul_right _ hnc
    obtain ⟨g1, g2⟩ := push_sim (lo := lo) (esz := i.size) hrel
      (w' := { w with heap := w.heap.push (.cells ((renL ρ xs).toArray ++ (renL ρ ys).toArray ++ Builtin.zeroCells zv.cells (nc - (len + k))) el), drawn := w.drawn + 1 }) (c := xs ++ ys) rfl rfl rfl rfl
      (by rw [hsz]; simpa using hall) (fun j u hu => by
        have hj : j < (xs ++ ys).length := by
          rcases Nat.lt_or_ge j (xs ++ ys).length with h | h
          · exact h
          · rw [List.getElem?_eq_none h] at hu; cases hu
        rw [Array.getElem?_append_left (by simpa [renL_length] using hj)]
        have : (renL ρ xs).toArray ++ (renL ρ ys).toArray = (renL ρ (xs ++ ys)).toArray := by simp [renL_map]
        rw [this]; simp [renL_get, hu]) (fun o ho => by simp) (okL_append hxok hyok) (oneL_append hxone hyone)
    rw [hnext] at g1 g2
    refine ⟨_, _, _, ?_, hstep.trans g1, g2, fun u hu => ?_⟩
    · rw [hexec _ _ (by rw [hren]; exact hrun)]
      simp only [ren, upd_same, Option.getD_none, hsz]
      simp [Nat.mul_div_cancel _ hesz]
    · cases hu
      simp only [ok, ins, upd_same, hsz]
      refine ⟨.inl trivial, fun _ => ?_⟩
      simp [Nat.mul_div_cancel _ hesz, hnc]
  cases u <;> simp only [appB] at hs <;> (try (cases hs; done)) <;> (try (simp [ok] at hu; done))
  case ns =>
    split at hs
    · rename_i hk0
      cases hs
      subst hk0
      refine sim_val r.heap (hexec _ _ ?_) (by simp [ok])
      exact hin none 0 0 w (Nat.le_refl _) (fun b h => by cases h) (fun _ => rfl)
    · rename_i hk0
      split at hs
      · rename_i hb
        cases hs
        have := newrow [] none 0 0 H rfl (by simp) (by simp [okL]) rfl (by omega) (by simpa using hb) (fun w' _ => by simp [Builtin.firstCells, renL]) (Step.refl lo ρ D H w r.heap.lt) r.heap rfl
        simpa using this
      · cases hs
  case es ad =>
    split at hs
    · rename_i hk0
      cases hs
      subst hk0
      have hys : ys = [] := List.eq_nil_of_length_eq_zero (by rw [hylen]; simp)
      subst hys
      refine sim_val r.heap (hexec _ _ ?_) (by simp [ok])
      exact hin (some ad) 0 0 w (Nat.le_refl _) (fun b _ => by simp [storeCells, renL]) (fun h => by cases h)
    · rename_i hk0
      split at hs
      · rename_i hb
        cases hs
        have := newrow [] (some ad) 0 0 H rfl (by simp) (by simp [okL]) rfl (by omega) (by simpa using hb) (fun w' _ => by simp [Builtin.firstCells, renL, loadCells, loadCellsFrom]) (Step.refl lo ρ D H w r.heap.lt) r.heap rfl
        simpa using this
      · cases hs
  case sl id off len cap =>
    simp only [ok] at hu
    split at hs
    · rename_i hk0
      subst hk0
      have hys : ys = [] := List.eq_nil_of_length_eq_zero (by rw [hylen]; simp)
      subst hys
      have fin : ∀ c, len ≤ c → (Builtin.append_ #[t, t2] o.type #[.slice (some ⟨(ρ id).blk, (ρ id).base + off, none⟩) len c, Y]).run P w = .ok (.slice (some ⟨(ρ id).blk, (ρ id).base + off, none⟩) len c) w := fun c hc =>
        hin _ _ _ _ hc (fun b _ => by simp [storeCells, renL]) (fun h => by cases h)
      cases cap with
      | some c =>
        simp only at hs
        split at hs
        · rename_i hc
          cases hs
          exact sim_val r.heap (hexec _ _ (by simp only [ren, Option.getD_some]; exact fin c hc)) (by simp [ok, hu.1])
        · cases hs
      | none =>
        cases hs
        exact sim_val r.heap (hexec _ _ (by simp only [ren, Option.getD_none]; exact fin _ (hu.2 rfl))) (by simp only [ok]; exact ⟨hu.1, fun _ => hu.2 rfl⟩)
    · rename_i hk0
      cases cap with
      | some c =>
        simp only at hs
        split at hs
        · rename_i hfit
          split at hs
          · rename_i hid
            split at hs
            · rename_i cs esz' ro hg
              split at hs
              · rename_i hc2
                obtain ⟨rfl, hle⟩ := hc2
                cases hs
                have hcc := r.heap.cells id cs esz' false hu.1 hg
                obtain ⟨C, e', fz, hb, hsz, hget, hfz⟩ := hcc.at_
                have hl2 := hcc.len
                have hle2 : off + len * i.size + ys.length ≤ cs.length := by rw [hylen, Nat.add_assoc, ← Nat.add_mul]; exact hle
                obtain ⟨w', hrun, hb', hoth, hsize, hos, htp, hout⟩ := run_storeCells (P := P) (off := (ρ id).base + off + len * i.size) (e := e') (fz := fz) (renL ρ ys) 0 w C hb
                  (oneCell_renL ρ hyone) (by rw [renL_length]; omega) (fun o h1 h2 => hfz rfl o (by omega) (by rw [renL_length] at h2; omega))
                obtain ⟨g1, g2⟩ := store_sim (lo := lo) (off := off + len * i.size) r.heap hlo hu.1 hg hid hle2 hyok hyone hb (by simpa [Nat.add_assoc] using hb') hoth hsize hos htp hout
                refine ⟨ρ, D, w', hexec _ _ ?_, g1, g2, fun u hu' => by cases hu'; simp [ok, hu.1]⟩
                simp only [ren, Option.getD_some]
                exact hin _ _ _ _ hfit (fun b hbb => by cases hbb; rw [addr_add]; exact hrun) (fun h => by cases h)
              · cases hs
            · cases hs
          · cases hs
        · rename_i hfit
          split at hs
          · rename_i hb
            split at hs
            · rename_i hl0
              cases hs
              subst hl0
              have := newrow [] (some ⟨(ρ id).blk, (ρ id).base + off, none⟩) 0 c H (by simp [ren]) (by simp) (by simp [okL]) rfl (by omega) hb (fun w' _ => by simp [Builtin.firstCells, renL, loadCells, loadCellsFrom]) (Step.refl lo ρ D H w r.heap.lt) r.heap rfl
              simpa using this
            · split at hs
              · rename_i xs hxs
                cases hs
                obtain ⟨h1, h2, h3, _⟩ := rowAt_sim (P := P) r.heap hu.1 hxs
                exact newrow xs (some ⟨(ρ id).blk, (ρ id).base + off, none⟩) len c H (by simp [ren]) h1 h2 h3 (by omega) hb (fun w' hw' => by
                  obtain ⟨_, _, _, h4⟩ := rowAt_sim (P := P) (r.heap.heap_eq (w' := w') fun k _ => by rw [hw']) hu.1 hxs
                  simp [Builtin.firstCells, h4]) (Step.refl lo ρ D H w r.heap.lt) r.heap rfl
              · cases hs
          · cases hs
      | none =>
        simp only at hs
        split at hs
        · rename_i hcc0
          obtain ⟨hid, hb⟩ := hcc0
          split at hs
          · rename_i cs esz' ro hg
            split at hs
            · rename_i hc2
              obtain ⟨rfl, rfl, hle⟩ := hc2
              cases hs
              have hcc := r.heap.cells id cs i.size false hu.1 hg
              obtain ⟨C, e', fz, hb1, hsz, hget, hfz⟩ := hcc.at_
              have hl2 := hcc.len
              have hcap := hu.2 rfl
              rw [hcc.esz_eq] at hcap
              have hxs : rowAt H id off (len * i.size) = some ((cs.drop off).take (len * i.size)) := by simp [rowAt, hg, hle]
              obtain ⟨h1, h2, h3, _⟩ := rowAt_sim (P := P) r.heap hu.1 hxs
              by_cases hfit : len + k ≤ ((ρ id).ext - off) / i.size
              · -- in place
                have hroom : off + len * i.size + ys.length ≤ (ρ id).ext := by
                  have h5 : (len + k) * i.size ≤ (ρ id).ext - off := by
                    calc (len + k) * i.size ≤ (((ρ id).ext - off) / i.size) * i.size := Nat.mul_le_mul_right _ hfit
                      _ ≤ (ρ id).ext - off := Nat.div_mul_le_self _ _
                  rw [Nat.add_mul, ← hylen] at h5
                  have h6 : 0 < ys.length := by rw [hylen]; exact Nat.mul_pos (by omega) hesz
                  omega
                obtain ⟨w', hrun, hb', hoth, hsize, hos, htp, hout⟩ := run_storeCells (P := P) (off := (ρ id).base + off + len * i.size) (e := e') (fz := fz) (renL ρ ys) 0 w C hb1
                  (oneCell_renL ρ hyone) (by rw [renL_length]; omega) (fun o h1 h2 => hfz rfl o (by omega) (by rw [renL_length] at h2; omega))
                obtain ⟨g1, g2⟩ := rename_sim (lo := lo) (off := off) (n := len * i.size) r.heap hlo hu.1 hg hid hle hroom hyok hyone hb1 (by simpa [Nat.add_assoc] using hb') hoth hsize hos htp hout
                refine ⟨_, _, w', hexec _ _ ?_, g1, g2, fun u hu' => ?_⟩
                · simp only [ren, Option.getD_none, upd_same]
                  rw [hcc.esz_eq]
                  exact hin _ _ _ _ hfit (fun b hbb => by cases hbb; rw [addr_add]; exact hrun) (fun h => by cases h)
                · cases hu'
                  simp only [ok, ins, upd_same]
                  exact ⟨.inl trivial, fun _ => by simpa using hfit⟩
              · obtain ⟨s1, s2⟩ := kill_sim (lo := lo) r.heap hlo hu.1 hid
                exact newrow _ (some ⟨(ρ id).blk, (ρ id).base + off, none⟩) len (((ρ id).ext - off) / (ρ id).esz) (H.put id none) (by simp [ren]) h1 h2 h3 (by rw [hcc.esz_eq]; omega) hb (fun w' hw' => by
                  obtain ⟨_, _, _, h4⟩ := rowAt_sim (P := P) (r.heap.heap_eq (w' := w') fun k _ => by rw [hw']) hu.1 hxs
                  simp [Builtin.firstCells, h4]) s1 s2 rfl
            · cases hs
          · cases hs
        · cases hs


theorem app_sim (r : Rel P G ds ρ D n e a H w) (hlo : G.next ≤ lo) {o : Oper} {t t2 el : TypeId} {x y : Operand} (ho : o.op = .call { callee := .builtin .append, args := #[x, y], argTypes := #[t, t2] }) {d2 : TypeDesc} {i : TypeInfo}
    (ht : P.underlying t = some (.slice el)) (ht2 : P.underlying t2 = some d2) (hd2 : d2 = .string ∨ ∃ el2, d2 = .slice el2) (hi : P.info? el = some i) {z : List AVal} (hz : zeroC P el = some z) (hzl : z.length = i.size)
    {u v res : AVal} {H' : AHeap} (hx : a.eval x = ren ρ u) (hu : ok ρ D u) (hy : a.eval y = ren ρ v) (hv : ok ρ D v) (hs : appV lo H i.size i.bytes u v = some (res, H')) :
    Sim G lo ρ D H w ((execOp a.eval o).run P w) (some res) H' := by
  obtain ⟨i', zv, hi', hzero, _, hzcells, _, _⟩ := zeroC_run hz
  obtain rfl : i = i' := by rw [hi] at hi'; exact Option.some.inj hi'
  have hs0 := hs
  unfold appV at hs
  split at hs
  · cases hs
  rename_i k ys hmore
  split at hs
  case isFalse => cases hs
  rename_i hcond
  rw [appV_eq hmore hcond] at hs0
  obtain ⟨hylen, hesz, hbytes⟩ := hcond
  obtain ⟨hlen, hfirst, hyok, hyone⟩ := more_sim r hv hmore
  refine app_core r hlo (t := t) (t2 := t2) (el := el) (Y := ren ρ v) hzcells hzl hu ?_ ?_ ?_ hylen hesz hyok hyone hs0
  · intro V w' h; simp [execOp, ho, resolve, hx, hy, invoke, builtin, h]
  · intro base len cap w' hfit h1 h2
    exact run_append_in (P := P) (w := w) (ty := o.type) ht ht2 hd2 hi hlen (hfirst w rfl) hfit h1 h2
  · intro base len cap old hold hfit hb
    exact run_append_new (P := P) (w := w) (ty := o.type) ht ht2 hd2 hi hzero hlen hfirst hold hfit hbytes hb

/-! ### append(x, make([]T, k)...) -/
theorem wrap_small {k : Int} (h0 : 0 ≤ k) (h : k ≤ 281474976710656) : IntKind.i64.wrap k = k := by
  rw [IntKind.wrap_i64]; omega

theorem zeros_cells {i : TypeInfo} {zv : Value} {z : List AVal} (hzcells : ∀ ρ, zv.cells = (renL ρ z).toArray) (hzl : z.length = i.size) (k : Nat) : Builtin.zeroCells zv.cells k = (renL ρ (repCells z k)).toArray := by
  have hs : zv.cells.size = i.size := by rw [hzcells ρ]; simp [renL_length, hzl]
  unfold Builtin.zeroCells
  rw [hs]
  have := zeros_eq ρ z i.size k hzl zv.cells (hzcells ρ)
  rw [hs] at this
  exact this

theorem appz_sim (r : Rel P G ds ρ D n e a H w) (hlo : G.next ≤ lo) {o : Oper} {t t2 el : TypeId} {x y : Operand} (ho : o.op = .call { callee := .builtin .append, args := #[x, y], argTypes := #[t, t2] }) {kk : IntKind} {i : TypeInfo}
    (ht : P.underlying t = some (.slice el)) (ht2 : P.underlying t2 = some (.int kk)) (hi : P.info? el = some i) {z : List AVal} (hz : zeroC P el = some z)
    {u res : AVal} {k' : IntKind} {k : Int} {H' : AHeap} (hx : a.eval x = ren ρ u) (hu : ok ρ D u) (hy : a.eval y = .int k' k) (hs : appzV lo H i.size i.bytes z u k = some (res, H')) :
    Sim G lo ρ D H w ((execOp a.eval o).run P w) (some res) H' := by
  obtain ⟨i', zv, hi', hzero, hzrun, hzcells, hid, hone⟩ := zeroC_run hz
  obtain rfl : i = i' := by rw [hi] at hi'; exact Option.some.inj hi'
  unfold appzV at hs
  split at hs
  case isFalse => cases hs
  rename_i hcond
  obtain ⟨h0, hb48, hesz, hbytes, hzl⟩ := hcond
  obtain ⟨m, rfl⟩ : ∃ m : Nat, k = m := ⟨k.toNat, by omega⟩
  simp only [Int.toNat_natCast] at hs hb48
  obtain ⟨hyok, hyone⟩ := repCells_ok (ρ := ρ) (D := D) z m hid hone
  have hm48 : m ≤ 281474976710656 := Nat.le_trans (Nat.le_mul_of_pos_right _ hbytes) hb48
  have hw : IntKind.i64.wrap (m : Int) = m := wrap_small h0 (by omega)
  have hneg : ¬ ((m : Int) < 0) := by omega
  have h48i : ¬ (281474976710656 < (m : Int) * (i.bytes : Int)) := by rw [← Int.natCast_mul]; omega
  have hzc := zeros_cells (ρ := ρ) hzcells hzl m
  have hnil : m * i.size = 0 → (renL ρ (repCells z m)) = [] := fun h => by
    have : repCells z m = [] := List.eq_nil_of_length_eq_zero (by rw [repCells_length, hzl]; exact h)
    rw [this]; rfl
  refine app_core r hlo (t := t) (t2 := t2) (el := el) (Y := .int k' m) (k := m) (ys := repCells z m) hzcells hzl hu ?_ ?_ ?_ (by rw [repCells_length, hzl]) hesz hyok hyone hs
  · intro V w' h; simp [execOp, ho, resolve, hx, hy, invoke, builtin, h]
  · intro base len cap w' hfit h1 h2
    by_cases hm0 : m * i.size = 0
    · have hr := hnil hm0
      rw [hr] at h1
      cases base with
      | none =>
        cases h2 rfl
        simp [Builtin.append_, run_underlying ht, run_underlying ht2, run_sizeOf' hi, run_typeInfo' hi, asInt, asIntOf, hw, hneg, h48i, hfit, hm0]
      | some b =>
        simp [Builtin.append_, run_underlying ht, run_underlying ht2, run_sizeOf' hi, run_typeInfo' hi, asInt, asIntOf, hw, hneg, h48i, hfit, hm0, h1 b rfl]
    · cases base with
      | none =>
        cases h2 rfl
        simp [Builtin.append_, run_underlying ht, run_underlying ht2, run_sizeOf' hi, run_typeInfo' hi, asInt, asIntOf, hw, hneg, h48i, hfit, hm0, hzrun, hzc]
      | some b =>
        simp [Builtin.append_, run_underlying ht, run_underlying ht2, run_sizeOf' hi, run_typeInfo' hi, asInt, asIntOf, hw, hneg, h48i, hfit, hm0, hzrun, hzc, h1 b rfl]
  · intro base len cap old hold hfit hb
    refine ⟨(Question.appendCap (len + m) cap el).cut (w.tape w.drawn (.appendCap (len + m) cap el)), by simp [Question.cut], ?_⟩
    have g1 : ¬ len + m ≤ cap := by omega
    have g2 : ¬ i.bytes = 0 := by omega
    have g3 : ¬ Builtin.nextslicecap (len + m) cap * i.bytes > 2 ^ 48 := by
      have := nextcap_le hfit
      have h4 : Builtin.nextslicecap (len + m) cap * i.bytes ≤ (2 * (len + m) + 192) * i.bytes := Nat.mul_le_mul_right _ this
      simp; omega
    have g4 : ¬ (9223372036854775807 < (len : Int) + (m : Int)) := by
      have : 2 * (len + m) + 192 ≤ 281474976710656 := Nat.le_trans (Nat.le_mul_of_pos_right _ hbytes) hb
      omega
    have e1 := hold w.drew rfl
    by_cases hm0 : m * i.size = 0
    · have hr := hnil hm0
      simp [Builtin.append_, run_underlying ht, run_underlying ht2, run_sizeOf' hi, run_typeInfo' hi, asInt, asIntOf, hw, hneg, h48i, g1, g2, g3, g4, hm0, hr, run_choose, Question.forced, run_askRoom, e1, zeroValue, hzero, newRow, run_newObj]; rfl
    · simp [Builtin.append_, run_underlying ht, run_underlying ht2, run_sizeOf' hi, run_typeInfo' hi, asInt, asIntOf, hw, hneg, h48i, g1, g2, g3, g4, hm0, hzc, run_choose, Question.forced, run_askRoom, e1, zeroValue, hzero, newRow, run_newObj]; rfl

end
end Go.RI

/- RI: texts to bytes. Conditions: none. -/
namespace Go.RI
open Go
set_option linter.unusedSimpArgs false

section
variable {ds : List Deferred} {P : Program} {G : AHeap} {lo : Nat} {ρ : Ren} {D : Nat → Prop} {n : Nat} {e : Env} {a : Act} {H : AHeap} {w : World}

theorem bytes_ok (v : List UInt8) : okL ρ D (v.map fun b => AVal.i .u8 b.toNat) ∧ oneL (v.map fun b => AVal.i .u8 b.toNat) = true := by
  induction v with
  | nil => exact ⟨trivial, rfl⟩
  | cons b v ih => exact ⟨⟨trivial, ih.1⟩, by simp [oneL, one, ih.2]⟩

theorem bytes_ren (v : List UInt8) : renL ρ (v.map fun b => AVal.i .u8 b.toNat) = v.map fun b => Value.int .u8 b.toNat := by
  induction v with
  | nil => rfl
  | cons b v ih => simp [renL, ren, ih]

theorem s2b_sim (r : Rel P G ds ρ D n e a H w) {o : Oper} {s t el : TypeId} {x : Operand} (ho : o.op = .convert s t x) {ds : TypeDesc} (hs : P.underlying s = some ds) (ht : P.underlying t = some (.slice el)) (hel : P.underlying el = some (.int .u8)) {v : List UInt8}
    (hx : a.eval x = ren ρ (.s v)) : Sim G lo ρ D H w ((execOp a.eval o).run P w) (some (.sl H.next 0 v.length none)) (H.push (.cells (v.map fun b => .i .u8 b.toNat) 1 false)) := by
  have hrun := Lib.run_convert_string_bytes (P := P) w s t el ⟨v.toArray⟩ hs ht hel
  have hsize : (ByteArray.mk v.toArray).size = v.length := by simp [ByteArray.size]
  have hcap : v.length ≤ grownCap w (ByteArray.mk v.toArray).size 0 el := by
    simp only [grownCap, Question.cut, hsize]; omega
  have hC : (Lib.bytesCells w el ⟨v.toArray⟩).size = grownCap w (ByteArray.mk v.toArray).size 0 el := by
    simp only [Lib.bytesCells, Array.size_append, Array.size_map, Array.size_replicate]
    rw [hsize] at hcap ⊢
    simp only [List.size_toArray]; omega
  have hrow : Lib.bytesCells w el ⟨v.toArray⟩ = (renL ρ (v.map fun b => AVal.i .u8 b.toNat)).toArray ++ Array.replicate (grownCap w (ByteArray.mk v.toArray).size 0 el - (ByteArray.mk v.toArray).size) (.int .u8 0) := by
    rw [bytes_ren]; simp [Lib.bytesCells]
  have hheap : (Lib.bytesWorld w el ⟨v.toArray⟩).heap = w.heap.push (.cells (Lib.bytesCells w el ⟨v.toArray⟩) el ((Lib.bytesCells w el ⟨v.toArray⟩).size, (Lib.bytesCells w el ⟨v.toArray⟩).size + 1)) := by
    apply Array.ext_getElem?
    intro j
    rw [Array.getElem?_push]
    by_cases hj : j = w.heap.size
    · rw [if_pos hj, hj]; exact Lib.bytesWorld_at_new w el _
    · rw [if_neg hj]
      rcases Nat.lt_or_ge j w.heap.size with h | h
      · exact Lib.bytesWorld_at_old w el _ j h
      · rw [Array.getElem?_eq_none h, Array.getElem?_eq_none (by rw [Lib.bytesWorld_size]; omega)]
  obtain ⟨g1, g2⟩ := push_sim (lo := lo) (esz := 1) r.heap (w' := Lib.bytesWorld w el ⟨v.toArray⟩) (c := v.map fun b => .i .u8 b.toNat) hheap rfl rfl rfl
    (by rw [hC]; simpa using hcap) (fun j u hu => by
      have hj : j < v.length := by
        rcases Nat.lt_or_ge j v.length with h | h
        · exact h
        · rw [List.getElem?_eq_none (by simpa using h)] at hu; cases hu
      rw [hrow, Array.getElem?_append_left (by simp [renL_length]; exact hj)]
      simp only [List.getElem?_toArray, renL_get, hu, Option.map_some]) (fun o ho => by simp; omega) (bytes_ok (ρ := ρ) (D := D) v).1 (bytes_ok (ρ := ρ) (D := D) v).2
  refine ⟨_, _, _, ?_, g1, g2, fun u hu => ?_⟩
  · have : (execOp a.eval o).run P w = .ok (.value (.slice (some ⟨w.heap.size, 0, none⟩) (ByteArray.mk v.toArray).size (grownCap w (ByteArray.mk v.toArray).size 0 el))) (Lib.bytesWorld w el ⟨v.toArray⟩) := by
      simp [execOp, ho, hx, ren, hrun]
    rw [this]
    simp [ren, upd_same, hC, hsize]
  · cases hu
    simp only [ok, ins, upd_same, hC]
    exact ⟨.inl trivial, fun _ => by simpa using hcap⟩

end
end Go.RI

/- RI: maps: keys, looking up, writing, making; copy. Conditions: none. -/
namespace Go.RI
open Go
set_option linter.unusedSimpArgs false

/-- A type of keys: is it an aggregate; its cells' kinds. -/
def keyKs (P : Program) (t : TypeId) : Option (Bool × List Nat) :=
  match P.underlying t with
  | some .bool => some (false, [0])
  | some (.int _) => some (false, [1])
  | some .string => some (false, [2])
  | some (.array n el) => match leafK P el, P.info? el with
    | some k, some i => if i.size = 1 then some (true, List.replicate n k) else none
    | _, _ => none
  | some (.struct fs) => if P.stoodInHeld t = false then (flatF P fs.toList 0).map (true, ·) else none
  | _ => none

theorem eqCells_true : ∀ {ks : List Nat} {x y : List AVal}, eqCells ks x y = some true → x = y := by
  intro ks
  induction ks with
  | nil => intro x y h; cases x <;> cases y <;> simp [eqCells] at h; rfl
  | cons k ks ih =>
    intro x y h
    obtain ⟨u, x', v, y', rfl, rfl⟩ := eqCells_step h
    match k, h with
    | 0, h =>
      cases u <;> cases v <;> simp only [eqCells] at h <;> first
        | (cases h; done)
        | (simp only [Option.map_eq_some_iff] at h; obtain ⟨r, hr, he⟩ := h; simp only [Bool.and_eq_true, beq_iff_eq] at he; obtain ⟨rfl, rfl⟩ := he; rw [ih hr])
    | 1, h1 =>
      clear h
      cases u <;> cases v <;> simp only [eqCells] at h1 <;> first
        | (cases h1; done)
        | (split at h1
           · rename_i hkk; subst hkk; rw [Option.map_eq_some_iff] at h1; obtain ⟨r, hr, he⟩ := h1; rw [Bool.and_eq_true, beq_iff_eq] at he; obtain ⟨rfl, rfl⟩ := he; rw [ih hr]
           · cases h1)
    | 2, h =>
      cases u <;> cases v <;> simp only [eqCells] at h <;> first
        | (cases h; done)
        | (simp only [Option.map_eq_some_iff] at h; obtain ⟨r, hr, he⟩ := h; simp only [Bool.and_eq_true, beq_iff_eq] at he; obtain ⟨rfl, rfl⟩ := he; rw [ih hr])
    | k + 3, h => unfold eqCells at h; cases h

theorem keyC_false {u : AVal} {x : List AVal} (h : keyC false u = some x) : x = [u] := by
  cases u <;> first
    | (simp only [keyC, Bool.false_eq_true, if_false] at h; cases h; done)
    | (simp only [keyC, Bool.false_eq_true, if_false] at h; cases h; rfl)
theorem keyC_true {u : AVal} {x : List AVal} (h : keyC true u = some x) : u = .ag x := by
  cases u <;> first
    | (simp only [keyC, if_true] at h; cases h; done)
    | (simp only [keyC, if_true] at h; cases h; rfl)
theorem keyC_inj {ag : Bool} {u v : AVal} {x : List AVal} (h : keyC ag u = some x) (h' : keyC ag v = some x) : u = v := by
  cases ag
  · have := keyC_false h; have h2 := keyC_false h'; rw [this] at h2; simpa using h2
  · rw [keyC_true h, keyC_true h']

section
variable {ds : List Deferred} {P : Program} {G : AHeap} {lo : Nat} {ρ : Ren} {D : Nat → Prop} {n : Nat} {e : Env} {a : Act} {H : AHeap} {w : World}

theorem eqItems_sim {el : TypeId} {k : Nat} (hk : leafK P el = some k) (hc : P.cellsOf el = 1) (xs ys : List AVal) : ∀ (m j : Nat) (x y : List AVal) (res : Bool), xs.drop j = x → ys.drop j = y → eqCells (List.replicate m k) x y = some res →
    (Op.eqItems 9999 el (P.cellsOf el) (renL ρ xs).toArray (renL ρ ys).toArray (List.range' j m)).run P w = .ok res w := by
  intro m
  induction m with
  | zero =>
    intro j x y res _ _ h
    cases x <;> cases y <;> simp [eqCells] at h
    subst h; simp [Op.eqItems]
  | succ m ih =>
    intro j x y res hx hy h
    rw [List.replicate_succ] at h
    obtain ⟨u, x', v, y', rfl, rfl⟩ := eqCells_step h
    obtain ⟨c, rest, hrun, hrest, rfl, hplain⟩ := leaf_eq (ρ := ρ) (w := w) hk h
    have hxj : xs[j]? = some u := by have := congrArg (·[0]?) hx; simpa using this
    have hyj : ys[j]? = some v := by have := congrArg (·[0]?) hy; simpa using this
    have p1 := run_part_plain w hplain (xs := (renL ρ xs).toArray) (off := j * P.cellsOf el) (v := ren ρ u) (by rw [hc]; simp [renL_get, hxj])
    have p2 := run_part_plain w hplain (xs := (renL ρ ys).toArray) (off := j * P.cellsOf el) (v := ren ρ v) (by rw [hc]; simp [renL_get, hyj])
    have ihr := ih (j + 1) x' y' rest (by rw [← List.drop_drop, hx]; rfl) (by rw [← List.drop_drop, hy]; rfl) hrest
    simp only [List.range'_succ, Op.eqItems, Sem.run_bind, p1, p2, Result.andThen_ok, hrun 9998]
    cases c
    · simp
    · simpa using ihr

theorem keyEq_sim {t : TypeId} {ag : Bool} {ks : List Nat} (ht : keyKs P t = some (ag, ks)) {u v : AVal} {x y : List AVal} (hu : keyC ag u = some x) (hv : keyC ag v = some y) {res : Bool} (h : eqCells ks x y = some res) :
    (Op.equal t (ren ρ u) (ren ρ v)).run P w = .ok res w := by
  have leaf : ∀ k, leafK P t = some k → ag = false → ks = [k] → (Op.equal t (ren ρ u) (ren ρ v)).run P w = .ok res w := by
    rintro k hk rfl rfl
    have e1 := keyC_false hu; have e2 := keyC_false hv; subst e1 e2
    obtain ⟨c, rest, hrun, hrest, rfl, _⟩ := leaf_eq (ρ := ρ) (w := w) hk h
    simp [eqCells] at hrest; subst hrest
    simpa [Op.equal, Op.maxDepth] using hrun 9999
  unfold keyKs at ht
  split at ht
  · rename_i hu'; simp only [Option.some.injEq, Prod.mk.injEq] at ht; exact leaf 0 (by simp [leafK, hu']) ht.1.symm ht.2.symm
  · rename_i hu'; simp only [Option.some.injEq, Prod.mk.injEq] at ht; exact leaf 1 (by simp [leafK, hu']) ht.1.symm ht.2.symm
  · rename_i hu'; simp only [Option.some.injEq, Prod.mk.injEq] at ht; exact leaf 2 (by simp [leafK, hu']) ht.1.symm ht.2.symm
  · rename_i m el hu'
    split at ht
    · rename_i k i hk hi
      split at ht
      · rename_i hsz
        simp only [Option.some.injEq, Prod.mk.injEq] at ht
        obtain ⟨rfl, rfl⟩ := ht
        have e1 := keyC_true hu; have e2 := keyC_true hv; subst e1 e2
        have hc : P.cellsOf el = 1 := by simp [Program.cellsOf, hi, hsz]
        have := eqItems_sim (ρ := ρ) (w := w) hk hc x y m 0 x y res rfl rfl h
        have h2 := run_equalIn_array (P := P) (w := w) 9999 (renL ρ x).toArray (renL ρ y).toArray hu' hi
        rw [List.range_eq_range', this] at h2
        simpa [Op.equal, Op.maxDepth, ren] using h2
      · cases ht
    · cases ht
  · rename_i fs hu'
    split at ht
    · rename_i hst
      rw [Option.map_eq_some_iff] at ht
      obtain ⟨ks', hks, he⟩ := ht
      simp only [Prod.mk.injEq] at he
      obtain ⟨rfl, rfl⟩ := he
      have e1 := keyC_true hu; have e2 := keyC_true hv; subst e1 e2
      have hf : P.fieldsOf t = fs := by simp [Program.fieldsOf, hu']
      have h1 := eqFields_sim (P := P) (ρ := ρ) (w := w) fs.toList 0 ks' x y x y res hks rfl rfl h
      have h2 := run_equalIn_agg w 9999 t (renL ρ x).toArray (renL ρ y).toArray (by rw [hf]; exact hu') hst
      rw [hf, h1] at h2
      simpa [Op.equal, Op.maxDepth, ren] using h2
    · cases ht
  · cases ht

theorem leaf_check {t : TypeId} {k : Nat} (hk : leafK P t = some k) {ks : List Nat} {u : AVal} {x : List AVal} {res : Bool} (h : eqCells (k :: ks) (u :: x) (u :: x) = some res) (em : Bool) (d : Nat) :
    (Instr.checkKey em (d + 1) t (ren ρ u)).run P w = .ok () w := by
  unfold leafK at hk
  split at hk
  · rename_i ht; cases hk; simp [Instr.checkKey, run_underlying ht]
  · rename_i k' ht; cases hk; simp [Instr.checkKey, run_underlying ht]
  · rename_i ht; cases hk; simp [Instr.checkKey, run_underlying ht]
  · cases hk

theorem eqCells_tail {ks : List Nat} {k : Nat} {u v : AVal} {x y : List AVal} {res : Bool} (h : eqCells (k :: ks) (u :: x) (v :: y) = some res) : ∃ r, eqCells ks x y = some r := by
  match k, u, v with
  | 0, .b a, .b b => simp only [eqCells, Option.map_eq_some_iff] at h; obtain ⟨r, hr, _⟩ := h; exact ⟨r, hr⟩
  | 1, .i k1 a, .i k2 b =>
    simp only [eqCells] at h
    split at h
    · simp only [Option.map_eq_some_iff] at h; obtain ⟨r, hr, _⟩ := h; exact ⟨r, hr⟩
    · cases h
  | 2, .s a, .s b => simp only [eqCells, Option.map_eq_some_iff] at h; obtain ⟨r, hr, _⟩ := h; exact ⟨r, hr⟩
  | 0, u, v => cases u <;> cases v <;> simp only [eqCells] at h <;> first | (cases h; done) | (simp only [Option.map_eq_some_iff] at h; obtain ⟨r, hr, _⟩ := h; exact ⟨r, hr⟩)
  | 1, u, v => cases u <;> cases v <;> simp only [eqCells] at h <;> first | (cases h; done) | (split at h; (simp only [Option.map_eq_some_iff] at h; obtain ⟨r, hr, _⟩ := h; exact ⟨r, hr⟩); cases h)
  | 2, u, v => cases u <;> cases v <;> simp only [eqCells] at h <;> first | (cases h; done) | (simp only [Option.map_eq_some_iff] at h; obtain ⟨r, hr, _⟩ := h; exact ⟨r, hr⟩)
  | k + 3, u, v => simp [eqCells] at h

theorem check_sim {t : TypeId} {ag : Bool} {ks : List Nat} (ht : keyKs P t = some (ag, ks)) {u : AVal} {x : List AVal} (hu : keyC ag u = some x) (h : eqCells ks x x = some true) (em : Bool) :
    (Instr.checkKey em 10000 t (ren ρ u)).run P w = .ok () w := by
  have leaf : ∀ k, leafK P t = some k → ag = false → ks = [k] → (Instr.checkKey em 10000 t (ren ρ u)).run P w = .ok () w := by
    rintro k hk rfl rfl
    have e1 := keyC_false hu; subst e1
    exact leaf_check hk h em 9999
  unfold keyKs at ht
  split at ht
  · rename_i hu'; simp only [Option.some.injEq, Prod.mk.injEq] at ht; exact leaf 0 (by simp [leafK, hu']) ht.1.symm ht.2.symm
  · rename_i hu'; simp only [Option.some.injEq, Prod.mk.injEq] at ht; exact leaf 1 (by simp [leafK, hu']) ht.1.symm ht.2.symm
  · rename_i hu'; simp only [Option.some.injEq, Prod.mk.injEq] at ht; exact leaf 2 (by simp [leafK, hu']) ht.1.symm ht.2.symm
  · rename_i m el hu'
    split at ht
    · rename_i k i hk hi
      split at ht
      · rename_i hsz
        simp only [Option.some.injEq, Prod.mk.injEq] at ht
        obtain ⟨rfl, rfl⟩ := ht
        have e1 := keyC_true hu; subst e1
        have hc : P.cellsOf el = 1 := by simp [Program.cellsOf, hi, hsz]
        have key : ∀ (m j : Nat) (y : List AVal) (res : Bool), x.drop j = y → eqCells (List.replicate m k) y y = some res →
            ((forIn (List.range' j m) PUnit.unit fun i (_ : PUnit) => do
              Instr.checkKey em 9999 el (← part el (renL ρ x).toArray (i * (← sizeOf el)))
              pure (ForInStep.yield PUnit.unit) : Sem PUnit)).run P w = .ok PUnit.unit w := by
          intro m
          induction m with
          | zero => intro j y res _ _; simp
          | succ m ih =>
            intro j y res hy h
            rw [List.replicate_succ] at h
            obtain ⟨u, y', v, y2, hy1, hy2⟩ := eqCells_step h
            subst hy1
            simp only [List.cons.injEq] at hy2
            obtain ⟨rfl, rfl⟩ := hy2
            obtain ⟨c, rest, hrun, hrest, _, hplain⟩ := leaf_eq (ρ := ρ) (w := w) hk h
            have hxj : x[j]? = some u := by have := congrArg (·[0]?) hy; simpa using this
            have p1 := run_part_plain w hplain (xs := (renL ρ x).toArray) (off := j * i.size) (v := ren ρ u) (by rw [hsz]; simp [renL_get, hxj])
            have p2 := leaf_check (ρ := ρ) (w := w) hk h em 9998
            have ihr := ih (j + 1) y' rest (by rw [← List.drop_drop, hy]; rfl) hrest
            simp only [List.range'_succ, List.forIn_cons, Sem.run_bind, run_sizeOf w hi, Result.andThen_ok, Sem.run_pure]
            have p1' : (part el (renL ρ x).toArray (j * P.cellsOf el)).run P w = .ok (ren ρ u) w := by rw [hc]; rw [hsz] at p1; exact p1
            simp only [p1', Result.andThen_ok, p2]
            exact ihr
        have := key m 0 x true rfl h
        rw [show (10000 : Nat) = 9999 + 1 from rfl, Instr.checkKey]
        simp only [ren, Sem.run_bind, run_underlying hu', Result.andThen_ok]
        simp only [Std.Legacy.Range.forIn_eq_forIn_range', Std.Legacy.Range.size, Nat.sub_zero, Nat.add_one_sub_one, Nat.div_one]
        rw [this]; rfl
      · cases ht
    · cases ht
  · rename_i fs hu'
    split at ht
    · rename_i hst
      rw [Option.map_eq_some_iff] at ht
      obtain ⟨ks', hks, he⟩ := ht
      simp only [Prod.mk.injEq] at he
      obtain ⟨rfl, rfl⟩ := he
      have e1 := keyC_true hu; subst e1
      have key : ∀ (fl : List Field) (j : Nat) (ks : List Nat) (y : List AVal) (res : Bool), flatF P fl j = some ks → x.drop j = y → eqCells ks y y = some res →
          ((forIn fl PUnit.unit fun f (_ : PUnit) => do
            if f.name ≠ "_" then
              Instr.checkKey em 9999 f.type (← part f.type (renL ρ x).toArray f.offset)
              pure (ForInStep.yield PUnit.unit)
            else pure (ForInStep.yield PUnit.unit) : Sem PUnit)).run P w = .ok PUnit.unit w := by
        intro fl
        induction fl with
        | nil => intro j ks y res _ _ _; simp
        | cons f fl ih =>
          intro j ks y res h1 hy h
          simp only [flatF] at h1
          split at h1
          · rename_i hcnd
            obtain ⟨hname, hoff⟩ := hcnd
            split at h1
            · rename_i k ks' hk hks
              simp only [Option.some.injEq] at h1; subst h1
              obtain ⟨u, y', v, y2, hy1, hy2⟩ := eqCells_step h
              subst hy1
              simp only [List.cons.injEq] at hy2
              obtain ⟨rfl, rfl⟩ := hy2
              obtain ⟨c, rest, hrun, hrest, _, hplain⟩ := leaf_eq (ρ := ρ) (w := w) hk h
              have hxj : x[j]? = some u := by have := congrArg (·[0]?) hy; simpa using this
              have p1 := run_part_plain w hplain (xs := (renL ρ x).toArray) (off := f.offset) (v := ren ρ u) (by rw [hoff]; simp [renL_get, hxj])
              have p2 := leaf_check (ρ := ρ) (w := w) hk h em 9998
              have ihr := ih (j + 1) ks' y' rest hks (by rw [← List.drop_drop, hy]; rfl) hrest
              simp only [List.forIn_cons, Sem.run_bind, hname, ne_eq, not_false_eq_true, if_true, p1, Result.andThen_ok, p2, Sem.run_pure]
              exact ihr
            · cases h1
          · cases h1
      have := key fs.toList 0 ks' x true hks rfl h
      rw [show (10000 : Nat) = 9999 + 1 from rfl, Instr.checkKey]
      simp only [ren, Sem.run_bind, run_underlying hu', Result.andThen_ok]
      rw [← Array.forIn_toList]
      rw [this]; rfl
    · cases ht
  · cases ht

/-! ### Finding -/
theorem find_asking {t : TypeId} {ag : Bool} {ks : List Nat} (ht : keyKs P t = some (ag, ks)) {k : AVal} {kc : List AVal} (hk : keyC ag k = some kc) : ∀ (es : List (AVal × AVal)) (E : List MapEntry) (i : Nat) (r : Option (Nat × AVal)),
    E.map (fun e => (e.key, e.val)) = es.map (fun x => (ren ρ x.1, ren ρ x.2)) → findA ag ks kc es i = some r → (Instr.findAsking t (ren ρ k) E i).run P w = .ok (r.map fun x => (x.1, ren ρ x.2)) w := by
  intro es
  induction es with
  | nil =>
    intro E i r hE h
    cases E with
    | cons _ _ => simp at hE
    | nil => simp [findA] at h; subst h; simp [Instr.findAsking]
  | cons x es ih =>
    obtain ⟨k', v⟩ := x
    intro E i r hE h
    cases E with
    | nil => simp at hE
    | cons e0 E =>
      simp only [List.map_cons, List.cons.injEq, Prod.mk.injEq] at hE
      obtain ⟨⟨hkey, hval⟩, hE⟩ := hE
      simp only [findA] at h
      split at h
      · rename_i c hc
        split at h
        · rename_i he
          simp only [Option.some.injEq] at h; subst h
          have := keyEq_sim (ρ := ρ) (w := w) ht hk hc he
          simp [Instr.findAsking, hkey, this, hval]
        · rename_i he
          have := keyEq_sim (ρ := ρ) (w := w) ht hk hc he
          have h2 := ih E (i + 1) r hE h
          simp [Instr.findAsking, hkey, this, h2]
        · cases h
      · cases h

theorem same_now {t : TypeId} {k : Nat} {d : TypeDesc} (hd : P.underlying t = some d) (hk : leafK P t = some k) {u v : AVal} {res : Bool} (h : eqCells [k] [u] [v] = some res) : Instr.sameNow d (ren ρ u) (ren ρ v) = some res := by
  unfold leafK at hk
  split at hk
  · rename_i ht
    rw [hd] at ht; cases ht; cases hk
    cases u <;> cases v <;> simp [eqCells] at h
    simp [ren, Instr.sameNow, h]
  · rename_i q ht
    rw [hd] at ht; cases ht; cases hk
    cases u <;> cases v <;> simp [eqCells] at h
    obtain ⟨rfl, h⟩ := h
    simp [ren, Instr.sameNow, h]
  · rename_i ht
    rw [hd] at ht; cases ht; cases hk
    cases u <;> cases v <;> simp [eqCells] at h
    rename_i x y
    simp only [ren, Instr.sameNow]
    have : ((ByteArray.mk x.toArray) == (ByteArray.mk y.toArray)) = (x == y) := by rw [beq_toListBytes, bytes_toList, bytes_toList]
    rw [this, ← h]
  · cases hk

theorem find_now {t : TypeId} {k0 : Nat} {d : TypeDesc} (hd : P.underlying t = some d) (hk0 : leafK P t = some k0) {k : AVal} : ∀ (es : List (AVal × AVal)) (E : List MapEntry) (i : Nat) (r : Option (Nat × AVal)),
    E.map (fun e => (e.key, e.val)) = es.map (fun x => (ren ρ x.1, ren ρ x.2)) → findA false [k0] [k] es i = some r → Instr.findNow d (ren ρ k) E i = some (r.map fun x => (x.1, ren ρ x.2)) := by
  intro es
  induction es with
  | nil =>
    intro E i r hE h
    cases E with
    | cons _ _ => simp at hE
    | nil => simp [findA] at h; subst h; simp [Instr.findNow]
  | cons x es ih =>
    obtain ⟨k', v⟩ := x
    intro E i r hE h
    cases E with
    | nil => simp at hE
    | cons e0 E =>
      simp only [List.map_cons, List.cons.injEq, Prod.mk.injEq] at hE
      obtain ⟨⟨hkey, hval⟩, hE⟩ := hE
      simp only [findA] at h
      split at h
      · rename_i c hc
        have hc' := keyC_false hc
        subst hc'
        split at h
        · rename_i he
          simp only [Option.some.injEq] at h; subst h
          have := same_now (ρ := ρ) hd hk0 he
          simp [Instr.findNow, hkey, this, hval]
        · rename_i he
          have := same_now (ρ := ρ) hd hk0 he
          have h2 := ih E (i + 1) r hE h
          simp [Instr.findNow, hkey, this, h2]
        · cases h
      · cases h

theorem find_sim {t : TypeId} {ag : Bool} {ks : List Nat} (ht : keyKs P t = some (ag, ks)) {k : AVal} {kc : List AVal} (hk : keyC ag k = some kc) {es : List (AVal × AVal)} {E : List MapEntry} {r : Option (Nat × AVal)}
    (hE : E.map (fun e => (e.key, e.val)) = es.map (fun x => (ren ρ x.1, ren ρ x.2))) (h : findA ag ks kc es 0 = some r) : (Instr.findKey t (ren ρ k) E).run P w = .ok (r.map fun x => (x.1, ren ρ x.2)) w := by
  have leaf : ∀ k0 d, P.underlying t = some d → leafK P t = some k0 → ag = false → ks = [k0] → (Instr.findKey t (ren ρ k) E).run P w = .ok (r.map fun x => (x.1, ren ρ x.2)) w := by
    rintro k0 d hd hk0 rfl rfl
    have := keyC_false hk; subst this
    exact MapKept.run_findKey hd (find_now hd hk0 es E 0 r hE h)
  have agg : ∀ d, P.underlying t = some d → (∀ e : MapEntry, Instr.sameNow d (ren ρ k) e.key = none) → (Instr.findKey t (ren ρ k) E).run P w = .ok (r.map fun x => (x.1, ren ρ x.2)) w := by
    intro d hd hnone
    have := find_asking (w := w) ht hk es E 0 r hE h
    simp only [Instr.findKey, Sem.run_bind, run_underlying hd, Result.andThen_ok]
    cases E with
    | nil =>
      cases es with
      | cons _ _ => simp at hE
      | nil => simp [findA] at h; subst h; simp [Instr.findNow]
    | cons e0 E => simp only [Instr.findNow, hnone e0]; exact this
  have ht' := ht
  unfold keyKs at ht
  split at ht
  · rename_i hu'; simp only [Option.some.injEq, Prod.mk.injEq] at ht; exact leaf 0 _ hu' (by simp [leafK, hu']) ht.1.symm ht.2.symm
  · rename_i hu'; simp only [Option.some.injEq, Prod.mk.injEq] at ht; exact leaf 1 _ hu' (by simp [leafK, hu']) ht.1.symm ht.2.symm
  · rename_i hu'; simp only [Option.some.injEq, Prod.mk.injEq] at ht; exact leaf 2 _ hu' (by simp [leafK, hu']) ht.1.symm ht.2.symm
  · rename_i m el hu'; exact agg _ hu' fun e => by simp [Instr.sameNow]
  · rename_i fs hu'; exact agg _ hu' fun e => by simp [Instr.sameNow]
  · cases ht

/-! ### Looking up -/
theorem mapEs_sim (h : HRel G ρ D H w) {m : AVal} (hm : ok ρ D m) {es : List (AVal × AVal)} (he : mapEs H m = some es) :
    ∃ E : Array MapEntry, (match ren ρ m with | .map none => E = #[] | .map (some r) => ∃ k, w.heap[r]? = some (.map E k) | _ => False) ∧ E.toList.map (fun e => (e.key, e.val)) = es.map (fun x => (ren ρ x.1, ren ρ x.2)) ∧ ∀ x ∈ es, ok ρ D x.1 ∧ ok ρ D x.2 := by
  cases m <;> simp only [mapEs] at he <;> try (cases he; done)
  case nm => cases he; exact ⟨#[], by simp [ren], rfl, by simp⟩
  case m id =>
    split at he
    · rename_i es' hg
      cases he
      simp only [ok] at hm
      obtain ⟨⟨E, k, h1, _, _, h2⟩, h3⟩ := h.maps id es hm hg
      exact ⟨E, by simp only [ren]; exact ⟨k, h1⟩, h2, h3⟩
    · cases he

theorem findA_mem {ag : Bool} {ks : List Nat} {kc : List AVal} : ∀ {es : List (AVal × AVal)} {i j : Nat} {v : AVal}, findA ag ks kc es i = some (some (j, v)) → ∃ k', i ≤ j ∧ es[j - i]? = some (k', v) ∧ keyC ag k' = some kc := by
  intro es
  induction es with
  | nil => intro i j v h; simp [findA] at h
  | cons x es ih =>
    obtain ⟨k', u⟩ := x
    intro i j v h
    simp only [findA] at h
    split at h
    · rename_i c hc
      split at h
      · rename_i he
        simp only [Option.some.injEq, Prod.mk.injEq] at h
        obtain ⟨rfl, rfl⟩ := h
        exact ⟨k', Nat.le_refl _, by simp, by rw [hc, eqCells_true he]⟩
      · obtain ⟨k2, h1, h2, h3⟩ := ih h
        refine ⟨k2, by omega, ?_, h3⟩
        have : j - i = (j - (i + 1)) + 1 := by omega
        rw [this, List.getElem?_cons_succ]; exact h2
      · cases h
    · cases h

/-- A type's zero value. -/
def zeroV (P : Program) (t : TypeId) : Option AVal :=
  match P.info? t with
  | some i => match i.zero with
    | some z => match ofVal z with
      | some a => if a.tup = false then some a else none
      | none => none
    | none => none
  | none => none

theorem zeroV_run {t : TypeId} {z : AVal} (h : zeroV P t = some z) : (∀ w, (zeroValue t).run P w = .ok (ren ρ z) w) ∧ ok ρ D z ∧ z.tup = false := by
  unfold zeroV at h
  split at h
  · rename_i i hi
    split at h
    · rename_i v hv
      split at h
      · rename_i u hu
        split at h
        · rename_i ht
          simp only [Option.some.injEq] at h; subst h
          obtain ⟨h1, h2⟩ := ofVal_ren v u hu
          exact ⟨fun w => by rw [h2 ρ]; simp [zeroValue, typeInfo, hi, hv], noId_ok _ _ u h1, ht⟩
        · cases h
      · cases h
    · cases h
  · cases h

theorem look_sim (r : Rel P G ds ρ D n e a H w) {o : Oper} {t kt el : TypeId} {x y : Operand} {okf : Bool} (ho : o.op = .lookup t x y okf) (ht : P.underlying t = some (.map kt el)) {ag : Bool} {ks : List Nat} (hk : keyKs P kt = some (ag, ks)) {z : AVal} (hz : zeroV P el = some z)
    {m k v : AVal} (hx : a.eval x = ren ρ m) (hm : ok ρ D m) (hy : a.eval y = ren ρ k) (hv : lookV H ag ks z okf m k = some v) : Sim G lo ρ D H w ((execOp a.eval o).run P w) (some v) H := by
  unfold lookV at hv
  split at hv
  · rename_i es hes
    split at hv
    · rename_i kc hkc
      split at hv
      · rename_i hshape
        obtain ⟨E, h1, h2, h3⟩ := mapEs_sim r.heap hm hes
        obtain ⟨z1, z2, z3⟩ := zeroV_run (ρ := ρ) (D := D) hz
        have hrun : ∀ (fnd : Option (Nat × AVal)), findA ag ks kc es 0 = some fnd →
            (Instr.lookup t (ren ρ m) (ren ρ k) okf).run P w = .ok (match fnd with | some (_, u) => (if okf then .tuple #[ren ρ u, .bool true] else ren ρ u) | none => (if okf then .tuple #[ren ρ z, .bool false] else ren ρ z)) w := by
          intro fnd hf
          have hc := check_sim (ρ := ρ) (w := w) hk hkc hshape E.isEmpty
          have hfk := find_sim (w := w) (E := E.toList) hk hkc h2 hf
          cases m <;> simp only [mapEs] at hes <;> try (cases hes; done)
          case nm =>
            simp only [ren] at h1
            subst h1
            simp only [Instr.lookup, ren, Sem.run_bind, run_underlying ht, Result.andThen_ok, Sem.run_pure, hc, hfk]
            cases fnd with
            | none => cases okf <;> simp [z1]
            | some p => obtain ⟨i, u⟩ := p; cases okf <;> simp
          case m id =>
            simp only [ren] at h1
            obtain ⟨kk, h1⟩ := h1
            have hobj : (getObj (ρ id).blk).run P w = .ok (.map E kk) w := by simp [getObj, Sem.run, h1]
            simp only [Instr.lookup, ren, Sem.run_bind, run_underlying ht, Result.andThen_ok, hobj, Sem.run_pure, hc, hfk]
            cases fnd with
            | none => cases okf <;> simp [z1]
            | some p => obtain ⟨i, u⟩ := p; cases okf <;> simp
        split at hv
        · rename_i i u hf
          have := hrun _ hf
          obtain ⟨k', _, hmem, _⟩ := findA_mem hf
          have huok := (h3 _ (List.mem_of_getElem? hmem)).2
          simp only [Option.some.injEq] at hv; subst hv
          cases okf
          · exact sim_val r.heap (by simp [execOp, ho, hx, hy, this]) huok
          · exact sim_val r.heap (by simp [execOp, ho, hx, hy, this, ren, renL]) (by simp [ok, okL, huok])
        · rename_i hf
          have := hrun _ hf
          simp only [Option.some.injEq] at hv; subst hv
          cases okf
          · exact sim_val r.heap (by simp [execOp, ho, hx, hy, this]) z2
          · exact sim_val r.heap (by simp [execOp, ho, hx, hy, this, ren, renL]) (by simp [ok, okL, z2])
        · cases hv
      · cases hv
    · cases hv
  · cases hv

/-! ### Writing -/
theorem frozen_map {w w' : World} {b : Nat} {E E' : Array MapEntry} {k k' : Nat} (hb : w.heap[b]? = some (.map E k)) (hb' : w'.heap[b]? = some (.map E' k')) (ho : ∀ j, j ≠ b → w'.heap[j]? = w.heap[j]?) (ad : Addr) : w'.frozen? ad = w.frozen? ad := by
  simp only [World.frozen?]
  by_cases h : ad.block = b
  · rw [h, hb, hb']
  · rw [ho _ h]

theorem mapset_sim {w' : World} (h : HRel G ρ D H w) (hlo : G.next ≤ lo) {id : Nat} {es es' : List (AVal × AVal)} (hd : D id) (hg : H.get id = some (.map es)) (hid : lo ≤ id)
    {E E' : Array MapEntry} {k k' : Nat} (hb : w.heap[(ρ id).blk]? = some (.map E k)) (hb' : w'.heap[(ρ id).blk]? = some (.map E' k')) (h1 : ∀ e ∈ E'.toList, e.born < k') (h2 : (E'.toList.map (·.born)).Nodup)
    (h3 : E'.toList.map (fun e => (e.key, e.val)) = es'.map (fun x => (ren ρ x.1, ren ρ x.2))) (h4 : ∀ x ∈ es', ok ρ D x.1 ∧ ok ρ D x.2)
    (ho : ∀ j, j ≠ (ρ id).blk → w'.heap[j]? = w.heap[j]?) (hsz : w'.heap.size = w.heap.size) (hos : w'.os = w.os) (htp : w'.tape = w.tape) (hout : w'.output = w.output) :
    Step lo ρ D H w ρ D (H.put id (some (.map es'))) w' ∧ HRel G ρ D (H.put id (some (.map es'))) w' := by
  have hgo : ∀ j, j ≠ id → (H.put id (some (.map es'))).get j = H.get j := fun j hne => by rw [AHeap.get_put, if_neg hne]
  have hgi : (H.put id (some (.map es'))).get id = some (.map es') := by rw [AHeap.get_put, if_pos rfl]
  constructor
  · exact {
      old := fun _ h => ⟨h, rfl⟩
      new := fun _ h _ => h
      ghost := fun j _ hnd => hgo j (fun e => hnd (e ▸ hd))
      low := fun j hj _ => hgo j (by omega)
      next := Nat.le_refl _
      wr := fun j o' _ _ hj hw => by
        by_cases hji : j = id
        · subst hji; exact ⟨_, hg, rfl⟩
        · rw [hgo j hji] at hj; exact ⟨o', hj, hw⟩
      fresh := fun j _ hdj hn _ _ => by have := h.lt j hdj; omega
      os := hos
      tape := htp
      output := hout
      froz := fun ad _ => frozen_map hb hb' ho ad
      size := by omega
      frame := fun k _ hn => ho k (fun e => hn id _ hd hg rfl e.symm) }
  · exact {
      lt := h.lt
      cells := fun j c' esz' ro hdj hj => by
        by_cases hji : j = id
        · subst hji; rw [hgi] at hj; simp at hj
        · rw [hgo j hji] at hj
          have := h.apart id j _ _ hd hdj (fun e => hji e.symm) hg hj rfl
          exact (h.cells j c' esz' ro hdj hj).move (fun _ h => ⟨h, rfl⟩) (ho _ (fun e => this e.symm))
      maps := fun j es2 hdj hj => by
        by_cases hji : j = id
        · subst hji
          rw [hgi] at hj
          simp only [Option.some.injEq, AObj.map.injEq] at hj
          subst hj
          exact ⟨⟨E', k', hb', h1, h2, h3⟩, h4⟩
        · rw [hgo j hji] at hj
          have := h.apart id j _ _ hd hdj (fun e => hji e.symm) hg hj rfl
          exact (h.maps j es2 hdj hj).move (fun _ h => ⟨h, rfl⟩) (ho _ (fun e => this e.symm))
      apart := fun i j o o' hdi hdj hne hi hj hwr => by
        have lift : ∀ x (o : AObj), (H.put id (some (.map es'))).get x = some o → ∃ o0, H.get x = some o0 ∧ o0.wr = o.wr := by
          intro x o hx
          by_cases hxi : x = id
          · subst hxi; rw [hgi] at hx; exact ⟨_, hg, by simp at hx; rw [← hx]; rfl⟩
          · rw [hgo x hxi] at hx; exact ⟨o, hx, rfl⟩
        obtain ⟨a, ha, haw⟩ := lift i o hi
        obtain ⟨b, hb1, _⟩ := lift j o' hj
        exact h.apart i j a b hdi hdj hne ha hb1 (haw.trans hwr)
      glob := fun g hgl => by
        obtain ⟨h1, h2, h3, h4⟩ := h.glob g hgl
        exact ⟨h1, h2, h3, (hgo g (by omega)).trans h4⟩
      gnext := h.gnext
      wf := fun j hj => by rw [AHeap.next_put] at hj; have := h.lt id hd; rw [hgo j (by omega)]; exact h.wf j hj }

theorem sameBits_leaf {k : Nat} {ks : List Nat} {u : AVal} {x : List AVal} {res : Bool} (h : eqCells (k :: ks) (u :: x) (u :: x) = some res) (n : Nat) : Instr.sameBits n (ren ρ u) (ren ρ u) = true := by
  match k, h with
  | 0, h => cases u <;> simp only [eqCells] at h <;> first | (cases h; done) | simp [ren, Instr.sameBits]
  | 1, h => cases u <;> simp only [eqCells] at h <;> first | (cases h; done) | simp [ren, Instr.sameBits]
  | 2, h =>
    cases u <;> simp only [eqCells] at h <;> first
      | (cases h; done)
      | (simp only [ren]; cases n <;> simp [Instr.sameBits, beq_toListBytes])
  | k + 3, h => unfold eqCells at h; cases h

theorem sameBits_cells : ∀ {ks : List Nat} {x : List AVal} {res : Bool}, eqCells ks x x = some res → ∀ n, ((renL ρ x).zip (renL ρ x)).all (fun (p : Value × Value) => Instr.sameBits n p.1 p.2) = true := by
  intro ks
  induction ks with
  | nil => intro x res h n; cases x <;> simp [eqCells] at h; simp [renL]
  | cons k ks ih =>
    intro x res h n
    obtain ⟨u, x', v, y', rfl, h2⟩ := eqCells_step h
    simp only [List.cons.injEq] at h2
    obtain ⟨rfl, rfl⟩ := h2
    obtain ⟨r, hr⟩ := eqCells_tail h
    simp only [renL, List.zip_cons_cons, List.all_cons, Bool.and_eq_true]
    exact ⟨sameBits_leaf h n, ih hr n⟩

theorem sameBits_key {ag : Bool} {ks : List Nat} {t : TypeId} (ht : keyKs P t = some (ag, ks)) {u : AVal} {x : List AVal} (hu : keyC ag u = some x) (h : eqCells ks x x = some true) : Instr.sameBits 10000 (ren ρ u) (ren ρ u) = true := by
  cases ag
  · have := keyC_false hu; subst this
    cases ks with
    | nil => simp [eqCells] at h
    | cons k ks => exact sameBits_leaf h 10000
  · have := keyC_true hu; subst this
    have := sameBits_cells (ρ := ρ) h 9999
    simp only [ren, Instr.sameBits, beq_self_eq_true, Bool.true_and]
    exact this

theorem mapup_sim (r : Rel P G ds ρ D n e a H w) (hlo : G.next ≤ lo) {o : Oper} {t kt el : TypeId} {x y z : Operand} (ho : o.op = .mapUpdate t x y z ∨ o.op = .insert t x y z) (ht : P.underlying t = some (.map kt el)) {ag : Bool} {ks : List Nat} (hk : keyKs P kt = some (ag, ks))
    {m k v : AVal} {H' : AHeap} (hx : a.eval x = ren ρ m) (hm : ok ρ D m) (hy : a.eval y = ren ρ k) (hkok : ok ρ D k) (hz : a.eval z = ren ρ v) (hvok : ok ρ D v) (hv : mapupV lo H ag ks k v m = some H') : Sim G lo ρ D H w ((execOp a.eval o).run P w) none H' := by
  cases m <;> simp only [mapupV] at hv <;> try (cases hv; done)
  rename_i id
  simp only [ok] at hm
  split at hv
  · rename_i hid
    split at hv
    · rename_i es hg
      split at hv
      · rename_i kc hkc
        split at hv
        · rename_i hshape
          obtain ⟨⟨E, clk, h1, hb1, hb2, h2⟩, h3⟩ := r.heap.maps id es hm hg
          have hc := check_sim (ρ := ρ) (w := w) hk hkc hshape false
          have hobj : (getObj (ρ id).blk).run P w = .ok (.map E clk) w := by simp [getObj, Sem.run, h1]
          have hset : ∀ o, (setObj (ρ id).blk o).run P w = .ok () { w with heap := w.heap.setIfInBounds (ρ id).blk o } := fun o => MapKept.run_setObj_map o h1
          have hhs : ∀ o', (w.heap.setIfInBounds (ρ id).blk o')[(ρ id).blk]? = some o' ∧ ∀ r', r' ≠ (ρ id).blk → (w.heap.setIfInBounds (ρ id).blk o')[r']? = w.heap[r']? := fun o' => MapKept.heap_set h1
          have hexec : ∀ w', (Instr.mapUpdate t (ren ρ (.m id)) (ren ρ k) (ren ρ v)).run P w = .ok () w' → (execOp a.eval o).run P w = .ok .skip w' := by
            intro w' hr
            rcases ho with ho | ho <;> simp [execOp, ho, hx, hy, hz, hr]
          split at hv
          · rename_i i u hf
            cases hv
            have hfk := find_sim (w := w) (E := E.toList) hk hkc h2 hf
            obtain ⟨k0, _, hmem, hk0⟩ := findA_mem hf
            simp only [Nat.sub_zero] at hmem
            have hkk : k0 = k := keyC_inj hk0 hkc
            subst hkk
            have hEi : ∃ ent, E[i]? = some ent ∧ ent.key = ren ρ k0 ∧ ent.val = ren ρ u := by
              have := congrArg (·[i]?) h2
              simp only [List.getElem?_map, hmem, Option.map_some, Array.getElem?_toList] at this
              rw [Option.map_eq_some_iff] at this
              obtain ⟨ent, he, hp⟩ := this
              simp only [Prod.mk.injEq] at hp
              exact ⟨ent, he, hp.1, hp.2⟩
            obtain ⟨ent, he, hke, hve⟩ := hEi
            have hsb := sameBits_key (ρ := ρ) hk hkc hshape
            have hrun : (Instr.mapUpdate t (ren ρ (.m id)) (ren ρ k0) (ren ρ v)).run P w = .ok () { w with heap := w.heap.setIfInBounds (ρ id).blk (.map (E.modify i fun e => { e with key := ren ρ k0, val := ren ρ v }) clk) } := by
              simp only [ren, Instr.mapUpdate, Sem.run_bind, run_underlying ht, Result.andThen_ok, hobj, hc, hfk, Option.map_some]
              simp only [Sem.run_bind, Result.andThen_ok, he, Option.map_some, Option.getD_some, Instr.keyThatStays, hke, hsb, if_true, Sem.run_pure]
              exact hset _
            obtain ⟨g1, g2⟩ := hhs (.map (E.modify i fun e => { e with key := ren ρ k0, val := ren ρ v }) clk)
            have hkeys : ∀ (e' : MapEntry), e' ∈ (E.modify i fun e => { e with key := ren ρ k0, val := ren ρ v }).toList → ∃ e0 ∈ E.toList, e0.born = e'.born := by
              intro e' hm'
              obtain ⟨j, hj, he'⟩ := List.mem_iff_getElem.1 hm'
              have hje : (E.modify i fun e => { e with key := ren ρ k0, val := ren ρ v })[j]? = some e' := by
                rw [← he', ← Array.getElem?_toList, List.getElem?_eq_getElem hj]
              rw [Array.getElem?_modify] at hje
              split at hje
              · rw [Option.map_eq_some_iff] at hje
                obtain ⟨e0, h0, rfl⟩ := hje
                exact ⟨e0, by rw [← Array.getElem?_toList] at h0; exact List.mem_of_getElem? h0, rfl⟩
              · exact ⟨e', by rw [← Array.getElem?_toList] at hje; exact List.mem_of_getElem? hje, rfl⟩
            have hborn : ((E.modify i fun e => { e with key := ren ρ k0, val := ren ρ v }).toList.map (·.born)) = E.toList.map (·.born) := by
              apply List.ext_getElem?
              intro j
              simp only [List.getElem?_map, Array.getElem?_toList, Array.getElem?_modify]
              split
              · rename_i hij; subst hij; simp [Option.map_map, Function.comp_def]
              · rfl
            have hent : (E.modify i fun e => { e with key := ren ρ k0, val := ren ρ v }).toList.map (fun e => (e.key, e.val)) = (es.set i (k0, v)).map (fun x => (ren ρ x.1, ren ρ x.2)) := by
              apply List.ext_getElem?
              intro j
              simp only [List.getElem?_map, Array.getElem?_toList, Array.getElem?_modify]
              have hj := congrArg (·[j]?) h2
              simp only [List.getElem?_map, Array.getElem?_toList] at hj
              split
              · rename_i hij
                subst hij
                have hlt : i < es.length := by
                  rcases Nat.lt_or_ge i es.length with h | h
                  · exact h
                  · rw [List.getElem?_eq_none h] at hmem; cases hmem
                rw [List.getElem?_set_self hlt, he]; rfl
              · rename_i hij
                rw [List.getElem?_set_ne hij]; exact hj
            obtain ⟨s1, s2⟩ := mapset_sim (lo := lo) (w' := { w with heap := w.heap.setIfInBounds (ρ id).blk (.map (E.modify i fun e => { e with key := ren ρ k0, val := ren ρ v }) clk) }) (es' := es.set i (k0, v)) r.heap hlo hm hg hid.1 h1 g1
              (fun e' hm' => by obtain ⟨e0, h0, hbn⟩ := hkeys e' hm'; rw [← hbn]; exact hb1 e0 h0) (by rw [hborn]; exact hb2) hent
              (fun p hp => (List.mem_or_eq_of_mem_set hp).elim (h3 p) (fun e => by subst e; exact ⟨hkok, hvok⟩)) g2 (by simp) rfl rfl rfl
            exact ⟨ρ, D, _, hexec _ hrun, s1, s2, fun u hu => by cases hu⟩
          · rename_i hf
            cases hv
            have hfk := find_sim (w := w) (E := E.toList) hk hkc h2 hf
            have hrun : (Instr.mapUpdate t (ren ρ (.m id)) (ren ρ k) (ren ρ v)).run P w = .ok () { w with heap := w.heap.setIfInBounds (ρ id).blk (.map (E.push { key := ren ρ k, val := ren ρ v, born := clk }) (clk + 1)) } := by
              simp only [ren, Instr.mapUpdate, Sem.run_bind, run_underlying ht, Result.andThen_ok, hobj, hc, hfk, Option.map_none]
              exact hset _
            obtain ⟨g1, g2⟩ := hhs (.map (E.push { key := ren ρ k, val := ren ρ v, born := clk }) (clk + 1))
            obtain ⟨s1, s2⟩ := mapset_sim (lo := lo) (w' := { w with heap := w.heap.setIfInBounds (ρ id).blk (.map (E.push { key := ren ρ k, val := ren ρ v, born := clk }) (clk + 1)) }) (es' := es ++ [(k, v)]) r.heap hlo hm hg hid.1 h1 g1
              (fun e' hm' => by
                simp only [Array.toList_push, List.mem_append, List.mem_singleton] at hm'
                rcases hm' with hm' | rfl
                · have := hb1 e' hm'; omega
                · exact Nat.lt_succ_self _)
              (by
                simp only [Array.toList_push, List.map_append, List.map_cons, List.map_nil]
                rw [List.nodup_append]
                refine ⟨hb2, by simp, fun p hp q hq => ?_⟩
                simp only [List.mem_singleton] at hq
                subst hq
                obtain ⟨e0, h0, rfl⟩ := List.mem_map.1 hp
                have := hb1 e0 h0; omega)
              (by simp [h2])
              (fun p hp => by
                rcases List.mem_append.1 hp with hp | hp
                · exact h3 p hp
                · simp only [List.mem_singleton] at hp; subst hp; exact ⟨hkok, hvok⟩) g2 (by simp) rfl rfl rfl
            exact ⟨ρ, D, _, hexec _ hrun, s1, s2, fun u hu => by cases hu⟩
          · cases hv
        · cases hv
      · cases hv
    · cases hv
  · cases hv

end
end Go.RI

/- RI: copy; a new map. Conditions: none. -/
namespace Go.RI
open Go
set_option linter.unusedSimpArgs false

section
variable {ds : List Deferred} {P : Program} {G : AHeap} {lo : Nat} {ρ : Ren} {D : Nat → Prop} {n : Nat} {e : Env} {a : Act} {H : AHeap} {w : World}

theorem srcLen_sim {y : AVal} {m : Nat} (hy : ok ρ D y) (h : srcLen y = some m) : (Builtin.lenOf (ren ρ y)).run P w = .ok m w ∧ ∀ esz, (Builtin.firstCells esz 0 (ren ρ y)).run P w = .ok #[] w := by
  cases y <;> simp only [srcLen] at h <;> try (cases h; done)
  case s v =>
    cases h
    refine ⟨by simp [ren, Builtin.lenOf, bytes_size], fun esz => ?_⟩
    have : (ByteArray.mk v.toArray).extract 0 0 = ByteArray.mk #[] := by apply ByteArray.ext; simp [ByteArray.data_extract]
    simp [ren, Builtin.firstCells, this, ByteArray.toList_eq]
  case ns => cases h; exact ⟨by simp [ren, Builtin.lenOf], fun esz => by simp [ren, Builtin.firstCells]⟩
  case es ad => cases h; exact ⟨by simp [ren, Builtin.lenOf], fun esz => by simp [ren, Builtin.firstCells, loadCells, loadCellsFrom]⟩
  case sl id off len cap => cases h; exact ⟨by simp [ren, Builtin.lenOf], fun esz => by simp [ren, Builtin.firstCells, loadCells, loadCellsFrom]⟩
  case fs => simp [ok] at hy

theorem srcCells_sim (h : HRel G ρ D H w) {y : AVal} {esz k : Nat} {ys : List AVal} (hy : ok ρ D y) (hc : srcCells H esz k y = some ys) :
    (Builtin.firstCells esz k (ren ρ y)).run P w = .ok (renL ρ ys).toArray w ∧ okL ρ D ys ∧ oneL ys = true := by
  cases y <;> simp only [srcCells] at hc <;> try (cases hc; done)
  case s v =>
    cases hc
    obtain ⟨b1, b2⟩ := bytes_ok (ρ := ρ) (D := D) (v.take k)
    refine ⟨?_, b1, b2⟩
    have : ((ByteArray.mk v.toArray).extract 0 k).toList = v.take k := by rw [ByteArray.toList_eq]; simp [ByteArray.data_extract]
    rw [bytes_ren]
    have h2 : ((ByteArray.mk v.toArray).extract 0 k).data = (v.take k).toArray := by
      apply Array.ext'; rw [← ByteArray.toList_eq, this]
    simp [ren, Builtin.firstCells, h2]
  case sl id off len cap =>
    simp only [ok] at hy
    obtain ⟨h1, h2, h3, h4⟩ := rowAt_sim (P := P) h hy.1 hc
    exact ⟨by simp [ren, Builtin.firstCells, h4], h2, h3⟩
  case fs => simp [ok] at hy

theorem cpy_sim (r : Rel P G ds ρ D n e a H w) (hlo : G.next ≤ lo) {o : Oper} {t t2 el : TypeId} {x y : Operand} (ho : o.op = .call { callee := .builtin .copy, args := #[x, y], argTypes := #[t, t2] }) (ht : P.underlying t = some (.slice el)) {i : TypeInfo} (hi : P.info? el = some i)
    {u v z : AVal} {H' : AHeap} (hx : a.eval x = ren ρ u) (hu : ok ρ D u) (hy : a.eval y = ren ρ v) (hv : ok ρ D v) (hs : cpyV lo H i.size u v = some (z, H')) : Sim G lo ρ D H w ((execOp a.eval o).run P w) (some z) H' := by
  have hexec : ∀ V w', (Builtin.copy_ #[t, t2] o.type #[ren ρ u, ren ρ v]).run P w = .ok V w' → (execOp a.eval o).run P w = .ok (.value V) w' := by
    intro V w' hr
    simp [execOp, ho, resolve, hx, hy, invoke, builtin, hr]
  unfold cpyV at hs
  split at hs
  · cases hs
  · rename_i m hm
    obtain ⟨s1, s2⟩ := srcLen_sim (P := P) (w := w) hv hm
    cases u <;> simp only at hs <;> try (cases hs; done)
    case ns =>
      cases hs
      refine sim_val r.heap (hexec _ _ ?_) (by simp [ok])
      simp [Builtin.copy_, ren, run_underlying ht, s1, run_sizeOf' hi, s2, goInt]
    case es ad =>
      cases hs
      refine sim_val r.heap (hexec _ _ ?_) (by simp [ok])
      simp [Builtin.copy_, ren, run_underlying ht, s1, run_sizeOf' hi, s2, goInt, storeCells]
    case sl id off len cap =>
      simp only [ok] at hu
      split at hs
      · rename_i h0
        cases hs
        refine sim_val r.heap (hexec _ _ ?_) (by simp [ok])
        have h0' : m.min len = 0 := h0
        simp [Builtin.copy_, ren, run_underlying ht, s1, run_sizeOf' hi, h0', s2, goInt, storeCells]
      · rename_i h0
        split at hs
        · cases hs
        · rename_i ys hys
          split at hs
          · rename_i hid
            split at hs
            · rename_i cs esz' ro hg
              split at hs
              · rename_i hc
                obtain ⟨rfl, hyl, hoff⟩ := hc
                cases hs
                obtain ⟨c1, c2, c3⟩ := srcCells_sim (P := P) r.heap hv hys
                have hcc := r.heap.cells id cs esz' false hu.1 hg
                obtain ⟨C, el', fz, hb, hsz, hget, hfz⟩ := hcc.at_
                have hl2 := hcc.len
                obtain ⟨w', hrun, hb', hoth, hsize, hos, htp, hout⟩ := run_storeCells (P := P) (off := (ρ id).base + off) (e := el') (fz := fz) (renL ρ ys) 0 w C hb
                  (oneCell_renL ρ c3) (by rw [renL_length]; omega) (fun o h1 h2 => hfz rfl o (by omega) (by rw [renL_length] at h2; omega))
                obtain ⟨h1, h2⟩ := store_sim (lo := lo) (off := off) r.heap hlo hu.1 hg hid (by omega) c2 c3 hb (by simpa using hb') hoth hsize hos htp hout
                refine ⟨ρ, D, w', hexec _ _ ?_, h1, h2, fun u hu => by cases hu; simp [ok]⟩
                have c1' : (Builtin.firstCells i.size (m.min len) (ren ρ v)).run P w = .ok (renL ρ ys).toArray w := c1
                have hrun' : (storeCells ⟨(ρ id).blk, (ρ id).base + off, none⟩ (renL ρ ys)).run P w = .ok () w' := hrun
                simp [Builtin.copy_, ren, run_underlying ht, s1, run_sizeOf' hi, c1', hrun', goInt]
              · cases hs
            · cases hs
          · cases hs

/-! ### A new map -/
theorem pushmap_sim {w' : World} (h : HRel G ρ D H w) (hw : w'.heap = w.heap.push (.map #[] 0)) (hos : w'.os = w.os) (htp : w'.tape = w.tape) (hout : w'.output = w.output) :
    let L : Loc := ⟨w.heap.size, 0, 0, 1⟩
    Step lo ρ D H w (upd ρ H.next L) (ins D H.next) (H.push (.map [])) w' ∧ HRel G (upd ρ H.next L) (ins D H.next) (H.push (.map [])) w' := by
  intro L
  have hold : ∀ id, D id → ins D H.next id ∧ upd ρ H.next L id = ρ id := fun id hd =>
    ⟨.inr hd, upd_other _ _ (by have := h.lt id hd; omega)⟩
  have hblk : ∀ k, k < w.heap.size → w'.heap[k]? = w.heap[k]? := fun k hk => by rw [hw, Array.getElem?_push, if_neg (by omega)]
  have hgo : ∀ id, id ≠ H.next → (H.push (.map [])).get id = H.get id := fun id hne => by rw [AHeap.get_push, if_neg hne]
  have hgn : (H.push (.map [])).get H.next = some (.map []) := by rw [AHeap.get_push, if_pos rfl]
  have hnew : w'.heap[w.heap.size]? = some (.map #[] 0) := by rw [hw]; simp
  constructor
  · exact {
      old := hold
      new := fun id hd hlt => by rcases hd with rfl | hd; omega; exact hd
      ghost := fun id hlt _ => hgo id (by omega)
      low := fun id _ hlt => hgo id (by omega)
      next := by rw [AHeap.next_push]; omega
      wr := fun id o' hlt _ hg hw => ⟨o', by rw [← hgo id (by omega)]; exact hg, hw⟩
      fresh := fun id o' hd hn hg _ => by
        rcases hd with rfl | hd
        · left; rw [upd_same]; exact Nat.le_refl _
        · have := h.lt id hd; omega
      os := hos
      tape := htp
      output := hout
      froz := frozen_push hw
      size := by rw [hw]; simp
      frame := fun k hk _ => hblk k hk }
  · exact {
      lt := fun id hd => by
        rw [AHeap.next_push]
        rcases hd with rfl | hd
        · omega
        · have := h.lt id hd; omega
      cells := fun id c esz ro hd hg => by
        rcases hd with rfl | hd
        · rw [hgn] at hg; simp at hg
        · have hlt := h.lt id hd
          rw [hgo id (by omega)] at hg
          have := (h.cells id c esz ro hd hg).move hold (w' := w') (hblk _ (h.blk_lt hd hg))
          rw [upd_other _ _ (by omega)]; exact this
      maps := fun id es hd hg => by
        rcases hd with rfl | hd
        · rw [hgn] at hg
          simp only [Option.some.injEq, AObj.map.injEq] at hg
          subst hg
          rw [upd_same]
          exact ⟨⟨#[], 0, hnew, by simp, by simp, by simp⟩, by simp⟩
        · have hlt := h.lt id hd
          rw [hgo id (by omega)] at hg
          have := (h.maps id es hd hg).move hold (w' := w') (hblk _ (h.blk_lt hd hg))
          rw [upd_other _ _ (by omega)]; exact this
      apart := fun i j o o' hi hj hne hgi hgj hwr => by
        rcases hi with rfl | hi
        · rcases hj with rfl | hj
          · exact (hne rfl).elim
          · have hlt := h.lt j hj
            rw [hgo j (by omega)] at hgj
            have := h.blk_lt hj hgj
            rw [upd_same, upd_other _ _ (by omega)]
            show w.heap.size ≠ _
            omega
        · have hlti := h.lt i hi
          rw [hgo i (by omega)] at hgi
          rcases hj with rfl | hj
          · have := h.blk_lt hi hgi
            rw [upd_same, upd_other _ _ (by omega)]
            show _ ≠ w.heap.size
            omega
          · have hltj := h.lt j hj
            rw [hgo j (by omega)] at hgj
            rw [upd_other _ _ (by omega), upd_other _ _ (by omega)]
            exact h.apart i j o o' hi hj hne hgi hgj hwr
      glob := fun g hg => by
        obtain ⟨h1, h2, h3, h4⟩ := h.glob g hg
        have := h.gnext
        rw [upd_other _ _ (by omega)]
        exact ⟨.inr h1, h2, h3, (hgo g (by omega)).trans h4⟩
      gnext := by have := h.gnext; rw [AHeap.next_push]; omega
      wf := fun j hj => by rw [AHeap.next_push] at hj; rw [hgo j (by omega)]; exact h.wf j (by omega) }

theorem mkmap_sim (r : Rel P G ds ρ D n e a H w) {o : Oper} {t : TypeId} (ho : o.op = .makeMap t none) : Sim G lo ρ D H w ((execOp a.eval o).run P w) (some (.m H.next)) (H.push (.map [])) := by
  obtain ⟨h1, h2⟩ := pushmap_sim (lo := lo) (w' := { w with heap := w.heap.push (.map #[] 0) }) r.heap rfl rfl rfl rfl
  refine ⟨_, _, _, ?_, h1, h2, fun u hu => ?_⟩
  · simp [execOp, ho, Instr.makeMap, newObj, ren, upd_same, Sem.run]
  · cases hu; simp [ok, ins]

end
end Go.RI

/- RI, part M: the machine's operations turned, all that are no call; one theorem for all of them. Conditions: none. -/
namespace Go.RI
open Go

def isCO : Opd → Bool
  | .c _ => true
  | _ => false

def trBin (P : Program) (op : BinOp) (t : TypeId) (x y : Opd) : Option IOp :=
  match op with
  | .eql | .neq =>
    match P.underlying t with
    | some .bool => some (.eqB (op == .neq) x y)
    | some (.int _) => some (.bin op x y)
    | some .string => some (.bin op x y)
    | some (.slice _) => some (.eqNil 0 (op == .neq) x y)
    | some (.pointer _) => some (.eqNil 1 (op == .neq) x y)
    | some (.map _ _) => some (.eqNil 2 (op == .neq) x y)
    | some (.func _ _ _) => some (.eqNil 3 (op == .neq) x y)
    | some (.interface _) => if isCO y = true then some (.eqNil 4 (op == .neq) x y) else none
    | some (.struct fs) => if P.stoodInHeld t = false ∧ P.eqGuardType P.depth t = false then (flatF P fs.toList 0).map fun ks => .eqAg ks (op == .neq) x y else none
    | some (.array _ _) => if P.eqGuardType P.depth t = false then match keyKs P t with
        | some (true, ks) => some (.eqAg ks (op == .neq) x y)
        | _ => none
      else none
    | _ => none
  | _ => some (.bin op x y)

def aggSz (d : TypeDesc) (i : TypeInfo) : Option Nat := if isAggD d then some i.size else none

def isIntD : TypeDesc → Bool
  | .int _ => true
  | _ => false

def strSl : TypeDesc → Bool
  | .string | .slice _ => true
  | _ => false

/-- A call of a built-in function. -/
def trBi (P : Program) (c : Call) : Option IOp :=
  match c with
  | { callee := .builtin .len, args := ⟨[x]⟩, argTypes := ⟨[t]⟩ } => match P.underlying t, trOpd P x with
    | some (.slice _), some x => some (.lenk 0 x)
    | some .string, some x => some (.lenk 1 x)
    | some (.map _ _), some x => some (.lenk 2 x)
    | _, _ => none
  | { callee := .builtin .append, args := ⟨[x, y]⟩, argTypes := ⟨[t, t2]⟩ } => match P.underlying t, P.underlying t2 with
    | some (.slice el), some d2 => match P.info? el, zeroC P el, trOpd P x, trOpd P y with
      | some i, some z, some x, some y => if z.length = i.size then (if strSl d2 = true then some (.app i.size i.bytes x y) else if isIntD d2 = true then some (.appz i.size i.bytes z x y) else none) else none
      | _, _, _, _ => none
    | _, _ => none
  | { callee := .builtin .copy, args := ⟨[x, y]⟩, argTypes := ⟨[t, _]⟩ } => match P.underlying t with
    | some (.slice el) => match P.info? el, trOpd P x, trOpd P y with
      | some i, some x, some y => some (.cpy i.size x y)
      | _, _, _ => none
    | _ => none
  | { callee := .builtin .max, args := ⟨x :: l⟩, argTypes := _ } => match trOpd P x, trOpds P l with
    | some x, some l => some (.mm true x l)
    | _, _ => none
  | { callee := .builtin .min, args := ⟨x :: l⟩, argTypes := _ } => match trOpd P x, trOpds P l with
    | some x, some l => some (.mm false x l)
    | _, _ => none
  | _ => none

/-- An operation that is no call, turned. -/
def trOp (P : Program) (o : Oper) : Option IOp :=
  match o.op with
  | .move x => (trOpd P x).map .mov
  | .assign x => (trOpd P x).map .mov
  | .pick c a b => match trOpd P c, trOpd P a, trOpd P b with
    | some c, some a, some b => some (.pick c a b)
    | _, _, _ => none
  | .alloc t => (zeroC P t).map .alloc
  | .box _ x => (trOpd P x).map .box
  | .build t parts => match placeOf P t, zeroC P t with
    | some pl, some z => (trParts P pl parts.toList).map (.build z)
    | _, _ => none
  | .buildSlice t len parts => match P.underlying t with
    | some (.slice el) => match P.info? el, zeroC P el with
      | some i, some z => if z.length = i.size ∧ len * i.size ≤ 16777216 then (trParts P (fun j => some (j * i.size, i.size)) parts.toList).map (.bsl i.size len (repCells z len)) else none
      | _, _ => none
    | _ => none
  | .load t x => match P.underlying t, P.info? t, trOpd P x with
    | some d, some i, some x => some (.load (aggSz d i) x)
    | _, _, _ => none
  | .store t x v => match P.info? t, trOpd P x, trOpd P v with
    | some i, some x, some v => some (.store i.size x v)
    | _, _, _ => none
  | .nilCheck x => (trOpd P x).map .nck
  | .binOp op t x y _ => match trOpd P x, trOpd P y with
    | some x, some y => trBin P op t x y
    | _, _ => none
  | .unOp op _ x => (trOpd P x).map (.un op)
  | .convert s t x => match P.underlying s, P.underlying t, trOpd P x with
    | some (.int _), some (.int k), some x => some (.conv k x)
    | some .string, some .string, some x => some (.same x)
    | some .string, some (.slice el), some x => match P.underlying el with
      | some (.int .u8) => some (.s2b x)
      | _ => none
    | _, _, _ => none
  | .makeInterface t x => match P.underlying t with
    | some (.interface _) => none
    | some _ => (trOpd P x).map (.iface t)
    | none => none
  | .makeFunc (.func f) fst cap => match trOpds P fst.toList, trOpds P cap.toList with
    | some a, some b => some (.mkf f a b)
    | _, _ => none
  | .makeSlice t l c => match P.underlying t with
    | some (.slice el) => match P.info? el, zeroC P el, trOpd P l, trOpd P c with
      | some i, some z, some l, some c => if z.length = i.size then some (.mksl i.size i.bytes z l c) else none
      | _, _, _, _ => none
    | _ => none
  | .slice t x lo hi mx => match P.underlying t with
    | some .string => match mx, trOpd P x, trOpt P lo, trOpt P hi with
      | none, some x, some lo, some hi => some (.slS x lo hi)
      | _, _, _, _ => none
    | some (.slice el) => match P.info? el, trOpd P x, trOpt P lo, trOpt P hi, trOpt P mx with
      | some i, some x, some lo, some hi, some mx => some (.sl i.size x lo hi mx)
      | _, _, _, _, _ => none
    | _ => none
  | .fieldAddr s x j => match P.underlying s with
    | some (.struct fs) => match fs[j]? with
      | some f => match P.info? f.type, trOpd P x with
        | some i, some x => if i.size ≠ 0 then some (.off x f.offset) else none
        | _, _ => none
      | none => none
    | _ => none
  | .field s x j => match P.underlying s with
    | some (.struct fs) => match fs[j]? with
      | some f => match P.underlying f.type, P.info? f.type, trOpd P x with
        | some d, some i, some x => some (.part (aggSz d i) x f.offset)
        | _, _, _ => none
      | none => none
    | _ => none
  | .indexAddr t x y => match P.underlying t with
    | some (.slice el) => match P.info? el, trOpd P x, trOpd P y with
      | some i, some x, some y => some (.iaddr i.size x y)
      | _, _, _ => none
    | some (.array len el) => match P.info? el, trOpd P x, trOpd P y with
      | some i, some x, some y => some (.iaddrA i.size len x y)
      | _, _, _ => none
    | _ => none
  | .index t x y => match P.underlying t with
    | some .string => match trOpd P x, trOpd P y with
      | some x, some y => some (.idxS x y)
      | _, _ => none
    | some (.array len el) => match P.underlying el, P.info? el, trOpd P x, trOpd P y with
      | some d, some i, some x, some y => some (.idxA (aggSz d i) i.size len x y)
      | _, _, _, _ => none
    | _ => none
  | .extract x k => (trOpd P x).map (.ext · k)
  | .makeMap _ none => some .mkmap
  | .mapUpdate t x y z => match P.underlying t with
    | some (.map kt _) => match keyKs P kt, trOpd P x, trOpd P y, trOpd P z with
      | some (ag, ks), some x, some y, some z => some (.mapup ag ks x y z)
      | _, _, _, _ => none
    | _ => none
  | .insert t x y z => match P.underlying t with
    | some (.map kt _) => match keyKs P kt, trOpd P x, trOpd P y, trOpd P z with
      | some (ag, ks), some x, some y, some z => some (.mapup ag ks x y z)
      | _, _, _, _ => none
    | _ => none
  | .lookup t x y okf => match P.underlying t with
    | some (.map kt el) => match keyKs P kt, zeroV P el, trOpd P x, trOpd P y with
      | some (ag, ks), some z, some x, some y => some (.look ag ks z okf x y)
      | _, _, _, _ => none
    | _ => none
  | .call c => trBi P c
  | _ => none

end Go.RI

