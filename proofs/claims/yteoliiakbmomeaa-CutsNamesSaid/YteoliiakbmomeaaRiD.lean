/- RI, part D: rows of cells in the machine's heap: reading, writing, making them; the relation behind each. Conditions: none. -/
import Derived.Test.YteoliiakbmomeaaRiC
import Derived.Laws.Cells
namespace Go.RI
open Go

theorem ren_cells (ρ : Ren) (v : AVal) : (ren ρ v).cells = (renL ρ v.cells).toArray := by
  cases v <;> simp [AVal.cells, Value.cells, ren, renL]

theorem renL_length (ρ : Ren) (l : List AVal) : (renL ρ l).length = l.length := by simp [renL_map]

theorem renL_get (ρ : Ren) (l : List AVal) (j : Nat) : (renL ρ l)[j]? = (l[j]?).map (ren ρ) := by simp [renL_map]

theorem okL_get {ρ : Ren} {D : Nat → Prop} {l : List AVal} (h : okL ρ D l) {j : Nat} {v : AVal} (hj : l[j]? = some v) : ok ρ D v :=
  okL_iff.1 h v (List.mem_of_getElem? hj)

theorem okL_sub {ρ : Ren} {D : Nat → Prop} {l l' : List AVal} (h : okL ρ D l) (hs : ∀ v ∈ l', v ∈ l) : okL ρ D l' :=
  okL_iff.2 fun v hv => okL_iff.1 h v (hs v hv)

theorem okL_append {ρ : Ren} {D : Nat → Prop} {l l' : List AVal} (h : okL ρ D l) (h' : okL ρ D l') : okL ρ D (l ++ l') :=
  okL_iff.2 fun v hv => by
    rcases List.mem_append.1 hv with h1 | h1
    · exact okL_iff.1 h v h1
    · exact okL_iff.1 h' v h1

theorem cells_ok {ρ : Ren} {D : Nat → Prop} {v : AVal} (h : ok ρ D v) : okL ρ D v.cells := by
  cases v <;> simp_all [AVal.cells, ok, okL]
theorem cells_one {ρ : Ren} {D : Nat → Prop} {v : AVal} (h : ok ρ D v) (ht : v.tup = false) : oneL v.cells = true := by
  cases v <;> simp_all [AVal.cells, ok, oneL, one, AVal.tup]
theorem oneL_append {l l' : List AVal} (h : oneL l = true) (h' : oneL l' = true) : oneL (l ++ l') = true :=
  oneL_iff.2 fun v hv => by
    rcases List.mem_append.1 hv with h1 | h1
    · exact oneL_iff.1 h v h1
    · exact oneL_iff.1 h' v h1
theorem oneL_sub {l l' : List AVal} (h : oneL l = true) (hs : ∀ v ∈ l', v ∈ l) : oneL l' = true := oneL_iff.2 fun v hv => oneL_iff.1 h v (hs v hv)
theorem oneCell_ren (ρ : Ren) {v : AVal} (h : one v = true) : (ren ρ v).oneCell' = true := by
  cases v <;> simp_all [one, ren, Value.oneCell']
theorem oneCell_renL (ρ : Ren) {l : List AVal} (h : oneL l = true) : ∀ v ∈ renL ρ l, v.oneCell' = true := by
  intro v hv
  rw [renL_map] at hv
  obtain ⟨a, ha, rfl⟩ := List.mem_map.1 hv
  exact oneCell_ren ρ (oneL_iff.1 h a ha)

theorem putCells_length : ∀ (l : List AVal) (cs : List AVal) (off : Nat), (putCells cs off l).length = cs.length := by
  intro l
  induction l with
  | nil => intro cs off; rfl
  | cons v l ih => intro cs off; simp [putCells, ih]

theorem putCells_get : ∀ (l : List AVal) (cs : List AVal) (off j : Nat), off + l.length ≤ cs.length →
    (putCells cs off l)[j]? = if off ≤ j ∧ j < off + l.length then l[j - off]? else cs[j]? := by
  intro l
  induction l with
  | nil => intro cs off j h; simp [putCells]; omega
  | cons v l ih =>
    intro cs off j h
    simp only [List.length_cons] at h
    simp only [putCells, List.length_cons]
    rw [ih _ _ _ (by simp; omega)]
    by_cases h1 : off + 1 ≤ j ∧ j < off + 1 + l.length
    · rw [if_pos h1, if_pos (by omega)]
      have : j - off = (j - (off + 1)) + 1 := by omega
      rw [this, List.getElem?_cons_succ]
    · rw [if_neg h1]
      by_cases h2 : j = off
      · subst h2
        rw [if_pos (by omega), List.getElem?_set_self (by omega)]
        simp
      · rw [if_neg (by omega), List.getElem?_set_ne (by omega)]

theorem putCells_mem {l cs : List AVal} {off : Nat} {v : AVal} (h : off + l.length ≤ cs.length) (hv : v ∈ putCells cs off l) : v ∈ cs ∨ v ∈ l := by
  obtain ⟨j, hj, he⟩ := List.mem_iff_getElem.1 hv
  have := putCells_get l cs off j h
  rw [List.getElem?_eq_getElem hj, he] at this
  by_cases hc : off ≤ j ∧ j < off + l.length
  · rw [if_pos hc] at this; exact .inr (List.mem_of_getElem? this.symm)
  · rw [if_neg hc] at this; exact .inl (List.mem_of_getElem? this.symm)

/-! ### The machine's rows -/
def putArr (C : Array Value) (off : Nat) : List Value → Array Value
  | [] => C
  | v :: l => putArr (C.setIfInBounds off v) (off + 1) l

theorem putArr_size : ∀ (l : List Value) (C : Array Value) (off : Nat), (putArr C off l).size = C.size := by
  intro l
  induction l with
  | nil => intro C off; rfl
  | cons v l ih => intro C off; simp [putArr, ih]

theorem putArr_get : ∀ (l : List Value) (C : Array Value) (off j : Nat), off + l.length ≤ C.size →
    (putArr C off l)[j]? = if off ≤ j ∧ j < off + l.length then l[j - off]? else C[j]? := by
  intro l
  induction l with
  | nil => intro C off j h; simp [putArr]; omega
  | cons v l ih =>
    intro C off j h
    simp only [List.length_cons] at h
    simp only [putArr, List.length_cons]
    rw [ih _ _ _ (by simp; omega)]
    by_cases h1 : off + 1 ≤ j ∧ j < off + 1 + l.length
    · rw [if_pos h1, if_pos (by omega)]
      have : j - off = (j - (off + 1)) + 1 := by omega
      rw [this, List.getElem?_cons_succ]
    · rw [if_neg h1]
      by_cases h2 : j = off
      · subst h2
        rw [if_pos (by omega)]
        simp [Array.getElem?_setIfInBounds]; omega
      · rw [if_neg (by omega), Array.getElem?_setIfInBounds, if_neg (by omega)]

theorem addr_add (b o n : Nat) : (Addr.add ⟨b, o, none⟩ n) = ⟨b, o + n, none⟩ := by
  unfold Addr.add
  by_cases h : n = 0 <;> simp [h]

theorem cell?_at {w : World} {b : Nat} {C : Array Value} {e : TypeId} {fz : Nat × Nat} (hb : w.heap[b]? = some (.cells C e fz)) (o : Nat) : w.cell? ⟨b, o, none⟩ = C[o]? := by
  simp [World.cell?, hb]

theorem frozen?_at {w : World} {b : Nat} {C : Array Value} {e : TypeId} {fz : Nat × Nat} (hb : w.heap[b]? = some (.cells C e fz)) (o : Nat) :
    w.frozen? ⟨b, o, none⟩ = (decide (fz.1 ≤ o) && decide (o < fz.2)) := by
  simp [World.frozen?, hb]

theorem setCell_heap {w : World} {b o : Nat} (v : Value) : (w.setCell ⟨b, o, none⟩ v).heap =
    w.heap.modify b (fun x => match x with | .cells c elem fz => .cells (c.setIfInBounds o v) elem fz | y => y) := by
  simp only [World.setCell]
  congr 1

/-- Cells are loaded. -/
theorem run_loadCells {P : Program} {w : World} {b off : Nat} {C : Array Value} {e : TypeId} {fz : Nat × Nat} (hb : w.heap[b]? = some (.cells C e fz)) :
    ∀ (l : List Value) (i : Nat) (acc : Array Value), (∀ j v, l[j]? = some v → C[off + i + j]? = some v) →
      (loadCellsFrom ⟨b, off, none⟩ i l.length acc).run P w = .ok (acc ++ l.toArray) w := by
  intro l
  induction l with
  | nil => intro i acc _; simp [loadCellsFrom]
  | cons v l ih =>
    intro i acc h
    have h0 : w.cell? ⟨b, off + i, none⟩ = some v := by rw [cell?_at hb]; exact h 0 v rfl
    simp only [List.length_cons, loadCellsFrom, addr_add, Sem.run_bind, run_load, h0, Result.andThen_ok]
    rw [ih (i + 1) _ (fun j u hu => by have := h (j + 1) u (by simpa using hu); rw [← this]; congr 1; omega)]
    simp

/-- Cells are stored. -/
theorem run_storeCells {P : Program} {b off : Nat} {e : TypeId} {fz : Nat × Nat} :
    ∀ (l : List Value) (i : Nat) (w : World) (C : Array Value), w.heap[b]? = some (.cells C e fz) → (∀ v ∈ l, v.oneCell' = true) → off + i + l.length ≤ C.size →
      (∀ o, off + i ≤ o → o < off + i + l.length → (decide (fz.1 ≤ o) && decide (o < fz.2)) = false) →
      ∃ w', (storeCells ⟨b, off, none⟩ l i).run P w = .ok () w' ∧ w'.heap[b]? = some (.cells (putArr C (off + i) l) e fz) ∧ (∀ k, k ≠ b → w'.heap[k]? = w.heap[k]?) ∧
        w'.heap.size = w.heap.size ∧ w'.os = w.os ∧ w'.tape = w.tape ∧ w'.output = w.output := by
  intro l
  induction l with
  | nil => intro i w C hb _ _ _; exact ⟨w, by simp [storeCells], by simpa [putArr] using hb, fun _ _ => rfl, rfl, rfl, rfl, rfl⟩
  | cons v l ih =>
    intro i w C hb hone hsz hfz
    simp only [List.length_cons] at hsz hfz
    have hlt : off + i < C.size := by omega
    have h0 : w.cell? ⟨b, off + i, none⟩ = some C[off + i] := by rw [cell?_at hb, Array.getElem?_eq_getElem hlt]
    have hf : w.frozen? ⟨b, off + i, none⟩ = false := by rw [frozen?_at hb]; exact hfz _ (by omega) (by omega)
    have hv : v.oneCell' = true := hone v (by simp)
    have hw1 : (w.setCell ⟨b, off + i, none⟩ v).heap[b]? = some (.cells (C.setIfInBounds (off + i) v) e fz) := by
      rw [setCell_heap, Array.getElem?_modify]; simp [hb]
    obtain ⟨w', hr, hb', ho, hs, hos, htp, hout⟩ := ih (i + 1) (w.setCell ⟨b, off + i, none⟩ v) _ hw1 (fun u hu => hone u (by simp [hu])) (by simp; omega)
      (fun o h1 h2 => hfz o (by omega) (by omega))
    refine ⟨w', ?_, ?_, ?_, ?_, ?_, ?_, ?_⟩
    · have hrun : ((store ⟨b, off + i, none⟩ v).run P w) = .ok () (w.setCell ⟨b, off + i, none⟩ v) := by
        rw [run_store P w _ _ _ hv, h0]; simp [hf]
      simp only [storeCells, addr_add, Sem.run_bind, hrun, Result.andThen_ok]
      exact hr
    · rw [hb']; simp only [putArr]; congr 2
    · intro k hk; rw [ho k hk, setCell_heap, Array.getElem?_modify, if_neg (by omega)]
    · rw [hs]; simp [World.setCell]
    · rw [hos]; rfl
    · rw [htp]; rfl
    · rw [hout]; rfl

end Go.RI
