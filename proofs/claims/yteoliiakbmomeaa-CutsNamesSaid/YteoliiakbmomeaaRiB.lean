/- RI, part B: how the interpreter's heap and slots stand to the machine's, and what a step may turn. Conditions: none. -/
import Derived.Test.YteoliiakbmomeaaRiA
namespace Go.RI
open Go

/-! ### Slots -/
abbrev Env := List (Nat × AVal)
def Env.get : Env → Nat → Option AVal
  | [], _ => none
  | (k, v) :: e, t => if k = t then some v else Env.get e t
def Env.del : Env → Nat → Env
  | [], _ => []
  | (k, v) :: e, t => if k = t then Env.del e t else (k, v) :: Env.del e t
/-- The slots stand in their order. -/
def Env.put : Env → Nat → AVal → Env
  | [], t, v => [(t, v)]
  | (k, u) :: e, t, v => if t < k then (t, v) :: (k, u) :: e else if t = k then (t, v) :: e else (k, u) :: Env.put e t v
def Env.kill (e : Env) : List Nat → Env
  | [] => e
  | t :: l => Env.kill (e.del t) l

theorem Env.get_del (e : Env) (t s : Nat) : (e.del t).get s = if s = t then none else e.get s := by
  induction e with
  | nil => simp [Env.del, Env.get]
  | cons x e ih =>
    obtain ⟨k, v⟩ := x
    by_cases h : k = t
    · subst h; simp only [Env.del, if_true, ih]
      by_cases hs : s = k
      · simp [hs]
      · have : ¬ k = s := fun e => hs e.symm
        simp [hs, Env.get, this]
    · simp only [Env.del, h, if_false, Env.get]
      by_cases hk : k = s
      · subst hk; simp [h]
      · simp [hk, ih]
theorem Env.get_put (e : Env) (t s : Nat) (v : AVal) : (e.put t v).get s = if s = t then some v else e.get s := by
  induction e with
  | nil =>
    simp only [Env.put, Env.get]
    by_cases h : t = s
    · subst h; simp
    · have : ¬ s = t := fun e => h e.symm
      simp [h, this]
  | cons x e ih =>
    obtain ⟨k, u⟩ := x
    simp only [Env.put]
    by_cases h1 : t < k
    · rw [if_pos h1]
      simp only [Env.get]
      by_cases h : t = s
      · subst h; simp
      · have : ¬ s = t := fun e => h e.symm
        simp [h, this]
    · rw [if_neg h1]
      by_cases h2 : t = k
      · subst h2
        rw [if_pos rfl]
        simp only [Env.get]
        by_cases h : t = s
        · subst h; simp
        · have : ¬ s = t := fun e => h e.symm
          simp [h, this]
      · rw [if_neg h2]
        simp only [Env.get, ih]
        by_cases h : k = s
        · subst h
          have : ¬ k = t := fun e => h2 e.symm
          simp [this]
        · simp [h]
theorem Env.get_kill (l : List Nat) : ∀ (e : Env) (s : Nat) (v : AVal), (e.kill l).get s = some v → e.get s = some v := by
  induction l with
  | nil => intro e s v h; exact h
  | cons t l ih =>
    intro e s v h
    have := ih _ _ _ h
    rw [Env.get_del] at this
    by_cases hs : s = t
    · simp [hs] at this
    · simpa [hs] using this

/-! ### The relation -/
structure CellsAt (ρ : Ren) (D : Nat → Prop) (L : Loc) (c : List AVal) (esz : Nat) (ro : Bool) (w : World) : Prop where
  esz_eq : L.esz = esz
  len : c.length ≤ L.ext
  at_ : ∃ C e fz, w.heap[L.blk]? = some (.cells C e fz) ∧ L.base + L.ext ≤ C.size ∧ (∀ j v, c[j]? = some v → C[L.base + j]? = some (ren ρ v)) ∧
    (ro = false → ∀ o, L.base ≤ o → o < L.base + L.ext → (decide (fz.1 ≤ o) && decide (o < fz.2)) = false)
  ok : okL ρ D c
  one : oneL c = true

def MapAt (ρ : Ren) (D : Nat → Prop) (L : Loc) (es : List (AVal × AVal)) (w : World) : Prop :=
  (∃ E k, w.heap[L.blk]? = some (.map E k) ∧ (∀ e ∈ E.toList, e.born < k) ∧ (E.toList.map (·.born)).Nodup ∧ E.toList.map (fun e => (e.key, e.val)) = es.map (fun x => (ren ρ x.1, ren ρ x.2))) ∧ ∀ x ∈ es, ok ρ D x.1 ∧ ok ρ D x.2

/-- Behind the next name there is nothing. -/
def Wf (H : AHeap) : Prop := ∀ id, H.next ≤ id → H.get id = none

structure HRel (G : AHeap) (ρ : Ren) (D : Nat → Prop) (H : AHeap) (w : World) : Prop where
  lt : ∀ id, D id → id < H.next
  cells : ∀ id c esz ro, D id → H.get id = some (.cells c esz ro) → CellsAt ρ D (ρ id) c esz ro w
  maps : ∀ id es, D id → H.get id = some (.map es) → MapAt ρ D (ρ id) es w
  apart : ∀ id id' o o', D id → D id' → id ≠ id' → H.get id = some o → H.get id' = some o' → o.wr = true → (ρ id).blk ≠ (ρ id').blk
  glob : ∀ g, g < G.next → D g ∧ (ρ g).blk = g ∧ (ρ g).base = 0 ∧ H.get g = G.get g
  gnext : G.next ≤ H.next
  wf : Wf H

mutual
def noId : AVal → Bool
  | .p _ _ => false
  | .sl _ _ _ _ => false
  | .fn _ a c => noIdL a && noIdL c
  | .ag l => noIdL l && oneL l
  | .tu l => noIdL l
  | .m _ => false
  | .ifc _ v => noId v
  | .fs _ _ _ _ => false
  | .fp _ => false
  | _ => true
def noIdL : List AVal → Bool
  | [] => true
  | v :: l => noId v && noIdL l
end

mutual
theorem noId_ok (ρ : Ren) (D : Nat → Prop) : ∀ (v : AVal), noId v = true → ok ρ D v
  | .b _, _ | .i _ _, _ | .s _, _ | .np, _ | .ns, _ | .nf, _ | .nm, _ | .nif, _ | .es _, _ => by simp [ok]
  | .p _ _, h | .sl _ _ _ _, h | .m _, h | .fs _ _ _ _, h | .fp _, h => by simp [noId] at h
  | .fn _ a c, h => by simp only [noId, Bool.and_eq_true] at h; simp only [ok]; exact ⟨noIdL_ok ρ D a h.1, noIdL_ok ρ D c h.2⟩
  | .ag l, h => by simp only [noId, Bool.and_eq_true] at h; simp only [ok]; exact ⟨noIdL_ok ρ D l h.1, h.2⟩
  | .tu l, h => by simp only [noId] at h; simp only [ok]; exact noIdL_ok ρ D l h
  | .ifc _ v, h => by simp only [noId] at h; simp only [ok]; exact noId_ok ρ D v h
theorem noIdL_ok (ρ : Ren) (D : Nat → Prop) : ∀ (l : List AVal), noIdL l = true → okL ρ D l
  | [], _ => by simp [okL]
  | v :: l, h => by simp only [noIdL, Bool.and_eq_true] at h; simp only [okL]; exact ⟨noId_ok ρ D v h.1, noIdL_ok ρ D l h.2⟩
end

/-- What holds the package-level variables: rows of plain data that may not be written. -/
def GOk (G : AHeap) : Prop := ∀ g o, g < G.next → G.get g = some o → ∃ c esz, o = .cells c esz true ∧ noIdL c = true ∧ oneL c = true

/-- What a step of the interpreter, and of the machine beside it, may turn. 'lo': names below it stay as they are. -/
structure Step (lo : Nat) (ρ : Ren) (D : Nat → Prop) (H : AHeap) (w : World) (ρ' : Ren) (D' : Nat → Prop) (H' : AHeap) (w' : World) : Prop where
  old : ∀ id, D id → D' id ∧ ρ' id = ρ id
  new : ∀ id, D' id → id < H.next → D id
  ghost : ∀ id, id < H.next → ¬ D id → H'.get id = H.get id
  low : ∀ id, id < lo → id < H.next → H'.get id = H.get id
  next : H.next ≤ H'.next
  wr : ∀ id o', id < H.next → D id → H'.get id = some o' → o'.wr = true → ∃ o, H.get id = some o ∧ o.wr = true
  fresh : ∀ id o', D' id → H.next ≤ id → H'.get id = some o' → o'.wr = true → w.heap.size ≤ (ρ' id).blk ∨ ∃ id0 o, D id0 ∧ H.get id0 = some o ∧ o.wr = true ∧ (ρ id0).blk = (ρ' id).blk
  os : w'.os = w.os
  tape : w'.tape = w.tape
  output : w'.output = w.output
  froz : ∀ ad, ad.block < w.heap.size → w'.frozen? ad = w.frozen? ad
  size : w.heap.size ≤ w'.heap.size
  frame : ∀ k, k < w.heap.size → (∀ id o, D id → H.get id = some o → o.wr = true → (ρ id).blk ≠ k) → w'.heap[k]? = w.heap[k]?

theorem Step.refl (lo : Nat) (ρ : Ren) (D : Nat → Prop) (H : AHeap) (w : World) (lt : ∀ id, D id → id < H.next) : Step lo ρ D H w ρ D H w where
  old := fun _ h => ⟨h, rfl⟩
  new := fun _ h _ => h
  ghost := fun _ _ _ => rfl
  low := fun _ _ _ => rfl
  next := Nat.le_refl _
  wr := fun _ o' _ _ h hw => ⟨o', h, hw⟩
  fresh := fun id _ hd hn _ _ => absurd (lt id hd) (by omega)
  os := rfl
  tape := rfl
  output := rfl
  froz := fun _ _ => rfl
  size := Nat.le_refl _
  frame := fun _ _ _ => rfl

theorem Step.trans {lo : Nat} {ρ ρ1 ρ2 : Ren} {D D1 D2 : Nat → Prop} {H H1 H2 : AHeap} {w w1 w2 : World}
    (a : Step lo ρ D H w ρ1 D1 H1 w1) (b : Step lo ρ1 D1 H1 w1 ρ2 D2 H2 w2) : Step lo ρ D H w ρ2 D2 H2 w2 where
  old := fun id h => ⟨(b.old id (a.old id h).1).1, ((b.old id (a.old id h).1).2).trans (a.old id h).2⟩
  new := fun id h hlt => a.new id (b.new id h (Nat.lt_of_lt_of_le hlt a.next)) hlt
  ghost := fun id hlt hd => (b.ghost id (Nat.lt_of_lt_of_le hlt a.next) (fun h => hd (a.new id h hlt))).trans (a.ghost id hlt hd)
  low := fun id hl hlt => (b.low id hl (Nat.lt_of_lt_of_le hlt a.next)).trans (a.low id hl hlt)
  next := Nat.le_trans a.next b.next
  wr := fun id o' hlt hd h hw =>
    let ⟨o1, h1, w1⟩ := b.wr id o' (Nat.lt_of_lt_of_le hlt a.next) (a.old id hd).1 h hw
    a.wr id o1 hlt hd h1 w1
  fresh := by
    intro id o' hd hn h hw
    by_cases hlt : id < H1.next
    · have hd1 := b.new id hd hlt
      obtain ⟨o1, h1, hw1⟩ := b.wr id o' hlt hd1 h hw
      rw [(b.old id hd1).2]
      exact a.fresh id o1 hd1 hn h1 hw1
    · rcases b.fresh id o' hd (by omega) h hw with h1 | ⟨id0, o, hd0, hg, hw0, hb⟩
      · exact .inl (Nat.le_trans a.size h1)
      · by_cases hlt0 : id0 < H.next
        · have hd0' := a.new id0 hd0 hlt0
          obtain ⟨o1, h1, hw1⟩ := a.wr id0 o hlt0 hd0' hg hw0
          exact .inr ⟨id0, o1, hd0', h1, hw1, by rw [← hb, (a.old id0 hd0').2]⟩
        · rw [← hb]
          exact a.fresh id0 o hd0 (by omega) hg hw0
  os := b.os.trans a.os
  tape := b.tape.trans a.tape
  output := b.output.trans a.output
  froz := fun ad h => (b.froz ad (Nat.lt_of_lt_of_le h a.size)).trans (a.froz ad h)
  size := Nat.le_trans a.size b.size
  frame := by
    intro k hk hn
    rw [b.frame k (Nat.lt_of_lt_of_le hk a.size), a.frame k hk hn]
    intro id o hd hg hw hb
    by_cases hlt : id < H.next
    · have hd' := a.new id hd hlt
      obtain ⟨o1, h1, hw1⟩ := a.wr id o hlt hd' hg hw
      exact hn id o1 hd' h1 hw1 (by rw [← hb, (a.old id hd').2])
    · rcases a.fresh id o hd (by omega) hg hw with h1 | ⟨id0, o0, hd0, hg0, hw0, hb0⟩
      · omega
      · exact hn id0 o0 hd0 hg0 hw0 (hb0.trans hb)

/-- The step's two renamings are the same on old values. -/
theorem Step.ren {lo : Nat} {ρ ρ' : Ren} {D D' : Nat → Prop} {H H' : AHeap} {w w' : World} (s : Step lo ρ D H w ρ' D' H' w') {v : AVal} (h : ok ρ D v) : ren ρ' v = ren ρ v :=
  ren_congr (fun id hd => (s.old id hd).2) v h
theorem Step.ok {lo : Nat} {ρ ρ' : Ren} {D D' : Nat → Prop} {H H' : AHeap} {w w' : World} (s : Step lo ρ D H w ρ' D' H' w') {v : AVal} (h : ok ρ D v) : ok ρ' D' v :=
  ok_mono s.old v h

/-! ### The frame's slots -/
structure ARel (ds : List Deferred) (ρ : Ren) (D : Nat → Prop) (n : Nat) (e : Env) (a : Act) : Prop where
  size : a.tmps.size = n
  defers : a.defers = ds
  get : ∀ t v, e.get t = some v → t < n ∧ a.tmps.getD t undef = ren ρ v ∧ ok ρ D v

theorem ARel.step {ds : List Deferred} {lo n : Nat} {ρ ρ' : Ren} {D D' : Nat → Prop} {H H' : AHeap} {w w' : World} {e : Env} {a : Act} (h : ARel ds ρ D n e a) (s : Step lo ρ D H w ρ' D' H' w') : ARel ds ρ' D' n e a where
  size := h.size
  defers := h.defers
  get := fun t v hv => let ⟨h1, h2, h3⟩ := h.get t v hv; ⟨h1, by rw [h2, s.ren h3], s.ok h3⟩

theorem ARel.put {ds : List Deferred} {n : Nat} {ρ : Ren} {D : Nat → Prop} {e : Env} {a : Act} (h : ARel ds ρ D n e a) {t : Nat} {v : AVal} (ht : t < n) (hv : ok ρ D v) : ARel ds ρ D n (e.put t v) (a.put (some t) (ren ρ v)) where
  size := by simp [Act.put, h.size]
  defers := h.defers
  get := by
    intro s u hu
    rw [Env.get_put] at hu
    by_cases hs : s = t
    · subst hs
      simp only [if_true, Option.some.injEq] at hu
      subst hu
      refine ⟨ht, ?_, hv⟩
      have : s < a.tmps.size := by rw [h.size]; exact ht
      simp [Act.put, Array.getD, this]
    · simp only [hs, if_false] at hu
      obtain ⟨h1, h2, h3⟩ := h.get s u hu
      refine ⟨h1, ?_, h3⟩
      have hne : t ≠ s := fun e => hs e.symm
      rw [← h2]
      simp [Act.put, Array.getD_eq_getD_getElem?, hne]

theorem ARel.del {ds : List Deferred} {n : Nat} {ρ : Ren} {D : Nat → Prop} {e : Env} {a : Act} (h : ARel ds ρ D n e a) {t : Nat} (v : Value) : ARel ds ρ D n (e.del t) (a.put (some t) v) where
  size := by simp [Act.put, h.size]
  defers := h.defers
  get := by
    intro s u hu
    rw [Env.get_del] at hu
    by_cases hs : s = t
    · simp [hs] at hu
    · simp only [hs, if_false] at hu
      obtain ⟨h1, h2, h3⟩ := h.get s u hu
      refine ⟨h1, ?_, h3⟩
      have hne : t ≠ s := fun e => hs e.symm
      rw [← h2]
      simp [Act.put, Array.getD_eq_getD_getElem?, hne]

theorem ARel.none {ds : List Deferred} {n : Nat} {ρ : Ren} {D : Nat → Prop} {e : Env} {a : Act} (h : ARel ds ρ D n e a) (v : Value) : ARel ds ρ D n e (a.put none v) := h

theorem ARel.kill {ds : List Deferred} {n : Nat} {ρ : Ren} {D : Nat → Prop} {e : Env} {a : Act} (h : ARel ds ρ D n e a) (l : List Nat) : ARel ds ρ D n (e.kill l) a where
  size := h.size
  defers := h.defers
  get := fun t v hv => h.get t v (Env.get_kill l e t v hv)

end Go.RI
