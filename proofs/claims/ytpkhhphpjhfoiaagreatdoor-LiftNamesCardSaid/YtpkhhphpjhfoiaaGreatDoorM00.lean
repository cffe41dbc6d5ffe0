import Derived.Calls
import Derived.Orders
import Derived.KernelRfl
import Derived.Laws.Cells
import Derived.Laws.StructEq
import Derived.Laws.Tables
import Derived.ChangeKeysEq
/- RI, part A: values of the interpreter, their renaming to the machine's values, the interpreter's heap. Conditions: none. -/
namespace Go.RI
open Go
set_option linter.unusedSimpArgs false

/-- A value of the interpreter: as the machine's, but its addresses are names of the interpreter's own objects. A slice's capacity is known or not. 'fs', 'fp': a slice, a pointer of what nobody writes, by what it reads (not at this level: see part T). 'es': an empty slice that is no nil, its place told outright. -/
inductive AVal where
  | b (v : Bool)
  | i (k : IntKind) (n : Int)
  | s (v : List UInt8)
  | np
  | p (id off : Nat)
  | ns
  | sl (id off len : Nat) (cap : Option Nat)
  | fn (f : Fn) (fst cap : List AVal)
  | nf
  | ag (l : List AVal)
  | tu (l : List AVal)
  | nm
  | m (id : Nat)
  | ifc (t : TypeId) (v : AVal)
  | nif
  | fs (tmp full : Bool) (len : Nat) (l : List AVal)
  | fp (l : List AVal)
  | es (a : Addr)
  deriving Inhabited

/-- Where an object of the interpreter lies in the machine's heap. -/
structure Loc where
  blk : Nat
  base : Nat
  ext : Nat
  esz : Nat

abbrev Ren := Nat → Loc

mutual
def ren (ρ : Ren) : AVal → Value
  | .b v => .bool v
  | .i k n => .int k n
  | .s v => .string ⟨v.toArray⟩
  | .np => .pointer none
  | .p id off => .pointer (some ⟨(ρ id).blk, (ρ id).base + off, none⟩)
  | .ns => .slice none 0 0
  | .sl id off len cap => .slice (some ⟨(ρ id).blk, (ρ id).base + off, none⟩) len (cap.getD (((ρ id).ext - off) / (ρ id).esz))
  | .fn f a c => .func f (renL ρ a).toArray (renL ρ c).toArray
  | .nf => .nilFunc
  | .ag l => .agg (renL ρ l).toArray
  | .tu l => .tuple (renL ρ l).toArray
  | .nm => .map none
  | .m id => .map (some (ρ id).blk)
  | .ifc t v => .iface t (ren ρ v)
  | .nif => .nilIface
  | .fs _ _ _ _ => .slice none 0 0
  | .fp _ => .pointer none
  | .es a => .slice (some a) 0 0
def renL (ρ : Ren) : List AVal → List Value
  | [] => []
  | v :: l => ren ρ v :: renL ρ l
end

theorem renL_map (ρ : Ren) (l : List AVal) : renL ρ l = l.map (ren ρ) := by
  induction l with
  | nil => rfl
  | cons v l ih => simp [renL, ih]

/-- Does it fill one cell? -/
def one : AVal → Bool
  | .ag _ => false
  | .tu _ => false
  | _ => true
def oneL : List AVal → Bool
  | [] => true
  | v :: l => one v && oneL l

theorem oneL_iff {l : List AVal} : oneL l = true ↔ ∀ v ∈ l, one v = true := by
  induction l with
  | nil => simp [oneL]
  | cons v l ih => simp [oneL, ih]

mutual
/-- Every name in the value is one of the named objects; a slice of unknown capacity has at least its length. -/
def ok (ρ : Ren) (D : Nat → Prop) : AVal → Prop
  | .p id _ => D id
  | .sl id off len cap => D id ∧ (cap = none → len ≤ ((ρ id).ext - off) / (ρ id).esz)
  | .fn _ a c => okL ρ D a ∧ okL ρ D c
  | .ag l => okL ρ D l ∧ oneL l = true
  | .tu l => okL ρ D l
  | .m id => D id
  | .ifc _ v => ok ρ D v
  | .fs _ _ _ _ => False
  | .fp _ => False
  | _ => True
def okL (ρ : Ren) (D : Nat → Prop) : List AVal → Prop
  | [] => True
  | v :: l => ok ρ D v ∧ okL ρ D l
end

theorem okL_iff {ρ : Ren} {D : Nat → Prop} {l : List AVal} : okL ρ D l ↔ ∀ v ∈ l, ok ρ D v := by
  induction l with
  | nil => simp [okL]
  | cons v l ih => simp [okL, ih]

mutual
theorem ren_congr {ρ ρ' : Ren} {D : Nat → Prop} (h : ∀ id, D id → ρ' id = ρ id) : ∀ (v : AVal), ok ρ D v → ren ρ' v = ren ρ v
  | .b _, _ | .i _ _, _ | .s _, _ | .np, _ | .ns, _ | .nf, _ | .nm, _ | .nif, _ | .es _, _ => by simp [ren]
  | .p id _, hv => by simp only [ok] at hv; simp [ren, h id hv]
  | .sl id _ _ _, hv => by simp only [ok] at hv; simp [ren, h id hv.1]
  | .fn _ a c, hv => by simp only [ok] at hv; simp [ren, renL_congr h a hv.1, renL_congr h c hv.2]
  | .ag l, hv => by simp only [ok] at hv; simp [ren, renL_congr h l hv.1]
  | .tu l, hv => by simp only [ok] at hv; simp [ren, renL_congr h l hv]
  | .m id, hv => by simp only [ok] at hv; simp [ren, h id hv]
  | .ifc _ v, hv => by simp only [ok] at hv; simp [ren, ren_congr h v hv]
  | .fs _ _ _ _, hv | .fp _, hv => by simp [ok] at hv
theorem renL_congr {ρ ρ' : Ren} {D : Nat → Prop} (h : ∀ id, D id → ρ' id = ρ id) : ∀ (l : List AVal), okL ρ D l → renL ρ' l = renL ρ l
  | [], _ => rfl
  | v :: l, hv => by simp only [okL] at hv; simp [renL, ren_congr h v hv.1, renL_congr h l hv.2]
end

mutual
theorem ok_mono {ρ ρ' : Ren} {D D' : Nat → Prop} (h : ∀ id, D id → D' id ∧ ρ' id = ρ id) : ∀ (v : AVal), ok ρ D v → ok ρ' D' v
  | .b _, _ | .i _ _, _ | .s _, _ | .np, _ | .ns, _ | .nf, _ | .nm, _ | .nif, _ | .es _, _ => by simp [ok]
  | .p id _, hv => by simp only [ok] at *; exact (h id hv).1
  | .sl id _ _ _, hv => by simp only [ok] at *; rw [(h id hv.1).2]; exact ⟨(h id hv.1).1, hv.2⟩
  | .fn _ a c, hv => by simp only [ok] at *; exact ⟨okL_mono h a hv.1, okL_mono h c hv.2⟩
  | .ag l, hv => by simp only [ok] at *; exact ⟨okL_mono h l hv.1, hv.2⟩
  | .tu l, hv => by simp only [ok] at *; exact okL_mono h l hv
  | .m id, hv => by simp only [ok] at *; exact (h id hv).1
  | .ifc _ v, hv => by simp only [ok] at *; exact ok_mono h v hv
  | .fs _ _ _ _, hv | .fp _, hv => by simp [ok] at hv
theorem okL_mono {ρ ρ' : Ren} {D D' : Nat → Prop} (h : ∀ id, D id → D' id ∧ ρ' id = ρ id) : ∀ (l : List AVal), okL ρ D l → okL ρ' D' l
  | [], _ => by simp [okL]
  | v :: l, hv => by simp only [okL] at *; exact ⟨ok_mono h v hv.1, okL_mono h l hv.2⟩
end

/-! ### A table by numbers -/
inductive Trie (α : Type) where
  | e
  | n (l : Trie α) (o : Option α) (r : Trie α)

/-- By the recursors themselves: the kernel runs these. -/
noncomputable def Trie.get {α : Type} (t : Trie α) : Nat → Option α :=
  @Trie.rec α (fun _ => Nat → Option α) (fun _ => none)
    (fun _ o _ gl gr k => @Nat.rec (fun _ => Option α) o (fun k' _ => @Nat.rec (fun _ => Option α) (gl (Nat.div k' 2)) (fun _ _ => gr (Nat.div k' 2)) (Nat.mod k' 2)) k) t

/-- 'f': rounds; it needs no more than the key and one. -/
noncomputable def Trie.put {α : Type} (v : Option α) (f : Nat) : Trie α → Nat → Trie α :=
  @Nat.rec (fun _ => Trie α → Nat → Trie α) (fun t _ => t)
    (fun _ pf t k => @Trie.rec α (fun _ => Trie α)
      (@Nat.rec (fun _ => Trie α) (.n .e v .e) (fun k' _ => @Nat.rec (fun _ => Trie α) (.n (pf .e (Nat.div k' 2)) none .e) (fun _ _ => .n .e none (pf .e (Nat.div k' 2))) (Nat.mod k' 2)) k)
      (fun l o r _ _ => @Nat.rec (fun _ => Trie α) (.n l v r) (fun k' _ => @Nat.rec (fun _ => Trie α) (.n (pf l (Nat.div k' 2)) o r) (fun _ _ => .n l o (pf r (Nat.div k' 2))) (Nat.mod k' 2)) k) t) f

theorem Trie.get_e {α : Type} (k : Nat) : (Trie.e : Trie α).get k = none := rfl
theorem Trie.get_n0 {α : Type} (l r : Trie α) (o : Option α) : (Trie.n l o r).get 0 = o := rfl
theorem Trie.get_n {α : Type} (l r : Trie α) (o : Option α) (k : Nat) : (Trie.n l o r).get (k + 1) = if k % 2 = 0 then l.get (k / 2) else r.get (k / 2) := by
  show (@Nat.rec (fun _ => Option α) (l.get (Nat.div k 2)) (fun _ _ => r.get (Nat.div k 2)) (Nat.mod k 2)) = _
  have hm : Nat.mod k 2 = k % 2 := rfl
  rw [hm]
  rcases Nat.mod_two_eq_zero_or_one k with h | h <;> rw [h] <;> rfl
theorem Trie.put_0 {α : Type} (v : Option α) (t : Trie α) (k : Nat) : t.put v 0 k = t := rfl
theorem Trie.put_e0 {α : Type} (v : Option α) (f : Nat) : (Trie.e : Trie α).put v (f + 1) 0 = .n .e v .e := rfl
theorem Trie.put_n0 {α : Type} (v : Option α) (f : Nat) (l r : Trie α) (o : Option α) : (Trie.n l o r).put v (f + 1) 0 = .n l v r := rfl
theorem Trie.put_e {α : Type} (v : Option α) (f k : Nat) : (Trie.e : Trie α).put v (f + 1) (k + 1) = if k % 2 = 0 then .n (Trie.e.put v f (k / 2)) none .e else .n .e none (Trie.e.put v f (k / 2)) := by
  show (@Nat.rec (fun _ => Trie α) (.n (Trie.e.put v f (Nat.div k 2)) none .e) (fun _ _ => .n .e none (Trie.e.put v f (Nat.div k 2))) (Nat.mod k 2)) = _
  have hm : Nat.mod k 2 = k % 2 := rfl
  rw [hm]
  rcases Nat.mod_two_eq_zero_or_one k with h | h <;> rw [h] <;> rfl
theorem Trie.put_n {α : Type} (v : Option α) (f k : Nat) (l r : Trie α) (o : Option α) : (Trie.n l o r).put v (f + 1) (k + 1) = if k % 2 = 0 then .n (l.put v f (k / 2)) o r else .n l o (r.put v f (k / 2)) := by
  show (@Nat.rec (fun _ => Trie α) (.n (l.put v f (Nat.div k 2)) o r) (fun _ _ => .n l o (r.put v f (Nat.div k 2))) (Nat.mod k 2)) = _
  have hm : Nat.mod k 2 = k % 2 := rfl
  rw [hm]
  rcases Nat.mod_two_eq_zero_or_one k with h | h <;> rw [h] <;> rfl

theorem Trie.get_put {α : Type} (v : Option α) : ∀ (f : Nat) (t : Trie α) (k j : Nat), k < f → (t.put v f k).get j = if j = k then v else t.get j := by
  intro f
  induction f with
  | zero => intro t k j h; omega
  | succ f ih =>
    intro t k j h
    cases k with
    | zero =>
      cases j with
      | zero => cases t <;> simp [put_e0, put_n0, get_n0]
      | succ j => cases t <;> simp [put_e0, put_n0, get_n, get_e]
    | succ k =>
      have ihk := fun (t : Trie α) (i : Nat) => ih t (k / 2) i (by omega)
      cases j with
      | zero => cases t <;> simp only [put_e, put_n] <;> split <;> simp [get_n0, get_e]
      | succ j =>
        simp only [Nat.add_right_cancel_iff]
        cases t with
        | e =>
          simp only [put_e]
          split <;> simp only [get_n, ihk, get_e]
          · by_cases c : j % 2 = 0
            · rw [if_pos c]
              by_cases e : j = k
              · rw [if_pos (by omega), if_pos e]
              · rw [if_neg (by omega), if_neg e]
            · rw [if_neg c, if_neg (by omega)]
          · by_cases c : j % 2 = 0
            · rw [if_pos c, if_neg (by omega)]
            · rw [if_neg c]
              by_cases e : j = k
              · rw [if_pos (by omega), if_pos e]
              · rw [if_neg (by omega), if_neg e]
        | n l o r =>
          simp only [put_n]
          split <;> simp only [get_n, ihk]
          · by_cases c : j % 2 = 0
            · rw [if_pos c, if_pos c]
              by_cases e : j = k
              · rw [if_pos (by omega), if_pos e]
              · rw [if_neg (by omega), if_neg e]
            · rw [if_neg c, if_neg c, if_neg (by omega)]
          · by_cases c : j % 2 = 0
            · rw [if_pos c, if_pos c, if_neg (by omega)]
            · rw [if_neg c, if_neg c]
              by_cases e : j = k
              · rw [if_pos (by omega), if_pos e]
              · rw [if_neg (by omega), if_neg e]

/-! ### The heap -/
/-- An object: a row of cells ('ro': it may not be written), a map's entries. -/
inductive AObj where
  | cells (c : List AVal) (esz : Nat) (ro : Bool)
  | map (es : List (AVal × AVal))

structure AHeap where
  next : Nat
  tbl : Trie AObj

noncomputable def AHeap.get (H : AHeap) (n : Nat) : Option AObj := H.tbl.get n
noncomputable def AHeap.put (H : AHeap) (n : Nat) (o : Option AObj) : AHeap := { H with tbl := H.tbl.put o (n + 1) n }
noncomputable def AHeap.push (H : AHeap) (o : AObj) : AHeap := { next := H.next + 1, tbl := H.tbl.put (some o) (H.next + 1) H.next }

theorem AHeap.get_put (H : AHeap) (n j : Nat) (o : Option AObj) : (H.put n o).get j = if j = n then o else H.get j :=
  Trie.get_put _ _ _ _ _ (Nat.lt_succ_self n)
theorem AHeap.get_push (H : AHeap) (j : Nat) (o : AObj) : (H.push o).get j = if j = H.next then some o else H.get j :=
  Trie.get_put _ _ _ _ _ (Nat.lt_succ_self H.next)
theorem AHeap.next_put (H : AHeap) (n : Nat) (o : Option AObj) : (H.put n o).next = H.next := rfl
theorem AHeap.next_push (H : AHeap) (o : AObj) : (H.push o).next = H.next + 1 := rfl

/-- May it be written? -/
def AObj.wr : AObj → Bool
  | .cells _ _ ro => !ro
  | .map _ => true

end Go.RI

/- RI, part B: how the interpreter's heap and slots stand to the machine's, and what a step may turn. Conditions: none. -/
namespace Go.RI
open Go

/-! ### Slots -/
abbrev Env := List (Nat × AVal)
def Env.get : Env → Nat → Option AVal
  | [], _ => none
  | (k, v) :: e, t => if k = t then some v else Env.get e t
def Env.del : Env → Nat → Env
  | [], _ => []
  | (k, v) :: e, t => if k = t then Env.del e t else (k, v) :: Env.del e t
/-- The slots stand in their order. -/
def Env.put : Env → Nat → AVal → Env
  | [], t, v => [(t, v)]
  | (k, u) :: e, t, v => if t < k then (t, v) :: (k, u) :: e else if t = k then (t, v) :: e else (k, u) :: Env.put e t v
def Env.kill (e : Env) : List Nat → Env
  | [] => e
  | t :: l => Env.kill (e.del t) l

theorem Env.get_del (e : Env) (t s : Nat) : (e.del t).get s = if s = t then none else e.get s := by
  induction e with
  | nil => simp [Env.del, Env.get]
  | cons x e ih =>
    obtain ⟨k, v⟩ := x
    by_cases h : k = t
    · subst h; simp only [Env.del, if_true, ih]
      by_cases hs : s = k
      · simp [hs]
      · have : ¬ k = s := fun e => hs e.symm
        simp [hs, Env.get, this]
    · simp only [Env.del, h, if_false, Env.get]
      by_cases hk : k = s
      · subst hk; simp [h]
      · simp [hk, ih]
theorem Env.get_put (e : Env) (t s : Nat) (v : AVal) : (e.put t v).get s = if s = t then some v else e.get s := by
  induction e with
  | nil =>
    simp only [Env.put, Env.get]
    by_cases h : t = s
    · subst h; simp
    · have : ¬ s = t := fun e => h e.symm
      simp [h, this]
  | cons x e ih =>
    obtain ⟨k, u⟩ := x
    simp only [Env.put]
    by_cases h1 : t < k
    · rw [if_pos h1]
      simp only [Env.get]
      by_cases h : t = s
      · subst h; simp
      · have : ¬ s = t := fun e => h e.symm
        simp [h, this]
    · rw [if_neg h1]
      by_cases h2 : t = k
      · subst h2
        rw [if_pos rfl]
        simp only [Env.get]
        by_cases h : t = s
        · subst h; simp
        · have : ¬ s = t := fun e => h e.symm
          simp [h, this]
      · rw [if_neg h2]
        simp only [Env.get, ih]
        by_cases h : k = s
        · subst h
          have : ¬ k = t := fun e => h2 e.symm
          simp [this]
        · simp [h]
theorem Env.get_kill (l : List Nat) : ∀ (e : Env) (s : Nat) (v : AVal), (e.kill l).get s = some v → e.get s = some v := by
  induction l with
  | nil => intro e s v h; exact h
  | cons t l ih =>
    intro e s v h
    have := ih _ _ _ h
    rw [Env.get_del] at this
    by_cases hs : s = t
    · simp [hs] at this
    · simpa [hs] using this

/-! ### The relation -/
structure CellsAt (ρ : Ren) (D : Nat → Prop) (L : Loc) (c : List AVal) (esz : Nat) (ro : Bool) (w : World) : Prop where
  esz_eq : L.esz = esz
  len : c.length ≤ L.ext
  at_ : ∃ C e fz, w.heap[L.blk]? = some (.cells C e fz) ∧ L.base + L.ext ≤ C.size ∧ (∀ j v, c[j]? = some v → C[L.base + j]? = some (ren ρ v)) ∧
    (ro = false → ∀ o, L.base ≤ o → o < L.base + L.ext → (decide (fz.1 ≤ o) && decide (o < fz.2)) = false)
  ok : okL ρ D c
  one : oneL c = true

def MapAt (ρ : Ren) (D : Nat → Prop) (L : Loc) (es : List (AVal × AVal)) (w : World) : Prop :=
  (∃ E k, w.heap[L.blk]? = some (.map E k) ∧ (∀ e ∈ E.toList, e.born < k) ∧ (E.toList.map (·.born)).Nodup ∧ E.toList.map (fun e => (e.key, e.val)) = es.map (fun x => (ren ρ x.1, ren ρ x.2))) ∧ ∀ x ∈ es, ok ρ D x.1 ∧ ok ρ D x.2

/-- Behind the next name there is nothing. -/
def Wf (H : AHeap) : Prop := ∀ id, H.next ≤ id → H.get id = none

structure HRel (G : AHeap) (ρ : Ren) (D : Nat → Prop) (H : AHeap) (w : World) : Prop where
  lt : ∀ id, D id → id < H.next
  cells : ∀ id c esz ro, D id → H.get id = some (.cells c esz ro) → CellsAt ρ D (ρ id) c esz ro w
  maps : ∀ id es, D id → H.get id = some (.map es) → MapAt ρ D (ρ id) es w
  apart : ∀ id id' o o', D id → D id' → id ≠ id' → H.get id = some o → H.get id' = some o' → o.wr = true → (ρ id).blk ≠ (ρ id').blk
  glob : ∀ g, g < G.next → D g ∧ (ρ g).blk = g ∧ (ρ g).base = 0 ∧ H.get g = G.get g
  gnext : G.next ≤ H.next
  wf : Wf H

mutual
def noId : AVal → Bool
  | .p _ _ => false
  | .sl _ _ _ _ => false
  | .fn _ a c => noIdL a && noIdL c
  | .ag l => noIdL l && oneL l
  | .tu l => noIdL l
  | .m _ => false
  | .ifc _ v => noId v
  | .fs _ _ _ _ => false
  | .fp _ => false
  | _ => true
def noIdL : List AVal → Bool
  | [] => true
  | v :: l => noId v && noIdL l
end

mutual
theorem noId_ok (ρ : Ren) (D : Nat → Prop) : ∀ (v : AVal), noId v = true → ok ρ D v
  | .b _, _ | .i _ _, _ | .s _, _ | .np, _ | .ns, _ | .nf, _ | .nm, _ | .nif, _ | .es _, _ => by simp [ok]
  | .p _ _, h | .sl _ _ _ _, h | .m _, h | .fs _ _ _ _, h | .fp _, h => by simp [noId] at h
  | .fn _ a c, h => by simp only [noId, Bool.and_eq_true] at h; simp only [ok]; exact ⟨noIdL_ok ρ D a h.1, noIdL_ok ρ D c h.2⟩
  | .ag l, h => by simp only [noId, Bool.and_eq_true] at h; simp only [ok]; exact ⟨noIdL_ok ρ D l h.1, h.2⟩
  | .tu l, h => by simp only [noId] at h; simp only [ok]; exact noIdL_ok ρ D l h
  | .ifc _ v, h => by simp only [noId] at h; simp only [ok]; exact noId_ok ρ D v h
theorem noIdL_ok (ρ : Ren) (D : Nat → Prop) : ∀ (l : List AVal), noIdL l = true → okL ρ D l
  | [], _ => by simp [okL]
  | v :: l, h => by simp only [noIdL, Bool.and_eq_true] at h; simp only [okL]; exact ⟨noId_ok ρ D v h.1, noIdL_ok ρ D l h.2⟩
end

/-- What holds the package-level variables: rows of plain data that may not be written. -/
def GOk (G : AHeap) : Prop := ∀ g o, g < G.next → G.get g = some o → ∃ c esz, o = .cells c esz true ∧ noIdL c = true ∧ oneL c = true

/-- What a step of the interpreter, and of the machine beside it, may turn. 'lo': names below it stay as they are. -/
structure Step (lo : Nat) (ρ : Ren) (D : Nat → Prop) (H : AHeap) (w : World) (ρ' : Ren) (D' : Nat → Prop) (H' : AHeap) (w' : World) : Prop where
  old : ∀ id, D id → D' id ∧ ρ' id = ρ id
  new : ∀ id, D' id → id < H.next → D id
  ghost : ∀ id, id < H.next → ¬ D id → H'.get id = H.get id
  low : ∀ id, id < lo → id < H.next → H'.get id = H.get id
  next : H.next ≤ H'.next
  wr : ∀ id o', id < H.next → D id → H'.get id = some o' → o'.wr = true → ∃ o, H.get id = some o ∧ o.wr = true
  fresh : ∀ id o', D' id → H.next ≤ id → H'.get id = some o' → o'.wr = true → w.heap.size ≤ (ρ' id).blk ∨ ∃ id0 o, D id0 ∧ H.get id0 = some o ∧ o.wr = true ∧ (ρ id0).blk = (ρ' id).blk
  os : w'.os = w.os
  tape : w'.tape = w.tape
  output : w'.output = w.output
  froz : ∀ ad, ad.block < w.heap.size → w'.frozen? ad = w.frozen? ad
  size : w.heap.size ≤ w'.heap.size
  frame : ∀ k, k < w.heap.size → (∀ id o, D id → H.get id = some o → o.wr = true → (ρ id).blk ≠ k) → w'.heap[k]? = w.heap[k]?

theorem Step.refl (lo : Nat) (ρ : Ren) (D : Nat → Prop) (H : AHeap) (w : World) (lt : ∀ id, D id → id < H.next) : Step lo ρ D H w ρ D H w where
  old := fun _ h => ⟨h, rfl⟩
  new := fun _ h _ => h
  ghost := fun _ _ _ => rfl
  low := fun _ _ _ => rfl
  next := Nat.le_refl _
  wr := fun _ o' _ _ h hw => ⟨o', h, hw⟩
  fresh := fun id _ hd hn _ _ => absurd (lt id hd) (by omega)
  os := rfl
  tape := rfl
  output := rfl
  froz := fun _ _ => rfl
  size := Nat.le_refl _
  frame := fun _ _ _ => rfl

theorem Step.trans {lo : Nat} {ρ ρ1 ρ2 : Ren} {D D1 D2 : Nat → Prop} {H H1 H2 : AHeap} {w w1 w2 : World}
    (a : Step lo ρ D H w ρ1 D1 H1 w1) (b : Step lo ρ1 D1 H1 w1 ρ2 D2 H2 w2) : Step lo ρ D H w ρ2 D2 H2 w2 where
  old := fun id h => ⟨(b.old id (a.old id h).1).1, ((b.old id (a.old id h).1).2).trans (a.old id h).2⟩
  new := fun id h hlt => a.new id (b.new id h (Nat.lt_of_lt_of_le hlt a.next)) hlt
  ghost := fun id hlt hd => (b.ghost id (Nat.lt_of_lt_of_le hlt a.next) (fun h => hd (a.new id h hlt))).trans (a.ghost id hlt hd)
  low := fun id hl hlt => (b.low id hl (Nat.lt_of_lt_of_le hlt a.next)).trans (a.low id hl hlt)
  next := Nat.le_trans a.next b.next
  wr := fun id o' hlt hd h hw =>
    let ⟨o1, h1, w1⟩ := b.wr id o' (Nat.lt_of_lt_of_le hlt a.next) (a.old id hd).1 h hw
    a.wr id o1 hlt hd h1 w1
  fresh := by
    intro id o' hd hn h hw
    by_cases hlt : id < H1.next
    · have hd1 := b.new id hd hlt
      obtain ⟨o1, h1, hw1⟩ := b.wr id o' hlt hd1 h hw
      rw [(b.old id hd1).2]
      exact a.fresh id o1 hd1 hn h1 hw1
    · rcases b.fresh id o' hd (by omega) h hw with h1 | ⟨id0, o, hd0, hg, hw0, hb⟩
      · exact .inl (Nat.le_trans a.size h1)
      · by_cases hlt0 : id0 < H.next
        · have hd0' := a.new id0 hd0 hlt0
          obtain ⟨o1, h1, hw1⟩ := a.wr id0 o hlt0 hd0' hg hw0
          exact .inr ⟨id0, o1, hd0', h1, hw1, by rw [← hb, (a.old id0 hd0').2]⟩
        · rw [← hb]
          exact a.fresh id0 o hd0 (by omega) hg hw0
  os := b.os.trans a.os
  tape := b.tape.trans a.tape
  output := b.output.trans a.output
  froz := fun ad h => (b.froz ad (Nat.lt_of_lt_of_le h a.size)).trans (a.froz ad h)
  size := Nat.le_trans a.size b.size
  frame := by
    intro k hk hn
    rw [b.frame k (Nat.lt_of_lt_of_le hk a.size), a.frame k hk hn]
    intro id o hd hg hw hb
    by_cases hlt : id < H.next
    · have hd' := a.new id hd hlt
      obtain ⟨o1, h1, hw1⟩ := a.wr id o hlt hd' hg hw
      exact hn id o1 hd' h1 hw1 (by rw [← hb, (a.old id hd').2])
    · rcases a.fresh id o hd (by omega) hg hw with h1 | ⟨id0, o0, hd0, hg0, hw0, hb0⟩
      · omega
      · exact hn id0 o0 hd0 hg0 hw0 (hb0.trans hb)

/-- The step's two renamings are the same on old values. -/
theorem Step.ren {lo : Nat} {ρ ρ' : Ren} {D D' : Nat → Prop} {H H' : AHeap} {w w' : World} (s : Step lo ρ D H w ρ' D' H' w') {v : AVal} (h : ok ρ D v) : ren ρ' v = ren ρ v :=
  ren_congr (fun id hd => (s.old id hd).2) v h
theorem Step.ok {lo : Nat} {ρ ρ' : Ren} {D D' : Nat → Prop} {H H' : AHeap} {w w' : World} (s : Step lo ρ D H w ρ' D' H' w') {v : AVal} (h : ok ρ D v) : ok ρ' D' v :=
  ok_mono s.old v h

/-! ### The frame's slots -/
structure ARel (ds : List Deferred) (ρ : Ren) (D : Nat → Prop) (n : Nat) (e : Env) (a : Act) : Prop where
  size : a.tmps.size = n
  defers : a.defers = ds
  get : ∀ t v, e.get t = some v → t < n ∧ a.tmps.getD t undef = ren ρ v ∧ ok ρ D v

theorem ARel.step {ds : List Deferred} {lo n : Nat} {ρ ρ' : Ren} {D D' : Nat → Prop} {H H' : AHeap} {w w' : World} {e : Env} {a : Act} (h : ARel ds ρ D n e a) (s : Step lo ρ D H w ρ' D' H' w') : ARel ds ρ' D' n e a where
  size := h.size
  defers := h.defers
  get := fun t v hv => let ⟨h1, h2, h3⟩ := h.get t v hv; ⟨h1, by rw [h2, s.ren h3], s.ok h3⟩

theorem ARel.put {ds : List Deferred} {n : Nat} {ρ : Ren} {D : Nat → Prop} {e : Env} {a : Act} (h : ARel ds ρ D n e a) {t : Nat} {v : AVal} (ht : t < n) (hv : ok ρ D v) : ARel ds ρ D n (e.put t v) (a.put (some t) (ren ρ v)) where
  size := by simp [Act.put, h.size]
  defers := h.defers
  get := by
    intro s u hu
    rw [Env.get_put] at hu
    by_cases hs : s = t
    · subst hs
      simp only [if_true, Option.some.injEq] at hu
      subst hu
      refine ⟨ht, ?_, hv⟩
      have : s < a.tmps.size := by rw [h.size]; exact ht
      simp [Act.put, Array.getD, this]
    · simp only [hs, if_false] at hu
      obtain ⟨h1, h2, h3⟩ := h.get s u hu
      refine ⟨h1, ?_, h3⟩
      have hne : t ≠ s := fun e => hs e.symm
      rw [← h2]
      simp [Act.put, Array.getD_eq_getD_getElem?, hne]

theorem ARel.del {ds : List Deferred} {n : Nat} {ρ : Ren} {D : Nat → Prop} {e : Env} {a : Act} (h : ARel ds ρ D n e a) {t : Nat} (v : Value) : ARel ds ρ D n (e.del t) (a.put (some t) v) where
  size := by simp [Act.put, h.size]
  defers := h.defers
  get := by
    intro s u hu
    rw [Env.get_del] at hu
    by_cases hs : s = t
    · simp [hs] at hu
    · simp only [hs, if_false] at hu
      obtain ⟨h1, h2, h3⟩ := h.get s u hu
      refine ⟨h1, ?_, h3⟩
      have hne : t ≠ s := fun e => hs e.symm
      rw [← h2]
      simp [Act.put, Array.getD_eq_getD_getElem?, hne]

theorem ARel.none {ds : List Deferred} {n : Nat} {ρ : Ren} {D : Nat → Prop} {e : Env} {a : Act} (h : ARel ds ρ D n e a) (v : Value) : ARel ds ρ D n e (a.put none v) := h

theorem ARel.kill {ds : List Deferred} {n : Nat} {ρ : Ren} {D : Nat → Prop} {e : Env} {a : Act} (h : ARel ds ρ D n e a) (l : List Nat) : ARel ds ρ D n (e.kill l) a where
  size := h.size
  defers := h.defers
  get := fun t v hv => h.get t v (Env.get_kill l e t v hv)

end Go.RI

/- RI, part C: the interpreter's operations, and how the machine's are turned into them. Conditions: none. -/
namespace Go.RI
open Go

inductive Opd where
  | t (n : Nat)
  | c (v : AVal)
  | g (n : Nat)
  | f (n : FuncId)
  deriving Inhabited

def Opd.eval (e : Env) : Opd → Option AVal
  | .t n => e.get n
  | .c v => some v
  | .g n => some (.p n 0)
  | .f n => some (.fn (.func n) [] [])

def evals (e : Env) : List Opd → Option (List AVal)
  | [] => some []
  | x :: l =>
    match x.eval e with
    | some v =>
      match evals e l with
      | some vs => some (v :: vs)
      | none => none
    | none => none

inductive IOp where
  | mov (x : Opd)
  | pick (c a b : Opd)
  | bin (op : BinOp) (x y : Opd)
  | eqB (neg : Bool) (x y : Opd)
  | eqNil (k : Nat) (neg : Bool) (x y : Opd)
  | eqAg (ks : List Nat) (neg : Bool) (x y : Opd)
  | un (op : UnOp) (x : Opd)
  | conv (k : IntKind) (x : Opd)
  | same (x : Opd)
  | alloc (z : List AVal)
  | box (x : Opd)
  | build (z : List AVal) (parts : List (Nat × Nat × Opd))
  | bsl (esz len : Nat) (z : List AVal) (parts : List (Nat × Nat × Opd))
  | load (n : Option Nat) (x : Opd)
  | store (n : Nat) (x v : Opd)
  | nck (x : Opd)
  | off (x : Opd) (k : Nat)
  | part (n : Option Nat) (x : Opd) (off : Nat)
  | iaddr (esz : Nat) (x i : Opd)
  | iaddrA (esz len : Nat) (x i : Opd)
  | idxS (x i : Opd)
  | idxA (n : Option Nat) (esz len : Nat) (x i : Opd)
  | ext (x : Opd) (k : Nat)
  | mkf (f : FuncId) (fst cap : List Opd)
  | mksl (esz bytes : Nat) (z : List AVal) (l c : Opd)
  | slS (x : Opd) (lo hi : Option Opd)
  | sl (esz : Nat) (x : Opd) (lo hi mx : Option Opd)
  | slq (esz : Nat) (x : Opd) (lo hi mx : Option Opd)
  | lenk (k : Nat) (x : Opd)
  | app (esz bytes : Nat) (x y : Opd)
  | mm (mx : Bool) (x : Opd) (l : List Opd)
  | iface (t : TypeId) (x : Opd)
  | s2b (x : Opd)
  | bad
  | mkmap
  | mapup (ag : Bool) (ks : List Nat) (x k v : Opd)
  | look (ag : Bool) (ks : List Nat) (z : AVal) (ok : Bool) (x k : Opd)
  | cpy (esz : Nat) (x y : Opd)
  | call (f : FuncId) (args : List Opd)
  | callv (x : Opd) (args : List Opd)
  | appz (esz bytes : Nat) (z : List AVal) (x y : Opd)
  | inv (x : Opd) (tbl : List (Nat × FuncId)) (args : List Opd)
  deriving Inhabited

/-! ### What operations make -/
def AVal.cells : AVal → List AVal
  | .ag l => l
  | v => [v]
def AVal.tup : AVal → Bool
  | .tu _ => true
  | _ => false

def putCells : List AVal → Nat → List AVal → List AVal
  | cs, _, [] => cs
  | cs, off, v :: l => putCells (cs.set off v) (off + 1) l

/-- A part of the wrong size: none. -/
def fillA : List AVal → List (Nat × Nat × AVal) → Option (List AVal)
  | cs, [] => some cs
  | cs, (off, size, v) :: l => if v.tup = false ∧ v.cells.length = size ∧ off + size ≤ cs.length then fillA (putCells cs off v.cells) l else none

def evalParts (e : Env) : List (Nat × Nat × Opd) → Option (List (Nat × Nat × AVal))
  | [] => some []
  | (o, n, x) :: l =>
    match x.eval e with
    | some v =>
      match evalParts e l with
      | some vs => some ((o, n, v) :: vs)
      | none => none
    | none => none

def repCells (z : List AVal) : Nat → List AVal
  | 0 => []
  | n + 1 => z ++ repCells z n

/-- 64 bits, with a sign; the others as the machine has them. -/
def wrapI (k : IntKind) (n : Int) : Int :=
  match k with
  | .i64 =>
    if -9223372036854775808 ≤ n ∧ n ≤ 9223372036854775807 then n else
    let m := n % 18446744073709551616
    if m ≥ 9223372036854775808 then m - 18446744073709551616 else m
  | .u64 => n % 18446744073709551616
  | .u8 => n % 256
  | k => k.wrap n

def binI (op : BinOp) (k : IntKind) (a b : Int) : Option AVal :=
  match op with
  | .add => some (.i k (wrapI k (a + b)))
  | .sub => some (.i k (wrapI k (a - b)))
  | .mul => some (.i k (wrapI k (a * b)))
  | .quo => if b = 0 then none else some (.i k (wrapI k (a.tdiv b)))
  | .rem => if b = 0 then none else some (.i k (a.tmod b))
  | .eql => some (.b (a == b))
  | .neq => some (.b (a != b))
  | .lss => some (.b (decide (a < b)))
  | .leq => some (.b (decide (a ≤ b)))
  | .gtr => some (.b (decide (a > b)))
  | .geq => some (.b (decide (a ≥ b)))
  | .and => some (.i k (k.wrap (BitVec.ofInt k.bits a &&& BitVec.ofInt k.bits b).toNat))
  | .or => some (.i k (k.wrap (BitVec.ofInt k.bits a ||| BitVec.ofInt k.bits b).toNat))
  | .xor => some (.i k (k.wrap (BitVec.ofInt k.bits a ^^^ BitVec.ofInt k.bits b).toNat))
  | .andNot => some (.i k (k.wrap (BitVec.ofInt k.bits a &&& ~~~BitVec.ofInt k.bits b).toNat))
  | _ => none

def ltB : List UInt8 → List UInt8 → Bool
  | _, [] => false
  | [], _ :: _ => true
  | a :: x, b :: y => decide (a < b) || (a == b && ltB x y)

def binS (op : BinOp) (a b : List UInt8) : Option AVal :=
  match op with
  | .add => if (a.length + b.length : Nat) ≤ 9223372036854775807 then some (.s (a ++ b)) else none
  | .eql => some (.b (a == b))
  | .neq => some (.b (!(a == b)))
  | .lss => some (.b (ltB a b))
  | .leq => some (.b (ltB a b || a == b))
  | .gtr => some (.b (!(ltB a b || a == b)))
  | .geq => some (.b (!ltB a b))
  | _ => none

def binV (op : BinOp) : AVal → AVal → Option AVal
  | .i k a, .i k' b =>
    match op with
    | .shl => if b < 0 then none else some (.i k (k.wrap (a * 2 ^ (min b.toNat k.bits))))
    | .shr => if b < 0 then none else some (.i k (a.fdiv (2 ^ (min b.toNat k.bits))))
    | op => if k = k' then binI op k a b else none
  | .s a, .s b => binS op a b
  | _, _ => none

/-- Is it a nil of that kind: 0: a slice, 1: a pointer, 2: a map, 3: a function, 4: an interface value. -/
def nilV : Nat → AVal → Option Bool
  | 0, .ns => some true
  | 0, .es _ => some false
  | 0, .sl .. => some false
  | 0, .fs _ _ len _ => if len = 0 then none else some false
  | 1, .fp _ => some false
  | 1, .np => some true
  | 1, .p .. => some false
  | 2, .nm => some true
  | 2, .m .. => some false
  | 3, .nf => some true
  | 3, .fn .. => some false
  | 4, .nif => some true
  | 4, .ifc _ _ => some false
  | _, _ => none

/-- Are they the same? Two that are both no nil: not told. -/
def eqNilV (k : Nat) (a b : AVal) : Option Bool :=
  match nilV k a, nilV k b with
  | some true, some y => some y
  | some false, some true => some false
  | _, _ => none

/-- Plain cells: 0: a bool, 1: an int, 2: a text. -/
def eqCells : List Nat → List AVal → List AVal → Option Bool
  | [], [], [] => some true
  | 0 :: ks, .b a :: x, .b b :: y => (eqCells ks x y).map ((a == b) && ·)
  | 1 :: ks, .i k a :: x, .i k' b :: y => if k = k' then (eqCells ks x y).map ((a == b) && ·) else none
  | 2 :: ks, .s a :: x, .s b :: y => (eqCells ks x y).map ((a == b) && ·)
  | _, _, _ => none

def unV (op : UnOp) : AVal → Option AVal
  | .i k n => match op with
    | .neg => some (.i k (wrapI k (0 - n)))
    | .xor => some (.i k (k.wrap (BitVec.ofInt k.bits (if k.signed then -1 else k.max) ^^^ BitVec.ofInt k.bits n).toNat))
    | _ => none
  | .b v => match op with
    | .not => some (.b (!v))
    | _ => none
  | _ => none

/-- Cells of a row. -/
noncomputable def rowAt (H : AHeap) (id off n : Nat) : Option (List AVal) :=
  match H.get id with
  | some (.cells c _ _) => if off + n ≤ c.length then some ((c.drop off).take n) else none
  | _ => none

noncomputable def loadV (H : AHeap) (n : Option Nat) : AVal → Option AVal
  | .p id off =>
    match n with
    | none => match H.get id with
      | some (.cells c _ _) => c[off]?
      | _ => none
    | some n => (rowAt H id off n).map .ag
  | .fp l =>
    match n with
    | none => l[0]?
    | some n => if 0 < n ∧ n ≤ l.length then some (.ag (l.take n)) else none
  | _ => none

noncomputable def storeV (lo : Nat) (H : AHeap) (n : Nat) (a v : AVal) : Option AHeap :=
  match a with
  | .p id off =>
    if lo ≤ id then
      match H.get id with
      | some (.cells c esz ro) => if ro = false ∧ v.tup = false ∧ v.cells.length = n ∧ off + n ≤ c.length then some (H.put id (some (.cells (putCells c off v.cells) esz ro))) else none
      | _ => none
    else none
  | _ => none

def partV (n : Option Nat) (off : Nat) : AVal → Option AVal
  | .ag l => match n with
    | none => l[off]?
    | some n => if off + n ≤ l.length then some (.ag ((l.drop off).take n)) else none
  | _ => none

def offV (k : Nat) : AVal → Option AVal
  | .p id off => some (.p id (off + k))
  | .fp l => some (.fp (l.drop k))
  | _ => none

def iaddrV (esz : Nat) : AVal → AVal → Option AVal
  | .sl id off len _, .i _ n => if 0 ≤ n ∧ n < len then some (.p id (off + n.toNat * esz)) else none
  | .fs _ _ len l, .i _ n => if 0 ≤ n ∧ n < len then some (.fp (l.drop (n.toNat * esz))) else none
  | _, _ => none
def iaddrAV (esz len : Nat) : AVal → AVal → Option AVal
  | .p id off, .i _ n => if 0 ≤ n ∧ n < len then some (.p id (off + n.toNat * esz)) else none
  | .fp l, .i _ n => if 0 ≤ n ∧ n < len then some (.fp (l.drop (n.toNat * esz))) else none
  | _, _ => none
def idxSV : AVal → AVal → Option AVal
  | .s v, .i _ n => if 0 ≤ n then (v[n.toNat]?).map (fun b => .i .u8 b.toNat) else none
  | _, _ => none
def idxAV (n : Option Nat) (esz len : Nat) (x : AVal) : AVal → Option AVal
  | .i _ j => if 0 ≤ j ∧ j < len then partV n (j.toNat * esz) x else none
  | _ => none

def extV (k : Nat) : AVal → Option AVal
  | .tu l => l[k]?
  | _ => none

/-- 0: a slice's, 1: a text's, 2: a map's. -/
noncomputable def lenV (H : AHeap) : Nat → AVal → Option Nat
  | 0, .ns => some 0
  | 0, .es _ => some 0
  | 0, .sl _ _ len _ => some len
  | 0, .fs _ _ len _ => some len
  | 1, .s v => some v.length
  | 2, .nm => some 0
  | 2, .m id => match H.get id with
    | some (.map es) => some es.length
    | _ => none
  | _, _ => none

def optI (e : Env) : Option Opd → Option (Option Nat)
  | none => some none
  | some x => match x.eval e with
    | some (.i _ n) => if 0 ≤ n then some (some n.toNat) else none
    | _ => none

def slSV (v : List UInt8) (lo hi : Option Nat) : Option AVal :=
  let h := hi.getD v.length
  let l := lo.getD 0
  if h ≤ v.length ∧ l ≤ h then some (.s ((v.take h).drop l)) else none

/-- A slice of a slice. Where the place of an empty one can't be told it gets a name of its own. -/
noncomputable def slV (esz : Nat) (H : AHeap) (x : AVal) (lo hi mx : Option Nat) : Option (AVal × AHeap) :=
  let l := lo.getD 0
  match x with
  | .ns => if l = 0 ∧ hi.getD 0 = 0 ∧ mx.getD 0 = 0 ∧ (mx.isSome → hi.isSome) then some (.ns, H) else none
  | .es a => if l = 0 ∧ hi.getD 0 = 0 ∧ mx.getD 0 = 0 ∧ (mx.isSome → hi.isSome) then some (.es a, H) else none
  | .sl id off len (some c) =>
    let m := mx.getD c
    let h := hi.getD len
    if m ≤ c ∧ h ≤ m ∧ l ≤ h ∧ (mx.isSome → hi.isSome) then some (.sl id (if m = l then off else off + l * esz) (h - l) (some (m - l)), H) else none
  | .sl id off len none =>
    let h := hi.getD len
    match mx with
    | some m => if m ≤ len ∧ h ≤ m ∧ l ≤ h ∧ hi.isSome then some (.sl id (if m = l then off else off + l * esz) (h - l) (some (m - l)), H) else none
    | none =>
      if h ≤ len ∧ l ≤ h then
        if l = 0 then some (.sl id off h none, H)
        else if l < h then
          match H.get id with
          | some (.cells _ esz' _) => if esz' = esz then some (.sl id (off + l * esz) (h - l) none, H) else none
          | _ => none
        else some (.sl H.next 0 0 none, { H with next := H.next + 1, tbl := H.tbl.put none (H.next + 1) H.next })
      else none
  | .fs tmp full len cs =>
    let h := hi.getD len
    if cs.length = len * esz then
      match mx with
      | some m => if m ≤ len ∧ h ≤ m ∧ l ≤ h ∧ hi.isSome then some (.fs tmp (decide (m = h)) (h - l) ((cs.drop (l * esz)).take ((h - l) * esz)), H) else none
      | none => if h ≤ len ∧ l ≤ h then some (.fs tmp (full && decide (h = len)) (h - l) ((cs.drop (l * esz)).take ((h - l) * esz)), H) else none
    else none
  | _ => none

/-- An empty slice is made of what holds something, and its row's room is not known: it needs a name of its own. -/
def dynS (v : AVal) (l h m : Option Nat) : Bool := match v with
  | .sl _ _ len none => m.isNone && (decide (l.getD 0 ≠ 0) && decide (l.getD 0 = h.getD len))
  | _ => false

/-- What is appended: how many, and the cells. -/
noncomputable def moreV (H : AHeap) (esz : Nat) : AVal → Option (Nat × List AVal)
  | .ns => some (0, [])
  | .es _ => some (0, [])
  | .sl id off len _ => if len = 0 then some (0, []) else (rowAt H id off (len * esz)).map (len, ·)
  | .s v => some (v.length, v.map (fun b => .i .u8 b.toNat))
  | .fs _ _ len l => if len = 0 then some (0, []) else if l.length = len * esz then some (len, l) else none
  | _ => none

/-- append. Where the capacity isn't known the row gets a new name, and the old one is gone. -/
noncomputable def appV (lo : Nat) (H : AHeap) (esz bytes : Nat) (x y : AVal) : Option (AVal × AHeap) :=
  match moreV H esz y with
  | none => none
  | some (n, ys) =>
    if ys.length = n * esz ∧ 0 < esz ∧ 0 < bytes then
      match x with
      | .ns =>
        if n = 0 then some (.ns, H)
        else if (2 * n + 192) * bytes ≤ 281474976710656 then some (.sl H.next 0 n none, H.push (.cells ys esz false)) else none
      | .es a =>
        if n = 0 then some (.es a, H)
        else if (2 * n + 192) * bytes ≤ 281474976710656 then some (.sl H.next 0 n none, H.push (.cells ys esz false)) else none
      | .sl id off len cap =>
        if n = 0 then (match cap with | some c => if len ≤ c then some (x, H) else none | none => some (x, H)) else
        match cap with
        | some c =>
          if len + n ≤ c then
            if lo ≤ id then
              match H.get id with
              | some (.cells cs esz' ro) => if ro = false ∧ off + (len + n) * esz ≤ cs.length then some (.sl id off (len + n) (some c), H.put id (some (.cells (putCells cs (off + len * esz) ys) esz' ro))) else none
              | _ => none
            else none
          else if (2 * (len + n) + 192) * bytes ≤ 281474976710656 then
            if len = 0 then some (.sl H.next 0 n none, H.push (.cells ys esz false)) else
            match rowAt H id off (len * esz) with
            | some xs => some (.sl H.next 0 (len + n) none, H.push (.cells (xs ++ ys) esz false))
            | none => none
          else none
        | none =>
          if lo ≤ id ∧ (2 * (len + n) + 192) * bytes ≤ 281474976710656 then
            match H.get id with
            | some (.cells cs esz' ro) =>
              if ro = false ∧ esz' = esz ∧ off + len * esz ≤ cs.length then some (.sl H.next 0 (len + n) none, (H.put id none).push (.cells ((cs.drop off).take (len * esz) ++ ys) esz false)) else none
            | _ => none
          else none
      | .fs _ full len l =>
        if n = 0 then some (x, H)
        else if full = true ∧ l.length = len * esz ∧ (2 * (len + n) + 192) * bytes ≤ 281474976710656 then some (.sl H.next 0 (len + n) none, H.push (.cells (l ++ ys) esz false))
        else none
      | _ => none
    else none

/-- What is appended is told. -/
noncomputable def appB (lo : Nat) (H : AHeap) (esz bytes n : Nat) (ys : List AVal) : AVal → Option (AVal × AHeap)
  | .ns =>
    if n = 0 then some (.ns, H)
    else if (2 * n + 192) * bytes ≤ 281474976710656 then some (.sl H.next 0 n none, H.push (.cells ys esz false)) else none
  | .es a =>
    if n = 0 then some (.es a, H)
    else if (2 * n + 192) * bytes ≤ 281474976710656 then some (.sl H.next 0 n none, H.push (.cells ys esz false)) else none
  | .sl id off len cap =>
    if n = 0 then (match cap with | some c => if len ≤ c then some (.sl id off len cap, H) else none | none => some (.sl id off len cap, H)) else
    match cap with
    | some c =>
      if len + n ≤ c then
        if lo ≤ id then
          match H.get id with
          | some (.cells cs esz' ro) => if ro = false ∧ off + (len + n) * esz ≤ cs.length then some (.sl id off (len + n) (some c), H.put id (some (.cells (putCells cs (off + len * esz) ys) esz' ro))) else none
          | _ => none
        else none
      else if (2 * (len + n) + 192) * bytes ≤ 281474976710656 then
        if len = 0 then some (.sl H.next 0 n none, H.push (.cells ys esz false)) else
        match rowAt H id off (len * esz) with
        | some xs => some (.sl H.next 0 (len + n) none, H.push (.cells (xs ++ ys) esz false))
        | none => none
      else none
    | none =>
      if lo ≤ id ∧ (2 * (len + n) + 192) * bytes ≤ 281474976710656 then
        match H.get id with
        | some (.cells cs esz' ro) =>
          if ro = false ∧ esz' = esz ∧ off + len * esz ≤ cs.length then some (.sl H.next 0 (len + n) none, (H.put id none).push (.cells ((cs.drop off).take (len * esz) ++ ys) esz false)) else none
        | _ => none
      else none
  | .fs tmp full len l =>
    if n = 0 then some (.fs tmp full len l, H)
    else if full = true ∧ l.length = len * esz ∧ (2 * (len + n) + 192) * bytes ≤ 281474976710656 then some (.sl H.next 0 (len + n) none, H.push (.cells (l ++ ys) esz false))
    else none
  | _ => none

theorem appV_eq {lo : Nat} {H : AHeap} {esz bytes n : Nat} {ys : List AVal} {x y : AVal} (hm : moreV H esz y = some (n, ys)) (hc : ys.length = n * esz ∧ 0 < esz ∧ 0 < bytes) : appV lo H esz bytes x y = appB lo H esz bytes n ys x := by
  unfold appV appB
  rw [hm]
  simp only [if_pos hc]
  cases x <;> rfl

/-- append(x, make([]T, k)...). -/
noncomputable def appzV (lo : Nat) (H : AHeap) (esz bytes : Nat) (z : List AVal) (x : AVal) (k : Int) : Option (AVal × AHeap) :=
  if 0 ≤ k ∧ k.toNat * bytes ≤ 281474976710656 ∧ 0 < esz ∧ 0 < bytes ∧ z.length = esz then appB lo H esz bytes k.toNat (repCells z k.toNat) x else none

/-! ### Maps -/
/-- A key's cells: is it an aggregate? -/
def keyC (ag : Bool) : AVal → Option (List AVal)
  | .ag l => if ag then some l else none
  | .tu _ => none
  | v => if ag then none else some [v]

def findA (ag : Bool) (ks : List Nat) (k : List AVal) : List (AVal × AVal) → Nat → Option (Option (Nat × AVal))
  | [], _ => some none
  | (k', v) :: es, i => match keyC ag k' with
    | some c => match eqCells ks k c with
      | some true => some (some (i, v))
      | some false => findA ag ks k es (i + 1)
      | none => none
    | none => none

noncomputable def mapEs (H : AHeap) : AVal → Option (List (AVal × AVal))
  | .nm => some []
  | .m id => match H.get id with
    | some (.map es) => some es
    | _ => none
  | _ => none

/-- What is looked up; 'z': what there is where nothing is. -/
noncomputable def lookV (H : AHeap) (ag : Bool) (ks : List Nat) (z : AVal) (okf : Bool) (m k : AVal) : Option AVal :=
  match mapEs H m with
  | some es => match keyC ag k with
    | some kc => if eqCells ks kc kc = some true then match findA ag ks kc es 0 with
        | some (some (_, v)) => some (if okf then .tu [v, .b true] else v)
        | some none => some (if okf then .tu [z, .b false] else z)
        | none => none
      else none
    | none => none
  | none => none

noncomputable def mapupV (lo : Nat) (H : AHeap) (ag : Bool) (ks : List Nat) (k v : AVal) : AVal → Option AHeap
  | .m id =>
    if lo ≤ id ∧ v.tup = false then
      match H.get id with
      | some (.map es) => match keyC ag k with
        | some kc => if eqCells ks kc kc = some true then match findA ag ks kc es 0 with
            | some (some (i, _)) => some (H.put id (some (.map (es.set i (k, v)))))
            | some none => some (H.put id (some (.map (es ++ [(k, v)]))))
            | none => none
          else none
        | none => none
      | _ => none
    else none
  | _ => none

/-! ### copy -/
def srcLen : AVal → Option Nat
  | .ns => some 0
  | .es _ => some 0
  | .sl _ _ len _ => some len
  | .s v => some v.length
  | .fs _ _ len _ => some len
  | _ => none

/-- The first so many elements' cells. -/
noncomputable def srcCells (H : AHeap) (esz n : Nat) : AVal → Option (List AVal)
  | .sl id off _ _ => rowAt H id off (n * esz)
  | .s v => some ((v.take n).map (fun b => .i .u8 b.toNat))
  | .fs _ _ len l => if l.length = len * esz then some (l.take (n * esz)) else none
  | _ => none

noncomputable def cpyV (lo : Nat) (H : AHeap) (esz : Nat) (x y : AVal) : Option (AVal × AHeap) :=
  match srcLen y with
  | none => none
  | some m => match x with
    | .ns => some (.i .i64 0, H)
    | .es _ => some (.i .i64 0, H)
    | .sl id off len _ =>
      let n := min m len
      if n = 0 then some (.i .i64 0, H) else
      match srcCells H esz n y with
      | none => none
      | some ys =>
        if lo ≤ id then
          match H.get id with
          | some (.cells cs esz' ro) => if ro = false ∧ ys.length = n * esz ∧ off + n * esz ≤ cs.length then some (.i .i64 n, H.put id (some (.cells (putCells cs off ys) esz' ro))) else none
          | _ => none
        else none
    | _ => none

def isFs : AVal → Bool
  | .fs _ _ _ _ => true
  | _ => false
def isFs0 : AVal → Bool
  | .fs _ _ 0 _ => true
  | _ => false

def mmV (mx : Bool) : AVal → List AVal → Option AVal
  | x, [] => some x
  | .i k a, .i k' b :: l => if k = k' then mmV mx (.i k (if (if mx then decide (b > a) else decide (b < a)) then b else a)) l else none
  | _, _ => none

/-- What an operation that is no call makes; none inside: nothing. -/
noncomputable def aop (lo : Nat) (o : IOp) (e : Env) (H : AHeap) : Option (Option AVal × AHeap) :=
  let pure (v : Option AVal) : Option (Option AVal × AHeap) := v.map fun v => (some v, H)
  match o with
  | .mov x => pure (x.eval e)
  | .pick c a b => match c.eval e with
    | some (.b true) => pure (a.eval e)
    | some (.b false) => pure (b.eval e)
    | _ => none
  | .bin op x y => match x.eval e, y.eval e with
    | some a, some b => pure (binV op a b)
    | _, _ => none
  | .eqB neg x y => match x.eval e, y.eval e with
    | some (.b a), some (.b b) => pure (some (.b (if neg then !(a == b) else a == b)))
    | _, _ => none
  | .eqNil k neg x y => match x.eval e, y.eval e with
    | some a, some b => pure ((eqNilV k a b).map fun r => .b (if neg then !r else r))
    | _, _ => none
  | .eqAg ks neg x y => match x.eval e, y.eval e with
    | some (.ag a), some (.ag b) => pure ((eqCells ks a b).map fun r => .b (if neg then !r else r))
    | _, _ => none
  | .un op x => pure ((x.eval e).bind (unV op))
  | .conv k x => match x.eval e with
    | some (.i _ n) => pure (some (.i k (wrapI k n)))
    | _ => none
  | .same x => match x.eval e with
    | some (.s v) => pure (some (.s v))
    | _ => none
  | .alloc z => some (some (.p H.next 0), H.push (.cells z 1 false))
  | .box x => match x.eval e with
    | some v => if v.tup = false then some (some (.p H.next 0), H.push (.cells v.cells 1 false)) else none
    | none => none
  | .build z parts => match evalParts e parts with
    | some ps => pure ((fillA z ps).map .ag)
    | none => none
  | .bsl esz len z parts => match evalParts e parts with
    | some ps => match fillA z ps with
      | some cs => some (some (.sl H.next 0 len (some len)), H.push (.cells cs esz false))
      | none => none
    | none => none
  | .load n x => pure ((x.eval e).bind (loadV H n))
  | .store n x v => match x.eval e, v.eval e with
    | some a, some v => (storeV lo H n a v).map fun H' => (none, H')
    | _, _ => none
  | .nck x => match x.eval e with
    | some (.p id off) => pure (some (.p id off))
    | some (.fn (.func f) a c) => pure (some (.fn (.func f) a c))
    | some (.ifc t v) => pure (some (.ifc t v))
    | some (.fp l) => pure (some (.fp l))
    | _ => none
  | .off x k => pure ((x.eval e).bind (offV k))
  | .part n x off => pure ((x.eval e).bind (partV n off))
  | .iaddr esz x i => match x.eval e, i.eval e with
    | some a, some b => pure (iaddrV esz a b)
    | _, _ => none
  | .iaddrA esz len x i => match x.eval e, i.eval e with
    | some a, some b => pure (iaddrAV esz len a b)
    | _, _ => none
  | .idxS x i => match x.eval e, i.eval e with
    | some a, some b => pure (idxSV a b)
    | _, _ => none
  | .idxA n esz len x i => match x.eval e, i.eval e with
    | some a, some b => pure (idxAV n esz len a b)
    | _, _ => none
  | .ext x k => pure ((x.eval e).bind (extV k))
  | .mkf f fst cap => match evals e fst, evals e cap with
    | some a, some c => pure (some (.fn (.func f) a c))
    | _, _ => none
  | .mksl esz bytes z l c => match l.eval e, c.eval e with
    | some (.i _ n), some (.i _ m) =>
      if 0 ≤ n ∧ n ≤ m ∧ bytes * m ≤ 281474976710656 ∧ 0 < bytes then some (some (.sl H.next 0 n.toNat (some m.toNat)), H.push (.cells (repCells z m.toNat) esz false)) else none
    | _, _ => none
  | .slS x lo hi => match x.eval e, optI e lo, optI e hi with
    | some (.s v), some l, some h => pure (slSV v l h)
    | _, _, _ => none
  | .sl esz x lo hi mx => match x.eval e, optI e lo, optI e hi, optI e mx with
    | some v, some l, some h, some m => (slV esz H v l h m).map fun (v, H') => (some v, H')
    | _, _, _, _ => none
  | .slq esz x lo hi mx => match x.eval e, optI e lo, optI e hi, optI e mx with
    | some v, some l, some h, some m => match slV esz H v l h m with
      | some (v', H') => if H'.next = H.next ∧ (isFs v = true → m.isSome ∨ l.getD 0 = 0 ∨ isFs0 v' = false) then some (some v', H) else if dynS v l h m = true then some (some v', H') else none
      | none => none
    | _, _, _, _ => none
  | .lenk k x => pure (((x.eval e).bind (lenV H k)).map fun (m : Nat) => AVal.i .i64 (m : Int))
  | .app esz bytes x y => match x.eval e, y.eval e with
    | some a, some b => (appV lo H esz bytes a b).map fun (v, H') => (some v, H')
    | _, _ => none
  | .mm mx x l => match x.eval e, evals e l with
    | some a, some l => pure (mmV mx a l)
    | _, _ => none
  | .iface t x => pure ((x.eval e).map (.ifc t))
  | .s2b x => match x.eval e with
    | some (.s v) => some (some (.sl H.next 0 v.length none), H.push (.cells (v.map fun b => .i .u8 b.toNat) 1 false))
    | _ => none
  | .bad => none
  | .mkmap => some (some (.m H.next), H.push (.map []))
  | .mapup ag ks x k v => match x.eval e, k.eval e, v.eval e with
    | some m, some k, some v => (mapupV lo H ag ks k v m).map fun H' => (none, H')
    | _, _, _ => none
  | .look ag ks z okf x k => match x.eval e, k.eval e with
    | some m, some k => pure (lookV H ag ks z okf m k)
    | _, _ => none
  | .cpy esz x y => match x.eval e, y.eval e with
    | some a, some b => (cpyV lo H esz a b).map fun (v, H') => (some v, H')
    | _, _ => none
  | .call _ _ => none
  | .callv _ _ => none
  | .appz esz bytes z x y => match x.eval e, y.eval e with
    | some a, some (.i _ k) => (appzV lo H esz bytes z a k).map fun (v, H') => (some v, H')
    | _, _ => none
  | .inv _ _ _ => none

/-- Is it such a slicing? -/
def dynE (o : IOp) (e : Env) : Bool := match o with
  | .slq _ x lo hi mx => match x.eval e, optI e lo, optI e hi, optI e mx with
    | some v, some l, some h, some m => dynS v l h m
    | _, _, _, _ => false
  | _ => false

end Go.RI

/- RI, part D: rows of cells in the machine's heap: reading, writing, making them; the relation behind each. Conditions: none. -/
namespace Go.RI
open Go

theorem ren_cells (ρ : Ren) (v : AVal) : (ren ρ v).cells = (renL ρ v.cells).toArray := by
  cases v <;> simp [AVal.cells, Value.cells, ren, renL]

theorem renL_length (ρ : Ren) (l : List AVal) : (renL ρ l).length = l.length := by simp [renL_map]

theorem renL_get (ρ : Ren) (l : List AVal) (j : Nat) : (renL ρ l)[j]? = (l[j]?).map (ren ρ) := by simp [renL_map]

theorem okL_get {ρ : Ren} {D : Nat → Prop} {l : List AVal} (h : okL ρ D l) {j : Nat} {v : AVal} (hj : l[j]? = some v) : ok ρ D v :=
  okL_iff.1 h v (List.mem_of_getElem? hj)

theorem okL_sub {ρ : Ren} {D : Nat → Prop} {l l' : List AVal} (h : okL ρ D l) (hs : ∀ v ∈ l', v ∈ l) : okL ρ D l' :=
  okL_iff.2 fun v hv => okL_iff.1 h v (hs v hv)

theorem okL_append {ρ : Ren} {D : Nat → Prop} {l l' : List AVal} (h : okL ρ D l) (h' : okL ρ D l') : okL ρ D (l ++ l') :=
  okL_iff.2 fun v hv => by
    rcases List.mem_append.1 hv with h1 | h1
    · exact okL_iff.1 h v h1
    · exact okL_iff.1 h' v h1

theorem cells_ok {ρ : Ren} {D : Nat → Prop} {v : AVal} (h : ok ρ D v) : okL ρ D v.cells := by
  cases v <;> simp_all [AVal.cells, ok, okL]
theorem cells_one {ρ : Ren} {D : Nat → Prop} {v : AVal} (h : ok ρ D v) (ht : v.tup = false) : oneL v.cells = true := by
  cases v <;> simp_all [AVal.cells, ok, oneL, one, AVal.tup]
theorem oneL_append {l l' : List AVal} (h : oneL l = true) (h' : oneL l' = true) : oneL (l ++ l') = true :=
  oneL_iff.2 fun v hv => by
    rcases List.mem_append.1 hv with h1 | h1
    · exact oneL_iff.1 h v h1
    · exact oneL_iff.1 h' v h1
theorem oneL_sub {l l' : List AVal} (h : oneL l = true) (hs : ∀ v ∈ l', v ∈ l) : oneL l' = true := oneL_iff.2 fun v hv => oneL_iff.1 h v (hs v hv)
theorem oneCell_ren (ρ : Ren) {v : AVal} (h : one v = true) : (ren ρ v).oneCell' = true := by
  cases v <;> simp_all [one, ren, Value.oneCell']
theorem oneCell_renL (ρ : Ren) {l : List AVal} (h : oneL l = true) : ∀ v ∈ renL ρ l, v.oneCell' = true := by
  intro v hv
  rw [renL_map] at hv
  obtain ⟨a, ha, rfl⟩ := List.mem_map.1 hv
  exact oneCell_ren ρ (oneL_iff.1 h a ha)

theorem putCells_length : ∀ (l : List AVal) (cs : List AVal) (off : Nat), (putCells cs off l).length = cs.length := by
  intro l
  induction l with
  | nil => intro cs off; rfl
  | cons v l ih => intro cs off; simp [putCells, ih]

theorem putCells_get : ∀ (l : List AVal) (cs : List AVal) (off j : Nat), off + l.length ≤ cs.length →
    (putCells cs off l)[j]? = if off ≤ j ∧ j < off + l.length then l[j - off]? else cs[j]? := by
  intro l
  induction l with
  | nil => intro cs off j h; simp [putCells]; omega
  | cons v l ih =>
    intro cs off j h
    simp only [List.length_cons] at h
    simp only [putCells, List.length_cons]
    rw [ih _ _ _ (by simp; omega)]
    by_cases h1 : off + 1 ≤ j ∧ j < off + 1 + l.length
    · rw [if_pos h1, if_pos (by omega)]
      have : j - off = (j - (off + 1)) + 1 := by omega
      rw [this, List.getElem?_cons_succ]
    · rw [if_neg h1]
      by_cases h2 : j = off
      · subst h2
        rw [if_pos (by omega), List.getElem?_set_self (by omega)]
        simp
      · rw [if_neg (by omega), List.getElem?_set_ne (by omega)]

theorem putCells_mem {l cs : List AVal} {off : Nat} {v : AVal} (h : off + l.length ≤ cs.length) (hv : v ∈ putCells cs off l) : v ∈ cs ∨ v ∈ l := by
  obtain ⟨j, hj, he⟩ := List.mem_iff_getElem.1 hv
  have := putCells_get l cs off j h
  rw [List.getElem?_eq_getElem hj, he] at this
  by_cases hc : off ≤ j ∧ j < off + l.length
  · rw [if_pos hc] at this; exact .inr (List.mem_of_getElem? this.symm)
  · rw [if_neg hc] at this; exact .inl (List.mem_of_getElem? this.symm)

/-! ### The machine's rows -/
def putArr (C : Array Value) (off : Nat) : List Value → Array Value
  | [] => C
  | v :: l => putArr (C.setIfInBounds off v) (off + 1) l

theorem putArr_size : ∀ (l : List Value) (C : Array Value) (off : Nat), (putArr C off l).size = C.size := by
  intro l
  induction l with
  | nil => intro C off; rfl
  | cons v l ih => intro C off; simp [putArr, ih]

theorem putArr_get : ∀ (l : List Value) (C : Array Value) (off j : Nat), off + l.length ≤ C.size →
    (putArr C off l)[j]? = if off ≤ j ∧ j < off + l.length then l[j - off]? else C[j]? := by
  intro l
  induction l with
  | nil => intro C off j h; simp [putArr]; omega
  | cons v l ih =>
    intro C off j h
    simp only [List.length_cons] at h
    simp only [putArr, List.length_cons]
    rw [ih _ _ _ (by simp; omega)]
    by_cases h1 : off + 1 ≤ j ∧ j < off + 1 + l.length
    · rw [if_pos h1, if_pos (by omega)]
      have : j - off = (j - (off + 1)) + 1 := by omega
      rw [this, List.getElem?_cons_succ]
    · rw [if_neg h1]
      by_cases h2 : j = off
      · subst h2
        rw [if_pos (by omega)]
        simp [Array.getElem?_setIfInBounds]; omega
      · rw [if_neg (by omega), Array.getElem?_setIfInBounds, if_neg (by omega)]

theorem addr_add (b o n : Nat) : (Addr.add ⟨b, o, none⟩ n) = ⟨b, o + n, none⟩ := by
  unfold Addr.add
  by_cases h : n = 0 <;> simp [h]

theorem cell?_at {w : World} {b : Nat} {C : Array Value} {e : TypeId} {fz : Nat × Nat} (hb : w.heap[b]? = some (.cells C e fz)) (o : Nat) : w.cell? ⟨b, o, none⟩ = C[o]? := by
  simp [World.cell?, hb]

theorem frozen?_at {w : World} {b : Nat} {C : Array Value} {e : TypeId} {fz : Nat × Nat} (hb : w.heap[b]? = some (.cells C e fz)) (o : Nat) :
    w.frozen? ⟨b, o, none⟩ = (decide (fz.1 ≤ o) && decide (o < fz.2)) := by
  simp [World.frozen?, hb]

theorem setCell_heap {w : World} {b o : Nat} (v : Value) : (w.setCell ⟨b, o, none⟩ v).heap =
    w.heap.modify b (fun x => match x with | .cells c elem fz => .cells (c.setIfInBounds o v) elem fz | y => y) := by
  simp only [World.setCell]
  congr 1

/-- Cells are loaded. -/
theorem run_loadCells {P : Program} {w : World} {b off : Nat} {C : Array Value} {e : TypeId} {fz : Nat × Nat} (hb : w.heap[b]? = some (.cells C e fz)) :
    ∀ (l : List Value) (i : Nat) (acc : Array Value), (∀ j v, l[j]? = some v → C[off + i + j]? = some v) →
      (loadCellsFrom ⟨b, off, none⟩ i l.length acc).run P w = .ok (acc ++ l.toArray) w := by
  intro l
  induction l with
  | nil => intro i acc _; simp [loadCellsFrom]
  | cons v l ih =>
    intro i acc h
    have h0 : w.cell? ⟨b, off + i, none⟩ = some v := by rw [cell?_at hb]; exact h 0 v rfl
    simp only [List.length_cons, loadCellsFrom, addr_add, Sem.run_bind, run_load, h0, Result.andThen_ok]
    rw [ih (i + 1) _ (fun j u hu => by have := h (j + 1) u (by simpa using hu); rw [← this]; congr 1; omega)]
    simp

/-- Cells are stored. -/
theorem run_storeCells {P : Program} {b off : Nat} {e : TypeId} {fz : Nat × Nat} :
    ∀ (l : List Value) (i : Nat) (w : World) (C : Array Value), w.heap[b]? = some (.cells C e fz) → (∀ v ∈ l, v.oneCell' = true) → off + i + l.length ≤ C.size →
      (∀ o, off + i ≤ o → o < off + i + l.length → (decide (fz.1 ≤ o) && decide (o < fz.2)) = false) →
      ∃ w', (storeCells ⟨b, off, none⟩ l i).run P w = .ok () w' ∧ w'.heap[b]? = some (.cells (putArr C (off + i) l) e fz) ∧ (∀ k, k ≠ b → w'.heap[k]? = w.heap[k]?) ∧
        w'.heap.size = w.heap.size ∧ w'.os = w.os ∧ w'.tape = w.tape ∧ w'.output = w.output := by
  intro l
  induction l with
  | nil => intro i w C hb _ _ _; exact ⟨w, by simp [storeCells], by simpa [putArr] using hb, fun _ _ => rfl, rfl, rfl, rfl, rfl⟩
  | cons v l ih =>
    intro i w C hb hone hsz hfz
    simp only [List.length_cons] at hsz hfz
    have hlt : off + i < C.size := by omega
    have h0 : w.cell? ⟨b, off + i, none⟩ = some C[off + i] := by rw [cell?_at hb, Array.getElem?_eq_getElem hlt]
    have hf : w.frozen? ⟨b, off + i, none⟩ = false := by rw [frozen?_at hb]; exact hfz _ (by omega) (by omega)
    have hv : v.oneCell' = true := hone v (by simp)
    have hw1 : (w.setCell ⟨b, off + i, none⟩ v).heap[b]? = some (.cells (C.setIfInBounds (off + i) v) e fz) := by
      rw [setCell_heap, Array.getElem?_modify]; simp [hb]
    obtain ⟨w', hr, hb', ho, hs, hos, htp, hout⟩ := ih (i + 1) (w.setCell ⟨b, off + i, none⟩ v) _ hw1 (fun u hu => hone u (by simp [hu])) (by simp; omega)
      (fun o h1 h2 => hfz o (by omega) (by omega))
    refine ⟨w', ?_, ?_, ?_, ?_, ?_, ?_, ?_⟩
    · have hrun : ((store ⟨b, off + i, none⟩ v).run P w) = .ok () (w.setCell ⟨b, off + i, none⟩ v) := by
        rw [run_store P w _ _ _ hv, h0]; simp [hf]
      simp only [storeCells, addr_add, Sem.run_bind, hrun, Result.andThen_ok]
      exact hr
    · rw [hb']; simp only [putArr]; congr 2
    · intro k hk; rw [ho k hk, setCell_heap, Array.getElem?_modify, if_neg (by omega)]
    · rw [hs]; simp [World.setCell]
    · rw [hos]; rfl
    · rw [htp]; rfl
    · rw [hout]; rfl

end Go.RI

/- RI, part E: the relation behind a new row, a store, an append in place, a draw. Conditions: none. -/
namespace Go.RI
open Go

def upd (ρ : Ren) (id : Nat) (L : Loc) : Ren := fun j => if j = id then L else ρ j
def ins (D : Nat → Prop) (id : Nat) : Nat → Prop := fun j => j = id ∨ D j

theorem upd_same (ρ : Ren) (id : Nat) (L : Loc) : upd ρ id L id = L := by simp [upd]
theorem upd_other (ρ : Ren) {id j : Nat} (L : Loc) (h : j ≠ id) : upd ρ id L j = ρ j := by simp [upd, h]

theorem CellsAt.move {ρ ρ' : Ren} {D D' : Nat → Prop} {L : Loc} {c : List AVal} {esz : Nat} {ro : Bool} {w w' : World} (h : CellsAt ρ D L c esz ro w)
    (hD : ∀ id, D id → D' id ∧ ρ' id = ρ id) (hb : w'.heap[L.blk]? = w.heap[L.blk]?) : CellsAt ρ' D' L c esz ro w' where
  esz_eq := h.esz_eq
  len := h.len
  at_ := by
    obtain ⟨C, e, fz, h1, h2, h3, h4⟩ := h.at_
    refine ⟨C, e, fz, hb.trans h1, h2, fun j v hv => ?_, h4⟩
    rw [ren_congr (fun id hd => (hD id hd).2) v (okL_get h.ok hv)]
    exact h3 j v hv
  ok := okL_mono hD c h.ok
  one := h.one

theorem MapAt.move {ρ ρ' : Ren} {D D' : Nat → Prop} {L : Loc} {es : List (AVal × AVal)} {w w' : World} (h : MapAt ρ D L es w)
    (hD : ∀ id, D id → D' id ∧ ρ' id = ρ id) (hb : w'.heap[L.blk]? = w.heap[L.blk]?) : MapAt ρ' D' L es w' := by
  obtain ⟨⟨E, k, h1, h2, h3, h4⟩, h5⟩ := h
  refine ⟨⟨E, k, hb.trans h1, h2, h3, ?_⟩, fun x hx => ⟨ok_mono hD _ (h5 x hx).1, ok_mono hD _ (h5 x hx).2⟩⟩
  rw [h4]
  apply List.map_congr_left
  intro x hx
  rw [ren_congr (fun id hd => (hD id hd).2) _ (h5 x hx).1, ren_congr (fun id hd => (hD id hd).2) _ (h5 x hx).2]

theorem HRel.blk_lt {G : AHeap} {ρ : Ren} {D : Nat → Prop} {H : AHeap} {w : World} (h : HRel G ρ D H w) {id : Nat} {o : AObj} (hd : D id) (hg : H.get id = some o) : (ρ id).blk < w.heap.size := by
  cases o with
  | cells c esz ro =>
    obtain ⟨C, e, fz, h1, _⟩ := (h.cells id c esz ro hd hg).at_
    rcases Nat.lt_or_ge (ρ id).blk w.heap.size with hlt | hge
    · exact hlt
    · rw [Array.getElem?_eq_none hge] at h1; cases h1
  | map es =>
    obtain ⟨⟨E, k, h1, _⟩, _⟩ := h.maps id es hd hg
    rcases Nat.lt_or_ge (ρ id).blk w.heap.size with hlt | hge
    · exact hlt
    · rw [Array.getElem?_eq_none hge] at h1; cases h1

/-- Nothing but the streams' position has turned: the relation stays. -/
theorem HRel.heap_eq {G : AHeap} {ρ : Ren} {D : Nat → Prop} {H : AHeap} {w w' : World} (h : HRel G ρ D H w) (hw : ∀ k, k < w.heap.size → w'.heap[k]? = w.heap[k]?) : HRel G ρ D H w' where
  lt := h.lt
  cells := fun id c esz ro hd hg => (h.cells id c esz ro hd hg).move (fun _ h => ⟨h, rfl⟩) (hw _ (h.blk_lt hd hg))
  maps := fun id es hd hg => (h.maps id es hd hg).move (fun _ h => ⟨h, rfl⟩) (hw _ (h.blk_lt hd hg))
  apart := h.apart
  glob := h.glob
  gnext := h.gnext
  wf := h.wf

/-- A world that has at most drawn. -/
structure Drew (w w' : World) : Prop where
  heap : w'.heap = w.heap
  os : w'.os = w.os
  tape : w'.tape = w.tape
  output : w'.output = w.output
theorem Drew.refl (w : World) : Drew w w := ⟨rfl, rfl, rfl, rfl⟩

theorem drew_sim {G : AHeap} {lo : Nat} {ρ : Ren} {D : Nat → Prop} {H : AHeap} {w w' : World} (h : HRel G ρ D H w) (hw : Drew w w') :
    Step lo ρ D H w ρ D H w' ∧ HRel G ρ D H w' := by
  refine ⟨{ Step.refl lo ρ D H w h.lt with os := hw.os, tape := hw.tape, output := hw.output, froz := fun ad _ => by simp only [World.frozen?, hw.heap], size := by rw [hw.heap]; exact Nat.le_refl _, frame := fun k _ _ => by rw [hw.heap] }, h.heap_eq fun k _ => by rw [hw.heap]⟩

/-- A new object: a row of cells in a new block. -/
theorem frozen_push {w w' : World} {x : Obj} (hw : w'.heap = w.heap.push x) (ad : Addr) (h : ad.block < w.heap.size) : w'.frozen? ad = w.frozen? ad := by
  simp only [World.frozen?, hw, Array.getElem?_push]
  rw [if_neg (by omega)]
theorem frozen_put {w w' : World} {b : Nat} {C C' : Array Value} {e : TypeId} {fz : Nat × Nat} (hb : w.heap[b]? = some (.cells C e fz)) (hb' : w'.heap[b]? = some (.cells C' e fz)) (ho : ∀ k, k ≠ b → w'.heap[k]? = w.heap[k]?) (ad : Addr) : w'.frozen? ad = w.frozen? ad := by
  simp only [World.frozen?]
  by_cases h : ad.block = b
  · rw [h, hb, hb']
  · rw [ho _ h]

theorem push_sim {G : AHeap} {lo : Nat} {ρ : Ren} {D : Nat → Prop} {H : AHeap} {w w' : World} (h : HRel G ρ D H w)
    {C : Array Value} {e : TypeId} {fz : Nat × Nat} {c : List AVal} {esz : Nat}
    (hw : w'.heap = w.heap.push (.cells C e fz)) (hos : w'.os = w.os) (htp : w'.tape = w.tape) (hout : w'.output = w.output)
    (hC : c.length ≤ C.size) (hget : ∀ (j : Nat) v, c[j]? = some v → C[j]? = some (ren ρ v)) (hfz : ∀ o, o < C.size → (decide (fz.1 ≤ o) && decide (o < fz.2)) = false)
    (hok : okL ρ D c) (hone : oneL c = true) :
    let L : Loc := ⟨w.heap.size, 0, C.size, esz⟩
    Step lo ρ D H w (upd ρ H.next L) (ins D H.next) (H.push (.cells c esz false)) w' ∧ HRel G (upd ρ H.next L) (ins D H.next) (H.push (.cells c esz false)) w' := by
  intro L
  have hold : ∀ id, D id → ins D H.next id ∧ upd ρ H.next L id = ρ id := fun id hd =>
    ⟨.inr hd, upd_other _ _ (by have := h.lt id hd; omega)⟩
  have hblk : ∀ k, k < w.heap.size → w'.heap[k]? = w.heap[k]? := fun k hk => by rw [hw, Array.getElem?_push, if_neg (by omega)]
  have hgo : ∀ id, id ≠ H.next → (H.push (.cells c esz false)).get id = H.get id := fun id hne => by rw [AHeap.get_push, if_neg hne]
  have hgn : (H.push (.cells c esz false)).get H.next = some (.cells c esz false) := by rw [AHeap.get_push, if_pos rfl]
  constructor
  · exact {
      old := hold
      new := fun id hd hlt => by rcases hd with rfl | hd; omega; exact hd
      ghost := fun id hlt _ => hgo id (by omega)
      low := fun id _ hlt => hgo id (by omega)
      next := by rw [AHeap.next_push]; omega
      wr := fun id o' hlt _ hg hw => ⟨o', by rw [← hgo id (by omega)]; exact hg, hw⟩
      fresh := fun id o' hd hn hg _ => by
        rcases hd with rfl | hd
        · left; rw [upd_same]; exact Nat.le_refl _
        · have := h.lt id hd; omega
      os := hos
      tape := htp
      output := hout
      froz := frozen_push hw
      size := by rw [hw]; simp
      frame := fun k hk _ => hblk k hk }
  · exact {
      lt := fun id hd => by
        rw [AHeap.next_push]
        rcases hd with rfl | hd
        · omega
        · have := h.lt id hd; omega
      cells := fun id c' esz' ro hd hg => by
        by_cases hid : id = H.next
        · subst hid
          rw [hgn] at hg
          obtain ⟨rfl, rfl, rfl⟩ : c = c' ∧ esz = esz' ∧ false = ro := by simpa using hg
          rw [upd_same]
          refine ⟨rfl, hC, ⟨C, e, fz, ?_, ?_, ?_, ?_⟩, okL_mono hold c hok, hone⟩
          · rw [hw]; simp [L]
          · simp [L]
          · intro j v hv
            rw [ren_congr (fun id hd => (hold id hd).2) v (okL_get hok hv)]
            simpa [L] using hget j v hv
          · intro _ o _ ho
            exact hfz o (by simpa [L] using ho)
        · have hd' : D id := hd.resolve_left hid
          rw [hgo id hid] at hg
          rw [upd_other _ _ hid]
          exact (h.cells id c' esz' ro hd' hg).move hold (hblk _ (h.blk_lt hd' hg))
      maps := fun id es hd hg => by
        by_cases hid : id = H.next
        · subst hid; rw [hgn] at hg; simp at hg
        · have hd' : D id := hd.resolve_left hid
          rw [hgo id hid] at hg
          rw [upd_other _ _ hid]
          exact (h.maps id es hd' hg).move hold (hblk _ (h.blk_lt hd' hg))
      apart := fun id id' o o' hd hd' hne hg hg' hwr => by
        by_cases hid : id = H.next
        · have hid' : id' ≠ H.next := fun e => hne (hid.trans e.symm)
          subst hid
          rw [upd_same, upd_other _ _ hid']
          rw [hgo id' hid'] at hg'
          have := h.blk_lt (hd'.resolve_left hid') hg'
          simp only [L]; omega
        · by_cases hid' : id' = H.next
          · subst hid'
            rw [upd_same, upd_other _ _ hid]
            rw [hgo id hid] at hg
            have := h.blk_lt (hd.resolve_left hid) hg
            simp only [L]; omega
          · rw [upd_other _ _ hid, upd_other _ _ hid']
            rw [hgo id hid] at hg
            rw [hgo id' hid'] at hg'
            exact h.apart id id' o o' (hd.resolve_left hid) (hd'.resolve_left hid') hne hg hg' hwr
      glob := fun g hg => by
        obtain ⟨h1, h2, h3, h4⟩ := h.glob g hg
        have hne : g ≠ H.next := by have := h.gnext; omega
        exact ⟨.inr h1, by rw [upd_other _ _ hne]; exact h2, by rw [upd_other _ _ hne]; exact h3, (hgo g hne).trans h4⟩
      gnext := by rw [AHeap.next_push]; have := h.gnext; omega
      wf := fun j hj => by rw [AHeap.next_push] at hj; rw [hgo j (by omega)]; exact h.wf j (by omega) }

/-- A new object in a new block, or a store into an old one: what an old object's block holds now. -/
theorem store_sim {G : AHeap} {lo : Nat} {ρ : Ren} {D : Nat → Prop} {H : AHeap} {w w' : World} (h : HRel G ρ D H w) (hlo : G.next ≤ lo)
    {id off : Nat} {c l : List AVal} {esz : Nat} (hd : D id) (hg : H.get id = some (.cells c esz false)) (hid : lo ≤ id) (hl : off + l.length ≤ c.length) (hok : okL ρ D l) (hone : oneL l = true)
    {C : Array Value} {e : TypeId} {fz : Nat × Nat} (hb : w.heap[(ρ id).blk]? = some (.cells C e fz))
    (hb' : w'.heap[(ρ id).blk]? = some (.cells (putArr C ((ρ id).base + off) (renL ρ l)) e fz)) (ho : ∀ k, k ≠ (ρ id).blk → w'.heap[k]? = w.heap[k]?)
    (hsz : w'.heap.size = w.heap.size) (hos : w'.os = w.os) (htp : w'.tape = w.tape) (hout : w'.output = w.output) :
    Step lo ρ D H w ρ D (H.put id (some (.cells (putCells c off l) esz false))) w' ∧ HRel G ρ D (H.put id (some (.cells (putCells c off l) esz false))) w' := by
  have hgo : ∀ j, j ≠ id → (H.put id (some (.cells (putCells c off l) esz false))).get j = H.get j := fun j hne => by rw [AHeap.get_put, if_neg hne]
  have hgi : (H.put id (some (.cells (putCells c off l) esz false))).get id = some (.cells (putCells c off l) esz false) := by rw [AHeap.get_put, if_pos rfl]
  have hc := h.cells id c esz false hd hg
  obtain ⟨C0, e0, fz0, hb0, hsz0, hget0, hfz0⟩ := hc.at_
  rw [hb] at hb0
  obtain ⟨rfl, rfl, rfl⟩ : C = C0 ∧ e = e0 ∧ fz = fz0 := by simpa using hb0
  have hlen := hc.len
  constructor
  · exact {
      old := fun _ h => ⟨h, rfl⟩
      new := fun _ h _ => h
      ghost := fun j _ hnd => hgo j (fun e => hnd (e ▸ hd))
      low := fun j hj _ => hgo j (by omega)
      next := Nat.le_refl _
      wr := fun j o' _ _ hj hw => by
        by_cases hji : j = id
        · subst hji; exact ⟨_, hg, rfl⟩
        · rw [hgo j hji] at hj; exact ⟨o', hj, hw⟩
      fresh := fun j _ hdj hn _ _ => by have := h.lt j hdj; omega
      os := hos
      tape := htp
      output := hout
      froz := fun ad _ => frozen_put hb hb' ho ad
      size := by omega
      frame := fun k _ hn => ho k (fun e => hn id _ hd hg rfl e.symm) }
  · exact {
      lt := h.lt
      cells := fun j c' esz' ro hdj hj => by
        by_cases hji : j = id
        · subst hji
          rw [hgi] at hj
          obtain ⟨rfl, rfl, rfl⟩ : putCells c off l = c' ∧ esz = esz' ∧ false = ro := by simpa using hj
          refine ⟨hc.esz_eq, by rw [putCells_length]; exact hlen, ⟨_, e, fz, hb', by rw [putArr_size]; exact hsz0, ?_, hfz0⟩, ?_, ?_⟩
          · intro k v hv
            rw [putCells_get l c off k hl] at hv
            rw [putArr_get _ _ _ _ (by rw [renL_length]; omega), renL_length]
            by_cases hk : off ≤ k ∧ k < off + l.length
            · rw [if_pos hk] at hv
              rw [if_pos (by omega), renL_get]
              have : (ρ j).base + k - ((ρ j).base + off) = k - off := by omega
              rw [this, hv]; rfl
            · rw [if_neg hk] at hv
              rw [if_neg (by omega)]
              exact hget0 k v hv
          · exact okL_iff.2 fun v hv => (putCells_mem hl hv).elim (okL_iff.1 hc.ok v) (okL_iff.1 hok v)
          · exact oneL_iff.2 fun v hv => (putCells_mem hl hv).elim (oneL_iff.1 hc.one v) (oneL_iff.1 hone v)
        · rw [hgo j hji] at hj
          have := h.apart id j _ _ hd hdj (fun e => hji e.symm) hg hj rfl
          exact (h.cells j c' esz' ro hdj hj).move (fun _ h => ⟨h, rfl⟩) (ho _ (fun e => this e.symm))
      maps := fun j es hdj hj => by
        by_cases hji : j = id
        · subst hji; rw [hgi] at hj; simp at hj
        · rw [hgo j hji] at hj
          have := h.apart id j _ _ hd hdj (fun e => hji e.symm) hg hj rfl
          exact (h.maps j es hdj hj).move (fun _ h => ⟨h, rfl⟩) (ho _ (fun e => this e.symm))
      apart := fun i j o o' hdi hdj hne hi hj hwr => by
        have lift : ∀ x (o : AObj), (H.put id (some (.cells (putCells c off l) esz false))).get x = some o → ∃ o0, H.get x = some o0 ∧ o0.wr = o.wr := by
          intro x o hx
          by_cases hxi : x = id
          · subst hxi; rw [hgi] at hx; exact ⟨_, hg, by simp at hx; rw [← hx]; rfl⟩
          · rw [hgo x hxi] at hx; exact ⟨o, hx, rfl⟩
        obtain ⟨a, ha, haw⟩ := lift i o hi
        obtain ⟨b, hb1, _⟩ := lift j o' hj
        exact h.apart i j a b hdi hdj hne ha hb1 (haw.trans hwr)
      glob := fun g hgl => by
        obtain ⟨h1, h2, h3, h4⟩ := h.glob g hgl
        exact ⟨h1, h2, h3, (hgo g (by omega)).trans h4⟩
      gnext := h.gnext
      wf := fun j hj => by rw [AHeap.next_put] at hj; have := h.lt id hd; rw [hgo j (by omega)]; exact h.wf j hj }

/-- A row gets a new name behind an append in place. -/
theorem rename_sim {G : AHeap} {lo : Nat} {ρ : Ren} {D : Nat → Prop} {H : AHeap} {w w' : World} (h : HRel G ρ D H w) (hlo : G.next ≤ lo)
    {id off n : Nat} {c l : List AVal} {esz : Nat} (hd : D id) (hg : H.get id = some (.cells c esz false)) (hid : lo ≤ id) (hn : off + n ≤ c.length) (hext : off + n + l.length ≤ (ρ id).ext)
    (hok : okL ρ D l) (hone : oneL l = true)
    {C : Array Value} {e : TypeId} {fz : Nat × Nat} (hb : w.heap[(ρ id).blk]? = some (.cells C e fz))
    (hb' : w'.heap[(ρ id).blk]? = some (.cells (putArr C ((ρ id).base + (off + n)) (renL ρ l)) e fz)) (ho : ∀ k, k ≠ (ρ id).blk → w'.heap[k]? = w.heap[k]?)
    (hsz : w'.heap.size = w.heap.size) (hos : w'.os = w.os) (htp : w'.tape = w.tape) (hout : w'.output = w.output) :
    let L : Loc := ⟨(ρ id).blk, (ρ id).base + off, (ρ id).ext - off, esz⟩
    let H' := (H.put id none).push (.cells ((c.drop off).take n ++ l) esz false)
    Step lo ρ D H w (upd ρ H.next L) (ins D H.next) H' w' ∧ HRel G (upd ρ H.next L) (ins D H.next) H' w' := by
  intro L H'
  have hlt := h.lt id hd
  have hgo : ∀ j, j ≠ id → j ≠ H.next → H'.get j = H.get j := fun j h1 h2 => by
    simp only [H']; rw [AHeap.get_push, AHeap.next_put, if_neg h2, AHeap.get_put, if_neg h1]
  have hgi : H'.get id = none := by simp only [H']; rw [AHeap.get_push, AHeap.next_put, if_neg (by omega), AHeap.get_put, if_pos rfl]
  have hgn : H'.get H.next = some (.cells ((c.drop off).take n ++ l) esz false) := by simp only [H']; rw [AHeap.get_push, AHeap.next_put, if_pos rfl]
  have hnx : H'.next = H.next + 1 := rfl
  have hold : ∀ j, D j → ins D H.next j ∧ upd ρ H.next L j = ρ j := fun j hdj => ⟨.inr hdj, upd_other _ _ (by have := h.lt j hdj; omega)⟩
  have hc := h.cells id c esz false hd hg
  obtain ⟨C0, e0, fz0, hb0, hsz0, hget0, hfz0⟩ := hc.at_
  rw [hb] at hb0
  obtain ⟨rfl, rfl, rfl⟩ : C = C0 ∧ e = e0 ∧ fz = fz0 := by simpa using hb0
  have hlen := hc.len
  have hlenT : ((c.drop off).take n).length = n := by simp; omega
  constructor
  · exact {
      old := hold
      new := fun j hdj hlt => by rcases hdj with rfl | hdj; omega; exact hdj
      ghost := fun j hj hnd => hgo j (fun e => hnd (e ▸ hd)) (by omega)
      low := fun j hj hj2 => hgo j (by omega) (by omega)
      next := by rw [hnx]; omega
      wr := fun j o' hj _ hgj hw => by
        by_cases hji : j = id
        · subst hji; rw [hgi] at hgj; cases hgj
        · rw [hgo j hji (by omega)] at hgj; exact ⟨o', hgj, hw⟩
      fresh := fun j o' hdj hnj _ _ => by
        rcases hdj with rfl | hdj
        · right; rw [upd_same]; exact ⟨id, _, hd, hg, rfl, rfl⟩
        · have := h.lt j hdj; omega
      os := hos
      tape := htp
      output := hout
      froz := fun ad _ => frozen_put hb hb' ho ad
      size := by omega
      frame := fun k _ hnk => ho k (fun e => hnk id _ hd hg rfl e.symm) }
  · exact {
      lt := fun j hdj => by
        rw [hnx]
        rcases hdj with rfl | hdj
        · omega
        · have := h.lt j hdj; omega
      cells := fun j c' esz' ro hdj hj => by
        by_cases hjn : j = H.next
        · subst hjn
          rw [hgn] at hj
          obtain ⟨rfl, rfl, rfl⟩ : (c.drop off).take n ++ l = c' ∧ esz = esz' ∧ false = ro := by simpa using hj
          rw [upd_same]
          refine ⟨rfl, by simp [L, hlenT]; omega, ⟨_, e, fz, hb', by rw [putArr_size]; simp only [L]; omega, ?_, ?_⟩, ?_, ?_⟩
          · intro k v hv
            have hvok : ok ρ D v := by
              rcases List.mem_append.1 (List.mem_of_getElem? hv) with hm | hm
              · exact okL_iff.1 hc.ok v (List.mem_of_mem_drop (List.mem_of_mem_take hm))
              · exact okL_iff.1 hok v hm
            rw [ren_congr (fun id hd => (hold id hd).2) v hvok]
            rw [putArr_get _ _ _ _ (by rw [renL_length]; omega), renL_length]
            simp only [L]
            by_cases hk : k < n
            · rw [if_neg (by omega)]
              rw [List.getElem?_append_left (by omega), List.getElem?_take, if_pos hk, List.getElem?_drop] at hv
              have := hget0 _ _ hv
              rw [← this]; congr 1; omega
            · rw [List.getElem?_append_right (by omega), hlenT] at hv
              have hkl : k - n < l.length := by
                rcases Nat.lt_or_ge (k - n) l.length with h1 | h1
                · exact h1
                · rw [List.getElem?_eq_none h1] at hv; cases hv
              rw [if_pos (by omega), renL_get]
              have : (ρ id).base + off + k - ((ρ id).base + (off + n)) = k - n := by omega
              rw [this, hv]; rfl
          · intro _ o h1 h2
            exact hfz0 rfl o (by simp only [L] at h1; omega) (by simp only [L] at h2; omega)
          · exact okL_mono hold _ (okL_append (okL_sub hc.ok fun v hv => List.mem_of_mem_drop (List.mem_of_mem_take hv)) hok)
          · exact oneL_append (oneL_sub hc.one fun v hv => List.mem_of_mem_drop (List.mem_of_mem_take hv)) hone
        · by_cases hji : j = id
          · subst hji; rw [hgi] at hj; cases hj
          · have hdj' : D j := hdj.resolve_left hjn
            rw [hgo j hji hjn] at hj
            rw [upd_other _ _ hjn]
            have := h.apart id j _ _ hd hdj' (fun e => hji e.symm) hg hj rfl
            exact (h.cells j c' esz' ro hdj' hj).move hold (ho _ (fun e => this e.symm))
      maps := fun j es hdj hj => by
        by_cases hjn : j = H.next
        · subst hjn; rw [hgn] at hj; simp at hj
        · by_cases hji : j = id
          · subst hji; rw [hgi] at hj; cases hj
          · have hdj' : D j := hdj.resolve_left hjn
            rw [hgo j hji hjn] at hj
            rw [upd_other _ _ hjn]
            have := h.apart id j _ _ hd hdj' (fun e => hji e.symm) hg hj rfl
            exact (h.maps j es hdj' hj).move hold (ho _ (fun e => this e.symm))
      apart := fun i j o o' hdi hdj hne hi hj hwr => by
        by_cases hin : i = H.next
        · have hjn : j ≠ H.next := fun e => hne (hin.trans e.symm)
          have hji : j ≠ id := fun e => by subst e; rw [hgi] at hj; cases hj
          subst hin
          rw [upd_same, upd_other _ _ hjn]
          rw [hgo j hji hjn] at hj
          exact h.apart id j _ _ hd (hdj.resolve_left hjn) (fun e => hji e.symm) hg hj rfl
        · have hii : i ≠ id := fun e => by subst e; rw [hgi] at hi; cases hi
          rw [hgo i hii hin] at hi
          by_cases hjn : j = H.next
          · subst hjn
            rw [upd_same, upd_other _ _ hin]
            exact h.apart i id o _ (hdi.resolve_left hin) hd hii hi hg hwr
          · have hji : j ≠ id := fun e => by subst e; rw [hgi] at hj; cases hj
            rw [hgo j hji hjn] at hj
            rw [upd_other _ _ hin, upd_other _ _ hjn]
            exact h.apart i j o o' (hdi.resolve_left hin) (hdj.resolve_left hjn) hne hi hj hwr
      glob := fun g hgl => by
        obtain ⟨h1, h2, h3, h4⟩ := h.glob g hgl
        have hne : g ≠ H.next := by have := h.gnext; omega
        exact ⟨.inr h1, by rw [upd_other _ _ hne]; exact h2, by rw [upd_other _ _ hne]; exact h3, (hgo g (by omega) hne).trans h4⟩
      gnext := by rw [hnx]; have := h.gnext; omega
      wf := fun j hj => by rw [hnx] at hj; rw [hgo j (by omega) (by omega)]; exact h.wf j (by omega) }

/-- A name for a place that holds nothing that may be read. -/
theorem alias_sim {G : AHeap} {lo : Nat} {ρ : Ren} {D : Nat → Prop} {H : AHeap} {w : World} (h : HRel G ρ D H w) (L : Loc) :
    let H' : AHeap := { next := H.next + 1, tbl := H.tbl.put none (H.next + 1) H.next }
    Step lo ρ D H w (upd ρ H.next L) (ins D H.next) H' w ∧ HRel G (upd ρ H.next L) (ins D H.next) H' w := by
  intro H'
  have hold : ∀ j, D j → ins D H.next j ∧ upd ρ H.next L j = ρ j := fun j hdj => ⟨.inr hdj, upd_other _ _ (by have := h.lt j hdj; omega)⟩
  have hget : ∀ j, H'.get j = if j = H.next then none else H.get j := fun j => Trie.get_put _ _ _ _ _ (Nat.lt_succ_self H.next)
  have hgo : ∀ j, j ≠ H.next → H'.get j = H.get j := fun j hj => by rw [hget, if_neg hj]
  have hgn : H'.get H.next = none := by rw [hget, if_pos rfl]
  constructor
  · exact {
      old := hold
      new := fun j hdj hlt => by rcases hdj with rfl | hdj; omega; exact hdj
      ghost := fun j hj _ => hgo j (by omega)
      low := fun j _ hj => hgo j (by omega)
      next := Nat.le_succ _
      wr := fun j o' hj _ hgj hw => ⟨o', by rw [← hgo j (by omega)]; exact hgj, hw⟩
      fresh := fun j o' hdj hnj hgj _ => by
        rcases hdj with rfl | hdj
        · rw [hgn] at hgj; cases hgj
        · have := h.lt j hdj; omega
      os := rfl
      tape := rfl
      output := rfl
      froz := fun _ _ => rfl
      size := Nat.le_refl _
      frame := fun _ _ _ => rfl }
  · exact {
      lt := fun j hdj => by
        show j < H.next + 1
        rcases hdj with rfl | hdj
        · omega
        · have := h.lt j hdj; omega
      cells := fun j c' esz' ro hdj hj => by
        by_cases hjn : j = H.next
        · subst hjn; rw [hgn] at hj; cases hj
        · rw [hgo j hjn] at hj
          rw [upd_other _ _ hjn]
          exact (h.cells j c' esz' ro (hdj.resolve_left hjn) hj).move hold rfl
      maps := fun j es hdj hj => by
        by_cases hjn : j = H.next
        · subst hjn; rw [hgn] at hj; cases hj
        · rw [hgo j hjn] at hj
          rw [upd_other _ _ hjn]
          exact (h.maps j es (hdj.resolve_left hjn) hj).move hold rfl
      apart := fun i j o o' hdi hdj hne hi hj hwr => by
        have hin : i ≠ H.next := fun e => by subst e; rw [hgn] at hi; cases hi
        have hjn : j ≠ H.next := fun e => by subst e; rw [hgn] at hj; cases hj
        rw [hgo i hin] at hi
        rw [hgo j hjn] at hj
        rw [upd_other _ _ hin, upd_other _ _ hjn]
        exact h.apart i j o o' (hdi.resolve_left hin) (hdj.resolve_left hjn) hne hi hj hwr
      glob := fun g hgl => by
        obtain ⟨h1, h2, h3, h4⟩ := h.glob g hgl
        have hne : g ≠ H.next := by have := h.gnext; omega
        exact ⟨.inr h1, by rw [upd_other _ _ hne]; exact h2, by rw [upd_other _ _ hne]; exact h3, (hgo g hne).trans h4⟩
      gnext := by show G.next ≤ H.next + 1; have := h.gnext; omega
      wf := fun j hj => by have hj' : H.next + 1 ≤ j := hj; rw [hgo j (by omega)]; exact h.wf j (by omega) }

end Go.RI

/- RI, part F: the machine's operations turned into the interpreter's; those that touch no memory. Conditions: none. -/
namespace Go.RI
open Go

mutual
/-- A constant. -/
def ofVal : Value → Option AVal
  | .bool v => some (.b v)
  | .int k n => some (.i k n)
  | .string ⟨⟨l⟩⟩ => some (.s l)
  | .pointer none => some .np
  | .slice none 0 0 => some .ns
  | .map none => some .nm
  | .nilFunc => some .nf
  | .nilIface => some .nif
  | .agg ⟨l⟩ => match ofValL l with
    | some l' => if oneL l' then some (.ag l') else none
    | none => none
  | .tuple ⟨l⟩ => (ofValL l).map .tu
  | _ => none
def ofValL : List Value → Option (List AVal)
  | [] => some []
  | v :: l => match ofVal v, ofValL l with
    | some a, some b => some (a :: b)
    | _, _ => none
end

mutual
theorem ofVal_ren : ∀ (v : Value) (a : AVal), ofVal v = some a → noId a = true ∧ ∀ ρ, ren ρ a = v
  | .bool _, a, h | .int _ _, a, h | .nilFunc, a, h | .nilIface, a, h => by
    simp only [ofVal, Option.some.injEq] at h; subst h; exact ⟨rfl, fun _ => rfl⟩
  | .string ⟨⟨l⟩⟩, a, h => by simp only [ofVal, Option.some.injEq] at h; subst h; exact ⟨rfl, fun _ => rfl⟩
  | .pointer none, a, h => by simp only [ofVal, Option.some.injEq] at h; subst h; exact ⟨rfl, fun _ => rfl⟩
  | .map none, a, h => by simp only [ofVal, Option.some.injEq] at h; subst h; exact ⟨rfl, fun _ => rfl⟩
  | .slice none 0 0, a, h => by simp only [ofVal, Option.some.injEq] at h; subst h; exact ⟨rfl, fun _ => rfl⟩
  | .agg ⟨l⟩, a, h => by
    simp only [ofVal] at h
    split at h
    · rename_i l' hl
      split at h
      · rename_i hone
        simp only [Option.some.injEq] at h; subst h
        obtain ⟨h1, h2⟩ := ofValL_ren l l' hl
        exact ⟨by simp [noId, h1, hone], fun ρ => by simp [ren, h2 ρ]⟩
      · cases h
    · cases h
  | .tuple ⟨l⟩, a, h => by
    simp only [ofVal, Option.map_eq_some_iff] at h
    obtain ⟨l', hl, rfl⟩ := h
    obtain ⟨h1, h2⟩ := ofValL_ren l l' hl
    exact ⟨by simp [noId, h1], fun ρ => by simp [ren, h2 ρ]⟩
  | .float _ _, a, h | .complex _ _ _, a, h | .chan _, a, h | .func _ _ _, a, h | .iface _ _, a, h => by simp [ofVal] at h
  | .pointer (some _), a, h | .map (some _), a, h => by simp [ofVal] at h
  | .slice (some _) _ _, a, h => by simp [ofVal] at h
  | .slice none (n + 1) _, a, h => by simp [ofVal] at h
  | .slice none 0 (n + 1), a, h => by simp [ofVal] at h
theorem ofValL_ren : ∀ (l : List Value) (a : List AVal), ofValL l = some a → noIdL a = true ∧ ∀ ρ, renL ρ a = l
  | [], a, h => by simp only [ofValL, Option.some.injEq] at h; subst h; exact ⟨rfl, fun _ => rfl⟩
  | v :: l, a, h => by
    simp only [ofValL] at h
    split at h
    · rename_i x y hx hy
      simp only [Option.some.injEq] at h; subst h
      obtain ⟨h1, h2⟩ := ofVal_ren v x hx
      obtain ⟨h3, h4⟩ := ofValL_ren l y hy
      exact ⟨by simp [noIdL, h1, h3], fun ρ => by simp [renL, h2 ρ, h4 ρ]⟩
    · cases h
end

def trOpd (P : Program) : Operand → Option Opd
  | .tmp t => some (.t t)
  | .const v => (ofVal v).map .c
  | .global g => if g < P.globals.size then some (.g g) else none
  | .func f => some (.f f)

def trOpds (P : Program) : List Operand → Option (List Opd)
  | [] => some []
  | x :: l => match trOpd P x, trOpds P l with
    | some a, some b => some (a :: b)
    | _, _ => none

def trOpt (P : Program) : Option Operand → Option (Option Opd)
  | none => some none
  | some x => (trOpd P x).map some

/-- What stands between the interpreter's state and the machine's at one place. -/
structure Rel (P : Program) (G : AHeap) (ds : List Deferred) (ρ : Ren) (D : Nat → Prop) (n : Nat) (e : Env) (a : Act) (H : AHeap) (w : World) : Prop where
  gsize : G.next = P.globals.size
  gok : GOk G
  heap : HRel G ρ D H w
  slots : ARel ds ρ D n e a

section
variable {ds : List Deferred} {P : Program} {G : AHeap} {ρ : Ren} {D : Nat → Prop} {n : Nat} {e : Env} {a : Act} {H : AHeap} {w : World}

theorem opd_sim (r : Rel P G ds ρ D n e a H w) {x : Operand} {x' : Opd} {v : AVal} (hx : trOpd P x = some x') (hv : x'.eval e = some v) : a.eval x = ren ρ v ∧ ok ρ D v := by
  cases x with
  | tmp t =>
    simp only [trOpd, Option.some.injEq] at hx; subst hx
    obtain ⟨_, h2, h3⟩ := r.slots.get t v hv
    exact ⟨h2, h3⟩
  | const c =>
    simp only [trOpd, Option.map_eq_some_iff] at hx
    obtain ⟨u, hu, rfl⟩ := hx
    simp only [Opd.eval, Option.some.injEq] at hv; subst hv
    obtain ⟨h1, h2⟩ := ofVal_ren c u hu
    exact ⟨(h2 ρ).symm, noId_ok ρ D u h1⟩
  | global g =>
    simp only [trOpd] at hx
    split at hx
    · rename_i hg
      simp only [Option.some.injEq] at hx; subst hx
      simp only [Opd.eval, Option.some.injEq] at hv; subst hv
      obtain ⟨h1, h2, h3, _⟩ := r.heap.glob g (by rw [r.gsize]; exact hg)
      exact ⟨by simp [Act.eval, ren, h2, h3], by simpa [ok] using h1⟩
    · cases hx
  | func f =>
    simp only [trOpd, Option.some.injEq] at hx; subst hx
    simp only [Opd.eval, Option.some.injEq] at hv; subst hv
    exact ⟨by simp [Act.eval, ren, renL], by simp [ok, okL]⟩

theorem opds_sim (r : Rel P G ds ρ D n e a H w) : ∀ {l : List Operand} {l' : List Opd} {vs : List AVal}, trOpds P l = some l' → evals e l' = some vs →
    l.map a.eval = renL ρ vs ∧ okL ρ D vs := by
  intro l
  induction l with
  | nil =>
    intro l' vs h1 h2
    simp only [trOpds, Option.some.injEq] at h1; subst h1
    simp only [evals, Option.some.injEq] at h2; subst h2
    exact ⟨rfl, by simp [okL]⟩
  | cons x l ih =>
    intro l' vs h1 h2
    simp only [trOpds] at h1
    split at h1
    · rename_i x' l1 hx hl
      simp only [Option.some.injEq] at h1; subst h1
      simp only [evals] at h2
      split at h2
      · rename_i v hv
        split at h2
        · rename_i vs' hvs
          simp only [Option.some.injEq] at h2; subst h2
          obtain ⟨h3, h4⟩ := opd_sim r hx hv
          obtain ⟨h5, h6⟩ := ih hl hvs
          exact ⟨by simp [renL, h3, h5], by simp [okL, h4, h6]⟩
        · cases h2
      · cases h2
    · cases h1

end

/-- What an operation's run comes to. -/
def Sim (G : AHeap) (lo : Nat) (ρ : Ren) (D : Nat → Prop) (H : AHeap) (w : World) (run : Result Next) (v : Option AVal) (H' : AHeap) : Prop :=
  ∃ ρ' D' w', run = .ok (match v with | some v => .value (ren ρ' v) | none => .skip) w' ∧ Step lo ρ D H w ρ' D' H' w' ∧ HRel G ρ' D' H' w' ∧ ∀ u, v = some u → ok ρ' D' u

theorem sim_val {G : AHeap} {lo : Nat} {ρ : Ren} {D : Nat → Prop} {H : AHeap} {w : World} {run : Result Next} {v : AVal} (h : HRel G ρ D H w) (hr : run = .ok (.value (ren ρ v)) w) (hv : ok ρ D v) :
    Sim G lo ρ D H w run (some v) H :=
  ⟨ρ, D, w, hr, Step.refl lo ρ D H w h.lt, h, fun u hu => by cases hu; exact hv⟩

/-! ### Numbers -/
theorem wrap_i64 (n : Int) : IntKind.i64.wrap n = if n % 18446744073709551616 ≥ 9223372036854775808 then n % 18446744073709551616 - 18446744073709551616 else n % 18446744073709551616 := by
  simp [IntKind.wrap, IntKind.signed, IntKind.bits]
theorem wrapI_eq (k : IntKind) (n : Int) : wrapI k n = k.wrap n := by
  cases k
  case i64 =>
    rw [wrap_i64]
    simp only [wrapI]
    by_cases h : -9223372036854775808 ≤ n ∧ n ≤ 9223372036854775807
    · rw [if_pos h]
      split <;> omega
    · rw [if_neg h]
  all_goals simp [wrapI, IntKind.wrap, IntKind.signed, IntKind.bits]

theorem ltB_eq (a b : List UInt8) : Op.bytesLess a b = ltB a b := by
  induction a generalizing b with
  | nil => cases b <;> rfl
  | cons x a ih => cases b with
    | nil => rfl
    | cons y b => simp [Op.bytesLess, ltB, ih]

theorem bytes_toList (l : List UInt8) : (ByteArray.mk l.toArray).toList = l := by rw [ByteArray.toList_eq]
theorem bytes_size (l : List UInt8) : (ByteArray.mk l.toArray).size = l.length := by simp [ByteArray.size]
theorem bytes_append (a b : List UInt8) : (ByteArray.mk a.toArray) ++ (ByteArray.mk b.toArray) = ByteArray.mk (a ++ b).toArray := by
  apply ByteArray.ext; simp

theorem run_binOp {P : Program} {w : World} (op : BinOp) (t : TypeId) (ρ : Ren) {x y v : AVal} (h : binV op x y = some v) :
    (binOp op t (ren ρ x) (ren ρ y)).run P w = .ok (ren ρ v) w ∧ noId v = true ∧ (∀ o p q, eqGuard o t p q (ren ρ x) (ren ρ y) = pure ()) := by
  cases x <;> cases y <;> simp only [binV] at h <;> try (cases h; done)
  case i.i k a k' b =>
    refine ⟨?_, ?_, fun o p q => by cases o <;> rfl⟩
    · cases op <;> simp only [ren] <;> simp only [binI] at h
      case shl =>
        split at h
        · cases h
        · rename_i hb; cases h; simp only [binOp, Op.shift, if_neg hb]; rfl
      case shr =>
        split at h
        · cases h
        · rename_i hb; cases h; simp only [binOp, Op.shift, if_neg hb]; rfl
      all_goals
        split at h
        · rename_i hk
          subst hk
          first
          | (cases h; simp [binOp, Op.intArith, Op.intBits, Op.intCmp, wrapI_eq, ren]; done)
          | (split at h
             · cases h
             · rename_i hb; cases h; simp [binOp, Op.intDiv, hb, wrapI_eq, ren])
        · cases h
    · cases op <;> simp only [binI] at h <;> (try (split at h)) <;> (try (cases h; done)) <;> (try (cases h; rfl)) <;> (try (split at h)) <;> (try (cases h; done)) <;> cases h <;> rfl
  case s.s a b =>
    refine ⟨?_, ?_, fun o p q => by cases o <;> rfl⟩
    · have e1 := bytes_toList a
      have e2 := bytes_toList b
      cases op <;> simp only [binS] at h <;> try (cases h; done)
      case add =>
        split at h
        · rename_i hl
          cases h
          have : ¬ (((ByteArray.mk a.toArray).size + (ByteArray.mk b.toArray).size : Nat) : Int) > IntKind.i64.max := by
            rw [bytes_size, bytes_size]
            have : IntKind.i64.max = 9223372036854775807 := by decide
            omega
          simp only [ren, binOp, Op.stringOp, if_neg this, bytes_append]
          rfl
        · cases h
      all_goals
        cases h
        simp only [ren, binOp, Op.stringOp, e1, e2, ltB_eq]
        rfl
    · cases op <;> simp only [binS] at h <;> (try (split at h)) <;> (try (cases h; done)) <;> cases h <;> rfl

theorem run_unary {P : Program} {w : World} (op : UnOp) (ρ : Ren) {x v : AVal} (h : unV op x = some v) : (Op.unary op (ren ρ x)).run P w = .ok (ren ρ v) w ∧ noId v = true := by
  cases x <;> simp only [unV] at h <;> try (cases h; done)
  case i k a =>
    cases op <;> simp only at h <;> (try (cases h; done)) <;> cases h
    · exact ⟨by simp [ren, Op.unary, Op.intArith, wrapI_eq], rfl⟩
    · exact ⟨by simp [ren, Op.unary, Op.intBits], rfl⟩
  case b v =>
    cases op <;> simp only at h <;> (try (cases h; done)) <;> cases h
    exact ⟨by simp [ren, Op.unary], rfl⟩

end Go.RI

/- RI, part G: each of the machine's operations that is no call, beside the interpreter's. Conditions: none. -/
namespace Go.RI
open Go

def isAggD : TypeDesc → Bool
  | .struct _ | .array _ _ => true
  | _ => false

/-- A type's zero value, in cells. -/
def zeroC (P : Program) (t : TypeId) : Option (List AVal) :=
  match P.info? t with
  | some i => match i.zero with
    | some z => match ofVal z with
      | some a => if a.tup = false then some a.cells else none
      | none => none
    | none => none
  | none => none

section
variable {ds : List Deferred} {P : Program} {G : AHeap} {lo : Nat} {ρ : Ren} {D : Nat → Prop} {n : Nat} {e : Env} {a : Act} {H : AHeap} {w : World}

theorem run_sizeOf' {t : TypeId} {i : TypeInfo} (h : P.info? t = some i) (w : World) : (sizeOf t).run P w = .ok i.size w := by simp [sizeOf, typeInfo, h]
theorem run_isAgg' {t : TypeId} {d : TypeDesc} (h : P.underlying t = some d) (w : World) : (isAgg t).run P w = .ok (isAggD d) w := by
  cases d <;> simp [isAgg, run_underlying h, isAggD]
theorem run_typeInfo' {t : TypeId} {i : TypeInfo} (h : P.info? t = some i) (w : World) : (typeInfo t).run P w = .ok i w := by simp [typeInfo, h]

theorem zeroC_run {t : TypeId} {z : List AVal} (h : zeroC P t = some z) : ∃ i v, P.info? t = some i ∧ i.zero = some v ∧ (∀ w, (zeroValue t).run P w = .ok v w) ∧ (∀ ρ, v.cells = (renL ρ z).toArray) ∧ noIdL z = true ∧ oneL z = true := by
  unfold zeroC at h
  split at h
  · rename_i i hi
    split at h
    · rename_i v hv
      split at h
      · rename_i u hu
        split at h
        · rename_i ht
          simp only [Option.some.injEq] at h; subst h
          obtain ⟨h1, h2⟩ := ofVal_ren v u hu
          refine ⟨i, v, hi, hv, fun w => by simp [zeroValue, typeInfo, hi, hv], fun ρ => by rw [← h2 ρ, ren_cells], ?_, ?_⟩
          · cases u <;> simp_all [AVal.cells, noIdL, noId]
          · exact cells_one (noId_ok (fun _ => ⟨0, 0, 0, 0⟩) (fun _ => True) u h1) ht
        · cases h
      · cases h
    · cases h
  · cases h

/-! ### Making variables -/
theorem run_newVar (t : TypeId) (v : Value) (w : World) : (newVar t v).run P w = .ok ⟨w.heap.size, 0, none⟩ { w with heap := w.heap.push (.cells v.cells t) } := by
  simp [newVar, newRow]

theorem alloc_sim (r : Rel P G ds ρ D n e a H w) {o : Oper} {t : TypeId} (ho : o.op = .alloc t) {z : List AVal} (hz : zeroC P t = some z) :
    Sim G lo ρ D H w ((execOp a.eval o).run P w) (some (.p H.next 0)) (H.push (.cells z 1 false)) := by
  obtain ⟨i, v, _, _, hrun, hcells, hid, hone⟩ := zeroC_run hz
  obtain ⟨h1, h2⟩ := push_sim (lo := lo) (esz := 1) r.heap (w' := { w with heap := w.heap.push (.cells v.cells t) }) (c := z) rfl rfl rfl rfl
    (by rw [hcells ρ]; simp [renL_length]) (fun j u hu => by rw [hcells ρ]; simp [renL_get, hu]) (fun o ho => by simp) (noIdL_ok ρ D z hid) hone
  refine ⟨_, _, _, ?_, h1, h2, fun u hu => ?_⟩
  · simp [execOp, ho, Instr.alloc, hrun, run_newVar, ren, upd_same]
  · cases hu; simp [ok, ins]

theorem box_sim (r : Rel P G ds ρ D n e a H w) {o : Oper} {t : TypeId} {x : Operand} (ho : o.op = .box t x) {v : AVal} (hx : a.eval x = ren ρ v) (hv : ok ρ D v) (ht : v.tup = false) :
    Sim G lo ρ D H w ((execOp a.eval o).run P w) (some (.p H.next 0)) (H.push (.cells v.cells 1 false)) := by
  have hc := ren_cells ρ v
  obtain ⟨h1, h2⟩ := push_sim (lo := lo) (esz := 1) r.heap (w' := { w with heap := w.heap.push (.cells (ren ρ v).cells t) }) (c := v.cells) rfl rfl rfl rfl
    (by rw [hc]; simp [renL_length]) (fun j u hu => by rw [hc]; simp [renL_get, hu]) (fun o ho => by simp) (cells_ok hv) (cells_one hv ht)
  refine ⟨_, _, _, ?_, h1, h2, fun u hu => ?_⟩
  · simp [execOp, ho, Instr.box, hx, run_newVar, ren, upd_same]
  · cases hu; simp [ok, ins]

/-! ### Reading -/
theorem rowAt_sim (h : HRel G ρ D H w) {id off m : Nat} {l : List AVal} (hd : D id) (hl : rowAt H id off m = some l) :
    l.length = m ∧ okL ρ D l ∧ oneL l = true ∧ (loadCells ⟨(ρ id).blk, (ρ id).base + off, none⟩ m).run P w = .ok (renL ρ l).toArray w := by
  unfold rowAt at hl
  split at hl
  · rename_i c esz ro hg
    split at hl
    · rename_i hle
      simp only [Option.some.injEq] at hl; subst hl
      have hc := h.cells id c esz ro hd hg
      obtain ⟨C, e, fz, hb, hsz, hget, _⟩ := hc.at_
      have hlen : ((c.drop off).take m).length = m := by simp; omega
      refine ⟨hlen, okL_sub hc.ok fun v hv => List.mem_of_mem_drop (List.mem_of_mem_take hv), oneL_sub hc.one fun v hv => List.mem_of_mem_drop (List.mem_of_mem_take hv), ?_⟩
      have hlr : (renL ρ ((c.drop off).take m)).length = m := by rw [renL_length, hlen]
      have hrun := run_loadCells (P := P) hb (off := (ρ id).base + off) (renL ρ ((c.drop off).take m)) 0 #[] (fun j v hv => by
        rw [renL_get] at hv
        rw [List.getElem?_take] at hv
        by_cases hj : j < m
        · rw [if_pos hj, List.getElem?_drop] at hv
          cases hcj : c[off + j]? with
          | none => rw [hcj] at hv; cases hv
          | some u =>
            rw [hcj] at hv; simp only [Option.map_some, Option.some.injEq] at hv; subst hv
            have := hget _ _ hcj
            rw [← this]; congr 1; omega
        · rw [if_neg hj] at hv; cases hv)
      rw [hlr] at hrun
      simpa [loadCells] using hrun
    · cases hl
  · cases hl

theorem load_sim (r : Rel P G ds ρ D n e a H w) {o : Oper} {t : TypeId} {x : Operand} (ho : o.op = .load t x) {d : TypeDesc} {i : TypeInfo} (hd : P.underlying t = some d) (hi : P.info? t = some i)
    {p v : AVal} (hx : a.eval x = ren ρ p) (hp : ok ρ D p) (hl : loadV H (if isAggD d then some i.size else none) p = some v) :
    Sim G lo ρ D H w ((execOp a.eval o).run P w) (some v) H := by
  cases p <;> simp only [loadV] at hl <;> try (cases hl; done)
  case fp l => simp [ok] at hp
  case p id off =>
    simp only [ok] at hp
    cases hagg : isAggD d with
    | true =>
      rw [hagg] at hl
      simp only [if_true] at hl
      rw [Option.map_eq_some_iff] at hl
      obtain ⟨l, hl, rfl⟩ := hl
      obtain ⟨_, h2, h3, h4⟩ := rowAt_sim (P := P) r.heap hp hl
      refine sim_val r.heap ?_ (by simp only [ok]; exact ⟨h2, h3⟩)
      simp [execOp, ho, Instr.loadAt, hx, ren, Instr.sureAddr, loadVar, run_isAgg' hd, hagg, run_sizeOf' hi, h4]
    | false =>
      rw [hagg] at hl
      simp only [Bool.false_eq_true, if_false] at hl
      split at hl
      · rename_i c esz ro hg
        have hc := r.heap.cells id c esz ro hp hg
        obtain ⟨C, e, fz, hb, hsz, hget, _⟩ := hc.at_
        refine sim_val r.heap ?_ (okL_get hc.ok hl)
        have hcell : w.cell? ⟨(ρ id).blk, (ρ id).base + off, none⟩ = some (ren ρ v) := by rw [cell?_at hb]; exact hget _ _ hl
        simp [execOp, ho, Instr.loadAt, hx, ren, Instr.sureAddr, loadVar, run_isAgg' hd, hagg, hcell]
      · cases hl

/-! ### Writing -/
theorem storeV_sim (r : Rel P G ds ρ D n e a H w) (hlo : G.next ≤ lo) {o : Oper} {t : TypeId} {x y : Operand} (ho : o.op = .store t x y) {i : TypeInfo} (hi : P.info? t = some i)
    {p v : AVal} {H' : AHeap} (hx : a.eval x = ren ρ p) (hp : ok ρ D p) (hy : a.eval y = ren ρ v) (hv : ok ρ D v) (hs : storeV lo H i.size p v = some H') :
    Sim G lo ρ D H w ((execOp a.eval o).run P w) none H' := by
  cases p <;> simp only [storeV] at hs <;> try (cases hs; done)
  case p id off =>
    simp only [ok] at hp
    split at hs
    · rename_i hle
      split at hs
      · rename_i c esz ro hg
        split at hs
        · rename_i hc
          obtain ⟨rfl, htup, hlen, hoff⟩ := hc
          simp only [Option.some.injEq] at hs; subst hs
          have hcc := r.heap.cells id c esz false hp hg
          obtain ⟨C, e, fz, hb, hsz, hget, hfz⟩ := hcc.at_
          have hl2 := hcc.len
          obtain ⟨w', hrun, hb', hoth, hsize, hos, htp, hout⟩ := run_storeCells (P := P) (off := (ρ id).base + off) (e := e) (fz := fz) (renL ρ v.cells) 0 w C hb
            (oneCell_renL ρ (cells_one hv htup)) (by rw [renL_length]; omega) (fun o h1 h2 => hfz rfl o (by omega) (by rw [renL_length] at h2; omega))
          obtain ⟨h1, h2⟩ := store_sim (lo := lo) (off := off) r.heap hlo hp hg hle (by omega) (cells_ok hv) (cells_one hv htup) hb (by simpa using hb') hoth hsize hos htp hout
          refine ⟨ρ, D, w', ?_, h1, h2, fun u hu => by cases hu⟩
          have hc2 := ren_cells ρ v
          simp [execOp, ho, Instr.storeAt, hx, hy, ren, Instr.sureAddr, storeVar, run_sizeOf' hi, hc2, renL_length, hlen, hrun]
        · cases hs
      · cases hs
    · cases hs

end
end Go.RI

/- RI, part H: the other operations: addresses, parts, comparisons, building, slices, append. Conditions: none. -/
namespace Go.RI
open Go
set_option linter.unusedSimpArgs false

section
variable {ds : List Deferred} {P : Program} {G : AHeap} {lo : Nat} {ρ : Ren} {D : Nat → Prop} {n : Nat} {e : Env} {a : Act} {H : AHeap} {w : World}

/-! ### Values from values -/
theorem mov_sim (r : Rel P G ds ρ D n e a H w) {o : Oper} {x : Operand} (ho : o.op = .move x ∨ o.op = .assign x) {v : AVal} (hx : a.eval x = ren ρ v) (hv : ok ρ D v) :
    Sim G lo ρ D H w ((execOp a.eval o).run P w) (some v) H :=
  sim_val r.heap (by rcases ho with ho | ho <;> simp [execOp, ho, hx]) hv

theorem pick_sim (r : Rel P G ds ρ D n e a H w) {o : Oper} {c x y : Operand} (ho : o.op = .pick c x y) {b : Bool} (hc : a.eval c = .bool b) {v : AVal} (hx : a.eval (if b then x else y) = ren ρ v) (hv : ok ρ D v) :
    Sim G lo ρ D H w ((execOp a.eval o).run P w) (some v) H := by
  refine sim_val r.heap ?_ hv
  cases b <;> simp_all [execOp, asBool]

theorem bin_sim (r : Rel P G ds ρ D n e a H w) {o : Oper} {op : BinOp} {t t' : TypeId} {x y : Operand} (ho : o.op = .binOp op t x y t') {u v z : AVal}
    (hx : a.eval x = ren ρ u) (hy : a.eval y = ren ρ v) (hz : binV op u v = some z) : Sim G lo ρ D H w ((execOp a.eval o).run P w) (some z) H := by
  obtain ⟨h1, h2, h3⟩ := run_binOp (P := P) (w := w) op t ρ hz
  refine sim_val r.heap ?_ (noId_ok _ _ _ h2)
  simp [execOp, ho, hx, hy, h3, h1]

theorem eqB_sim (r : Rel P G ds ρ D n e a H w) {o : Oper} {op : BinOp} {t t' : TypeId} {x y : Operand} (ho : o.op = .binOp op t x y t') (hop : op = .eql ∨ op = .neq) (ht : P.underlying t = some .bool) {u v : Bool}
    (hx : a.eval x = .bool u) (hy : a.eval y = .bool v) : Sim G lo ρ D H w ((execOp a.eval o).run P w) (some (.b (if op = .neq then !(u == v) else u == v))) H := by
  refine sim_val r.heap ?_ (by simp [ok])
  have he : (Op.equalIn 10000 t (.bool u) (.bool v)).run P w = .ok (u == v) w := run_equalIn_bool' w 9999 t u v ht
  rcases hop with rfl | rfl
  · simp [execOp, ho, hx, hy, eqGuard, binOp, Op.equal, Op.maxDepth, he, ren]
  · simp [execOp, ho, hx, hy, eqGuard, binOp, Op.equal, Op.maxDepth, he, ren]

def nilD (k : Nat) (d : TypeDesc) : Bool :=
  match k, d with
  | 0, .slice _ => true
  | 1, .pointer _ => true
  | 2, .map _ _ => true
  | 3, .func _ _ _ => true
  | 4, .interface _ => true
  | _, _ => false

def EqNilKey (P : Program) (ρ : Ren) (w : World) (t : TypeId) (u v : AVal) (res : Bool) (C : Operand → Prop := fun _ => True) : Prop :=
  (∀ d, (Op.equalIn (d + 1) t (ren ρ u) (ren ρ v)).run P w = .ok res w) ∧ (∀ op p q, C q → eqGuard op t p q (ren ρ u) (ren ρ v) = pure ()) ∧
    binOp .eql t (ren ρ u) (ren ρ v) = (do pure (.bool (← Op.equal t (ren ρ u) (ren ρ v)))) ∧ binOp .neq t (ren ρ u) (ren ρ v) = (do pure (.bool (!(← Op.equal t (ren ρ u) (ren ρ v)))))

theorem EqNilKey.any {P : Program} {ρ : Ren} {w : World} {t : TypeId} {u v : AVal} {res : Bool} {C : Operand → Prop} (h : EqNilKey P ρ w t u v res) : EqNilKey P ρ w t u v res C := ⟨h.1, fun op p q _ => h.2.1 op p q trivial, h.2.2.1, h.2.2.2⟩

theorem eqNil_slice {t el : TypeId} (ht : P.underlying t = some (.slice el)) {u v : AVal} {res : Bool} (hu : ok ρ D u) (hv : ok ρ D v) (hr : eqNilV 0 u v = some res) : EqNilKey P ρ w t u v res := by
  unfold eqNilV at hr
  cases u <;> simp only [nilV] at hr <;> (try (cases hr; done)) <;> (try (simp [ok] at hu; done))
  all_goals
    cases v <;> simp only [nilV] at hr <;> (try (cases hr; done)) <;> (try (simp at hr; done)) <;> (try (simp [ok] at hv; done))
    all_goals
      cases hr
      exact ⟨fun d => by simp only [ren, Op.equalIn, Sem.run_bind, run_underlying ht, Result.andThen_ok]; rfl, fun op p q _ => by cases op <;> rfl, rfl, rfl⟩
theorem eqNil_ptr {t el : TypeId} (ht : P.underlying t = some (.pointer el)) {u v : AVal} {res : Bool} (hu : ok ρ D u) (hv : ok ρ D v) (hr : eqNilV 1 u v = some res) : EqNilKey P ρ w t u v res := by
  unfold eqNilV at hr
  cases u <;> simp only [nilV] at hr <;> (try (cases hr; done)) <;> (try (simp [ok] at hu; done))
  all_goals
    cases v <;> simp only [nilV] at hr <;> (try (cases hr; done)) <;> (try (simp at hr; done)) <;> (try (simp [ok] at hv; done))
    all_goals
      cases hr
      exact ⟨fun d => by simp only [ren, Op.equalIn, Sem.run_bind, run_underlying ht, Result.andThen_ok]; rfl, fun op p q _ => by cases op <;> rfl, rfl, rfl⟩
theorem eqNil_map {t k el : TypeId} (ht : P.underlying t = some (.map k el)) {u v : AVal} {res : Bool} (hu : ok ρ D u) (hv : ok ρ D v) (hr : eqNilV 2 u v = some res) : EqNilKey P ρ w t u v res := by
  unfold eqNilV at hr
  cases u <;> simp only [nilV] at hr <;> (try (cases hr; done)) <;> (try (simp [ok] at hu; done))
  all_goals
    cases v <;> simp only [nilV] at hr <;> (try (cases hr; done)) <;> (try (simp at hr; done)) <;> (try (simp [ok] at hv; done))
    all_goals
      cases hr
      exact ⟨fun d => by simp only [ren, Op.equalIn, Sem.run_bind, run_underlying ht, Result.andThen_ok]; rfl, fun op p q _ => by cases op <;> rfl, rfl, rfl⟩
theorem eqNil_func {t : TypeId} {ps rs : Array TypeId} {va : Bool} (ht : P.underlying t = some (.func ps rs va)) {u v : AVal} {res : Bool} (hu : ok ρ D u) (hv : ok ρ D v) (hr : eqNilV 3 u v = some res) : EqNilKey P ρ w t u v res := by
  unfold eqNilV at hr
  cases u <;> simp only [nilV] at hr <;> (try (cases hr; done)) <;> (try (simp [ok] at hu; done))
  all_goals
    cases v <;> simp only [nilV] at hr <;> (try (cases hr; done)) <;> (try (simp at hr; done)) <;> (try (simp [ok] at hv; done))
    all_goals
      cases hr
      exact ⟨fun d => by simp only [ren, Op.equalIn, Sem.run_bind, run_underlying ht, Result.andThen_ok]; rfl, fun op p q _ => by cases op <;> rfl, rfl, rfl⟩

def isConst : Operand → Bool
  | .const _ => true
  | _ => false
theorem eqNil_ifc {t : TypeId} {ms} (ht : P.underlying t = some (.interface ms)) {u v : AVal} {res : Bool} (hu : ok ρ D u) (hv : ok ρ D v) (hr : eqNilV 4 u v = some res) : EqNilKey P ρ w t u v res (fun q => 4 = 4 → isConst q = true) := by
  unfold eqNilV at hr
  cases u <;> simp only [nilV] at hr <;> (try (cases hr; done)) <;> (try (simp [ok] at hu; done))
  all_goals
    cases v <;> simp only [nilV] at hr <;> (try (cases hr; done)) <;> (try (simp at hr; done)) <;> (try (simp [ok] at hv; done))
    all_goals
      cases hr
      refine ⟨fun d => by simp only [ren, Op.equalIn, Sem.run_bind, run_underlying ht, Result.andThen_ok]; rfl, fun op p q hq => ?_, rfl, rfl⟩
      have hq := hq rfl
      cases q <;> simp [isConst] at hq
      cases op <;> simp [eqGuard, ren]
theorem eqNil_sim (r : Rel P G ds ρ D n e a H w) {o : Oper} {op : BinOp} {t t' : TypeId} {x y : Operand} (ho : o.op = .binOp op t x y t') (hop : op = .eql ∨ op = .neq) {k : Nat} {d : TypeDesc}
    (ht : P.underlying t = some d) (hd : nilD k d = true) (hk : k = 4 → isConst y = true) {u v : AVal} {res : Bool}
    (hx : a.eval x = ren ρ u) (hu : ok ρ D u) (hy : a.eval y = ren ρ v) (hv : ok ρ D v) (hr : eqNilV k u v = some res) : Sim G lo ρ D H w ((execOp a.eval o).run P w) (some (.b (if op = .neq then !res else res))) H := by
  refine sim_val r.heap ?_ (by simp [ok])
  have key : EqNilKey P ρ w t u v res (fun q => k = 4 → isConst q = true) := by
    match k, d, hd with
    | 0, .slice _, _ => exact (eqNil_slice ht hu hv hr).any
    | 1, .pointer _, _ => exact (eqNil_ptr ht hu hv hr).any
    | 2, .map _ _, _ => exact (eqNil_map ht hu hv hr).any
    | 3, .func _ _ _, _ => exact (eqNil_func ht hu hv hr).any
    | 4, .interface _, _ => exact eqNil_ifc ht hu hv hr
  obtain ⟨h1', h2', h3, h4⟩ := key
  have h2 : ∀ op p, eqGuard op t p y (ren ρ u) (ren ρ v) = pure () := fun op p => h2' op p y hk
  have h1 : (Op.equal t (ren ρ u) (ren ρ v)).run P w = .ok res w := h1' 9999
  rcases hop with rfl | rfl
  · simp [execOp, ho, hx, hy, h2, h3, h1, ren]
  · simp [execOp, ho, hx, hy, h2, h4, h1, ren]

def leafK (P : Program) (t : TypeId) : Option Nat :=
  match P.underlying t with
  | some .bool => some 0
  | some (.int _) => some 1
  | some .string => some 2
  | _ => none

/-- One cell beside one cell. -/
theorem leaf_eq {t : TypeId} {k : Nat} (hk : leafK P t = some k) {ks : List Nat} {u v : AVal} {x y : List AVal} {res : Bool} (h : eqCells (k :: ks) (u :: x) (v :: y) = some res) :
    ∃ c rest, (∀ d, (Op.equalIn (d + 1) t (ren ρ u) (ren ρ v)).run P w = .ok c w) ∧ eqCells ks x y = some rest ∧ res = (c && rest) ∧ P.plainKey t = true := by
  unfold leafK at hk
  split at hk
  · rename_i ht
    cases hk
    cases u <;> cases v <;> simp only [eqCells] at h <;> try (cases h; done)
    rename_i p q
    rw [Option.map_eq_some_iff] at h
    obtain ⟨rest, hr, rfl⟩ := h
    exact ⟨p == q, rest, fun d => by simp only [ren]; exact run_equalIn_bool' w d t p q ht, hr, rfl, by simp [Program.plainKey, ht]⟩
  · rename_i k' ht
    cases hk
    cases u <;> cases v <;> simp only [eqCells] at h <;> try (cases h; done)
    rename_i k1 p k2 q
    split at h
    · rename_i hkk
      subst hkk
      rw [Option.map_eq_some_iff] at h
      obtain ⟨rest, hr, rfl⟩ := h
      exact ⟨p == q, rest, fun d => by simp only [ren]; exact run_equalIn_int w d t k1 _ p q ht, hr, rfl, by simp [Program.plainKey, ht]⟩
    · cases h
  · rename_i ht
    cases hk
    cases u <;> cases v <;> simp only [eqCells] at h <;> try (cases h; done)
    rename_i p q
    rw [Option.map_eq_some_iff] at h
    obtain ⟨rest, hr, rfl⟩ := h
    refine ⟨p == q, rest, fun d => ?_, hr, rfl, by simp [Program.plainKey, ht]⟩
    simp only [ren]
    rw [run_equalIn_string w d t _ _ ht, bytes_toList, bytes_toList]
  · cases hk

theorem eqCells_step {ks : List Nat} {k : Nat} {x y : List AVal} {res : Bool} (h : eqCells (k :: ks) x y = some res) : ∃ u x' v y', x = u :: x' ∧ y = v :: y' := by
  cases x with
  | nil => cases y <;> cases k using Nat.casesOn <;> simp [eqCells] at h
  | cons u x' => cases y with
    | nil =>
      match k, u with
      | 0, .b _ => simp [eqCells] at h
      | 1, .i _ _ => simp [eqCells] at h
      | 2, .s _ => simp [eqCells] at h
      | _, _ => simp_all [eqCells]
    | cons v y' => exact ⟨u, x', v, y', rfl, rfl⟩

/-- The fields of a struct, each a cell. -/
def flatF (P : Program) : List Field → Nat → Option (List Nat)
  | [], _ => some []
  | f :: fs, j => if f.name ≠ "_" ∧ f.offset = j then (match leafK P f.type, flatF P fs (j + 1) with | some k, some ks => some (k :: ks) | _, _ => none) else none

theorem eqFields_sim : ∀ (fs : List Field) (j : Nat) (ks : List Nat) (xs ys x y : List AVal) (res : Bool), flatF P fs j = some ks → xs.drop j = x → ys.drop j = y → eqCells ks x y = some res →
    (Op.eqFields 9999 (renL ρ xs).toArray (renL ρ ys).toArray fs).run P w = .ok res w := by
  intro fs
  induction fs with
  | nil =>
    intro j ks xs ys x y res h1 _ _ h2
    simp only [flatF, Option.some.injEq] at h1; subst h1
    cases x <;> cases y <;> simp [eqCells] at h2
    subst h2; simp [Op.eqFields]
  | cons f fs ih =>
    intro j ks xs ys x y res h1 hx hy h2
    simp only [flatF] at h1
    split at h1
    · rename_i hc
      obtain ⟨hname, hoff⟩ := hc
      split at h1
      · rename_i k ks' hk hks
        simp only [Option.some.injEq] at h1; subst h1
        obtain ⟨u, x', v, y', rfl, rfl⟩ := eqCells_step h2
        obtain ⟨c, rest, hrun, hrest, rfl, hplain⟩ := leaf_eq (ρ := ρ) (w := w) hk h2
        have hxj : xs[j]? = some u := by have := congrArg (·[0]?) hx; simpa using this
        have hyj : ys[j]? = some v := by have := congrArg (·[0]?) hy; simpa using this
        have p1 := run_part_plain w hplain (xs := (renL ρ xs).toArray) (off := f.offset) (v := ren ρ u) (by rw [hoff]; simp [renL_get, hxj])
        have p2 := run_part_plain w hplain (xs := (renL ρ ys).toArray) (off := f.offset) (v := ren ρ v) (by rw [hoff]; simp [renL_get, hyj])
        have ihr := ih (j + 1) ks' xs ys x' y' rest hks (by rw [← List.drop_drop, hx]; rfl) (by rw [← List.drop_drop, hy]; rfl) hrest
        simp only [Op.eqFields, hname, ne_eq, not_false_eq_true, if_true, Sem.run_bind, p1, p2, Result.andThen_ok, hrun 9998]
        cases c
        · simp
        · simpa using ihr
      · cases h1
    · cases h1

theorem eqAg_sim (r : Rel P G ds ρ D n e a H w) {o : Oper} {op : BinOp} {t t' : TypeId} {x y : Operand} (ho : o.op = .binOp op t x y t') (hop : op = .eql ∨ op = .neq) {fs : Array Field}
    (ht : P.underlying t = some (.struct fs)) (hst : P.stoodInHeld t = false) (hg : P.eqGuardType P.depth t = false) {ks : List Nat} (hks : flatF P fs.toList 0 = some ks) {u v : List AVal} {res : Bool}
    (hx : a.eval x = ren ρ (.ag u)) (hy : a.eval y = ren ρ (.ag v)) (hr : eqCells ks u v = some res) : Sim G lo ρ D H w ((execOp a.eval o).run P w) (some (.b (if op = .neq then !res else res))) H := by
  refine sim_val r.heap ?_ (by simp [ok])
  have hf : P.fieldsOf t = fs := by simp [Program.fieldsOf, ht]
  have h1 := eqFields_sim (P := P) (ρ := ρ) (w := w) fs.toList 0 ks u v u v res hks rfl rfl hr
  have h2 := run_equalIn_agg w 9999 t (renL ρ u).toArray (renL ρ v).toArray (by rw [hf]; exact ht) hst
  rw [hf, h1] at h2
  rcases hop with rfl | rfl
  · have h3 := run_eql_struct (P := P) w t (renL ρ u).toArray (renL ρ v).toArray
    rw [h2] at h3
    simp [execOp, ho, hx, hy, ren, run_eqGuard_agg w .eql t x y _ _ hg, h3]
  · have h3 := run_neq_struct (P := P) w t (renL ρ u).toArray (renL ρ v).toArray
    rw [h2] at h3
    simp [execOp, ho, hx, hy, ren, run_eqGuard_agg w .neq t x y _ _ hg, h3]

theorem un_sim (r : Rel P G ds ρ D n e a H w) {o : Oper} {op : UnOp} {t : TypeId} {x : Operand} (ho : o.op = .unOp op t x) {u z : AVal} (hx : a.eval x = ren ρ u) (hz : unV op u = some z) :
    Sim G lo ρ D H w ((execOp a.eval o).run P w) (some z) H := by
  obtain ⟨h1, h2⟩ := run_unary (P := P) (w := w) op ρ hz
  refine sim_val r.heap ?_ (noId_ok _ _ _ h2)
  simp [execOp, ho, hx, h1]

theorem conv_sim (r : Rel P G ds ρ D n e a H w) {o : Oper} {s t : TypeId} {x : Operand} (ho : o.op = .convert s t x) {ds : TypeDesc} {k : IntKind} (hs : P.underlying s = some ds) (ht : P.underlying t = some (.int k)) {k' : IntKind} {m : Int}
    (hx : a.eval x = .int k' m) : Sim G lo ρ D H w ((execOp a.eval o).run P w) (some (.i k (wrapI k m))) H := by
  refine sim_val r.heap ?_ (by simp [ok])
  simp [execOp, ho, hx, convert, run_underlying hs, run_underlying ht, Conv.intToInt, ren, wrapI_eq]

theorem same_sim (r : Rel P G ds ρ D n e a H w) {o : Oper} {s t : TypeId} {x : Operand} (ho : o.op = .convert s t x) {ds : TypeDesc} (hs : P.underlying s = some ds) (ht : P.underlying t = some .string) {v : List UInt8}
    (hx : a.eval x = ren ρ (.s v)) : Sim G lo ρ D H w ((execOp a.eval o).run P w) (some (.s v)) H := by
  refine sim_val r.heap ?_ (by simp [ok])
  have : (convert s t (.string ⟨v.toArray⟩)).run P w = .ok (.string ⟨v.toArray⟩) w := by
    cases ds <;> simp [convert, run_underlying hs, run_underlying ht]
  simp [execOp, ho, hx, ren, this]

theorem nck_sim (r : Rel P G ds ρ D n e a H w) {o : Oper} {x : Operand} (ho : o.op = .nilCheck x) {v : AVal} (hx : a.eval x = ren ρ v) (hv : ok ρ D v) (hn : (∃ id off, v = .p id off) ∨ (∃ f p q, v = .fn (.func f) p q) ∨ (∃ t u, v = .ifc t u)) :
    Sim G lo ρ D H w ((execOp a.eval o).run P w) (some v) H := by
  refine sim_val r.heap ?_ hv
  rcases hn with ⟨id, off, rfl⟩ | ⟨f, p, q, rfl⟩ | ⟨t, u, rfl⟩ <;> simp [execOp, ho, hx, ren]

/-! ### Addresses and parts -/
theorem off_sim (r : Rel P G ds ρ D n e a H w) {o : Oper} {s : TypeId} {x : Operand} {j : Nat} (ho : o.op = .fieldAddr s x j) {fs : Array Field} {f : Field} {i : TypeInfo} (hs : P.underlying s = some (.struct fs)) (hf : fs[j]? = some f)
    (hi : P.info? f.type = some i) (hsz : i.size ≠ 0) {u v : AVal} (hx : a.eval x = ren ρ u) (hu : ok ρ D u) (hv : offV f.offset u = some v) : Sim G lo ρ D H w ((execOp a.eval o).run P w) (some v) H := by
  cases u <;> simp only [offV] at hv <;> try (cases hv; done)
  case fp l => simp [ok] at hu
  cases hv
  refine sim_val r.heap ?_ (by simpa [ok] using hu)
  simp [execOp, ho, hx, ren, Instr.fieldAt, run_underlying hs, hf, Instr.sureAddr, fieldPlace, run_sizeOf' hi, hsz, addr_add, Nat.add_assoc]

theorem run_part (t : TypeId) {d : TypeDesc} {i : TypeInfo} (hd : P.underlying t = some d) (hi : P.info? t = some i) {l : List AVal} {off : Nat} {v : AVal} (hl : okL ρ D l) (hone : oneL l = true) (hv : partV (if isAggD d then some i.size else none) off (.ag l) = some v) :
    (part t (renL ρ l).toArray off).run P w = .ok (ren ρ v) w ∧ ok ρ D v := by
  simp only [partV] at hv
  cases hagg : isAggD d with
  | true =>
    simp only [hagg, if_true] at hv
    split at hv
    · rename_i hle
      cases hv
      refine ⟨?_, ?_⟩
      · simp [part, run_isAgg' hd, hagg, run_sizeOf' hi, ren, renL_map, ← List.map_drop, ← List.map_take]
      · simp only [ok]; exact ⟨okL_sub hl fun v hv => List.mem_of_mem_drop (List.mem_of_mem_take hv), oneL_sub hone fun v hv => List.mem_of_mem_drop (List.mem_of_mem_take hv)⟩
    · cases hv
  | false =>
    simp only [hagg, Bool.false_eq_true, if_false] at hv
    refine ⟨?_, okL_get hl hv⟩
    simp [part, run_isAgg' hd, hagg, renL_get, hv]

theorem part_sim (r : Rel P G ds ρ D n e a H w) {o : Oper} {s : TypeId} {x : Operand} {j : Nat} (ho : o.op = .field s x j) {fs : Array Field} {f : Field} {d : TypeDesc} {i : TypeInfo} (hs : P.underlying s = some (.struct fs)) (hf : fs[j]? = some f)
    (hd : P.underlying f.type = some d) (hi : P.info? f.type = some i) {u v : AVal} (hx : a.eval x = ren ρ u) (hu : ok ρ D u) (hv : partV (if isAggD d then some i.size else none) f.offset u = some v) :
    Sim G lo ρ D H w ((execOp a.eval o).run P w) (some v) H := by
  cases u <;> simp only [partV] at hv <;> try (cases hv; done)
  case ag l =>
    simp only [ok] at hu
    obtain ⟨h1, h2⟩ := run_part (P := P) (w := w) (ρ := ρ) (D := D) f.type hd hi hu.1 hu.2 (v := v) hv
    refine sim_val r.heap ?_ h2
    simp [execOp, ho, hx, ren, Instr.field, run_underlying hs, hf, asAgg, h1]

theorem iaddr_sim (r : Rel P G ds ρ D n e a H w) {o : Oper} {t : TypeId} {x y : Operand} (ho : o.op = .indexAddr t x y) {el : TypeId} {i : TypeInfo} (ht : P.underlying t = some (.slice el)) (hi : P.info? el = some i)
    {u v z : AVal} (hx : a.eval x = ren ρ u) (hu : ok ρ D u) (hy : a.eval y = ren ρ v) (hz : iaddrV i.size u v = some z) : Sim G lo ρ D H w ((execOp a.eval o).run P w) (some z) H := by
  cases u <;> cases v <;> simp only [iaddrV] at hz <;> (try (cases hz; done)) <;> (try (simp [ok] at hu; done))
  split at hz
  · rename_i hb
    cases hz
    simp only [ok] at hu
    refine sim_val r.heap ?_ (by simpa [ok] using hu.1)
    simp [execOp, ho, hx, hy, ren, Instr.indexAt, asIntOf, run_underlying ht, hb, run_sizeOf' hi, addr_add, Nat.add_assoc]
  · cases hz

theorem iaddrA_sim (r : Rel P G ds ρ D n e a H w) {o : Oper} {t : TypeId} {x y : Operand} (ho : o.op = .indexAddr t x y) {el : TypeId} {len : Nat} {i : TypeInfo} (ht : P.underlying t = some (.array len el)) (hi : P.info? el = some i)
    {u v z : AVal} (hx : a.eval x = ren ρ u) (hu : ok ρ D u) (hy : a.eval y = ren ρ v) (hz : iaddrAV i.size len u v = some z) : Sim G lo ρ D H w ((execOp a.eval o).run P w) (some z) H := by
  cases u <;> cases v <;> simp only [iaddrAV] at hz <;> (try (cases hz; done)) <;> (try (simp [ok] at hu; done))
  split at hz
  · rename_i hb
    cases hz
    simp only [ok] at hu
    refine sim_val r.heap ?_ (by simpa [ok] using hu)
    simp [execOp, ho, hx, hy, ren, Instr.indexAt, asIntOf, run_underlying ht, hb, run_sizeOf' hi, addr_add, Nat.add_assoc, Instr.sureAddr]
  · cases hz

theorem idxS_sim (r : Rel P G ds ρ D n e a H w) {o : Oper} {t : TypeId} {x y : Operand} (ho : o.op = .index t x y) (ht : P.underlying t = some .string)
    {u v z : AVal} (hx : a.eval x = ren ρ u) (hy : a.eval y = ren ρ v) (hz : idxSV u v = some z) : Sim G lo ρ D H w ((execOp a.eval o).run P w) (some z) H := by
  cases u <;> cases v <;> simp only [idxSV] at hz <;> try (cases hz; done)
  rename_i l k m
  split at hz
  · rename_i hb
    rw [Option.map_eq_some_iff] at hz
    obtain ⟨c, hc, rfl⟩ := hz
    refine sim_val r.heap ?_ (by simp [ok])
    have hget : (ByteArray.mk l.toArray)[m.toNat]? = some c := by
      have hlt : m.toNat < l.length := by
        rcases Nat.lt_or_ge m.toNat l.length with h | h
        · exact h
        · rw [List.getElem?_eq_none h] at hc; cases hc
      rw [getElem?_pos _ _ (by rw [bytes_size]; exact hlt)]
      rw [List.getElem?_eq_getElem hlt] at hc
      simpa [ByteArray.getElem_eq_getElem_data] using hc
    simp [execOp, ho, hx, hy, ren, Instr.index, asIntOf, run_underlying ht, hb, hget]
  · cases hz

theorem idxA_sim (r : Rel P G ds ρ D n e a H w) {o : Oper} {t : TypeId} {x y : Operand} (ho : o.op = .index t x y) {el : TypeId} {len : Nat} {d : TypeDesc} {i : TypeInfo} (ht : P.underlying t = some (.array len el)) (hd : P.underlying el = some d) (hi : P.info? el = some i)
    {u v z : AVal} (hx : a.eval x = ren ρ u) (hu : ok ρ D u) (hy : a.eval y = ren ρ v) (hz : idxAV (if isAggD d then some i.size else none) i.size len u v = some z) : Sim G lo ρ D H w ((execOp a.eval o).run P w) (some z) H := by
  cases v <;> simp only [idxAV] at hz <;> try (cases hz; done)
  split at hz
  · rename_i hb
    cases u <;> simp only [partV] at hz <;> try (cases hz; done)
    case ag l =>
      simp only [ok] at hu
      obtain ⟨h1, h2⟩ := run_part (P := P) (w := w) (ρ := ρ) (D := D) el hd hi hu.1 hu.2 (v := z) hz
      refine sim_val r.heap ?_ h2
      simp [execOp, ho, hx, hy, ren, Instr.index, asIntOf, run_underlying ht, hb, run_sizeOf' hi, h1]
  · cases hz

theorem ext_sim (r : Rel P G ds ρ D n e a H w) {o : Oper} {x : Operand} {k : Nat} (ho : o.op = .extract x k) {u v : AVal} (hx : a.eval x = ren ρ u) (hu : ok ρ D u) (hv : extV k u = some v) :
    Sim G lo ρ D H w ((execOp a.eval o).run P w) (some v) H := by
  cases u <;> simp only [extV] at hv <;> try (cases hv; done)
  simp only [ok] at hu
  refine sim_val r.heap ?_ (okL_get hu hv)
  simp [execOp, ho, hx, ren, Instr.extract, renL_get, hv]

theorem iface_sim (r : Rel P G ds ρ D n e a H w) {o : Oper} {t : TypeId} {x : Operand} (ho : o.op = .makeInterface t x) {d : TypeDesc} (ht : P.underlying t = some d) (hd : ∀ ms, d ≠ .interface ms) {v : AVal} (hx : a.eval x = ren ρ v) (hv : ok ρ D v) :
    Sim G lo ρ D H w ((execOp a.eval o).run P w) (some (.ifc t v)) H := by
  refine sim_val r.heap ?_ (by simpa [ok] using hv)
  cases d <;> simp_all [execOp, Instr.makeInterface, run_underlying ht, ren]

theorem mkf_sim (r : Rel P G ds ρ D n e a H w) {o : Oper} {f : FuncId} {x y : Array Operand} (ho : o.op = .makeFunc (.func f) x y) {u v : List AVal} (hx : x.toList.map a.eval = renL ρ u) (hu : okL ρ D u) (hy : y.toList.map a.eval = renL ρ v) (hv : okL ρ D v) :
    Sim G lo ρ D H w ((execOp a.eval o).run P w) (some (.fn (.func f) u v)) H := by
  refine sim_val r.heap ?_ (by simp [ok, hu, hv])
  have e1 : x.map a.eval = (renL ρ u).toArray := by apply Array.ext'; rw [Array.toList_map, hx]
  have e2 : y.map a.eval = (renL ρ v).toArray := by apply Array.ext'; rw [Array.toList_map, hy]
  simp [execOp, ho, Instr.makeFunc, e1, e2, ren]

end
end Go.RI

