/- RI, part A: values of the interpreter, their renaming to the machine's values, the interpreter's heap. Conditions: none. -/
import Derived.Calls
import Derived.Orders
import Derived.KernelRfl
namespace Go.RI
open Go
set_option linter.unusedSimpArgs false

/-- A value of the interpreter: as the machine's, but its addresses are names of the interpreter's own objects. A slice's capacity is known or not. 'fs', 'fp': a slice, a pointer of what nobody writes, by what it reads (not at this level: see part T). 'es': an empty slice that is no nil, its place told outright. -/
inductive AVal where
  | b (v : Bool)
  | i (k : IntKind) (n : Int)
  | s (v : List UInt8)
  | np
  | p (id off : Nat)
  | ns
  | sl (id off len : Nat) (cap : Option Nat)
  | fn (f : Fn) (fst cap : List AVal)
  | nf
  | ag (l : List AVal)
  | tu (l : List AVal)
  | nm
  | m (id : Nat)
  | ifc (t : TypeId) (v : AVal)
  | nif
  | fs (tmp full : Bool) (len : Nat) (l : List AVal)
  | fp (l : List AVal)
  | es (a : Addr)
  deriving Inhabited

/-- Where an object of the interpreter lies in the machine's heap. -/
structure Loc where
  blk : Nat
  base : Nat
  ext : Nat
  esz : Nat

abbrev Ren := Nat → Loc

mutual
def ren (ρ : Ren) : AVal → Value
  | .b v => .bool v
  | .i k n => .int k n
  | .s v => .string ⟨v.toArray⟩
  | .np => .pointer none
  | .p id off => .pointer (some ⟨(ρ id).blk, (ρ id).base + off, none⟩)
  | .ns => .slice none 0 0
  | .sl id off len cap => .slice (some ⟨(ρ id).blk, (ρ id).base + off, none⟩) len (cap.getD (((ρ id).ext - off) / (ρ id).esz))
  | .fn f a c => .func f (renL ρ a).toArray (renL ρ c).toArray
  | .nf => .nilFunc
  | .ag l => .agg (renL ρ l).toArray
  | .tu l => .tuple (renL ρ l).toArray
  | .nm => .map none
  | .m id => .map (some (ρ id).blk)
  | .ifc t v => .iface t (ren ρ v)
  | .nif => .nilIface
  | .fs _ _ _ _ => .slice none 0 0
  | .fp _ => .pointer none
  | .es a => .slice (some a) 0 0
def renL (ρ : Ren) : List AVal → List Value
  | [] => []
  | v :: l => ren ρ v :: renL ρ l
end

theorem renL_map (ρ : Ren) (l : List AVal) : renL ρ l = l.map (ren ρ) := by
  induction l with
  | nil => rfl
  | cons v l ih => simp [renL, ih]

/-- Does it fill one cell? -/
def one : AVal → Bool
  | .ag _ => false
  | .tu _ => false
  | _ => true
def oneL : List AVal → Bool
  | [] => true
  | v :: l => one v && oneL l

theorem oneL_iff {l : List AVal} : oneL l = true ↔ ∀ v ∈ l, one v = true := by
  induction l with
  | nil => simp [oneL]
  | cons v l ih => simp [oneL, ih]

mutual
/-- Every name in the value is one of the named objects; a slice of unknown capacity has at least its length. -/
def ok (ρ : Ren) (D : Nat → Prop) : AVal → Prop
  | .p id _ => D id
  | .sl id off len cap => D id ∧ (cap = none → len ≤ ((ρ id).ext - off) / (ρ id).esz)
  | .fn _ a c => okL ρ D a ∧ okL ρ D c
  | .ag l => okL ρ D l ∧ oneL l = true
  | .tu l => okL ρ D l
  | .m id => D id
  | .ifc _ v => ok ρ D v
  | .fs _ _ _ _ => False
  | .fp _ => False
  | _ => True
def okL (ρ : Ren) (D : Nat → Prop) : List AVal → Prop
  | [] => True
  | v :: l => ok ρ D v ∧ okL ρ D l
end

theorem okL_iff {ρ : Ren} {D : Nat → Prop} {l : List AVal} : okL ρ D l ↔ ∀ v ∈ l, ok ρ D v := by
  induction l with
  | nil => simp [okL]
  | cons v l ih => simp [okL, ih]

mutual
theorem ren_congr {ρ ρ' : Ren} {D : Nat → Prop} (h : ∀ id, D id → ρ' id = ρ id) : ∀ (v : AVal), ok ρ D v → ren ρ' v = ren ρ v
  | .b _, _ | .i _ _, _ | .s _, _ | .np, _ | .ns, _ | .nf, _ | .nm, _ | .nif, _ | .es _, _ => by simp [ren]
  | .p id _, hv => by simp only [ok] at hv; simp [ren, h id hv]
  | .sl id _ _ _, hv => by simp only [ok] at hv; simp [ren, h id hv.1]
  | .fn _ a c, hv => by simp only [ok] at hv; simp [ren, renL_congr h a hv.1, renL_congr h c hv.2]
  | .ag l, hv => by simp only [ok] at hv; simp [ren, renL_congr h l hv.1]
  | .tu l, hv => by simp only [ok] at hv; simp [ren, renL_congr h l hv]
  | .m id, hv => by simp only [ok] at hv; simp [ren, h id hv]
  | .ifc _ v, hv => by simp only [ok] at hv; simp [ren, ren_congr h v hv]
  | .fs _ _ _ _, hv | .fp _, hv => by simp [ok] at hv
theorem renL_congr {ρ ρ' : Ren} {D : Nat → Prop} (h : ∀ id, D id → ρ' id = ρ id) : ∀ (l : List AVal), okL ρ D l → renL ρ' l = renL ρ l
  | [], _ => rfl
  | v :: l, hv => by simp only [okL] at hv; simp [renL, ren_congr h v hv.1, renL_congr h l hv.2]
end

mutual
theorem ok_mono {ρ ρ' : Ren} {D D' : Nat → Prop} (h : ∀ id, D id → D' id ∧ ρ' id = ρ id) : ∀ (v : AVal), ok ρ D v → ok ρ' D' v
  | .b _, _ | .i _ _, _ | .s _, _ | .np, _ | .ns, _ | .nf, _ | .nm, _ | .nif, _ | .es _, _ => by simp [ok]
  | .p id _, hv => by simp only [ok] at *; exact (h id hv).1
  | .sl id _ _ _, hv => by simp only [ok] at *; rw [(h id hv.1).2]; exact ⟨(h id hv.1).1, hv.2⟩
  | .fn _ a c, hv => by simp only [ok] at *; exact ⟨okL_mono h a hv.1, okL_mono h c hv.2⟩
  | .ag l, hv => by simp only [ok] at *; exact ⟨okL_mono h l hv.1, hv.2⟩
  | .tu l, hv => by simp only [ok] at *; exact okL_mono h l hv
  | .m id, hv => by simp only [ok] at *; exact (h id hv).1
  | .ifc _ v, hv => by simp only [ok] at *; exact ok_mono h v hv
  | .fs _ _ _ _, hv | .fp _, hv => by simp [ok] at hv
theorem okL_mono {ρ ρ' : Ren} {D D' : Nat → Prop} (h : ∀ id, D id → D' id ∧ ρ' id = ρ id) : ∀ (l : List AVal), okL ρ D l → okL ρ' D' l
  | [], _ => by simp [okL]
  | v :: l, hv => by simp only [okL] at *; exact ⟨ok_mono h v hv.1, okL_mono h l hv.2⟩
end

/-! ### A table by numbers -/
inductive Trie (α : Type) where
  | e
  | n (l : Trie α) (o : Option α) (r : Trie α)

/-- By the recursors themselves: the kernel runs these. -/
noncomputable def Trie.get {α : Type} (t : Trie α) : Nat → Option α :=
  @Trie.rec α (fun _ => Nat → Option α) (fun _ => none)
    (fun _ o _ gl gr k => @Nat.rec (fun _ => Option α) o (fun k' _ => @Nat.rec (fun _ => Option α) (gl (Nat.div k' 2)) (fun _ _ => gr (Nat.div k' 2)) (Nat.mod k' 2)) k) t

/-- 'f': rounds; it needs no more than the key and one. -/
noncomputable def Trie.put {α : Type} (v : Option α) (f : Nat) : Trie α → Nat → Trie α :=
  @Nat.rec (fun _ => Trie α → Nat → Trie α) (fun t _ => t)
    (fun _ pf t k => @Trie.rec α (fun _ => Trie α)
      (@Nat.rec (fun _ => Trie α) (.n .e v .e) (fun k' _ => @Nat.rec (fun _ => Trie α) (.n (pf .e (Nat.div k' 2)) none .e) (fun _ _ => .n .e none (pf .e (Nat.div k' 2))) (Nat.mod k' 2)) k)
      (fun l o r _ _ => @Nat.rec (fun _ => Trie α) (.n l v r) (fun k' _ => @Nat.rec (fun _ => Trie α) (.n (pf l (Nat.div k' 2)) o r) (fun _ _ => .n l o (pf r (Nat.div k' 2))) (Nat.mod k' 2)) k) t) f

theorem Trie.get_e {α : Type} (k : Nat) : (Trie.e : Trie α).get k = none := rfl
theorem Trie.get_n0 {α : Type} (l r : Trie α) (o : Option α) : (Trie.n l o r).get 0 = o := rfl
theorem Trie.get_n {α : Type} (l r : Trie α) (o : Option α) (k : Nat) : (Trie.n l o r).get (k + 1) = if k % 2 = 0 then l.get (k / 2) else r.get (k / 2) := by
  show (@Nat.rec (fun _ => Option α) (l.get (Nat.div k 2)) (fun _ _ => r.get (Nat.div k 2)) (Nat.mod k 2)) = _
  have hm : Nat.mod k 2 = k % 2 := rfl
  rw [hm]
  rcases Nat.mod_two_eq_zero_or_one k with h | h <;> rw [h] <;> rfl
theorem Trie.put_0 {α : Type} (v : Option α) (t : Trie α) (k : Nat) : t.put v 0 k = t := rfl
theorem Trie.put_e0 {α : Type} (v : Option α) (f : Nat) : (Trie.e : Trie α).put v (f + 1) 0 = .n .e v .e := rfl
theorem Trie.put_n0 {α : Type} (v : Option α) (f : Nat) (l r : Trie α) (o : Option α) : (Trie.n l o r).put v (f + 1) 0 = .n l v r := rfl
theorem Trie.put_e {α : Type} (v : Option α) (f k : Nat) : (Trie.e : Trie α).put v (f + 1) (k + 1) = if k % 2 = 0 then .n (Trie.e.put v f (k / 2)) none .e else .n .e none (Trie.e.put v f (k / 2)) := by
  show (@Nat.rec (fun _ => Trie α) (.n (Trie.e.put v f (Nat.div k 2)) none .e) (fun _ _ => .n .e none (Trie.e.put v f (Nat.div k 2))) (Nat.mod k 2)) = _
  have hm : Nat.mod k 2 = k % 2 := rfl
  rw [hm]
  rcases Nat.mod_two_eq_zero_or_one k with h | h <;> rw [h] <;> rfl
theorem Trie.put_n {α : Type} (v : Option α) (f k : Nat) (l r : Trie α) (o : Option α) : (Trie.n l o r).put v (f + 1) (k + 1) = if k % 2 = 0 then .n (l.put v f (k / 2)) o r else .n l o (r.put v f (k / 2)) := by
  show (@Nat.rec (fun _ => Trie α) (.n (l.put v f (Nat.div k 2)) o r) (fun _ _ => .n l o (r.put v f (Nat.div k 2))) (Nat.mod k 2)) = _
  have hm : Nat.mod k 2 = k % 2 := rfl
  rw [hm]
  rcases Nat.mod_two_eq_zero_or_one k with h | h <;> rw [h] <;> rfl

theorem Trie.get_put {α : Type} (v : Option α) : ∀ (f : Nat) (t : Trie α) (k j : Nat), k < f → (t.put v f k).get j = if j = k then v else t.get j := by
  intro f
  induction f with
  | zero => intro t k j h; omega
  | succ f ih =>
    intro t k j h
    cases k with
    | zero =>
      cases j with
      | zero => cases t <;> simp [put_e0, put_n0, get_n0]
      | succ j => cases t <;> simp [put_e0, put_n0, get_n, get_e]
    | succ k =>
      have ihk := fun (t : Trie α) (i : Nat) => ih t (k / 2) i (by omega)
      cases j with
      | zero => cases t <;> simp only [put_e, put_n] <;> split <;> simp [get_n0, get_e]
      | succ j =>
        simp only [Nat.add_right_cancel_iff]
        cases t with
        | e =>
          simp only [put_e]
          split <;> simp only [get_n, ihk, get_e]
          · by_cases c : j % 2 = 0
            · rw [if_pos c]
              by_cases e : j = k
              · rw [if_pos (by omega), if_pos e]
              · rw [if_neg (by omega), if_neg e]
            · rw [if_neg c, if_neg (by omega)]
          · by_cases c : j % 2 = 0
            · rw [if_pos c, if_neg (by omega)]
            · rw [if_neg c]
              by_cases e : j = k
              · rw [if_pos (by omega), if_pos e]
              · rw [if_neg (by omega), if_neg e]
        | n l o r =>
          simp only [put_n]
          split <;> simp only [get_n, ihk]
          · by_cases c : j % 2 = 0
            · rw [if_pos c, if_pos c]
              by_cases e : j = k
              · rw [if_pos (by omega), if_pos e]
              · rw [if_neg (by omega), if_neg e]
            · rw [if_neg c, if_neg c, if_neg (by omega)]
          · by_cases c : j % 2 = 0
            · rw [if_pos c, if_pos c, if_neg (by omega)]
            · rw [if_neg c, if_neg c]
              by_cases e : j = k
              · rw [if_pos (by omega), if_pos e]
              · rw [if_neg (by omega), if_neg e]

/-! ### The heap -/
/-- An object: a row of cells ('ro': it may not be written), a map's entries. -/
inductive AObj where
  | cells (c : List AVal) (esz : Nat) (ro : Bool)
  | map (es : List (AVal × AVal))

structure AHeap where
  next : Nat
  tbl : Trie AObj

noncomputable def AHeap.get (H : AHeap) (n : Nat) : Option AObj := H.tbl.get n
noncomputable def AHeap.put (H : AHeap) (n : Nat) (o : Option AObj) : AHeap := { H with tbl := H.tbl.put o (n + 1) n }
noncomputable def AHeap.push (H : AHeap) (o : AObj) : AHeap := { next := H.next + 1, tbl := H.tbl.put (some o) (H.next + 1) H.next }

theorem AHeap.get_put (H : AHeap) (n j : Nat) (o : Option AObj) : (H.put n o).get j = if j = n then o else H.get j :=
  Trie.get_put _ _ _ _ _ (Nat.lt_succ_self n)
theorem AHeap.get_push (H : AHeap) (j : Nat) (o : AObj) : (H.push o).get j = if j = H.next then some o else H.get j :=
  Trie.get_put _ _ _ _ _ (Nat.lt_succ_self H.next)
theorem AHeap.next_put (H : AHeap) (n : Nat) (o : Option AObj) : (H.put n o).next = H.next := rfl
theorem AHeap.next_push (H : AHeap) (o : AObj) : (H.push o).next = H.next + 1 := rfl

/-- May it be written? -/
def AObj.wr : AObj → Bool
  | .cells _ _ ro => !ro
  | .map _ => true

end Go.RI
