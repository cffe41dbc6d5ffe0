/- RI, part A: values of the interpreter, their renaming to the machine's values, the interpreter's heap. Conditions: none. -/
import Derived.Calls
import Derived.Orders
import Derived.KernelRfl
namespace Go.RI
open Go

/-- A value of the interpreter: as the machine's, but its addresses are names of the interpreter's own objects. A slice's capacity is known or not. -/
inductive AVal where
  | b (v : Bool)
  | i (k : IntKind) (n : Int)
  | s (v : List UInt8)
  | np
  | p (id off : Nat)
  | ns
  | sl (id off len : Nat) (cap : Option Nat)
  | fn (f : Fn) (fst cap : List AVal)
  | nf
  | ag (l : List AVal)
  | tu (l : List AVal)
  | nm
  | m (id : Nat)
  | ifc (t : TypeId) (v : AVal)
  | nif
  deriving Inhabited

/-- Where an object of the interpreter lies in the machine's heap. -/
structure Loc where
  blk : Nat
  base : Nat
  ext : Nat
  esz : Nat

abbrev Ren := Nat → Loc

mutual
def ren (ρ : Ren) : AVal → Value
  | .b v => .bool v
  | .i k n => .int k n
  | .s v => .string ⟨v.toArray⟩
  | .np => .pointer none
  | .p id off => .pointer (some ⟨(ρ id).blk, (ρ id).base + off, none⟩)
  | .ns => .slice none 0 0
  | .sl id off len cap => .slice (some ⟨(ρ id).blk, (ρ id).base + off, none⟩) len (cap.getD (((ρ id).ext - off) / (ρ id).esz))
  | .fn f a c => .func f (renL ρ a).toArray (renL ρ c).toArray
  | .nf => .nilFunc
  | .ag l => .agg (renL ρ l).toArray
  | .tu l => .tuple (renL ρ l).toArray
  | .nm => .map none
  | .m id => .map (some (ρ id).blk)
  | .ifc t v => .iface t (ren ρ v)
  | .nif => .nilIface
def renL (ρ : Ren) : List AVal → List Value
  | [] => []
  | v :: l => ren ρ v :: renL ρ l
end

theorem renL_map (ρ : Ren) (l : List AVal) : renL ρ l = l.map (ren ρ) := by
  induction l with
  | nil => rfl
  | cons v l ih => simp [renL, ih]

/-- Does it fill one cell? -/
def one : AVal → Bool
  | .ag _ => false
  | .tu _ => false
  | _ => true
def oneL : List AVal → Bool
  | [] => true
  | v :: l => one v && oneL l

theorem oneL_iff {l : List AVal} : oneL l = true ↔ ∀ v ∈ l, one v = true := by
  induction l with
  | nil => simp [oneL]
  | cons v l ih => simp [oneL, ih]

mutual
/-- Every name in the value is one of the named objects; a slice of unknown capacity has at least its length. -/
def ok (ρ : Ren) (D : Nat → Prop) : AVal → Prop
  | .p id _ => D id
  | .sl id off len cap => D id ∧ (cap = none → len ≤ ((ρ id).ext - off) / (ρ id).esz)
  | .fn _ a c => okL ρ D a ∧ okL ρ D c
  | .ag l => okL ρ D l ∧ oneL l = true
  | .tu l => okL ρ D l
  | .m id => D id
  | .ifc _ v => ok ρ D v
  | _ => True
def okL (ρ : Ren) (D : Nat → Prop) : List AVal → Prop
  | [] => True
  | v :: l => ok ρ D v ∧ okL ρ D l
end

theorem okL_iff {ρ : Ren} {D : Nat → Prop} {l : List AVal} : okL ρ D l ↔ ∀ v ∈ l, ok ρ D v := by
  induction l with
  | nil => simp [okL]
  | cons v l ih => simp [okL, ih]

mutual
theorem ren_congr {ρ ρ' : Ren} {D : Nat → Prop} (h : ∀ id, D id → ρ' id = ρ id) : ∀ (v : AVal), ok ρ D v → ren ρ' v = ren ρ v
  | .b _, _ | .i _ _, _ | .s _, _ | .np, _ | .ns, _ | .nf, _ | .nm, _ | .nif, _ => by simp [ren]
  | .p id _, hv => by simp only [ok] at hv; simp [ren, h id hv]
  | .sl id _ _ _, hv => by simp only [ok] at hv; simp [ren, h id hv.1]
  | .fn _ a c, hv => by simp only [ok] at hv; simp [ren, renL_congr h a hv.1, renL_congr h c hv.2]
  | .ag l, hv => by simp only [ok] at hv; simp [ren, renL_congr h l hv.1]
  | .tu l, hv => by simp only [ok] at hv; simp [ren, renL_congr h l hv]
  | .m id, hv => by simp only [ok] at hv; simp [ren, h id hv]
  | .ifc _ v, hv => by simp only [ok] at hv; simp [ren, ren_congr h v hv]
theorem renL_congr {ρ ρ' : Ren} {D : Nat → Prop} (h : ∀ id, D id → ρ' id = ρ id) : ∀ (l : List AVal), okL ρ D l → renL ρ' l = renL ρ l
  | [], _ => rfl
  | v :: l, hv => by simp only [okL] at hv; simp [renL, ren_congr h v hv.1, renL_congr h l hv.2]
end

mutual
theorem ok_mono {ρ ρ' : Ren} {D D' : Nat → Prop} (h : ∀ id, D id → D' id ∧ ρ' id = ρ id) : ∀ (v : AVal), ok ρ D v → ok ρ' D' v
  | .b _, _ | .i _ _, _ | .s _, _ | .np, _ | .ns, _ | .nf, _ | .nm, _ | .nif, _ => by simp [ok]
  | .p id _, hv => by simp only [ok] at *; exact (h id hv).1
  | .sl id _ _ _, hv => by simp only [ok] at *; rw [(h id hv.1).2]; exact ⟨(h id hv.1).1, hv.2⟩
  | .fn _ a c, hv => by simp only [ok] at *; exact ⟨okL_mono h a hv.1, okL_mono h c hv.2⟩
  | .ag l, hv => by simp only [ok] at *; exact ⟨okL_mono h l hv.1, hv.2⟩
  | .tu l, hv => by simp only [ok] at *; exact okL_mono h l hv
  | .m id, hv => by simp only [ok] at *; exact (h id hv).1
  | .ifc _ v, hv => by simp only [ok] at *; exact ok_mono h v hv
theorem okL_mono {ρ ρ' : Ren} {D D' : Nat → Prop} (h : ∀ id, D id → D' id ∧ ρ' id = ρ id) : ∀ (l : List AVal), okL ρ D l → okL ρ' D' l
  | [], _ => by simp [okL]
  | v :: l, hv => by simp only [okL] at *; exact ⟨ok_mono h v hv.1, okL_mono h l hv.2⟩
end

/-! ### A table by numbers -/
inductive Trie (α : Type) where
  | e
  | n (l : Trie α) (o : Option α) (r : Trie α)

def Trie.get {α : Type} : Trie α → Nat → Option α
  | .e, _ => none
  | .n l o r, k => if k = 0 then o else if k % 2 = 1 then l.get (k / 2) else r.get (k / 2 - 1)

/-- 'f': rounds; it needs no more than the key and one. -/
def Trie.put {α : Type} (v : Option α) : Nat → Trie α → Nat → Trie α
  | 0, t, _ => t
  | f + 1, .e, k => if k = 0 then .n .e v .e else if k % 2 = 1 then .n (Trie.put v f .e (k / 2)) none .e else .n .e none (Trie.put v f .e (k / 2 - 1))
  | f + 1, .n l o r, k => if k = 0 then .n l v r else if k % 2 = 1 then .n (Trie.put v f l (k / 2)) o r else .n l o (Trie.put v f r (k / 2 - 1))

theorem Trie.get_put {α : Type} (v : Option α) : ∀ (f : Nat) (t : Trie α) (k j : Nat), k < f → (t.put v f k).get j = if j = k then v else t.get j := by
  intro f
  induction f with
  | zero => intro t k j h; omega
  | succ f ih =>
    intro t k j h
    by_cases k0 : k = 0
    · subst k0
      cases t with
      | e => by_cases j0 : j = 0 <;> simp [Trie.put, Trie.get, j0]
      | n l o r => by_cases j0 : j = 0 <;> simp [Trie.put, Trie.get, j0]
    · by_cases kodd : k % 2 = 1
      · cases t with
        | e =>
          by_cases j0 : j = 0
          · have : j ≠ k := by omega
            simp [Trie.put, Trie.get, k0, kodd, j0]; omega
          · by_cases jodd : j % 2 = 1
            · simp only [Trie.put, Trie.get, k0, kodd, j0, jodd, if_true, if_false]
              rw [ih _ _ _ (by omega)]
              by_cases e : j = k
              · simp [e]
              · rw [if_neg e, if_neg (by omega)]; rfl
            · have : j ≠ k := by intro e; omega
              simp [Trie.put, Trie.get, k0, kodd, j0, jodd, this]
        | n l o r =>
          by_cases j0 : j = 0
          · have : j ≠ k := by omega
            simp [Trie.put, Trie.get, k0, kodd, j0]; omega
          · by_cases jodd : j % 2 = 1
            · simp only [Trie.put, Trie.get, k0, kodd, j0, jodd, if_true, if_false]
              rw [ih _ _ _ (by omega)]
              by_cases e : j = k
              · simp [e]
              · rw [if_neg e, if_neg (by omega)]
            · have : j ≠ k := by intro e; omega
              simp [Trie.put, Trie.get, k0, kodd, j0, jodd, this]
      · cases t with
        | e =>
          by_cases j0 : j = 0
          · have : j ≠ k := by omega
            simp [Trie.put, Trie.get, k0, kodd, j0]; omega
          · by_cases jodd : j % 2 = 1
            · have : j ≠ k := by intro e; omega
              simp [Trie.put, Trie.get, k0, kodd, j0, jodd, this]
            · simp only [Trie.put, Trie.get, k0, kodd, j0, jodd, if_false]
              rw [ih _ _ _ (by omega)]
              by_cases e : j = k
              · simp [e]
              · rw [if_neg e, if_neg (by omega)]; rfl
        | n l o r =>
          by_cases j0 : j = 0
          · have : j ≠ k := by omega
            simp [Trie.put, Trie.get, k0, kodd, j0]; omega
          · by_cases jodd : j % 2 = 1
            · have : j ≠ k := by intro e; omega
              simp [Trie.put, Trie.get, k0, kodd, j0, jodd, this]
            · simp only [Trie.put, Trie.get, k0, kodd, j0, jodd, if_false]
              rw [ih _ _ _ (by omega)]
              by_cases e : j = k
              · simp [e]
              · rw [if_neg e, if_neg (by omega)]

/-! ### The heap -/
/-- An object: a row of cells ('ro': it may not be written), a map's entries. -/
inductive AObj where
  | cells (c : List AVal) (esz : Nat) (ro : Bool)
  | map (es : List (AVal × AVal))

structure AHeap where
  next : Nat
  tbl : Trie AObj

def AHeap.get (H : AHeap) (n : Nat) : Option AObj := H.tbl.get n
def AHeap.put (H : AHeap) (n : Nat) (o : Option AObj) : AHeap := { H with tbl := H.tbl.put o (n + 1) n }
def AHeap.push (H : AHeap) (o : AObj) : AHeap := { next := H.next + 1, tbl := H.tbl.put (some o) (H.next + 1) H.next }

theorem AHeap.get_put (H : AHeap) (n j : Nat) (o : Option AObj) : (H.put n o).get j = if j = n then o else H.get j :=
  Trie.get_put _ _ _ _ _ (Nat.lt_succ_self n)
theorem AHeap.get_push (H : AHeap) (j : Nat) (o : AObj) : (H.push o).get j = if j = H.next then some o else H.get j :=
  Trie.get_put _ _ _ _ _ (Nat.lt_succ_self H.next)
theorem AHeap.next_put (H : AHeap) (n : Nat) (o : Option AObj) : (H.put n o).next = H.next := rfl
theorem AHeap.next_push (H : AHeap) (o : AObj) : (H.push o).next = H.next + 1 := rfl

/-- May it be written? -/
def AObj.wr : AObj → Bool
  | .cells _ _ ro => !ro
  | .map _ => true

end Go.RI
