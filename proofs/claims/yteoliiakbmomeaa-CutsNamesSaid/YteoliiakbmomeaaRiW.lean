/- RI, part W: a region that leaves its order open, turned and checked; the interpreter's run of it is the machine's. Conditions: none. -/
import Derived.Test.YteoliiakbmomeaaRiV
namespace Go.RI
open Go

/-! ### What must be ahead -/
def tabGet : List (Nat × Nat) → Nat → Nat
  | [], _ => 0
  | (k, b) :: l, i => if k = i then b else tabGet l i

def edgeBits (tab : List (Nat × Nat)) : List Edge → Nat
  | [] => 0
  | e :: l => if Region.binds .any e then (1 <<< e.on) ||| tabGet tab e.on ||| edgeBits tab l else edgeBits tab l

def befTab (ops : Array Oper) : List Nat → List (Nat × Nat) → List (Nat × Nat)
  | [], tab => tab
  | i :: l, tab => match ops[i]? with
    | some o => befTab ops l ((i, edgeBits tab o.after.toList) :: tab)
    | none => befTab ops l tab

def befB (tab : List (Nat × Nat)) (i j : Nat) : Bool := (tabGet tab j).testBit i

theorem edgeBits_bef {ops : Array Oper} {tab : List (Nat × Nat)} (ht : ∀ i j, befB tab i j = true → Bef ops i j) {listed : Array Bool} (hc : Closed ops listed) :
    ∀ (es : List Edge), (∀ e ∈ es, Region.binds .any e = true → listed.getD e.on false = true) → ∀ i, (edgeBits tab es).testBit i = true → listed.getD i false = true := by
  intro es
  induction es with
  | nil => intro _ i h; simp [edgeBits] at h
  | cons e es ih =>
    intro hes i h
    simp only [edgeBits] at h
    split at h
    · rename_i hb
      have hon := hes e (by simp) hb
      simp only [Nat.testBit_or, Bool.or_eq_true] at h
      rcases h with (h | h) | h
      · rw [Nat.one_shiftLeft, Nat.testBit_two_pow] at h
        have : e.on = i := by simpa using h
        rw [← this]; exact hon
      · exact ht i e.on h listed hc fun o e' ho he' hb' => hc e.on o e' ho hon he' hb'
      · exact ih (fun e' he' => hes e' (by simp [he'])) i h
    · exact ih (fun e' he' => hes e' (by simp [he'])) i h

theorem befTab_ok {ops : Array Oper} : ∀ (l : List Nat) (tab : List (Nat × Nat)), (∀ i j, befB tab i j = true → Bef ops i j) → ∀ i j, befB (befTab ops l tab) i j = true → Bef ops i j := by
  intro l
  induction l with
  | nil => intro tab h; exact h
  | cons k l ih =>
    intro tab h
    simp only [befTab]
    split
    · rename_i o ho
      refine ih _ fun i j hb listed hc hr => ?_
      unfold befB at hb
      simp only [tabGet] at hb
      split at hb
      · rename_i hk
        subst hk
        exact edgeBits_bef h hc o.after.toList (fun e he hbd => hr o e ho (by simpa using he) hbd) i hb
      · exact h i j hb listed hc hr
    · exact ih _ h

/-! ### The turning -/
def drawItem (P : Program) (nt : Nat) (ops : Array Oper) (i : Nat) : Option Item :=
  match ops[i]? with
  | some o => match trItem P nt ops o with
    | some x => some { x with op := x.op.quiet }
    | none => none
  | none => none

def drawItems (P : Program) (nt : Nat) (ops : Array Oper) : List Nat → Option (List Item)
  | [] => some []
  | i :: l => match drawItem P nt ops i, drawItems P nt ops l with
    | some x, some xs => some (x :: xs)
    | _, _ => none

abbrev Row := Nat × Nat × Item
def num : Nat → List Nat → List Item → List Row
  | k, i :: l, x :: xs => (k, i, x) :: num (k + 1) l xs
  | _, _, _ => []

/-- What was loaded ahead of an act and might have come behind it. -/
def reOf (tab : List (Nat × Nat)) (L : List Row) (t c : Nat) (y : Item) : List (Nat × IOp × Option (Nat × Bool)) :=
  if y.op.act then L.filterMap fun r => if decide (r.1 < t) && r.2.2.op.looks && !befB tab r.2.1 c then r.2.2.dst.map fun s => (s, r.2.2.op, r.2.2.guard) else none
  else []

def withRe (tab : List (Nat × Nat)) (L : List Row) (r : Row) : Item := { r.2.2 with re := reOf tab L r.1 r.2.1 r.2.2 }

def chkTopo (ops : Array Oper) (L : List Row) (r : Row) : Bool :=
  match ops[r.2.1]? with
  | some o => o.after.toList.all fun e => !Region.binds .any e || L.any fun r' => decide (r'.1 < r.1) && decide (r'.2.1 = e.on)
  | none => true

def chkPair (tab : List (Nat × Nat)) (L : List Row) (r r' : Row) : Bool :=
  (decide (r.1 = r'.1) || (decide (r.2.1 ≠ r'.2.1) && (r.2.2.dst.isNone || decide (r.2.2.dst ≠ r'.2.2.dst)) &&
    ((match r'.2.2.dst with | some s => !r.2.2.reads.contains s | none => true) || befB tab r'.2.1 r.2.1 || befB tab r.2.1 r'.2.1))) &&
  (!(decide (r'.1 < r.1) && r'.2.2.op.act) || befB tab r'.2.1 r.2.1) &&
  (!(decide (r.1 < r'.1) && r.2.2.op.looks && r'.2.2.op.act) || befB tab r.2.1 r'.2.1 ||
    (r.2.2.dst.isSome && r.2.2.reads.all fun u => L.all fun z => !(decide (z.1 ≤ r'.1) && decide (z.2.2.dst = some u)) || decide (z.1 < r.1)))

def trDraw (P : Program) (nt : Nat) (ops : Array Oper) (order : List Nat) : Option (List Item) :=
  match drawItems P nt ops order with
  | none => none
  | some ys =>
    let L := num 0 order ys
    let tab := befTab ops order []
    if ((List.range ops.size).all fun i => order.contains i) && (L.all fun r => chkTopo ops L r) && (L.all fun r => L.all fun r' => chkPair tab L r r') then
      some (L.map (withRe tab L))
    else none

/-! ### It is a plan -/
theorem drawItems_len {P : Program} {nt : Nat} {ops : Array Oper} : ∀ {order : List Nat} {ys : List Item}, drawItems P nt ops order = some ys → ys.length = order.length := by
  intro order
  induction order with
  | nil => intro ys h; simp only [drawItems, Option.some.injEq] at h; subst h; rfl
  | cons i l ih =>
    intro ys h
    simp only [drawItems] at h
    split at h
    · rename_i x xs h1 h2
      cases h
      simp [ih h2]
    · cases h

theorem drawItems_get {P : Program} {nt : Nat} {ops : Array Oper} : ∀ {order : List Nat} {ys : List Item}, drawItems P nt ops order = some ys → ∀ (t i : Nat), order[t]? = some i → ∃ y, ys[t]? = some y ∧ drawItem P nt ops i = some y := by
  intro order
  induction order with
  | nil => intro ys h t i ht; simp at ht
  | cons i l ih =>
    intro ys h t j ht
    simp only [drawItems] at h
    split at h
    · rename_i x xs h1 h2
      cases h
      cases t with
      | zero => simp only [List.getElem?_cons_zero, Option.some.injEq] at ht; subst ht; exact ⟨x, rfl, h1⟩
      | succ t => exact ih h2 t j (by simpa using ht)
    · cases h

def rowOf (k : Nat) : Option Nat → Option Item → Option Row
  | some i, some x => some (k, i, x)
  | _, _ => none
theorem num_get : ∀ (k : Nat) (l : List Nat) (xs : List Item), xs.length = l.length → ∀ t : Nat, (num k l xs)[t]? = rowOf (k + t) l[t]? xs[t]? := by
  intro k l
  induction l generalizing k with
  | nil => intro xs h t; cases xs with
    | nil => simp [num, rowOf]
    | cons _ _ => simp at h
  | cons i l ih =>
    intro xs h t
    cases xs with
    | nil => simp at h
    | cons x xs =>
      simp only [num]
      cases t with
      | zero => rfl
      | succ t =>
        simp only [List.getElem?_cons_succ]
        rw [ih (k + 1) xs (by simpa using h) t]
        have : k + 1 + t = k + (t + 1) := by omega
        rw [this]

theorem draw_plan {P : Program} {nt : Nat} {ops : Array Oper} {order : List Nat} {xs : List Item} (h : trDraw P nt ops order = some xs) : Plan P nt ops order xs := by
  unfold trDraw at h
  split at h
  · cases h
  · rename_i ys hys
    simp only at h
    split at h
    · rename_i hchk
      cases h
      have hlen := drawItems_len hys
      have hbef := befTab_ok (ops := ops) order [] (fun i j h => by simp [befB, tabGet] at h)
      generalize htab : befTab ops order [] = tab at *
      simp only [Bool.and_eq_true] at hchk
      obtain ⟨⟨hall, htopo⟩, hpair⟩ := hchk
      rw [List.all_eq_true] at hall htopo hpair
      have hnum := num_get 0 order ys hlen
      generalize hL : num 0 order ys = L at *
      -- a place of the plan
      have key : ∀ (t : Nat) (x : Item), (L.map (withRe tab L))[t]? = some x → ∃ i y, order[t]? = some i ∧ ys[t]? = some y ∧ (t, i, y) ∈ L ∧ x.op = y.op ∧ x.dst = y.dst ∧ x.guard = y.guard ∧ x.reads = y.reads ∧ x.re = reOf tab L t i y := by
        intro t x hx
        rw [List.getElem?_map, Option.map_eq_some_iff] at hx
        obtain ⟨r, hr, rfl⟩ := hx
        have hr2 := hr
        rw [hnum t] at hr2
        unfold rowOf at hr2
        split at hr2
        · rename_i i y h1 h2
          cases hr2
          rw [Nat.zero_add] at hr ⊢
          exact ⟨i, y, h1, h2, List.mem_of_getElem? hr, rfl, rfl, rfl, rfl, rfl⟩
        · cases hr2
      have key2 : ∀ (t i : Nat), order[t]? = some i → ∃ y, (t, i, y) ∈ L ∧ (L.map (withRe tab L))[t]? = some (withRe tab L (t, i, y)) ∧ drawItem P nt ops i = some y := by
        intro t i ht
        obtain ⟨y, h1, h2⟩ := drawItems_get hys t i ht
        have hr := hnum t
        rw [ht, h1] at hr
        simp only [Nat.zero_add, rowOf] at hr
        exact ⟨y, List.mem_of_getElem? hr, by rw [List.getElem?_map, hr]; rfl, h2⟩
      have pair : ∀ r ∈ L, ∀ r' ∈ L, chkPair tab L r r' = true := fun r hr r' hr' => by
        have := hpair r hr
        rw [List.all_eq_true] at this
        exact this r' hr'
      refine { len := ?_, item := ?_, all := ?_, uniq := ?_, topo := ?_, greedy := ?_, dst := ?_, conf := ?_, re := ?_ }
      · rw [List.length_map, ← hL]
        have : ∀ (k : Nat) (l : List Nat) (zs : List Item), zs.length = l.length → (num k l zs).length = l.length := by
          intro k l
          induction l generalizing k with
          | nil => intro zs hz; cases zs with
            | nil => rfl
            | cons _ _ => simp at hz
          | cons i l ih => intro zs hz; cases zs with
            | nil => simp at hz
            | cons z zs => simp only [num, List.length_cons]; rw [ih (k + 1) zs (by simpa using hz)]
        exact this 0 order ys hlen
      · intro t i ht
        obtain ⟨y, hm, hx, hd⟩ := key2 t i ht
        unfold drawItem at hd
        split at hd
        · rename_i o ho
          split at hd
          · rename_i x hx'
            cases hd
            unfold trItem at hx'
            split at hx'
            · rename_i io g hio hg
              split at hx'
              · rename_i hdst
                cases hx'
                exact ⟨o, _, io, ho, hx, hio, rfl, hg, rfl, hdst⟩
              · cases hx'
            · cases hx'
          · cases hd
        · cases hd
      · intro i hi
        have := hall i (by simpa using hi)
        rw [List.contains_iff_mem] at this
        exact List.mem_iff_getElem?.1 this
      · intro t t' i ht ht'
        obtain ⟨y, hm, _⟩ := key2 t i ht
        obtain ⟨y', hm', _⟩ := key2 t' i ht'
        have := pair _ hm _ hm'
        simp only [chkPair, Bool.and_eq_true, Bool.or_eq_true, decide_eq_true_eq] at this
        rcases this.1.1 with h1 | h1
        · exact h1
        · exact absurd rfl h1.1.1
      · intro t i o e ht ho he hb
        obtain ⟨y, hm, _⟩ := key2 t i ht
        have := htopo _ hm
        simp only [chkTopo, ho, List.all_eq_true] at this
        have := this e (by simpa using he)
        rw [hb] at this
        simp only [Bool.not_true, Bool.false_or, List.any_eq_true, Bool.and_eq_true, decide_eq_true_eq] at this
        obtain ⟨r', hr', h1, h2⟩ := this
        obtain ⟨t', hg'⟩ := List.mem_iff_getElem?.1 hr'
        have := hnum t'
        rw [hg'] at this
        unfold rowOf at this
        split at this
        · rename_i i' y' h3 h4
          cases this
          refine ⟨t', by simpa using h1, ?_⟩
          simp only at h2
          rw [← h2]; exact h3
        · cases this
      · intro p q i c x hp hq hqp hx hact _
        obtain ⟨i', y', h1, h2, h3, h4, _⟩ := key q x hx
        rw [hq] at h1; cases h1
        obtain ⟨y, hm, _⟩ := key2 p i hp
        have := pair _ hm _ h3
        simp only [chkPair, Bool.and_eq_true] at this
        have := this.1.2
        rw [h4] at hact
        simp only [hact, hqp, decide_true, Bool.and_self, Bool.not_true, Bool.false_or] at this
        exact hbef _ _ this
      · intro t t' x x' s hx hx' hs hs'
        obtain ⟨i, y, _, _, h3, _, h5, _⟩ := key t x hx
        obtain ⟨i', y', _, _, h3', _, h5', _⟩ := key t' x' hx'
        have := pair _ h3 _ h3'
        simp only [chkPair, Bool.and_eq_true, Bool.or_eq_true, decide_eq_true_eq] at this
        rcases this.1.1 with h1 | h1
        · exact h1
        · exfalso
          have h2 := h1.1.2
          rw [← h5, ← h5', hs, hs'] at h2
          simp at h2
      · intro t t' i i' x x' u ht ht' hx hx' hu hd
        obtain ⟨i1, y, h1, _, h3, _, _, _, h6, _⟩ := key t x hx
        obtain ⟨i2, y', h1', _, h3', _, h5', _⟩ := key t' x' hx'
        rw [ht] at h1; cases h1
        rw [ht'] at h1'; cases h1'
        have := pair _ h3 _ h3'
        simp only [chkPair, Bool.and_eq_true, Bool.or_eq_true, decide_eq_true_eq] at this
        rcases this.1.1 with h1 | h1
        · exact .inl h1.symm
        · refine .inr ?_
          rcases h1.2 with (h2 | h2) | h2
          · exfalso
            rw [← h5', hd] at h2
            simp only [Bool.not_eq_true'] at h2
            rw [h6] at hu
            have : y.reads.contains u = true := by rw [List.contains_iff_mem]; exact hu
            rw [this] at h2; cases h2
          · exact .inl (hbef _ _ h2)
          · exact .inr (hbef _ _ h2)
      · intro p t i c x y hp ht hx hy hlt hlk hact
        obtain ⟨i1, x0, h1, _, h3, h4, h5, h6, h7, _⟩ := key p x hx
        obtain ⟨i2, y0, h1', _, h3', h4', _, _, _, h8'⟩ := key t y hy
        rw [hp] at h1; cases h1
        rw [ht] at h1'; cases h1'
        have := pair _ h3 _ h3'
        simp only [chkPair, Bool.and_eq_true] at this
        have := this.2
        rw [h4] at hlk
        rw [h4'] at hact
        simp only [hlt, hlk, hact, decide_true, Bool.and_self, Bool.not_true, Bool.false_or, Bool.or_eq_true] at this
        rcases this with h2 | h2
        · exact .inl (hbef _ _ h2)
        · cases hb : befB tab i c with
          | true => exact .inl (hbef _ _ hb)
          | false =>
            refine .inr ?_
            simp only [Bool.and_eq_true, Option.isSome_iff_exists, List.all_eq_true] at h2
            obtain ⟨⟨s, hs⟩, h2⟩ := h2
            refine ⟨s, by rw [h5]; exact hs, ?_, ?_⟩
            · rw [h8', reOf, if_pos hact, List.mem_filterMap]
              refine ⟨_, h3, ?_⟩
              simp only [hlt, hlk, hb, hs, decide_true, Bool.not_false, Bool.and_self, if_true, Option.map_some]
              rw [h4, h6]
            · intro u hu j z hj hz hzd
              obtain ⟨j', z0, _, _, g3, _, g5, _⟩ := key j z hz
              rw [h7] at hu
              have := h2 u hu _ g3
              rw [← g5, hzd] at this
              simpa [hj] using this
    · cases h

end Go.RI
