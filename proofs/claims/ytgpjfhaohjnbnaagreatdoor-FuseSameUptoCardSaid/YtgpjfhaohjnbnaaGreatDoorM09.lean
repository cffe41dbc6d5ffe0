import Derived.Test.YtgpjfhaohjnbnaaGreatDoorM08
set_option linter.unusedVariables false
set_option linter.unusedSimpArgs false
set_option linter.unusedSectionVars false
/- RI, part PX: the document's order of values. Conditions: none. -/
namespace Go.RI
open Go
def numI (a b : Int) : Int := if a < b then -1 else if b < a then 1 else 0
def txtI (a b : Str) : Int := if ltB a b then -1 else if ltB b a then 1 else 0
def cmpS : List Str → List Str → Int
  | [], [] => 0
  | [], _ :: _ => -1
  | _ :: _, [] => 1
  | a :: l, b :: m => if a = b then cmpS l m else txtI a b
mutual
def cmpV : Val → Val → Int
  | .mk k n s l ns, .mk k' n' s' l' ns' => if k = k' then (if n = n' then (if s = s' then (if ns = ns' then cmpVL l l' else cmpS ns ns') else txtI s s') else numI n n') else numI k k'
def cmpVL : List Val → List Val → Int
  | [], [] => 0
  | [], _ :: _ => -1
  | _ :: _, [] => 1
  | v :: l, w :: m => if cmpV v w = 0 then cmpVL l m else cmpV v w
end
theorem cmpV_eq (v w : Val) : cmpV v w = if v.kind = w.kind then (if v.n = w.n then (if v.s = w.s then (if v.names = w.names then cmpVL v.l w.l else cmpS v.names w.names) else txtI v.s w.s) else numI v.n w.n) else numI v.kind w.kind := by cases v; cases w; simp only [cmpV]; rfl
theorem ltB_total : ∀ a b : Str, a ≠ b → ltB a b = true ∨ ltB b a = true
  | [], [], h => absurd rfl h
  | [], _ :: _, _ => .inl rfl
  | _ :: _, [], _ => .inr rfl
  | x :: a, y :: b, h => by
    simp only [ltB, Bool.or_eq_true, decide_eq_true_eq, Bool.and_eq_true, beq_iff_eq]
    by_cases hxy : x = y
    · subst hxy
      have : a ≠ b := fun e => h (by rw [e])
      rcases ltB_total a b this with h2 | h2
      · exact .inl (.inr ⟨rfl, h2⟩)
      · exact .inr (.inr ⟨rfl, h2⟩)
    · rcases Nat.lt_or_gt_of_ne (fun e => hxy (UInt8.toNat_inj.1 e)) with h2 | h2
      · exact .inl (.inl h2)
      · exact .inr (.inl h2)
theorem txtI_ne {a b : Str} (h : a ≠ b) : txtI a b ≠ 0 := by
  unfold txtI
  rcases ltB_total a b h with h1 | h1
  · rw [h1]; simp
  · split
    · simp
    · simp [h1]
theorem numI_ne {a b : Int} (h : a ≠ b) : numI a b ≠ 0 := by
  unfold numI
  split
  · simp
  · rw [if_pos (by omega)]; simp
theorem cmpS_iff : ∀ a b : List Str, cmpS a b = 0 ↔ a = b
  | [], [] => by simp [cmpS]
  | [], _ :: _ => by simp [cmpS]
  | _ :: _, [] => by simp [cmpS]
  | x :: a, y :: b => by
    simp only [cmpS]
    split
    · rename_i h; subst h; simp [cmpS_iff a b]
    · rename_i h; simp [txtI_ne h, h]
mutual
theorem cmpV_iff : ∀ v w : Val, cmpV v w = 0 ↔ v = w
  | .mk k n s l ns, .mk k' n' s' l' ns' => by
    have h1 := cmpVL_iff l l'
    have h2 := cmpS_iff ns ns'
    simp only [cmpV]
    split
    · rename_i e1
      split
      · rename_i e2
        split
        · rename_i e3
          split
          · rename_i e4; simp [e1, e2, e3, e4, h1]
          · rename_i e4; simp [e4, h2]
        · rename_i e3; simp [e3, txtI_ne e3]
      · rename_i e2; simp [e2, numI_ne e2]
    · rename_i e1; simp [e1, numI_ne e1]
theorem cmpVL_iff : ∀ l m : List Val, cmpVL l m = 0 ↔ l = m
  | [], [] => by simp [cmpVL]
  | v :: l, w :: m => by
    simp only [cmpVL]
    split
    · rename_i h; have := (cmpV_iff v w).1 h; subst this; simp [cmpVL_iff l m]
    · rename_i h
      have : v ≠ w := fun e => h ((cmpV_iff v w).2 e)
      simp [h, this]
  | [], _ :: _ => by simp [cmpVL]
  | _ :: _, [] => by simp [cmpVL]
end
theorem cmpS_end {a b : List Str} {i : Nat} (h : a.take i = b.take i) (hi : i ≤ a.length ∧ i ≤ b.length) (he : i = a.length ∨ i = b.length) : cmpS a b = numI a.length b.length := by
  induction a generalizing b i with
  | nil =>
    cases b with
    | nil => simp [cmpS, numI]
    | cons y b => simp [cmpS, numI]
  | cons x a ih =>
    cases b with
    | nil =>
      have e : ¬ ((a.length : Int) + 1 < 0) := by omega
      simp [cmpS, numI, e]
    | cons y b =>
      cases i with
      | zero => simp at he
      | succ i =>
        simp at h hi he
        obtain ⟨rfl, h⟩ := h
        simp only [cmpS, if_true]
        rw [ih h ⟨by omega, by omega⟩ (by omega)]
        unfold numI
        simp
theorem cmpS_at {a b : List Str} {i : Nat} {x y : Str} (h : a.take i = b.take i) (hx : a[i]? = some x) (hy : b[i]? = some y) (hne : x ≠ y) : cmpS a b = txtI x y := by
  induction a generalizing b i with
  | nil => simp at hx
  | cons p a ih =>
    cases b with
    | nil => simp at hy
    | cons q b =>
      cases i with
      | zero => simp at hx hy; subst hx hy; simp [cmpS, hne]
      | succ i =>
        simp at h hx hy
        obtain ⟨rfl, h⟩ := h
        simp only [cmpS, if_true]
        exact ih h hx hy
theorem cmpVL_end {a b : List Val} {i : Nat} (h : a.take i = b.take i) (hi : i ≤ a.length ∧ i ≤ b.length) (he : i = a.length ∨ i = b.length) : cmpVL a b = numI a.length b.length := by
  induction a generalizing b i with
  | nil =>
    cases b with
    | nil => simp [cmpVL, numI]
    | cons y b => simp [cmpVL, numI]
  | cons x a ih =>
    cases b with
    | nil =>
      have e : ¬ ((a.length : Int) + 1 < 0) := by omega
      simp [cmpVL, numI, e]
    | cons y b =>
      cases i with
      | zero => simp at he
      | succ i =>
        simp at h hi he
        obtain ⟨rfl, h⟩ := h
        simp only [cmpVL, (cmpV_iff x x).2 rfl, if_true]
        rw [ih h ⟨by omega, by omega⟩ (by omega)]
        unfold numI
        simp
theorem cmpVL_at {a b : List Val} {i : Nat} {x y : Val} (h : a.take i = b.take i) (hx : a[i]? = some x) (hy : b[i]? = some y) (hne : cmpV x y ≠ 0) : cmpVL a b = cmpV x y := by
  induction a generalizing b i with
  | nil => simp at hx
  | cons p a ih =>
    cases b with
    | nil => simp at hy
    | cons q b =>
      cases i with
      | zero => simp at hx hy; subst hx hy; simp [cmpVL, hne]
      | succ i =>
        simp at h hx hy
        obtain ⟨rfl, h⟩ := h
        simp only [cmpVL, (cmpV_iff p p).2 rfl, if_true]
        exact ih h hx hy
theorem take_succ_eq {α : Type} {a b : List α} {i : Nat} {x : α} (h : a.take i = b.take i) (hx : a[i]? = some x) (hy : b[i]? = some x) : a.take (i + 1) = b.take (i + 1) := by
  rw [List.take_add_one, List.take_add_one, h, hx, hy]
theorem ltB_asym : ∀ a b : Str, ltB a b = true → ltB b a = false
  | [], [], h => by cases h
  | _ :: _, [], h => by cases h
  | [], _ :: _, _ => rfl
  | x :: a, y :: b, h => by
    simp only [ltB, Bool.or_eq_true, decide_eq_true_eq, Bool.and_eq_true, beq_iff_eq] at h
    simp only [ltB, Bool.or_eq_false_iff, decide_eq_false_iff_not, Bool.and_eq_false_iff]
    rcases h with h | ⟨rfl, h⟩
    · have h' : x.toNat < y.toNat := h
      refine ⟨fun h2 => ?_, .inl ?_⟩
      · have h2' : y.toNat < x.toNat := h2; omega
      · simp; intro e; subst e; omega
    · refine ⟨fun h2 => ?_, .inr (ltB_asym a b h)⟩
      have h2' : x.toNat < x.toNat := h2; omega
theorem ltB_not_le (b a : Str) (h : ltB b a = true) : leS a b = false := by
  simp only [leS, Bool.or_eq_false_iff]
  refine ⟨ltB_asym b a h, ?_⟩
  simp
  intro e
  subst e
  have := ltB_asym a a h
  rw [h] at this; cases this
instance : DecidableEq Val := fun v w => if h : sameV v w = true then .isTrue ((sameV_iff v w).1 h) else .isFalse fun e => h ((sameV_iff v w).2 e)
end Go.RI
namespace Go.Proofs.YtgpjfhaohjnbnaaGreatDoor
open Go Go.RI
section
variable {G : AHeap} (hG : G.next = 2)
include hG
theorem t_number (a b : Int) : pureR IP G 101 [.i .i64 a, .i .i64 b] = some (.i .i64 (numI a b)) := by
  refine pure_run ip101 rfl ?_
  simp -implicitDefEqProofs [I101, hG]
  repeat' ((first | refine guard_intro ?_ ?_ | refine test_intro ?_ ?_) <;> intro h <;> (try simp -implicitDefEqProofs [h, hG]))
  all_goals simp only [decide_eq_true_eq, decide_eq_false_iff_not] at *
  all_goals simp -implicitDefEqProofs [numI, *]
theorem t_text (a b : Str) : pureR IP G 102 [.s a, .s b] = some (.i .i64 (txtI a b)) := by
  have e : ∀ a b : Str, leS a b = (ltB a b || a == b) := fun _ _ => rfl
  have hgt : ∀ a b : Str, (!leS a b) = true → ltB b a = true := fun a b h => by
    have hne : a ≠ b := fun he => by subst he; simp -implicitDefEqProofs [leS] at h
    rcases ltB_total a b hne with h1 | h1
    · simp -implicitDefEqProofs [leS, h1] at h
    · exact h1
  refine pure_run ip102 rfl ?_
  simp -implicitDefEqProofs [I102, hG]
  refine test_intro ?_ ?_ <;> intro h <;> simp -implicitDefEqProofs [hG]
  · simp -implicitDefEqProofs [txtI, h]
  · refine test_intro ?_ ?_ <;> intro h2 <;> simp -implicitDefEqProofs [hG]
    · have h3 : ltB b a = false := by
        cases h4 : ltB b a with
        | false => rfl
        | true => exact absurd (ltB_not_le b a h4) (by rw [h2]; simp)
      simp -implicitDefEqProofs [txtI, h, h3]
    · simp -implicitDefEqProofs [txtI, h, hgt a b (by rw [h2]; rfl)]
def valC (v : Val) (t1 t2 : Bool) : List AVal := [.i .i64 v.kind, .i .i64 v.n, .s v.s, .fs t1 false v.l.length (encs v.l), .fs t2 false v.names.length (encs v.names)]
theorem t_cmp_loop1 (v w : Val) (hv : v.names.length < 1099511627776) (t1 t2 t3 t4 : Bool) (Q : Post) (H : AHeap) (g1 : H.get 2 = some (.cells (valC v t1 t2) 1 false)) (g2 : H.get 3 = some (.cells (valC w t3 t4) 1 false))
    (h1 : (v.names = w.names ∨ cmpS v.names w.names = numI v.names.length w.names.length ∧ v.names.length ≠ w.names.length) → ∀ b i, Q (.exit 0) [(2, .p 2 0), (3, .p 3 0), (5, .i .i64 i), (49, b)] H)
    (h2 : v.names ≠ w.names → Q .ret [(4, .i .i64 (cmpS v.names w.names))] H) :
    wp (theCalls IP G 2) 2 (.loop L69a) Q [(2, .p 2 0), (3, .p 3 0), (5, .i .i64 0)] H := by
  simp only [valC] at g1 g2
  refine wp_loop_inv (fun k e H' => ∃ i : Nat, k = v.names.length - i ∧ i ≤ v.names.length ∧ i ≤ w.names.length ∧ v.names.take i = w.names.take i ∧ e = [(2, .p 2 0), (3, .p 3 0), (5, .i .i64 i)] ∧ H' = H) ?_ _ _ _ ⟨0, rfl, by omega, by omega, by simp, rfl, rfl⟩
  rintro k e H' ⟨i, hk, hi1, hi2, ht, rfl, rfl⟩
  have done : (i = v.names.length ∨ i = w.names.length) → (v.names = w.names ∨ cmpS v.names w.names = numI v.names.length w.names.length ∧ v.names.length ≠ w.names.length) := fun he => by
    by_cases hl : v.names.length = w.names.length
    · left
      have e1 : i = v.names.length := by omega
      rw [e1] at ht
      rw [List.take_of_length_le (Nat.le_refl _), List.take_of_length_le (by omega)] at ht
      exact ht
    · exact .inr ⟨cmpS_end ht ⟨hi1, hi2⟩ he, hl⟩
  rcases Nat.lt_or_ge i v.names.length with hlt1 | hge1
  · have hlt2 : (i : Int) < (v.names.length : Int) := by omega
    rcases Nat.lt_or_ge i w.names.length with hlt3 | hge3
    · have hlt4 : (i : Int) < (w.names.length : Int) := by omega
      obtain ⟨x, hx⟩ := get_of_lt hlt1
      obtain ⟨y, hy⟩ := get_of_lt hlt3
      have hlt5 : i < 4611686018427387904 := by omega
      clear hlt1 hlt3
      have c1 := t_text hG x y
      simp -implicitDefEqProofs [L69a, g1, g2, hlt2, hlt4, hx, hy]
      refine test_intro ?_ ?_ <;> intro h <;> simp -implicitDefEqProofs [g1, g2, hlt2, hlt4, hx, hy, hlt5, c1]
      · have hxy : x = y := by simpa using h
        subst hxy
        exact ⟨v.names.length - (i + 1), by omega, i + 1, rfl, by omega, by omega, take_succ_eq ht hx hy, rfl⟩
      · have hxy : x ≠ y := by simpa using h
        rw [← cmpS_at ht hx hy hxy]
        refine h2 fun he => ?_
        rw [he, hy] at hx
        cases hx
        exact hxy rfl
    · have hlt4 : ¬ (i : Int) < (w.names.length : Int) := by omega
      simp -implicitDefEqProofs [L69a, g1, g2, hlt2, hlt4]
      exact h1 (done (by omega)) _ _
  · have hlt2 : ¬ (i : Int) < (v.names.length : Int) := by omega
    simp -implicitDefEqProofs [L69a, g1, g2, hlt2]
    exact h1 (done (by omega)) _ _
theorem t_cmp_loop2 (v w : Val) (hv : v.l.length < 1099511627776) (t1 t2 t3 t4 : Bool)
    (ih : ∀ x ∈ v.l, ∀ y : Val, ∀ t1 t2 t3 t4 : Bool, pureR IP G 69 [.ag (valC x t1 t2), .ag (valC y t3 t4)] = some (.i .i64 (cmpV x y)))
    (Q : Post) (H : AHeap) (g1 : H.get 2 = some (.cells (valC v t1 t2) 1 false)) (g2 : H.get 3 = some (.cells (valC w t3 t4) 1 false))
    (h1 : cmpVL v.l w.l = numI v.l.length w.l.length → ∀ b i, Q (.exit 2) [(2, .p 2 0), (3, .p 3 0), (6, .i .i64 i), (99, b)] H)
    (h2 : Q .ret [(4, .i .i64 (cmpVL v.l w.l))] H) :
    wp (theCalls IP G 2) 2 (.loop L69b) Q [(2, .p 2 0), (3, .p 3 0), (6, .i .i64 0)] H := by
  simp only [valC] at g1 g2
  refine wp_loop_inv (fun k e H' => ∃ i : Nat, k = v.l.length - i ∧ i ≤ v.l.length ∧ i ≤ w.l.length ∧ v.l.take i = w.l.take i ∧ e = [(2, .p 2 0), (3, .p 3 0), (6, .i .i64 i)] ∧ H' = H) ?_ _ _ _ ⟨0, rfl, by omega, by omega, by simp, rfl, rfl⟩
  rintro k e H' ⟨i, hk, hi1, hi2, ht, rfl, rfl⟩
  rcases Nat.lt_or_ge i v.l.length with hlt1 | hge1
  · have hlt2 : (i : Int) < (v.l.length : Int) := by omega
    rcases Nat.lt_or_ge i w.l.length with hlt3 | hge3
    · have hlt4 : (i : Int) < (w.l.length : Int) := by omega
      obtain ⟨x, hx⟩ := get_of_lt hlt1
      obtain ⟨y, hy⟩ := get_of_lt hlt3
      have hlt5 : i < 4611686018427387904 := by omega
      clear hlt1 hlt3
      have c1 := ih x (List.mem_of_getElem? hx) y false false false false
      simp only [valC] at c1
      simp -implicitDefEqProofs [L69b, g1, g2, hlt2, hlt4, hx, hy, c1]
      refine test_intro ?_ ?_ <;> intro h <;> simp -implicitDefEqProofs [g1, g2, hlt5]
      · have hxy : cmpV x y = 0 := by simpa using h
        have := (cmpV_iff x y).1 hxy
        subst this
        exact ⟨v.l.length - (i + 1), by omega, i + 1, rfl, by omega, by omega, take_succ_eq ht hx hy, rfl⟩
      · have hxy : cmpV x y ≠ 0 := by simpa using h
        rw [← cmpVL_at ht hx hy hxy]
        exact h2
    · have hlt4 : ¬ (i : Int) < (w.l.length : Int) := by omega
      simp -implicitDefEqProofs [L69b, g1, g2, hlt2, hlt4]
      exact h1 (cmpVL_end ht ⟨hi1, hi2⟩ (by omega)) _ _
  · have hlt2 : ¬ (i : Int) < (v.l.length : Int) := by omega
    simp -implicitDefEqProofs [L69b, g1, g2, hlt2]
    exact h1 (cmpVL_end ht ⟨hi1, hi2⟩ (by omega)) _ _
theorem t_cmp1 : ∀ b, b < 1099511627776 → ∀ v w : Val, v.bulk ≤ b → ∀ t1 t2 t3 t4 : Bool, pureR IP G 69 [.ag (valC v t1 t2), .ag (valC w t3 t4)] = some (.i .i64 (cmpV v w)) := by
  intro b
  induction b with
  | zero => intro _ v w h; have := v.bulk_pos; omega
  | succ b ih =>
    intro hb v w hv t1 t2 t3 t4
    rw [Val.bulk_eq] at hv
    have hl1 := bulkL_len v.l
    have hl2 := bulkS_len v.names
    have c1 := t_number hG
    have c2 := t_text hG
    rw [cmpV_eq]
    refine pure_run ip69 rfl ?_
    simp -implicitDefEqProofs [I69, hG, valC]
    refine test_intro ?_ ?_ <;> intro h <;> simp -implicitDefEqProofs [hG, c1]
    · have h := of_decide_eq_true h
      rw [if_pos h]
      refine test_intro ?_ ?_ <;> intro h2 <;> simp -implicitDefEqProofs [hG, c1]
      · have h2 := of_decide_eq_true h2
        rw [if_pos h2]
        refine test_intro ?_ ?_ <;> intro h3 <;> simp -implicitDefEqProofs [hG, c2]
        · have h3 : v.s = w.s := by simpa using h3
          rw [if_pos h3]
          refine t_cmp_loop1 hG v w (by omega) t1 t2 t3 t4 _ _ (by simp -implicitDefEqProofs [hG, valC]) (by simp -implicitDefEqProofs [hG, valC]) ?_ ?_
          · intro hc b i
            simp -implicitDefEqProofs [hG]
            refine test_intro ?_ ?_ <;> intro h4 <;> simp -implicitDefEqProofs [hG, c1]
            · have h4 := of_decide_eq_true h4
              have hnm : v.names = w.names := by
                rcases hc with hc | hc
                · exact hc
                · omega
              rw [if_pos hnm]
              refine t_cmp_loop2 hG v w (by omega) t1 t2 t3 t4 (fun x hx y => ih (by omega) x y (by have := bulkL_mem hx; omega)) _ _ (by simp -implicitDefEqProofs [hG, valC]) (by simp -implicitDefEqProofs [hG, valC]) ?_ ?_
              · intro he b i
                simp -implicitDefEqProofs [hG, c1, he]
              · simp
            · have h4 := of_decide_eq_false h4
              rcases hc with hc | hc
              · rw [hc] at h4; exact absurd rfl h4
              · rw [if_neg (fun e => by rw [e] at h4; exact h4 rfl), hc.1]
          · intro hne
            rw [if_neg hne]
            simp
        · intro e; rw [e] at h3; simp at h3
      · intro e; exact absurd e (of_decide_eq_false h2)
    · intro e; exact absurd e (of_decide_eq_false h)
theorem t_sameR (v w : Val) (hv : v.bulk < 1099511627776) (t1 t2 t3 t4 : Bool) : pureR IP G 48 [.ag (valC v t1 t2), .ag (valC w t3 t4)] = some (.b (decide (v = w))) := by
  have c1 := t_cmp1 hG v.bulk hv v w (Nat.le_refl _) t1 t2 t3 t4
  simp only [valC] at c1 ⊢
  refine pure_run ip48 rfl ?_
  simp -implicitDefEqProofs [I48, hG, c1]
  exact cmpV_iff v w
end
end Go.Proofs.YtgpjfhaohjnbnaaGreatDoor
namespace Go.RI
open Go
theorem Opn.ext_iff' {a b : Opn} : a = b ↔ a.kind = b.kind ∧ a.n = b.n ∧ a.v = b.v := by cases a; cases b; simp
theorem Stp.ext_iff' {a b : Stp} : a = b ↔ a.op = b.op ∧ a.n = b.n ∧ a.s = b.s ∧ a.l = b.l ∧ a.names = b.names := by
  constructor
  · rintro rfl; exact ⟨rfl, rfl, rfl, rfl, rfl⟩
  · cases a; cases b; rintro ⟨h1, h2, h3, h4, h5⟩; simp only at h1 h2 h3 h4 h5; subst h1 h2 h3 h4 h5; rfl
theorem Pce.ext_iff' {a b : Pce} : a = b ↔ (a.func = b.func ∧ a.at_ = b.at_ ∧ a.many = b.many ∧ a.homes = b.homes ∧ a.exit = b.exit ∧ a.to = b.to ∧ a.deep = b.deep) ∧ a.ins = b.ins ∧ a.sets = b.sets ∧ a.cond = b.cond := by
  constructor
  · rintro rfl; exact ⟨⟨rfl, rfl, rfl, rfl, rfl, rfl, rfl⟩, rfl, rfl, rfl⟩
  · cases a; cases b; rintro ⟨⟨h1, h2, h3, h4, h7, h8, h10⟩, h5, h6, h9⟩; simp only at h1 h2 h3 h4 h5 h6 h7 h8 h9 h10; subst h1 h2 h3 h4 h5 h6 h7 h8 h9 h10; rfl
instance : DecidableEq Opn := fun _ _ => decidable_of_iff _ Opn.ext_iff'.symm
instance : DecidableEq Stp := fun _ _ => decidable_of_iff _ Stp.ext_iff'.symm
instance : DecidableEq Pce := fun _ _ => decidable_of_iff _ Pce.ext_iff'.symm
theorem eq_of_take {α : Type} {a b : List α} (hl : a.length = b.length) (h : a.take a.length = b.take a.length) : a = b := by
  rw [List.take_length, hl, List.take_length] at h; exact h
end Go.RI
namespace Go.Proofs.YtgpjfhaohjnbnaaGreatDoor
open Go Go.RI
section
variable {G : AHeap} (hG : G.next = 2)
include hG
theorem t_sameOpn (a b : Opn) (ha : okO a) (t1 t2 t3 t4 : Bool) : pureR IP G 51 [.ag [.i .i64 a.kind, .i .i64 a.n, .i .i64 a.v.kind, .i .i64 a.v.n, .s a.v.s, .fs t1 false a.v.l.length (encs a.v.l), .fs t2 false a.v.names.length (encs a.v.names)], .ag [.i .i64 b.kind, .i .i64 b.n, .i .i64 b.v.kind, .i .i64 b.v.n, .s b.v.s, .fs t3 false b.v.l.length (encs b.v.l), .fs t4 false b.v.names.length (encs b.v.names)]] = some (.b (decide (a = b))) := by
  have c1 := t_sameR hG a.v b.v ha t1 t2 t3 t4
  simp only [valC] at c1
  have e : decide (a = b) = (decide (a.kind = b.kind) && decide (a.n = b.n) && decide (a.v = b.v)) := by simp -implicitDefEqProofs [Opn.ext_iff', Bool.and_assoc]
  rw [e]
  refine pure_run ip51 rfl ?_
  simp -implicitDefEqProofs [I51, hG]
  repeat' ((first | refine guard_intro ?_ ?_ | refine test_intro ?_ ?_) <;> intro h <;> (try simp -implicitDefEqProofs [h, hG, c1]))
  all_goals clear c1
  all_goals simp -implicitDefEqProofs [*]
theorem t_sameOpns (a b : List Opn) (ha : a.length < 1099511627776) (ho : ∀ o ∈ a, okO o) (t1 f1 t2 f2 : Bool) : pureR IP G 50 [.fs t1 f1 a.length (encs a), .fs t2 f2 b.length (encs b)] = some (.b (decide (a = b))) := by
  refine pure_run ip50 rfl ?_
  simp -implicitDefEqProofs [I50, hG]
  refine test_intro ?_ ?_ <;> intro h <;> simp -implicitDefEqProofs [hG]
  · have hl : a.length = b.length := by have := of_decide_eq_true h; omega
    refine wp_loop_list (l := a) (by omega) (fun i todo e H => e = [(0, .fs t1 f1 a.length (encs a)), (1, .fs t2 f2 b.length (encs b)), (5, .i .i64 i)] ∧ H = G ∧ a.take i = b.take i) ?_ ?_ ?_
    · rintro i x todo e H hx hd hlt hlt2 hlt3 ⟨rfl, rfl, hn⟩
      obtain ⟨y, hy⟩ := get_of_lt (l := b) (i := i) (by omega)
      have hlt4 : (i : Int) < (b.length : Int) := by omega
      clear hlt
      have c1 := t_sameOpn hG x y (ho x (List.mem_of_getElem? hx)) false false false false
      simp -implicitDefEqProofs [L50a, hlt2, hlt3, hlt4, hx, hy, hG, c1]
      refine test_intro ?_ ?_ <;> intro h2 <;> simp -implicitDefEqProofs [hlt3, hG]
      · have : x = y := by simpa using h2
        subst this
        exact take_succ_eq hn hx hy
      · intro he
        subst he
        rw [hx] at hy; cases hy
        simp at h2
    · rintro e H ⟨rfl, rfl, hn⟩
      simp -implicitDefEqProofs [L50a, hG]
      exact eq_of_take hl hn
    · simp
  · intro he
    subst he
    simp at h
theorem t_eqTexts (a b : List Str) (ha : a.length < 1099511627776) (t1 f1 t2 f2 : Bool) : pureR IP G 70 [.fs t1 f1 a.length (encs a), .fs t2 f2 b.length (encs b)] = some (.b (decide (a = b))) := by
  refine pure_run ip70 rfl ?_
  simp -implicitDefEqProofs [I70, hG]
  refine test_intro ?_ ?_ <;> intro h <;> simp -implicitDefEqProofs [hG]
  · have hl : a.length = b.length := by have := of_decide_eq_true h; omega
    refine wp_loop_list (l := a) (by omega) (fun i todo e H => e = [(0, .fs t1 f1 a.length (encs a)), (1, .fs t2 f2 b.length (encs b)), (5, .i .i64 i)] ∧ H = G ∧ a.take i = b.take i) ?_ ?_ ?_
    · rintro i x todo e H hx hd hlt hlt2 hlt3 ⟨rfl, rfl, hn⟩
      obtain ⟨y, hy⟩ := get_of_lt (l := b) (i := i) (by omega)
      have hlt4 : (i : Int) < (b.length : Int) := by omega
      clear hlt
      simp -implicitDefEqProofs [L70a, hlt2, hlt3, hlt4, hx, hy, hG]
      refine test_intro ?_ ?_ <;> intro h2 <;> simp -implicitDefEqProofs [hlt3, hG]
      · have : x = y := by simpa using h2
        subst this
        exact take_succ_eq hn hx hy
      · intro he
        subst he
        rw [hx] at hy; cases hy
        simp at h2
    · rintro e H ⟨rfl, rfl, hn⟩
      simp -implicitDefEqProofs [L70a, hG]
      exact eq_of_take hl hn
    · simp
  · intro he
    subst he
    simp at h
theorem t_sameStp (a b : Stp) (ha : okStp a) (t1 t2 t3 t4 : Bool) : pureR IP G 49 [.ag [.i .i64 a.op, .i .i64 a.n, .fs t1 false a.l.length (encs a.l), .s a.s, .fs t2 false a.names.length (encs a.names)], .ag [.i .i64 b.op, .i .i64 b.n, .fs t3 false b.l.length (encs b.l), .s b.s, .fs t4 false b.names.length (encs b.names)]] = some (.b (decide (a = b))) := by
  obtain ⟨a1, a2, a3, a4⟩ := ha
  have hl := bulkS_len a.names
  have c1 := t_sameOpns hG a.l b.l a3 a4 t1 false t3 false
  have c2 := t_eqTexts hG a.names b.names (by omega) t2 false t4 false
  have e : decide (a = b) = (decide (a.op = b.op) && decide (a.n = b.n) && (a.s == b.s) && decide (a.l = b.l) && decide (a.names = b.names)) := by
    rw [Bool.eq_iff_iff]; simp -implicitDefEqProofs [Stp.ext_iff', and_assoc]
  rw [e]
  refine pure_run ip49 rfl ?_
  simp -implicitDefEqProofs [I49, hG]
  repeat' ((first | refine guard_intro ?_ ?_ | refine test_intro ?_ ?_) <;> intro h <;> (try simp -implicitDefEqProofs [h, hG, c1, c2]))
  all_goals clear c1 c2
  all_goals simp -implicitDefEqProofs [*]
theorem t_samePce_loop (a b : Pce) (ho : ∀ i ∈ a.ins, okStp i) (ha : a.ins.length < 1099511627776) (hl : a.ins.length = b.ins.length) (t1 t2 t3 t4 t5 t6 t7 t8 : Bool) (Q : Post) (H : AHeap) (g1 : H.get 2 = some (.cells (pceC a t1 t2 t3 t4) 1 false)) (g2 : H.get 3 = some (.cells (pceC b t5 t6 t7 t8) 1 false))
    (h1 : a.ins = b.ins → ∀ c, Q (.exit 0) [(2, .p 2 0), (3, .p 3 0), (5, .i .i64 a.ins.length), (66, c)] H)
    (h2 : a.ins ≠ b.ins → Q .ret [(4, .b false)] H) :
    wp (theCalls IP G 2) 2 (.loop L29a) Q [(2, .p 2 0), (3, .p 3 0), (5, .i .i64 0)] H := by
  simp only [pceC] at g1 g2
  refine wp_loop_list (l := a.ins) (by omega) (fun i todo e H' => e = [(2, .p 2 0), (3, .p 3 0), (5, .i .i64 i)] ∧ H' = H ∧ a.ins.take i = b.ins.take i) ?_ ?_ ?_
  · rintro i x todo e H' hx hd hlt hlt2 hlt3 ⟨rfl, rfl, hn⟩
    obtain ⟨y, hy⟩ := get_of_lt (l := b.ins) (i := i) (by omega)
    have hlt4 : (i : Int) < (b.ins.length : Int) := by omega
    have c1 := t_sameStp hG x y (ho x (List.mem_of_getElem? hx)) false false false false
    clear hlt
    simp -implicitDefEqProofs [L29a, hlt2, hlt3, hlt4, hx, hy, g1, g2, c1]
    refine test_intro ?_ ?_ <;> intro h3 <;> simp -implicitDefEqProofs [hlt3, g1, g2]
    · have : x = y := by simpa using h3
      subst this
      exact take_succ_eq hn hx hy
    · refine h2 fun he => ?_
      rw [he, hy] at hx; cases hx
      simp at h3
  · rintro e H' ⟨rfl, rfl, hn⟩
    simp -implicitDefEqProofs [L29a, g1]
    exact h1 (eq_of_take hl hn) _
  · simp
set_option maxHeartbeats 4000000 in
theorem t_samePce (a b : Pce) (ha : okPce a) (t1 t2 t3 t4 t5 t6 t7 t8 : Bool) : pureR IP G 29 [.ag (pceC a t1 t2 t3 t4), .ag (pceC b t5 t6 t7 t8)] = some (.b (decide (a = b))) := by
  obtain ⟨ho1, ho2, ho3, ho4, ho5⟩ := ha
  have c1 := t_sameOpns hG a.sets b.sets ho3 ho4 t2 false t6 false
  have c2 := t_sameOpn hG a.cond b.cond ho5 t3 t4 t7 t8
  have no : ∀ {P : Prop}, (a = b → ¬ P) → P → decide (a = b) = false := fun h1 h2 => by
    rw [decide_eq_false_iff_not]; exact fun h => h1 h h2
  refine pure_run ip29 rfl ?_
  simp -implicitDefEqProofs [I29, hG, pceC]
  refine guard_intro ?_ ?_ <;> intro h1 <;> (try simp -implicitDefEqProofs [h1, hG])
  rotate_left
  · rintro rfl; simp at h1
  refine guard_intro ?_ ?_ <;> intro h2 <;> (try simp -implicitDefEqProofs [h2, hG])
  rotate_left
  · rintro rfl; simp at h2
  refine guard_intro ?_ ?_ <;> intro h3 <;> (try simp -implicitDefEqProofs [h3, hG])
  rotate_left
  · rintro rfl; simp at h3
  refine guard_intro ?_ ?_ <;> intro h4 <;> (try simp -implicitDefEqProofs [h4, hG])
  rotate_left
  · rintro rfl; simp at h4
  refine guard_intro ?_ ?_ <;> intro h5 <;> (try simp -implicitDefEqProofs [h5, hG])
  rotate_left
  · rintro rfl; simp at h5
  refine guard_intro ?_ ?_ <;> intro h6 <;> (try simp -implicitDefEqProofs [h6, hG])
  rotate_left
  · rintro rfl; simp at h6
  refine guard_intro ?_ ?_ <;> intro h7 <;> (try simp -implicitDefEqProofs [h7, hG])
  rotate_left
  · rintro rfl; simp at h7
  refine test_intro ?_ ?_ <;> intro h8 <;> simp -implicitDefEqProofs [hG]
  rotate_left
  · rintro rfl; simp at h8
  have hl : a.ins.length = b.ins.length := by have := of_decide_eq_true h8; omega
  simp only [decide_eq_true_eq] at h1 h2 h3 h4 h5 h6 h7
  refine t_samePce_loop hG a b ho1 ho2 hl t1 t2 t3 t4 t5 t6 t7 t8 _ _ (by simp -implicitDefEqProofs [hG, pceC]) (by simp -implicitDefEqProofs [hG, pceC]) ?_ ?_
  · intro he c
    have e : decide (a = b) = (decide (a.sets = b.sets) && decide (a.cond = b.cond)) := by
      rw [Bool.eq_iff_iff]; simp -implicitDefEqProofs [Pce.ext_iff', h1, h2, h3, h4, h5, h6, h7, he]
    rw [e]
    clear e
    simp -implicitDefEqProofs [hG, c1]
    refine guard_intro ?_ ?_ <;> intro h9 <;> simp -implicitDefEqProofs [h9, hG, c2]
  · intro hne
    have e : decide (a = b) = false := by
      rw [decide_eq_false_iff_not]; exact fun h => hne (by rw [h])
    rw [e]
    simp -implicitDefEqProofs [hG]
end
end Go.Proofs.YtgpjfhaohjnbnaaGreatDoor
namespace Go.RI
open Go
section
variable {call : CallI} {lo : Nat} {e : Env} {H : AHeap} {Q : Post}
noncomputable def slR (esz : Nat) (H : AHeap) (v : Option AVal) (l h m : Option (Option Nat)) : Option (Option AVal × AHeap) := match v, l, h, m with
  | some v, some l, some h, some m => (slV esz H v l h m).map fun x => (some x.1, x.2)
  | _, _, _, _ => none
noncomputable def slqR (esz : Nat) (H : AHeap) (v : Option AVal) (l h m : Option (Option Nat)) : Option (Option AVal × AHeap) := match v, l, h, m with
  | some v, some l, some h, some m => match slV esz H v l h m with
      | some (v', H') => if H'.next = H.next ∧ (isFs v = true → m.isSome ∨ l.getD 0 = 0 ∨ isFs0 v' = false) then some (some v', H) else if dynS v l h m = true then some (some v', H') else none
      | none => none
  | _, _, _, _ => none
@[simp] theorem op_sl {esz : Nat} {x : Opd} {l h m : Option Opd} : opI call lo (.sl esz x l h m) e H = slR esz H (x.eval e) (optI e l) (optI e h) (optI e m) := by
  simp only [opI, aop, slR]
  rcases x.eval e with _ | v <;> rcases optI e l with _ | l <;> rcases optI e h with _ | h <;> rcases optI e m with _ | m <;> rfl
@[simp] theorem op_slq {esz : Nat} {x : Opd} {l h m : Option Opd} : opI call lo (.slq esz x l h m) e H = slqR esz H (x.eval e) (optI e l) (optI e h) (optI e m) := by
  simp only [opI, aop, slqR]
  rcases x.eval e with _ | v <;> rcases optI e l with _ | l <;> rcases optI e h with _ | h <;> rcases optI e m with _ | m <;> rfl
@[simp] theorem slR_from {esz len l : Nat} {t f : Bool} {cs : List AVal} (hl : cs.length = len * esz) (h : l ≤ len) : slR esz H (some (.fs t f len cs)) (some (some l)) (some none) (some none) = some (some (.fs t (f && decide (len = len)) (len - l) ((cs.drop (l * esz)).take ((len - l) * esz))), H) := by
  simp [slR, slV, hl, h]
@[simp] theorem slqR_to {esz len h : Nat} {t f : Bool} {cs : List AVal} (hl : cs.length = len * esz) (hh : h ≤ len) : slqR esz H (some (.fs t f len cs)) (some none) (some (some h)) (some none) = some (some (.fs t (f && decide (h = len)) h (cs.take (h * esz))), H) := by
  simp [slqR, slV, hl, hh]
@[simp] theorem op_idxA {n : Option Nat} {esz len : Nat} {x i : Opd} : opI call lo (.idxA n esz len x i) e H = val H (two (idxAV n esz len) (x.eval e) (i.eval e)) := by
  simp only [opI, aop]
  rcases x.eval e with _ | a <;> rcases i.eval e with _ | b <;> rfl
@[simp] theorem idxA_i {n : Option Nat} {esz len : Nat} {v : AVal} {k : IntKind} {j : Int} : idxAV n esz len v (.i k j) = if 0 ≤ j ∧ j < len then partV n (j.toNat * esz) v else none := rfl
end
@[simp] theorem tup_fn {f : Fn} {a c : List AVal} : (AVal.fn f a c).tup = false := rfl
@[simp] theorem cells_fn {f : Fn} {a c : List AVal} : (AVal.fn f a c).cells = [.fn f a c] := rfl
@[simp] theorem tup_nf : AVal.nf.tup = false := rfl
@[simp] theorem cells_nf : AVal.nf.cells = [.nf] := rfl
theorem calls_one {IP : FuncId → Option IFunc} {G : AHeap} {lo : Nat} {f : FuncId} {fn : IFunc} {args : List AVal} {H H' : AHeap} {v : AVal} (hf : IP f = some fn) (hm : fn.mode = 1) (hl : args.length = fn.np)
    (h : wp (theCalls IP G H.next) H.next fn.body (ends fn fun u H1 => u = v ∧ H1 = H') (initEnv 0 args) H) : theCalls IP G lo f args H = some (v, H') := by
  obtain ⟨n, u, H1, hb, rfl, rfl⟩ := body_wp (theCalls_knows _) hl h
  apply theCalls_of
  refine ⟨n, ?_⟩
  simp only [acall, callI, callB, hf, hm, hb]
theorem calls_one_of {IP : FuncId → Option IFunc} {G : AHeap} {f : FuncId} {fn : IFunc} {args : List AVal} {H : AHeap} {R : AVal → AHeap → Prop} (hf : IP f = some fn) (hm : fn.mode = 1) (hl : args.length = fn.np)
    (h : wp (theCalls IP G H.next) H.next fn.body (ends fn R) (initEnv 0 args) H) : ∃ v H', (∀ lo, theCalls IP G lo f args H = some (v, H')) ∧ R v H' := by
  obtain ⟨n, u, H1, hb, hr⟩ := body_wp (theCalls_knows _) hl h
  refine ⟨u, H1, fun lo => ?_, hr⟩
  apply theCalls_of
  refine ⟨n, ?_⟩
  simp only [acall, callI, callB, hf, hm, hb]
theorem two_of {α : Type} {l : List α} (h : 2 ≤ l.length) : ∃ x y m, l = x :: y :: m := by
  match l, h with
  | x :: y :: m, _ => exact ⟨x, y, m, rfl⟩
theorem one_of {α : Type} {l : List α} (h : 1 ≤ l.length) : ∃ x m, l = x :: m := by
  match l, h with
  | x :: m, _ => exact ⟨x, m, rfl⟩
def isNum (o : Opn) : Bool := decide (o.kind = 3) && decide (o.v.kind = 1)
def rowSecond (op to sign : Int) (i : Stp) : Stp × Bool :=
  if i.op = op then (⟨to, wrapI .i64 (sign * (i.l[1]?.getD default).v.n), i.l.take 1, [], []⟩, isNum (i.l[1]?.getD default)) else (i, false)
def rowFirst (i : Stp) : Stp × Bool :=
  if i.op = 43 then (⟨48, (i.l[0]?.getD default).v.n, i.l.drop 1, [], []⟩, isNum (i.l[0]?.getD default)) else (i, false)
def rowChain (l : List Stp) (i : Stp) : Stp × Bool :=
  if i.op = 48 ∧ (i.l[0]?.getD default).kind = 2 then
    let j := l[(i.l[0]?.getD default).n.toNat]?.getD default
    (⟨j.op, wrapI .i64 (j.n + i.n), j.l, [], []⟩, decide (j.op = 48))
  else (i, false)
def rowAtN (n : Nat) (l : List Stp) (i : Stp) : Stp × Bool := match n with
  | 0 => rowSecond 43 48 1 i
  | 1 => rowFirst i
  | 2 => rowSecond 44 48 (-1) i
  | 3 => rowSecond 46 49 1 i
  | _ => rowChain l i
def turn1 (l : List Stp) (i : Stp) : Option Stp :=
  if (rowAtN 0 l i).2 then some (rowAtN 0 l i).1 else if (rowAtN 1 l i).2 then some (rowAtN 1 l i).1 else if (rowAtN 2 l i).2 then some (rowAtN 2 l i).1
  else if (rowAtN 3 l i).2 then some (rowAtN 3 l i).1 else if (rowAtN 4 l i).2 then some (rowAtN 4 l i).1 else none
def turnN : Nat → List Stp → Stp → Stp
  | 0, _, i => i
  | k + 1, l, i => match turn1 l i with
    | some j => turnN k l j
    | none => i
def Sound (l : List Stp) (i : Stp) : Prop :=
  ((i.op = 43 ∨ i.op = 44 ∨ i.op = 46) → 2 ≤ i.l.length) ∧ ((i.op = 48 ∨ i.op = 49) → 1 ≤ i.l.length) ∧ ∀ o ∈ i.l, o.kind = 2 → 0 ≤ o.n ∧ o.n < l.length
def Sounds (l : List Stp) : Prop := ∀ k i, l[k]? = some i → Sound (l.take k) i
end Go.RI
namespace Go.RI
theorem opn_facts {l : List Opn} (h : 2 ≤ l.length) : ∃ x y, l[0]? = some x ∧ l[1]? = some y ∧ (encs l).take 7 = Enc.cells x ∧ (encs l).drop 7 = Enc.cells y ++ restE l 2 ∧ l.take 1 = [x] ∧ ((encs l).drop 7).take ((l.length - 1) * 7) = encs (l.drop 1) := by
  obtain ⟨x, y, m, rfl⟩ := two_of h
  have e : (encs (x :: y :: m)).drop 7 = encs (y :: m) := by simp
  refine ⟨x, y, rfl, rfl, by simp, ?_, rfl, by rw [e]; exact take_opn (l := y :: m)⟩
  have := drop_opn (l := x :: y :: m) (i := 1)
  simpa using this
end Go.RI
namespace Go.Proofs.YtgpjfhaohjnbnaaGreatDoor
open Go Go.RI
section
variable {G : AHeap} (hG : G.next = 2)
include hG
theorem t_num (o : Opn) (t1 t2 : Bool) : pureR IP G 72 [.ag [.i .i64 o.kind, .i .i64 o.n, .i .i64 o.v.kind, .i .i64 o.v.n, .s o.v.s, .fs t1 false o.v.l.length (encs o.v.l), .fs t2 false o.v.names.length (encs o.v.names)]] = some (.tu [.i .i64 o.v.n, .b (isNum o)]) := by
  unfold isNum
  refine pure_run ip72 rfl ?_
  simp -implicitDefEqProofs [I72, hG]
  repeat' ((first | refine guard_intro ?_ ?_ | refine test_intro ?_ ?_) <;> intro h <;> (try simp -implicitDefEqProofs [h, hG]))
theorem t_second (l : List Stp) (i : Stp) (op to sign : Int) (h : i.op = op → 2 ≤ i.l.length) (t f : Bool) : pureR IP G 71 [.fs t f l.length (encs l), .ag (Enc.cells i), .fp [.i .i64 op], .fp [.i .i64 to], .fp [.i .i64 sign]] = some (.tu [.ag (Enc.cells (rowSecond op to sign i).1), .b (rowSecond op to sign i).2]) := by
  have c1 := t_num hG
  unfold rowSecond
  refine pure_run ip71 rfl ?_
  simp -implicitDefEqProofs [I71, hG]
  refine test_intro ?_ ?_ <;> intro h1
  · have h1 := of_decide_eq_true h1
    obtain ⟨x, y, hx, hy, f1, f2, f3, f4⟩ := opn_facts (h h1)
    have k := h h1
    have k0 : (0 : Int) < (i.l.length : Int) := by omega
    have k1 : (1 : Int) < (i.l.length : Int) := by omega
    have k2 : 1 ≤ i.l.length := by omega
    have k3 : 7 ≤ i.l.length * 7 := by omega
    have k4 : i.l.length ≠ 0 := by omega
    have k5 : 0 < i.l.length := by omega
    clear k
    simp at f1 f2 f4
    rw [if_pos h1]
    simp -implicitDefEqProofs [hG, hx, hy, c1, k0, k1, k2, k3, k4, k5, f1, f2, f3]
  · have h1 := of_decide_eq_false h1
    rw [if_neg h1]
    simp -implicitDefEqProofs [hG]
theorem t_first (l : List Stp) (i : Stp) (h : i.op = 43 → 2 ≤ i.l.length) (t f : Bool) : pureR IP G 54 [.fs t f l.length (encs l), .ag (Enc.cells i)] = some (.tu [.ag (Enc.cells (rowFirst i).1), .b (rowFirst i).2]) := by
  have c1 := t_num hG
  unfold rowFirst
  refine pure_run ip54 rfl ?_
  simp -implicitDefEqProofs [I54, hG]
  refine test_intro ?_ ?_ <;> intro h1
  · have h1 := of_decide_eq_true h1
    obtain ⟨x, y, hx, hy, f1, f2, f3, f4⟩ := opn_facts (h h1)
    have k := h h1
    have k0 : (0 : Int) < (i.l.length : Int) := by omega
    have k1 : (1 : Int) < (i.l.length : Int) := by omega
    have k2 : 1 ≤ i.l.length := by omega
    have k3 : 7 ≤ i.l.length * 7 := by omega
    have k4 : i.l.length ≠ 0 := by omega
    have k5 : 0 < i.l.length := by omega
    clear k
    simp at f1 f2 f4
    rw [if_pos h1]
    simp -implicitDefEqProofs [hG, hx, hy, c1, k0, k1, k2, k3, k4, k5, f1, f4]
    rw [List.getElem?_eq_getElem k5] at hx
    cases hx
    exact ⟨rfl, rfl⟩
  · have h1 := of_decide_eq_false h1
    rw [if_neg h1]
    simp -implicitDefEqProofs [hG]
theorem t_chain (l : List Stp) (i : Stp) (h : i.op = 48 → 1 ≤ i.l.length) (h2 : ∀ o ∈ i.l, o.kind = 2 → 0 ≤ o.n ∧ o.n < l.length) (t f : Bool) : pureR IP G 55 [.fs t f l.length (encs l), .ag (Enc.cells i)] = some (.tu [.ag (Enc.cells (rowChain l i).1), .b (rowChain l i).2]) := by
  unfold rowChain
  refine pure_run ip55 rfl ?_
  simp -implicitDefEqProofs [I55, hG]
  refine guard_intro ?_ ?_ <;> intro h1
  · have h1 := of_decide_eq_true h1
    obtain ⟨x, m, hm⟩ := one_of (h h1)
    have k0 : (0 : Int) < (m.length : Int) + 1 := by omega
    have h2 := h2 x (by rw [hm]; simp)
    simp only [h1, hm, true_and, List.getElem?_cons_zero, Option.getD_some]
    by_cases h3 : x.kind = 2
    · obtain ⟨h4, h5⟩ := h2 h3
      obtain ⟨j, hj⟩ := get_of_lt (l := l) (i := x.n.toNat) (by omega)
      simp -implicitDefEqProofs [hG, k0, h3, h4, h5, hj]
      all_goals (exact .inr (same_refl _ rfl))
    · simp -implicitDefEqProofs [hG, k0, h3]
      rw [hm]; simp -implicitDefEqProofs [h1]
  · have h1 := of_decide_eq_false h1
    simp -implicitDefEqProofs [hG, h1]
end
end Go.Proofs.YtgpjfhaohjnbnaaGreatDoor
namespace Go.Proofs.YtgpjfhaohjnbnaaGreatDoor
open Go Go.RI
section
variable {G : AHeap} (hG : G.next = 2)
theorem t_mkSecond {H : AHeap} (lo : Nat) (op to sign : Int) : theCalls IP G lo 53 [.i .i64 op, .i .i64 to, .i .i64 sign] H =
    some (.fn (.func 71) [] [.p H.next 0, .p (H.next + 1) 0, .p (H.next + 2) 0], ((H.push (.cells [.i .i64 op] 1 false)).push (.cells [.i .i64 to] 1 false)).push (.cells [.i .i64 sign] 1 false)) := by
  refine calls_one ip53 rfl rfl ?_
  rw [ends_fin]
  simp -implicitDefEqProofs [I53]
def rowsV (d : Nat) : AVal := .ag [.fn (.func 71) [] [.p (d + 1) 0, .p (d + 2) 0, .p (d + 3) 0], .fn (.func 54) [] [], .fn (.func 71) [] [.p (d + 4) 0, .p (d + 5) 0, .p (d + 6) 0], .fn (.func 71) [] [.p (d + 7) 0, .p (d + 8) 0, .p (d + 9) 0], .fn (.func 55) [] []]
theorem t_rows (H : AHeap) : ∃ H', (∀ lo, theCalls IP G lo 33 [] H = some (rowsV H.next, H')) ∧ H'.next = H.next + 10 ∧ (∀ id, id < H.next → H'.get id = H.get id) ∧
    (H'.get (H.next + 1) = some (.cells [.i .i64 43] 1 false) ∧ H'.get (H.next + 2) = some (.cells [.i .i64 48] 1 false) ∧ H'.get (H.next + 3) = some (.cells [.i .i64 1] 1 false)) ∧
    (H'.get (H.next + 4) = some (.cells [.i .i64 44] 1 false) ∧ H'.get (H.next + 5) = some (.cells [.i .i64 48] 1 false) ∧ H'.get (H.next + 6) = some (.cells [.i .i64 (-1)] 1 false)) ∧
    (H'.get (H.next + 7) = some (.cells [.i .i64 46] 1 false) ∧ H'.get (H.next + 8) = some (.cells [.i .i64 49] 1 false) ∧ H'.get (H.next + 9) = some (.cells [.i .i64 1] 1 false)) := by
  obtain ⟨v, H', hc, rfl, h⟩ := calls_one_of (IP := IP) (G := G) (f := 33) (args := []) (H := H) (R := fun v H' => v = rowsV H.next ∧ H'.next = H.next + 10 ∧ (∀ id, id < H.next → H'.get id = H.get id) ∧
    (H'.get (H.next + 1) = some (.cells [.i .i64 43] 1 false) ∧ H'.get (H.next + 2) = some (.cells [.i .i64 48] 1 false) ∧ H'.get (H.next + 3) = some (.cells [.i .i64 1] 1 false)) ∧
    (H'.get (H.next + 4) = some (.cells [.i .i64 44] 1 false) ∧ H'.get (H.next + 5) = some (.cells [.i .i64 48] 1 false) ∧ H'.get (H.next + 6) = some (.cells [.i .i64 (-1)] 1 false)) ∧
    (H'.get (H.next + 7) = some (.cells [.i .i64 46] 1 false) ∧ H'.get (H.next + 8) = some (.cells [.i .i64 49] 1 false) ∧ H'.get (H.next + 9) = some (.cells [.i .i64 1] 1 false))) ip33 rfl rfl (by
      rw [ends_fin]
      simp -implicitDefEqProofs [I33, t_mkSecond, rowsV, Nat.add_assoc]
      intro id h
      simp -implicitDefEqProofs [show ∀ k, id ≠ H.next + k from fun k => by omega, show id ≠ H.next by omega])
  exact ⟨H', hc, h⟩
end
end Go.Proofs.YtgpjfhaohjnbnaaGreatDoor
namespace Go.RI
open Go
def rank (l : List Stp) (i : Stp) : Nat :=
  if i.op = 43 ∨ i.op = 44 ∨ i.op = 46 then l.length + 2
  else if i.op = 48 ∧ (i.l[0]?.getD default).kind = 2 then (i.l[0]?.getD default).n.toNat + 1 else 0
theorem rank_lt {l : List Stp} {s : Stp} {k : Nat} (h1 : ¬ (s.op = 43 ∨ s.op = 44 ∨ s.op = 46)) (h0 : 0 < k) (h2 : s.op = 48 → (s.l[0]?.getD default).kind = 2 → (s.l[0]?.getD default).n.toNat + 1 < k) : rank l s < k := by
  unfold rank
  rw [if_neg h1]
  split
  · rename_i h; exact h2 h.1 h.2
  · exact h0
theorem sound_mem {l : List Stp} {k : Nat} {j : Stp} (h : Sounds l) (hj : l[k]? = some j) : ∀ o ∈ j.l, o.kind = 2 → 0 ≤ o.n ∧ o.n < k := by
  intro o ho hk
  have := (h k j hj).2.2 o ho hk
  have hl : (l.take k).length ≤ k := by simp; omega
  exact ⟨this.1, by omega⟩
theorem second_down {l : List Stp} {i : Stp} {op to sign : Int} (ho : op = 43 ∨ op = 44 ∨ op = 46) (ht : to = 48 ∨ to = 49) (hs : Sound l i) (h : (rowSecond op to sign i).2 = true) :
    Sound l (rowSecond op to sign i).1 ∧ rank l (rowSecond op to sign i).1 < rank l i := by
  unfold rowSecond at h ⊢
  by_cases h1 : i.op = op
  · rw [if_pos h1] at h ⊢
    have h2 := hs.1 (by rw [h1]; exact ho)
    obtain ⟨x, y, m, hm⟩ := two_of h2
    have hx := hs.2.2 x (by rw [hm]; simp)
    constructor
    · refine ⟨fun h3 => ?_, fun _ => by simp [hm], fun o hom => hs.2.2 o (List.mem_of_mem_take hom)⟩
      simp only at h3
      omega
    · have e1 : rank l i = l.length + 2 := by unfold rank; rw [if_pos (by rw [h1]; exact ho)]
      rw [e1]
      refine rank_lt (by simp only; omega) (by omega) fun _ h4 => ?_
      simp only [hm, List.take_succ_cons, List.take_zero, List.getElem?_cons_zero, Option.getD_some] at h4 ⊢
      have := hx h4
      omega
  · rw [if_neg h1] at h; cases h
theorem first_down {l : List Stp} {i : Stp} (hs : Sound l i) (h : (rowFirst i).2 = true) : Sound l (rowFirst i).1 ∧ rank l (rowFirst i).1 < rank l i := by
  unfold rowFirst at h ⊢
  by_cases h1 : i.op = 43
  · rw [if_pos h1] at h ⊢
    have h2 := hs.1 (by rw [h1]; exact .inl rfl)
    obtain ⟨x, y, m, hm⟩ := two_of h2
    have hx := hs.2.2 y (by rw [hm]; simp)
    constructor
    · refine ⟨fun h3 => ?_, fun _ => by simp [hm], fun o hom => hs.2.2 o (List.mem_of_mem_drop hom)⟩
      simp only at h3
      omega
    · have e1 : rank l i = l.length + 2 := by unfold rank; rw [if_pos (by rw [h1]; exact .inl rfl)]
      rw [e1]
      refine rank_lt (by simp only; omega) (by omega) fun _ h4 => ?_
      simp only [hm, List.drop_succ_cons, List.drop_zero, List.getElem?_cons_zero, Option.getD_some] at h4 ⊢
      have := hx h4
      omega
  · rw [if_neg h1] at h; cases h
theorem chain_down {l : List Stp} {i : Stp} (hl : Sounds l) (hs : Sound l i) (h : (rowChain l i).2 = true) : Sound l (rowChain l i).1 ∧ rank l (rowChain l i).1 < rank l i := by
  unfold rowChain at h ⊢
  by_cases h1 : i.op = 48 ∧ (i.l[0]?.getD default).kind = 2
  · rw [if_pos h1] at h ⊢
    have h2 := hs.2.1 (.inl h1.1)
    obtain ⟨x, m, hm⟩ := one_of h2
    have hx := hs.2.2 x (by rw [hm]; simp)
    have e1 : rank l i = x.n.toNat + 1 := by
      unfold rank
      rw [if_neg (by rw [h1.1]; omega), if_pos h1, hm]; rfl
    simp only [hm, List.getElem?_cons_zero, Option.getD_some] at h h1 ⊢
    obtain ⟨h3, h4⟩ := hx h1.2
    obtain ⟨j, hj⟩ := get_of_lt (l := l) (i := x.n.toNat) (by omega)
    rw [hj] at h ⊢
    simp only [Option.getD_some, decide_eq_true_eq] at h ⊢
    have hjs := hl _ _ hj
    have hjm := sound_mem hl hj
    constructor
    · refine ⟨fun h5 => ?_, fun _ => hjs.2.1 (.inl h), fun o ho hk => ?_⟩
      · simp only at h5; omega
      · have := hjm o ho hk; exact ⟨this.1, by omega⟩
    · rw [e1]
      refine rank_lt (by simp only; rw [h]; omega) (by omega) fun _ h6 => ?_
      obtain ⟨y, m2, hm2⟩ := one_of (hjs.2.1 (.inl h))
      simp only [hm2, List.getElem?_cons_zero, Option.getD_some] at h6 ⊢
      have := hjm y (by rw [hm2]; simp) h6
      omega
  · rw [if_neg h1] at h; cases h
theorem row_down {l : List Stp} {i : Stp} (n : Nat) (hl : Sounds l) (hs : Sound l i) (h : (rowAtN n l i).2 = true) : Sound l (rowAtN n l i).1 ∧ rank l (rowAtN n l i).1 < rank l i := by
  match n with
  | 0 => exact second_down (by omega) (by omega) hs h
  | 1 => exact first_down hs h
  | 2 => exact second_down (by omega) (by omega) hs h
  | 3 => exact second_down (by omega) (by omega) hs h
  | _ + 4 => exact chain_down hl hs h
theorem turn1_row {l : List Stp} {i j : Stp} (h : turn1 l i = some j) : ∃ n, n < 5 ∧ (rowAtN n l i).2 = true ∧ j = (rowAtN n l i).1 := by
  unfold turn1 at h
  split at h
  · rename_i h1; exact ⟨0, by omega, h1, (Option.some.inj h).symm⟩
  · split at h
    · rename_i h1; exact ⟨1, by omega, h1, (Option.some.inj h).symm⟩
    · split at h
      · rename_i h1; exact ⟨2, by omega, h1, (Option.some.inj h).symm⟩
      · split at h
        · rename_i h1; exact ⟨3, by omega, h1, (Option.some.inj h).symm⟩
        · split at h
          · rename_i h1; exact ⟨4, by omega, h1, (Option.some.inj h).symm⟩
          · cases h
theorem turn1_down {l : List Stp} {i j : Stp} (hl : Sounds l) (hs : Sound l i) (h : turn1 l i = some j) : Sound l j ∧ rank l j < rank l i := by
  obtain ⟨n, _, h2, rfl⟩ := turn1_row h
  exact row_down n hl hs h2
theorem turn1_none {l : List Stp} {i : Stp} (h : ∀ m, m < 5 → (rowAtN m l i).2 = false) : turn1 l i = none := by
  simp [turn1, h 0 (by omega), h 1 (by omega), h 2 (by omega), h 3 (by omega), h 4 (by omega)]
theorem turn1_some {l : List Stp} {i : Stp} {n : Nat} (hn : n < 5) (h : ∀ m, m < n → (rowAtN m l i).2 = false) (h2 : (rowAtN n l i).2 = true) : turn1 l i = some (rowAtN n l i).1 := by
  match n, hn with
  | 0, _ => simp [turn1, h2]
  | 1, _ => simp [turn1, h 0 (by omega), h2]
  | 2, _ => simp [turn1, h 0 (by omega), h 1 (by omega), h2]
  | 3, _ => simp [turn1, h 0 (by omega), h 1 (by omega), h 2 (by omega), h2]
  | 4, _ => simp [turn1, h 0 (by omega), h 1 (by omega), h 2 (by omega), h 3 (by omega), h2]
def turned (l : List Stp) (i : Stp) : Stp := turnN (rank l i) l i
theorem turnN_enough {l : List Stp} (hl : Sounds l) : ∀ k i, Sound l i → rank l i ≤ k → turnN k l i = turned l i := by
  have key : ∀ r k k' i, Sound l i → rank l i ≤ r → r ≤ k → r ≤ k' → turnN k l i = turnN k' l i := by
    intro r
    induction r with
    | zero =>
      intro k k' i hs hr _ _
      have hn : turn1 l i = none := by
        cases h : turn1 l i with
        | none => rfl
        | some j => have := (turn1_down hl hs h).2; omega
      have : ∀ k, turnN k l i = i := by intro k; cases k <;> simp [turnN, hn]
      rw [this, this]
    | succ r ih =>
      intro k k' i hs hr hk hk'
      obtain ⟨k, rfl⟩ : ∃ m, k = m + 1 := ⟨k - 1, by omega⟩
      obtain ⟨k', rfl⟩ : ∃ m, k' = m + 1 := ⟨k' - 1, by omega⟩
      simp only [turnN]
      cases h : turn1 l i with
      | none => rfl
      | some j =>
        have := turn1_down hl hs h
        exact ih k k' j this.1 (by omega) (by omega) (by omega)
  intro k i hs hk
  exact key (rank l i) k (rank l i) i hs (Nat.le_refl _) hk (Nat.le_refl _)
theorem turned_none {l : List Stp} {i : Stp} (h : turn1 l i = none) : turned l i = i := by
  unfold turned
  cases rank l i <;> simp [turnN, h]
theorem turned_some {l : List Stp} {i j : Stp} (hl : Sounds l) (hs : Sound l i) (h : turn1 l i = some j) : turned l i = turned l j := by
  have h2 := turn1_down hl hs h
  unfold turned
  obtain ⟨r, hr⟩ : ∃ r, rank l i = r + 1 := ⟨rank l i - 1, by omega⟩
  rw [hr]
  simp only [turnN, h]
  exact turnN_enough hl r j h2.1 (by omega)
theorem turned_end {l : List Stp} {i : Stp} (hl : Sounds l) (hs : Sound l i) : Sound l (turned l i) ∧ turn1 l (turned l i) = none := by
  have key : ∀ r i, Sound l i → rank l i ≤ r → Sound l (turned l i) ∧ turn1 l (turned l i) = none := by
    intro r
    induction r with
    | zero =>
      intro i hs hr
      cases h : turn1 l i with
      | none => rw [turned_none h]; exact ⟨hs, h⟩
      | some j => have := (turn1_down hl hs h).2; omega
    | succ r ih =>
      intro i hs hr
      cases h : turn1 l i with
      | none => rw [turned_none h]; exact ⟨hs, h⟩
      | some j =>
        have := turn1_down hl hs h
        rw [turned_some hl hs h]
        exact ih j this.1 (by omega)
  exact key _ i hs (Nat.le_refl _)
end Go.RI
namespace Go.Proofs.YtgpjfhaohjnbnaaGreatDoor
open Go Go.RI
section
variable {G : AHeap} (hG : G.next = 2)
include hG
def turnI (l : List Stp) (t f : Bool) (r : Stp) (k : Nat) (e : Env) (H : AHeap) : Prop :=
  ∃ (j : Stp) (n : Nat), k = rank l j * 6 + (5 - n) ∧ n ≤ 5 ∧ turned l j = r ∧ Sound l j ∧ (∀ m, m < n → (rowAtN m l j).2 = false) ∧ e = [(0, .fs t f l.length (encs l)), (3, .p 2 0), (4, .p 3 0), (5, .i .i64 n)] ∧
    H.get 2 = some (.cells (Enc.cells j) 1 false) ∧ (∃ x0 x1 x2 x3 x4, H.get 3 = some (.cells [x0, x1, x2, x3, x4] 1 false)) ∧ 4 ≤ H.next
set_option maxHeartbeats 2000000 in
theorem t_turned (l : List Stp) (i : Stp) (hl : Sounds l) (hs : Sound l i) (t f : Bool) : pureR IP G 18 [.fs t f l.length (encs l), .ag (Enc.cells i)] = some (.ag (Enc.cells (turned l i))) := by
  refine pure_run ip18 rfl ?_
  simp -implicitDefEqProofs [I18, hG]
  refine wp_loop_inv (turnI l t f (turned l i)) ?_ _ _ _ ⟨i, 0, rfl, by omega, rfl, hs, fun m h => by omega, rfl, by simp -implicitDefEqProofs [hG], ⟨.i .i64 0, .i .i64 0, .ns, .s [], .ns, by simp -implicitDefEqProofs [hG]⟩, by simp -implicitDefEqProofs [hG]⟩
  rintro k e H ⟨j, n, hk, hn, hr, hsj, hno, rfl, g1, ⟨x0, x1, x2, x3, x4, g2⟩, hx⟩
  obtain ⟨H1, r1, rn1, ro1, _⟩ := t_rows (G := G) H
  have g3 : H1.get 2 = _ := (ro1 2 (by omega)).trans g1
  have g4 : H1.get 3 = _ := (ro1 3 (by omega)).trans g2
  obtain ⟨H2, r2, rn2, ro2, ⟨a1, a2, a3⟩, ⟨b1, b2, b3⟩, ⟨d1, d2, d3⟩⟩ := t_rows (G := G) (H1.push (.cells [.i .i64 0, .i .i64 0, .ns, .s [], .ns] 1 false))
  have g5 : H2.get 2 = some (.cells (Enc.cells j) 1 false) := by rw [ro2 2 (by simp; omega)]; simp -implicitDefEqProofs [g3, show ¬ 2 = H1.next by omega]
  have g6 : H2.get 3 = some (.cells [x0, x1, x2, x3, x4] 1 false) := by rw [ro2 3 (by simp; omega)]; simp -implicitDefEqProofs [g4, show ¬ 3 = H1.next by omega]
  have g7 : H2.get H1.next = some (.cells [.i .i64 0, .i .i64 0, .ns, .s [], .ns] 1 false) := by rw [ro2 H1.next (by simp)]; simp
  simp at g1 g3 g5 rn2 a1 a2 a3 b1 b2 b3 d1 d2 d3
  have q1 : ¬ 2 = H1.next := by omega
  have q2 : 2 ≤ H1.next := by omega
  rcases Nat.lt_or_ge n 5 with h5 | h5
  · have c0 := t_second hG l j 43 48 1 (fun h => hsj.1 (.inl h)) t false
    have c1 := t_first hG l j (fun h => hsj.1 (.inl h)) t false
    have c2 := t_second hG l j 44 48 (-1) (fun h => hsj.1 (.inr (.inl h))) t false
    have c3 := t_second hG l j 46 49 1 (fun h => hsj.1 (.inr (.inr h))) t false
    have c4 := t_chain hG l j (fun h => hsj.2.1 (.inl h)) hsj.2.2 t false
    have more : ∀ H3 : AHeap, (rowAtN n l j).2 = false → H3.get 2 = some (.cells (Enc.cells j) 1 false) → H3.get 3 = some (.cells [x0, x1, x2, x3, x4] 1 false) → 4 ≤ H3.next →
        ∃ k', k' < k ∧ turnI l t f (turned l i) k' [(0, .fs t f l.length (encs l)), (3, .p 2 0), (4, .p 3 0), (5, .i .i64 ((n : Int) + 1))] H3 := by
      intro H3 h e1 e2 e3
      refine ⟨rank l j * 6 + (5 - (n + 1)), by omega, j, n + 1, rfl, by omega, hr, hsj, fun m hm => ?_, by simp, e1, ⟨_, _, _, _, _, e2⟩, e3⟩
      rcases Nat.lt_or_ge m n with hm2 | hm2
      · exact hno m hm2
      · rw [show m = n by omega]; exact h
    have again : ∀ H3 : AHeap, (rowAtN n l j).2 = true → H3.get 2 = some (.cells (Enc.cells (rowAtN n l j).1) 1 false) → H3.get 3 = some (.cells [x0, x1, x2, x3, x4] 1 false) → 4 ≤ H3.next →
        ∃ k', k' < k ∧ turnI l t f (turned l i) k' [(0, .fs t f l.length (encs l)), (3, .p 2 0), (4, .p 3 0), (5, .i .i64 0)] H3 := by
      intro H3 h e1 e2 e3
      have hd := row_down n hl hsj h
      have ht := turn1_some h5 hno h
      refine ⟨rank l (rowAtN n l j).1 * 6 + 5, by omega, _, 0, rfl, by omega, ?_, hd.1, fun m hm => by omega, rfl, e1, ⟨_, _, _, _, _, e2⟩, e3⟩
      rw [← hr, turned_some hl hsj ht]
    have hn5 : n = 0 ∨ n = 1 ∨ n = 2 ∨ n = 3 ∨ n = 4 := by omega
    rcases hn5 with rfl | rfl | rfl | rfl | rfl
    all_goals simp only [rowAtN] at more again
    all_goals simp only [cells_stp] at c0 c1 c2 c3 c4
    all_goals simp -implicitDefEqProofs [L18a, r1, r2, rowsV, g3, g4, g5, g6, g7, a1, a2, a3, b1, b2, b3, d1, d2, d3, c0, c1, c2, c3, c4, q1, q2, rn2]
    all_goals (refine test_intro ?_ ?_ <;> intro hb <;> simp -implicitDefEqProofs [g3, g4, g5, g6, g7, q1, q2, rn2])
    all_goals first
      | exact again _ hb (by simp -implicitDefEqProofs [g5, q1]) (by simp -implicitDefEqProofs [g6]; omega) (by simp; omega)
      | exact more _ hb (by simp -implicitDefEqProofs [g5, q1]) (by simp -implicitDefEqProofs [g6]; omega) (by simp; omega)
  · have hn5 : n = 5 := by omega
    subst hn5
    have ht : turned l j = j := turned_none (turn1_none hno)
    simp -implicitDefEqProofs [L18a, r1, rowsV, g3, g4, ← hr, ht]
end
end Go.Proofs.YtgpjfhaohjnbnaaGreatDoor
namespace Go.RI
open Go
def fuseL : List Stp → List Stp → List Stp
  | acc, [] => acc
  | acc, i :: l => fuseL (acc ++ [turned acc i]) l
def fuseP (x : Pce) : Pce := { x with ins := fuseL [] x.ins }
theorem fuseL_len : ∀ (l acc : List Stp), (fuseL acc l).length = acc.length + l.length
  | [], acc => rfl
  | i :: l, acc => by rw [fuseL, fuseL_len l]; simp; omega
theorem fuseL_app : ∀ (l m acc : List Stp), fuseL acc (l ++ m) = fuseL (fuseL acc l) m
  | [], m, acc => rfl
  | i :: l, m, acc => by rw [List.cons_append, fuseL, fuseL, fuseL_app l]
theorem opnFits_step {homes a : Int} {o : Opn} (h : opnFits homes a o = true) (hk : o.kind = 2) : 0 ≤ o.n ∧ o.n < a := by
  unfold opnFits at h
  rw [if_neg (by omega), if_pos hk] at h
  simp only [Bool.and_eq_true, decide_eq_true_eq] at h
  exact h.1
theorem opnFits_mono {homes a b : Int} {o : Opn} (hab : a ≤ b) (h : opnFits homes a o = true) : opnFits homes b o = true := by
  unfold opnFits at h ⊢
  split
  · rename_i h1; rw [if_pos h1] at h; exact h
  · rename_i h1
    rw [if_neg h1] at h
    split
    · rename_i h2
      rw [if_pos h2] at h
      simp only [Bool.and_eq_true, decide_eq_true_eq] at h ⊢
      exact ⟨⟨h.1.1, by omega⟩, h.2⟩
    · rename_i h2; rw [if_neg h2] at h; exact h
theorem fits_two {homes a : Int} {s : Stp} (h : stpFits homes a s = true) (ho : s.op = 43 ∨ s.op = 44 ∨ s.op = 46) : s.l.length = 2 := by
  unfold stpFits at h
  have e : needs s = (2, 2, bareI s) := by
    unfold needs
    rw [if_neg (by omega), if_neg (by omega), if_neg (by omega), if_neg (by omega), if_neg (by omega), if_neg (by omega), if_pos (by omega)]
  rw [e] at h
  simp only [Bool.and_eq_true, decide_eq_true_eq] at h
  omega
theorem needs_n {s : Stp} (ho : s.op = 48 ∨ s.op = 49) : needs s = (1, 1, (s.s == []) && (nmd s == false)) := by
  unfold needs
  rw [if_neg (by omega), if_neg (by omega), if_neg (by omega), if_neg (by omega), if_neg (by omega), if_pos ho]
theorem fits_one {homes a : Int} {s : Stp} (h : stpFits homes a s = true) (ho : s.op = 48 ∨ s.op = 49) : s.l.length = 1 := by
  unfold stpFits at h
  rw [needs_n ho] at h
  simp only [Bool.and_eq_true, decide_eq_true_eq] at h
  omega
theorem fits_all {homes a : Int} {s : Stp} (h : stpFits homes a s = true) : ∀ o ∈ s.l, opnFits homes a o = true := by
  unfold stpFits at h
  simp only [Bool.and_eq_true, List.all_eq_true] at h
  exact h.2
theorem fits_of {homes a : Int} {op n : Int} {l : List Opn} (ho : op = 48 ∨ op = 49) (hl : l.length = 1) (h : ∀ o ∈ l, opnFits homes a o = true) : stpFits homes a ⟨op, n, l, [], []⟩ = true := by
  unfold stpFits
  rw [needs_n (by exact ho)]
  simp [hl, nmd]
  exact h
theorem fits_sound {homes : Int} {l : List Stp} {s : Stp} (h : stpFits homes l.length s = true) : Sound l s :=
  ⟨fun ho => by rw [fits_two h ho]; exact Nat.le_refl _, fun ho => by rw [fits_one h ho]; exact Nat.le_refl _, fun o hm hk => opnFits_step (fits_all h o hm) hk⟩
def Fits (homes : Int) (l : List Stp) : Prop := ∀ (k : Nat) (s : Stp), l[k]? = some s → stpFits homes k s = true
theorem fits_sounds {homes : Int} {l : List Stp} (h : Fits homes l) : Sounds l := by
  intro k i hi
  have hk : k < l.length := by
    rcases Nat.lt_or_ge k l.length with h1 | h1
    · exact h1
    · rw [List.getElem?_eq_none h1] at hi; cases hi
  have h2 := h k i hi
  refine fits_sound ?_ (homes := homes)
  rw [List.length_take, Nat.min_eq_left (by omega)]
  exact h2
theorem row_fits {homes : Int} {l : List Stp} {i : Stp} (n : Nat) (hl : Fits homes l) (hi : stpFits homes l.length i = true) (h : (rowAtN n l i).2 = true) : stpFits homes l.length (rowAtN n l i).1 = true := by
  have sec : ∀ op to sign : Int, (op = 43 ∨ op = 44 ∨ op = 46) → (to = 48 ∨ to = 49) → (rowSecond op to sign i).2 = true → stpFits homes l.length (rowSecond op to sign i).1 = true := by
    intro op to sign ho ht h
    unfold rowSecond at h ⊢
    by_cases h1 : i.op = op
    · rw [if_pos h1] at h ⊢
      have h2 := fits_two hi (by rw [h1]; exact ho)
      exact fits_of ht (by rw [List.length_take]; omega) fun o hm => fits_all hi o (List.mem_of_mem_take hm)
    · rw [if_neg h1] at h; cases h
  match n with
  | 0 => exact sec _ _ _ (by omega) (by omega) h
  | 1 =>
    simp only [rowAtN] at h ⊢
    unfold rowFirst at h ⊢
    by_cases h1 : i.op = 43
    · rw [if_pos h1] at h ⊢
      have h2 := fits_two hi (.inl h1)
      exact fits_of (.inl rfl) (by rw [List.length_drop]; omega) fun o hm => fits_all hi o (List.mem_of_mem_drop hm)
    · rw [if_neg h1] at h; cases h
  | 2 => exact sec _ _ _ (by omega) (by omega) h
  | 3 => exact sec _ _ _ (by omega) (by omega) h
  | _ + 4 =>
    simp only [rowAtN] at h ⊢
    unfold rowChain at h ⊢
    by_cases h1 : i.op = 48 ∧ (i.l[0]?.getD default).kind = 2
    · rw [if_pos h1] at h ⊢
      obtain ⟨x, m, hm⟩ := one_of (show 1 ≤ i.l.length by rw [fits_one hi (.inl h1.1)]; exact Nat.le_refl _)
      simp only [hm, List.getElem?_cons_zero, Option.getD_some] at h h1 ⊢
      have hx := opnFits_step (fits_all hi x (by rw [hm]; simp)) h1.2
      obtain ⟨j, hj⟩ := get_of_lt (l := l) (i := x.n.toNat) (by omega)
      rw [hj] at h ⊢
      simp only [Option.getD_some, decide_eq_true_eq] at h ⊢
      have hjf := hl _ _ hj
      exact fits_of (.inl h) (fits_one hjf (.inl h)) fun o ho => opnFits_mono (by omega) (fits_all hjf o ho)
    · rw [if_neg h1] at h; cases h
theorem turned_keeps {l : List Stp} {P : Stp → Prop} (hl : Sounds l) (hr : ∀ n j, Sound l j → P j → (rowAtN n l j).2 = true → P (rowAtN n l j).1) : ∀ i, Sound l i → P i → P (turned l i) := by
  have key : ∀ r i, Sound l i → rank l i ≤ r → P i → P (turned l i) := by
    intro r
    induction r with
    | zero =>
      intro i hs hk hp
      cases h : turn1 l i with
      | none => rw [turned_none h]; exact hp
      | some j => have := (turn1_down hl hs h).2; omega
    | succ r ih =>
      intro i hs hk hp
      cases h : turn1 l i with
      | none => rw [turned_none h]; exact hp
      | some j =>
        have := turn1_down hl hs h
        rw [turned_some hl hs h]
        obtain ⟨n, _, h2, rfl⟩ := turn1_row h
        exact ih _ this.1 (by omega) (hr n i hs hp h2)
  exact fun i hs hp => key _ i hs (Nat.le_refl _) hp
theorem turned_fits {homes : Int} {l : List Stp} {i : Stp} (hl : Fits homes l) (hi : stpFits homes l.length i = true) : stpFits homes l.length (turned l i) = true :=
  turned_keeps (P := fun s => stpFits homes l.length s = true) (fits_sounds hl) (fun n j _ hj h => row_fits n hl hj h) i (fits_sound hi) hi
theorem fits_add {homes : Int} {l : List Stp} {s : Stp} (hl : Fits homes l) (hs : stpFits homes l.length s = true) : Fits homes (l ++ [s]) := by
  intro k i h
  rcases Nat.lt_trichotomy k l.length with h1 | h1 | h1
  · rw [List.getElem?_append_left h1] at h
    exact hl k i h
  · subst h1
    rw [List.getElem?_append_right (Nat.le_refl _)] at h
    simp at h
    subst h
    exact hs
  · rw [List.getElem?_eq_none (by simp; omega)] at h; cases h
def Still (l : List Stp) : Prop := ∀ (k : Nat) (s : Stp), l[k]? = some s → turn1 (l.take k) s = none
theorem still_add {l : List Stp} {s : Stp} (hl : Still l) (hs : turn1 l s = none) : Still (l ++ [s]) := by
  intro k i h
  rcases Nat.lt_trichotomy k l.length with h1 | h1 | h1
  · rw [List.getElem?_append_left h1] at h
    rw [List.take_append_of_le_length (by omega)]
    exact hl k i h
  · subst h1
    rw [List.getElem?_append_right (Nat.le_refl _)] at h
    simp at h
    subst h
    rw [List.take_append_of_le_length (Nat.le_refl _), List.take_length]
    exact hs
  · rw [List.getElem?_eq_none (by simp; omega)] at h; cases h
theorem fuseL_good {homes : Int} : ∀ (l acc : List Stp), Fits homes acc → Still acc → (∀ (k : Nat) (s : Stp), l[k]? = some s → stpFits homes (acc.length + k) s = true) → Fits homes (fuseL acc l) ∧ Still (fuseL acc l)
  | [], acc, h1, h2, _ => ⟨h1, h2⟩
  | i :: l, acc, h1, h2, h3 => by
    have hi : stpFits homes acc.length i = true := by simpa using h3 0 i rfl
    rw [fuseL]
    refine fuseL_good l _ (fits_add h1 (turned_fits h1 hi)) (still_add h2 (turned_end (fits_sounds h1) (fits_sound hi)).2) fun k s hk => ?_
    have := h3 (k + 1) s (by simpa using hk)
    simp only [List.length_append, List.length_singleton]
    rw [show ((acc.length + 1 : Nat) : Int) + (k : Int) = (acc.length : Int) + ((k + 1 : Nat) : Int) by omega]
    exact this
theorem row_ok {l : List Stp} {i : Stp} (n : Nat) (hl : ∀ j ∈ l, okStp j) (hs : Sound l i) (hi : okStp i) (h : (rowAtN n l i).2 = true) : okStp (rowAtN n l i).1 := by
  have mk : ∀ {op m : Int} {k : List Opn}, k.length < 1099511627776 → (∀ o ∈ k, okO o) → okStp ⟨op, m, k, [], []⟩ := fun h1 h2 => ⟨by simp [bulkS], by simp, h1, h2⟩
  obtain ⟨_, _, b1, b2⟩ := hi
  have sec : ∀ op to sign : Int, (rowSecond op to sign i).2 = true → okStp (rowSecond op to sign i).1 := by
    intro op to sign h
    unfold rowSecond at h ⊢
    split at h
    · rename_i h1
      rw [if_pos h1]
      exact mk (by rw [List.length_take]; omega) fun o hm => b2 o (List.mem_of_mem_take hm)
    · cases h
  match n with
  | 0 => exact sec _ _ _ h
  | 1 =>
    simp only [rowAtN] at h ⊢
    unfold rowFirst at h ⊢
    split at h
    · rename_i h1
      rw [if_pos h1]
      exact mk (by rw [List.length_drop]; omega) fun o hm => b2 o (List.mem_of_mem_drop hm)
    · cases h
  | 2 => exact sec _ _ _ h
  | 3 => exact sec _ _ _ h
  | _ + 4 =>
    simp only [rowAtN] at h ⊢
    unfold rowChain at h ⊢
    split at h
    · rename_i h1
      rw [if_pos h1]
      obtain ⟨x, m, hm⟩ := one_of (hs.2.1 (.inl h1.1))
      simp only [hm, List.getElem?_cons_zero, Option.getD_some] at h h1 ⊢
      have hx := hs.2.2 x (by rw [hm]; simp) h1.2
      obtain ⟨j, hj⟩ := get_of_lt (l := l) (i := x.n.toNat) (by omega)
      rw [hj]
      simp only [Option.getD_some]
      obtain ⟨_, _, c1, c2⟩ := hl j (List.mem_of_getElem? hj)
      exact mk c1 c2
    · cases h
theorem turned_ok {l : List Stp} {i : Stp} (hl : ∀ j ∈ l, okStp j) (hs : Sounds l) (hi : Sound l i) (ho : okStp i) : okStp (turned l i) :=
  turned_keeps (P := okStp) hs (fun n j h1 h2 h => row_ok n hl h1 h2 h) i hi ho
theorem fuseL_ok {homes : Int} : ∀ (l acc : List Stp), Fits homes acc → (∀ j ∈ acc, okStp j) → (∀ (k : Nat) (s : Stp), l[k]? = some s → stpFits homes (acc.length + k) s = true) → (∀ j ∈ l, okStp j) → ∀ j ∈ fuseL acc l, okStp j
  | [], acc, _, h2, _, _ => h2
  | i :: l, acc, h1, h2, h3, h4 => by
    have hi : stpFits homes acc.length i = true := by simpa using h3 0 i rfl
    rw [fuseL]
    refine fuseL_ok l _ (fits_add h1 (turned_fits h1 hi)) (fun j hj => ?_) (fun k s hk => ?_) fun j hj => h4 j (List.mem_cons_of_mem _ hj)
    · rcases List.mem_append.1 hj with hj | hj
      · exact h2 j hj
      · rw [List.mem_singleton.1 hj]
        exact turned_ok h2 (fits_sounds h1) (fits_sound hi) (h4 i (List.mem_cons_self ..))
    · have := h3 (k + 1) s (by simpa using hk)
      simp only [List.length_append, List.length_singleton]
      rw [show ((acc.length + 1 : Nat) : Int) + (k : Int) = (acc.length : Int) + ((k + 1 : Nat) : Int) by omega]
      exact this
theorem stepsFit_of {homes : Int} : ∀ (l : List Stp) (a : Nat), (∀ (k : Nat) (s : Stp), l[k]? = some s → stpFits homes (a + k) s = true) → stepsFit homes l a = true
  | [], _, _ => rfl
  | i :: l, a, h => by
    rw [stepsFit, Bool.and_eq_true]
    refine ⟨by simpa using h 0 i rfl, ?_⟩
    have := stepsFit_of l (a + 1) fun k s hk => by
      have := h (k + 1) s (by simpa using hk)
      rw [show ((a + 1 : Nat) : Int) + (k : Int) = (a : Int) + ((k + 1 : Nat) : Int) by omega]
      exact this
    simpa using this
theorem check_fits {x : Pce} (h : checkP x = true) : Fits x.homes x.ins := fun k s hk => by
  have := stepsFit_at ((checkP_iff.1 h).2.1) hk
  simpa using this
theorem fuseP_good {x : Pce} (h : checkP x = true) : Fits x.homes (fuseP x).ins ∧ Still (fuseP x).ins :=
  fuseL_good x.ins [] (fun k s hk => by simp at hk) (fun k s hk => by simp at hk) fun k s hk => by simpa using check_fits h k s hk
theorem fuseP_check {x : Pce} (h : checkP x = true) : checkP (fuseP x) = true := by
  have hg := fuseP_good h
  have hlen : (fuseP x).ins.length = x.ins.length := by simp [fuseP, fuseL_len]
  rw [checkP_iff] at h ⊢
  obtain ⟨h1, h2, h3, h4⟩ := h
  refine ⟨?_, stepsFit_of _ 0 fun k s hk => by rw [show ((0 : Nat) : Int) + (k : Int) = k by omega]; exact hg.1 k s hk, ?_, ?_⟩
  · unfold numsP at h1 ⊢
    rw [hlen]
    exact h1
  · unfold condP at h3 ⊢
    rw [hlen]
    exact h3
  · rw [hlen]; exact h4
theorem fuseP_ok {x : Pce} (h : checkP x = true) (ho : okPce x) : okPce (fuseP x) := by
  obtain ⟨h1, h2, h3, h4, h5⟩ := ho
  refine ⟨?_, by show (fuseL [] x.ins).length < _; rw [fuseL_len]; simpa using h2, h3, h4, h5⟩
  exact fuseL_ok (homes := x.homes) x.ins [] (fun k s hk => by simp at hk) (by simp) (fun k s hk => by simpa using check_fits h k s hk) h1
end Go.RI
namespace Go.Proofs.YtgpjfhaohjnbnaaGreatDoor
open Go Go.RI
section
variable {G : AHeap} (hG : G.next = 2)
include hG
set_option maxHeartbeats 1000000 in
theorem t_of_loop1 (x : Pce) (hx : okPce x) (hc : checkP x = true) (t1 t2 t3 t4 : Bool) (z : List AVal) (Q : Post) (H : AHeap) (g1 : H.get 2 = some (.cells (pceC x t1 t2 t3 t4) 1 false)) (g2 : H.get 3 = some (.cells z 1 false)) (hn : 4 ≤ H.next)
    (h1 : ∀ lv H', Acc H' 4 lv 5 (fuseL [] x.ins).length (encs (fuseL [] x.ins)) → H'.get 2 = some (.cells (pceC x t1 t2 t3 t4) 1 false) → H'.get 3 = some (.cells z 1 false) → 4 ≤ H'.next →
      Q (.exit 0) [(1, .p 2 0), (2, .p 3 0), (5, lv), (16, .fs t1 false x.ins.length (encs x.ins)), (17, .i .i64 x.ins.length), (18, .i .i64 x.ins.length), (19, .b false)] H') :
    wp (theCalls IP G 2) 2 (.loop L5a) Q [(1, .p 2 0), (2, .p 3 0), (5, .ns), (16, .fs t1 false x.ins.length (encs x.ins)), (17, .i .i64 x.ins.length), (18, .i .i64 0)] H := by
  have hfit := check_fits hc
  obtain ⟨ho1, ho2, ho3, ho4, ho5⟩ := hx
  refine wp_loop_list (l := x.ins) (by omega) (fun i todo e H' => ∃ lv, e = [(1, .p 2 0), (2, .p 3 0), (5, lv), (16, .fs t1 false x.ins.length (encs x.ins)), (17, .i .i64 x.ins.length), (18, .i .i64 i)] ∧
    H'.get 2 = some (.cells (pceC x t1 t2 t3 t4) 1 false) ∧ H'.get 3 = some (.cells z 1 false) ∧ 4 ≤ H'.next ∧ Acc H' 4 lv 5 i (encs (fuseL [] (x.ins.take i)))) ?_ ?_ ?_
  · rintro i s todo e H' hs hd hlt hlt2 hlt3 ⟨lv, rfl, k1, k2, k3, hA⟩
    obtain ⟨acc, hacc⟩ : ∃ acc, acc = fuseL [] (x.ins.take i) := ⟨_, rfl⟩
    have pre : ∀ (k : Nat) (s : Stp), (x.ins.take i)[k]? = some s → stpFits x.homes (([] : List Stp).length + k) s = true := fun k s hk => by
      rw [List.getElem?_take] at hk
      split at hk
      · simpa using hfit k s hk
      · cases hk
    have hlen : acc.length = i := by rw [hacc, fuseL_len, List.length_take]; simp; omega
    have hgood : Fits x.homes acc := by rw [hacc]; exact (fuseL_good _ [] (fun k s hk => by simp at hk) (fun k s hk => by simp at hk) pre).1
    have hok : ∀ j ∈ acc, okStp j := by rw [hacc]; exact fuseL_ok (homes := x.homes) _ [] (fun k s hk => by simp at hk) (by simp) pre fun j hj => ho1 j (List.mem_of_mem_take hj)
    have hsf : stpFits x.homes acc.length s = true := by rw [hlen]; exact hfit i s hs
    have hso := ho1 s (List.mem_of_getElem? hs)
    have hnext : fuseL [] (x.ins.take (i + 1)) = acc ++ [turned acc s] := by
      rw [List.take_add_one, hs, fuseL_app, ← hacc]; rfl
    rw [← hacc] at hA
    have c1 := t_turned hG acc s (fits_sounds hgood) (fits_sound hsf) (decide (0 < i)) false
    have c2 := t_ownStep hG (turned acc s) (turned_ok hok (fits_sounds hgood) (fits_sound hsf) hso) false false
    simp only [cells_stp] at c1 c2
    rw [hlen] at c1
    obtain ⟨d, hd2⟩ : ∃ d, H'.next = d + 4 := ⟨H'.next - 4, by omega⟩
    have s1 : ∀ o p, snapV ((H'.push o).put (d + 4) p) 16 lv = some (.fs (decide (0 < i)) false i (encs acc)) := fun o p => by
      refine acc_snap (k := 15) (acc_keep hA (by simp) fun id a b hv => ?_) snap_encs
      have := acc_lt hA id a b hv
      simp -implicitDefEqProofs [show id ≠ d + 4 by omega, show id ≠ H'.next by omega]
    simp only [pceC] at k1
    clear hlt
    simp -implicitDefEqProofs [L5a, hlt2, hlt3, hs, hd2, s1, c1, c2]
    refine step_app (acc_keep hA (by simp <;> omega) ?_) (lo' := 4) (m := 1) (ys := Enc.cells (turned acc s)) (by omega) (by simp <;> omega) (more_lit (cs := Enc.cells (turned acc s)) (e := 5) (ro := false) (by simp -implicitDefEqProofs [hd2]) (by simp) (by omega)) (by simp) (by omega) (by omega) (by omega) (by omega) ?_
    · intro id a b hv
      have := acc_lt hA id a b hv
      simp -implicitDefEqProofs [show id ≠ d + 4 by omega, show id ≠ d + 4 + 1 by omega, show id ≠ d + 5 by omega, hd2]
    intro H1 hn1 hA1 hf1
    have f1 : ∀ id, id < 4 → H1.get id = H'.get id := fun id h => by
      rw [hf1 id (by simp; omega) (fun id2 a b hv => by have := acc_lt hA id2 a b hv; omega)]
      simp -implicitDefEqProofs [show id ≠ d + 4 by omega, show id ≠ d + 4 + 1 by omega, show id ≠ d + 5 by omega, hd2]
    simp -implicitDefEqProofs [hd2] at hn1 hA1
    clear hf1
    have e1 := (f1 2 (by omega)).trans k1
    have e2 := (f1 3 (by omega)).trans k2
    simp -implicitDefEqProofs [hd2, hlt3, e1, e2]
    refine ⟨rfl, by omega, ?_⟩
    rw [hnext]
    simpa using hA1
  · rintro e H' ⟨lv, rfl, k1, k2, k3, hA⟩
    simp -implicitDefEqProofs [L5a]
    rw [List.take_length] at hA
    refine h1 lv H' ?_ k1 k2 k3
    rw [fuseL_len]
    simpa using hA
  · exact ⟨.ns, by simp, g1, g2, hn, acc_none⟩
theorem t_of_loop2 (x : Pce) (hx : okPce x) (lv cv : AVal) (z : List AVal) (Q : Post) (H : AHeap) (g1 : H.get 2 = some (.cells [.i .i64 x.func, .i .i64 x.at_, .i .i64 x.many, .i .i64 x.homes, lv, cv, .i .i64 x.exit, .i .i64 x.to, .i .i64 x.cond.kind, .i .i64 x.cond.n, .i .i64 x.cond.v.kind, .i .i64 x.cond.v.n, .s x.cond.v.s, .fs false false x.cond.v.l.length (encs x.cond.v.l), .fs false false x.cond.v.names.length (encs x.cond.v.names), .i .i64 x.deep] 1 false))
    (hL : Hold H 4 cv 7 x.sets.length (encs x.sets))
    (hQ : ∀ H', (∀ id, H'.get id = H.get id) → H'.next = H.next → Q (.exit 2) [(1, .p 2 0), (2, .p 3 0), (44, .i .i64 x.sets.length), (45, .i .i64 x.sets.length), (46, .b false)] H') :
    wp (theCalls IP G 2) 2 (.loop L5b) Q [(1, .p 2 0), (2, .p 3 0), (44, .i .i64 x.sets.length), (45, .i .i64 0)] H := by
  obtain ⟨ho1, ho2, ho3, ho4, ho5⟩ := hx
  refine wp_loop_list (l := x.sets) (by omega) (fun i todo e H' => e = [(1, .p 2 0), (2, .p 3 0), (44, .i .i64 x.sets.length), (45, .i .i64 i)] ∧ (∀ id, H'.get id = H.get id) ∧ H'.next = H.next) ?_ ?_ ?_
  · rintro i y todo e H' hx hd hlt hlt2 hlt3 ⟨rfl, hs, hn⟩
    have c1 := t_ownV hG y.v (ho4 y (List.mem_of_getElem? hx)) false false
    simp at c1
    rcases hL with ⟨_, h0, _⟩ | ⟨id, c, rfl, hc, h1, h2, h3, h4⟩
    · omega
    have hr' := (hs 2).trans g1
    have h3' := (hs id).trans h3
    have h5 : i * 7 + 2 + 5 ≤ x.sets.length * 7 := by omega
    have hne : ¬ id = 2 := by omega
    have hp := put_opn hx
    have ht : ((encs x.sets).drop (i * 7 + 2)).take 5 = Enc.cells y.v := by
      rw [← List.drop_drop, drop_opn, hx]
      simp
    simp at hp ht
    have hlo : 2 ≤ id := by omega
    clear hlt
    simp -implicitDefEqProofs [L5b, hlt2, hlt3, hr', h3', h5, c1, hne, hlo, hp, ht]
    refine ⟨fun j => ?_, hn⟩
    by_cases hj : j = id
    · subst hj; simp -implicitDefEqProofs [h3]
    · simp -implicitDefEqProofs [hj, hs]
  · rintro e H' ⟨rfl, hs, hn⟩
    simp -implicitDefEqProofs [L5b]
    exact hQ _ hs hn
  · simp
set_option maxHeartbeats 1000000 in
theorem t_of (c17 : ∀ x : Pce, okPce x → ∀ t1 t2 t3 t4 : Bool, pureR IP G 7 [.ag (pceC x t1 t2 t3 t4)] = some (.i .i64 (if checkP x then 0 else 2))) (x : Pce) (hx : okPce x) (t1 t2 t3 t4 : Bool) : pureR IP G 5 [.ag (pceC x t1 t2 t3 t4)] =
    some (if checkP x then .tu [.ag (Enc.cells (fuseP x)), .i .i64 0] else .tu [.ag (Enc.cells (⟨0, 0, 0, 0, [], [], 0, 0, ⟨0, 0, zeroVal⟩, 0⟩ : Pce)), .i .i64 2]) := by
  have c1 := c17 x hx t1 t2 t3 t4
  have hx0 := hx
  obtain ⟨ho1, ho2, ho3, ho4, ho5⟩ := hx
  have c2 := t_ownV hG x.cond.v ho5 t3 t4
  simp only [pceC] at c1
  simp at c2
  refine pure_run ip5 rfl ?_
  cases hc : checkP x
  · rw [hc] at c1
    simp -implicitDefEqProofs [I5, hG, pceC, c1, zeroVal]
  · rw [hc] at c1
    simp -implicitDefEqProofs [I5, hG, pceC, c1]
    refine t_of_loop1 hG x hx0 hc t1 t2 t3 t4 _ _ _ (by simp -implicitDefEqProofs [hG, pceC]) (by simp -implicitDefEqProofs [hG]; rfl) (by simp -implicitDefEqProofs [hG]) ?_
    intro lv H hA g1 g2 hn
    simp only [pceC] at g1
    simp -implicitDefEqProofs [g1, g2]
    refine step_clone (lo' := 4) (by simp) (by omega) (by omega) (by omega) (by omega) ?_
    intro cv H1 hn1 hL hnew1 hf1
    have k1 : H1.get 2 = _ := (hf1 2 (by omega)).trans g1
    have k2 : H1.get 3 = _ := (hf1 3 (by omega)).trans g2
    obtain ⟨o1, o2⟩ := hold_one hL
    obtain ⟨o3, o4⟩ := hold_one hA.hold
    simp -implicitDefEqProofs [k1, k2, c2, o1, o2, o3, o4, hold_len hL]
    refine t_of_loop2 hG x hx0 lv cv [] _ _ (by simp) (hold_keep hL (by simp) fun id c h => ?_) ?_
    · have := hold_lt hL _ _ _ h
      simp -implicitDefEqProofs [show ¬ id = 2 by omega]
    · intro H3 hs hn3
      have e1 : H3.get 2 = _ := hs 2
      have e2 : H3.get 3 = _ := hs 3
      simp -implicitDefEqProofs [k2] at e1 e2
      simp at hn3
      have f1 := fun o => hold_frz (k := 13) (hold_in hA.hold (H' := H3.put 3 o) (lo' := 2) (by omega) (by simp; omega) fun id h1 h2 => by simp -implicitDefEqProofs [hs, show ¬ id = 2 by omega, show ¬ id = 3 by omega, hf1 id h2]) frz_encs
      have f2 := fun o => hold_frz (k := 13) (hold_in hL (H' := H3.put 3 o) (lo' := 2) (by omega) (by simp; omega) fun id h1 h2 => by simp -implicitDefEqProofs [hs, show ¬ id = 2 by omega, show ¬ id = 3 by omega]) frz_encs
      simp -implicitDefEqProofs [e1, e2, o1, o2, o3, o4, f1, f2, fuseP]
end
end Go.Proofs.YtgpjfhaohjnbnaaGreatDoor
namespace Go.RI
open Go
theorem hold_app {lo lo' esz bytes n m : Nat} {H : AHeap} {v y : AVal} {cells ys : List AVal} (h : Hold H lo' v esz n cells) (hll : lo ≤ lo') (hlo : lo' ≤ H.next) (hy : moreV H esz y = some (m, ys)) (hl : ys.length = m * esz) (he : 0 < esz) (hb : 0 < bytes) (hs : (2 * (n + m) + 192) * bytes ≤ 281474976710656) (hm : 0 < m) :
    ∃ H', appR lo H esz bytes (some v) (some y) = some (some (.sl H.next 0 (n + m) none), H') ∧ Acc H' lo' (.sl H.next 0 (n + m) none) esz (n + m) (cells ++ ys) ∧ H'.next = H.next + 1 ∧
      ∀ id, id < H.next → (∀ id0 n0 c0, v = .sl id0 0 n0 c0 → id ≠ id0) → H'.get id = H.get id := by
  have hm0 : m ≠ 0 := by omega
  rcases h with ⟨rfl | rfl, rfl, rfl⟩ | ⟨id0, c, rfl, hc, h1, h2, h3, h4⟩
  · refine ⟨H.push (.cells ys esz false), ?_, .inr ⟨H.next, by simp, hlo, by simp, by simp, by simpa using hl⟩, rfl, ?_⟩
    · have : (2 * m + 192) * bytes ≤ 281474976710656 := by simpa using hs
      simp [appR, appV, hy, hl, he, hb, hm0, this]
    · intro id hid _
      simp [show id ≠ H.next by omega]
  · exact acc_app (acc_none (H := H) (lo := lo') (esz := esz)) hll hlo hy hl he hb (by simpa using hs) hm
  · rcases hc with rfl | rfl
    · exact acc_app (.inr ⟨id0, rfl, h1, h2, h3, h4⟩) hll hlo hy hl he hb hs hm
    · refine ⟨H.push (.cells (cells ++ ys) esz false), ?_, .inr ⟨H.next, rfl, by omega, by simp, by simp, by simp [h4, hl, Nat.add_mul]⟩, rfl, ?_⟩
      · have ht : cells.take (n * esz) = cells := List.take_of_length_le (by omega)
        by_cases hn : n = 0
        · subst hn
          have : cells = [] := List.eq_nil_of_length_eq_zero (by simpa using h4)
          subst this
          have : (2 * m + 192) * bytes ≤ 281474976710656 := by simpa using hs
          simp [appR, appV, hy, hl, he, hb, hm0, this]
        · have hr : rowAt H id0 0 (n * esz) = some cells := by
            simp only [rowAt, h3]
            rw [if_pos (by omega)]
            simp [ht]
          simp [appR, appV, hy, hl, he, hb, hm0, hs, hn, hr, show ¬ n + m ≤ n by omega]
      · intro id hid hne
        simp [show id ≠ H.next by omega]
theorem step_appH {call : CallI} {lo lo' esz bytes n m : Nat} {H : AHeap} {v y : AVal} {cells ys : List AVal} {xs : List Item} {kill : List Nat} {Q : Post} {dst : Option Nat} {op : IOp} {re : List (Nat × IOp × Option (Nat × Bool))} {e : Env}
    (h : Hold H lo' v esz n cells) (hll : lo ≤ lo') (hlo : lo' ≤ H.next) (hy : moreV H esz y = some (m, ys)) (hl : ys.length = m * esz) (he : 0 < esz) (hb : 0 < bytes) (hs : (2 * (n + m) + 192) * bytes ≤ 281474976710656) (hm : 0 < m)
    (k : ∀ H' : AHeap, H'.next = H.next + 1 → Acc H' lo' (.sl H.next 0 (n + m) none) esz (n + m) (cells ++ ys) → (∀ id, id < H.next → (∀ id0 n0 c0, v = .sl id0 0 n0 c0 → id ≠ id0) → H'.get id = H.get id) → stepP call lo xs kill Q dst op re e (some (some (.sl H.next 0 (n + m) none), H'))) :
    stepP call lo xs kill Q dst op re e (appR lo H esz bytes (some v) (some y)) := by
  obtain ⟨H', h1, h2, h3, h4⟩ := hold_app h hll hlo hy hl he hb hs hm
  rw [h1]
  exact k H' h3 h2 h4
end Go.RI
namespace Go.RI
open Go
theorem law_brings {IP : FuncId → Option IFunc} {G : AHeap} {f : FuncId} {fn : IFunc} (hf : IP f = some fn) (hm : fn.mode = 0) {args : List AVal} (hl : args.length = fn.np) {v : AVal}
    (h : wp (theCalls IP G G.next) G.next fn.body (fin fn.res fun u _ => u = v) (initEnv 0 args) G) : ∃ H', Brings IP G G.next f args G v H' := by
  obtain ⟨n, u, H', hb, rfl⟩ := body_wp (fn := fn) (R := fun u _ => u = v) (theCalls_knows _) hl (by rw [ends_fin]; exact h)
  refine ⟨H', n, ?_⟩
  simp only [acall, callI, callB, hf, hm, hb]
end Go.RI
namespace Go.RI
open Go
section
variable {call : CallI} {lo : Nat} {e : Env} {H : AHeap}
@[simp] theorem op_mkmap : opI call lo .mkmap e H = some (some (.m H.next), H.push (.map [])) := rfl
@[simp] theorem op_look {ag okf : Bool} {ks : List Nat} {z : AVal} {x k : Opd} : opI call lo (.look ag ks z okf x k) e H = val H (two (lookV H ag ks z okf) (x.eval e) (k.eval e)) := by
  simp only [opI, aop]
  rcases x.eval e with _ | a <;> rcases k.eval e with _ | b <;> rfl
def nckV : AVal → Option AVal
  | .p id off => some (.p id off)
  | .fn (.func f) a c => some (.fn (.func f) a c)
  | .ifc t v => some (.ifc t v)
  | .fp l => some (.fp l)
  | _ => none
@[simp] theorem nckV_p {id off : Nat} : nckV (.p id off) = some (.p id off) := rfl
@[simp] theorem nckV_fp {l : List AVal} : nckV (.fp l) = some (.fp l) := rfl
@[simp] theorem op_nck {x : Opd} : opI call lo (.nck x) e H = val H ((x.eval e).bind nckV) := by
  simp only [opI, aop]
  rcases x.eval e with _ | v
  · rfl
  · cases v <;> try rfl
    rename_i f a c
    cases f <;> rfl
@[simp] theorem op_eqNil {k : Nat} {neg : Bool} {x y : Opd} : opI call lo (.eqNil k neg x y) e H = val H (two (fun a b => (eqNilV k a b).map fun r => AVal.b (if neg then !r else r)) (x.eval e) (y.eval e)) := by
  simp only [opI, aop]
  rcases x.eval e with _ | a <;> rcases y.eval e with _ | b <;> rfl
@[simp] theorem eqNil_p {id off : Nat} : eqNilV 1 (.p id off) .np = some false := rfl
@[simp] theorem eqNil_m {id : Nat} : eqNilV 2 (.m id) .nm = some false := rfl
noncomputable def mapupR (lo : Nat) (H : AHeap) (ag : Bool) (ks : List Nat) : Option AVal → Option AVal → Option AVal → Option (Option AVal × AHeap)
  | some m, some k, some v => (mapupV lo H ag ks k v m).map fun H' => (none, H')
  | _, _, _ => none
@[simp] theorem op_mapup {ag : Bool} {ks : List Nat} {x k v : Opd} : opI call lo (.mapup ag ks x k v) e H = mapupR lo H ag ks (x.eval e) (k.eval e) (v.eval e) := by
  simp only [opI, aop]
  rcases x.eval e with _ | a <;> rcases k.eval e with _ | b <;> rcases v.eval e with _ | c <;> rfl
@[simp] theorem tup_m {a : Nat} : (AVal.m a).tup = false := rfl
@[simp] theorem cells_m {a : Nat} : (AVal.m a).cells = [.m a] := rfl
noncomputable def lookM (z : AVal) (okf : Bool) (a b : Int) : Option AObj → Option AVal
  | some (.map es) => match findA true [1, 1] [.i .i64 a, .i .i64 b] es 0 with
    | some (some (_, v)) => some (if okf then .tu [v, .b true] else v)
    | some none => some (if okf then .tu [z, .b false] else z)
    | none => none
  | _ => none
@[simp] theorem look_two {z : AVal} {okf : Bool} {id : Nat} {a b : Int} : lookV H true [1, 1] z okf (.m id) (.ag [.i .i64 a, .i .i64 b]) = lookM z okf a b (H.get id) := by
  simp only [lookV, mapEs, lookM]
  rcases H.get id with _ | ⟨c, esz, ro⟩ | es
  · rfl
  · rfl
  · simp [keyC]
    rcases findA true [1, 1] [.i .i64 a, .i .i64 b] es 0 with _ | _ | ⟨_, _⟩ <;> rfl
@[simp] theorem look_none {z : AVal} {okf : Bool} {a b : Int} : lookM z okf a b (some (.map [])) = some (if okf then .tu [z, .b false] else z) := by
  simp [lookM, findA]
@[simp] theorem look_some {z v : AVal} {okf : Bool} {a b a' b' : Int} : lookM z okf a b (some (.map [(.ag [.i .i64 a', .i .i64 b'], v)])) = some (if a = a' ∧ b = b' then (if okf then .tu [v, .b true] else v) else (if okf then .tu [z, .b false] else z)) := by
  simp [lookM, keyC, findA]
  by_cases h1 : a = a' <;> by_cases h2 : b = b' <;> simp [h1, h2]
noncomputable def mapupM (lo id : Nat) (H : AHeap) (a b : Int) (l : List AVal) : Option AObj → Option AHeap
  | some (.map es) => if lo ≤ id then match findA true [1, 1] [.i .i64 a, .i .i64 b] es 0 with
    | some (some (i, _)) => some (H.put id (some (.map (es.set i (.ag [.i .i64 a, .i .i64 b], .ag l)))))
    | some none => some (H.put id (some (.map (es ++ [(.ag [.i .i64 a, .i .i64 b], .ag l)]))))
    | none => none
    else none
  | _ => none
@[simp] theorem mapup_two {lo id : Nat} {a b : Int} {l : List AVal} : mapupV lo H true [1, 1] (.ag [.i .i64 a, .i .i64 b]) (.ag l) (.m id) = mapupM lo id H a b l (H.get id) := by
  simp only [mapupV, mapupM]
  rcases H.get id with _ | ⟨c, esz, ro⟩ | es
  · simp
  · simp
  · simp [keyC]
    rcases findA true [1, 1] [.i .i64 a, .i .i64 b] es 0 with _ | _ | ⟨_, _⟩ <;> rfl
@[simp] theorem mapup_none {lo id : Nat} {a b : Int} {l : List AVal} (hl : lo ≤ id) : mapupM lo id H a b l (some (.map [])) = some (H.put id (some (.map [(.ag [.i .i64 a, .i .i64 b], .ag l)]))) := by
  simp [mapupM, hl, findA]
@[simp] theorem mapup_some {lo id : Nat} {a b : Int} {l : List AVal} {v : AVal} (hl : lo ≤ id) : mapupM lo id H a b l (some (.map [(.ag [.i .i64 a, .i .i64 b], v)])) = some (H.put id (some (.map [(.ag [.i .i64 a, .i .i64 b], .ag l)]))) := by
  simp [mapupM, hl, keyC, findA]
@[simp] theorem mapupR_some {lo : Nat} {ag : Bool} {ks : List Nat} {m k v : AVal} : mapupR lo H ag ks (some m) (some k) (some v) = (mapupV lo H ag ks k v m).map fun H' => (none, H') := rfl
end
end Go.RI
namespace Go.RI
open Go
def numV (n : Int) : Val := .mk 1 n [] [] []
def yesV (b : Bool) : Val := .mk 2 (if b then 1 else 0) [] [] []
def madeV (v : Val) : Val × Int := if mayV v then (v, 0) else (zeroVal, 4)
def unaryV (op : Int) (a : Val) : Val × Int × Int :=
  if mayV a = false then (zeroVal, 0, 2)
  else if op = 6 then (if a.kind = 1 then (numV (wrapI .i64 (0 - a.n)), 0, 0) else (zeroVal, 2, 0))
  else if op = 7 then (if a.kind = 2 then (yesV (decide (a.n = 0)), 0, 0) else (zeroVal, 2, 0))
  else if op = 8 then (if a.kind = 3 ∨ a.kind = 4 then (numV ((a.s.length : Int) + a.l.length), 0, 0) else (zeroVal, 2, 0))
  else (zeroVal, 0, 2)
def intsV (op a b : Int) : Val × Int :=
  if op = 9 then (numV (wrapI .i64 (a + b)), 0)
  else if op = 10 then (numV (wrapI .i64 (a - b)), 0)
  else if op = 11 then (numV (wrapI .i64 (a * b)), 0)
  else if op = 17 then (yesV (decide (a ≤ b)), 0)
  else if op = 16 then (yesV (decide (a < b)), 0)
  else if op = 12 then (if b = 0 then (zeroVal, 1) else (numV (wrapI .i64 (a.tdiv b)), 0))
  else if op = 13 then (if b = 0 then (zeroVal, 1) else (numV (a.tmod b), 0))
  else (zeroVal, 2)
def textsV (op : Int) (a b : Str) : Val × Int :=
  if op = 9 then madeV (.mk 3 0 (a ++ b) [] [])
  else if op = 17 then (yesV (leS a b), 0)
  else if op = 16 then (yesV (ltB a b), 0)
  else (zeroVal, 2)
def longerV (a : Val) (more : List Val) : Val × Int := madeV (.mk 4 0 [] (a.l ++ more) [])
def binV2 (op : Int) (a b : Val) : Val × Int :=
  if op = 14 then (yesV (sameV a b), 0)
  else if op = 15 then (yesV (!sameV a b), 0)
  else if a.kind = 1 ∧ b.kind = 1 then intsV op a.n b.n
  else if a.kind = 3 ∧ b.kind = 3 then textsV op a.s b.s
  else if op = 18 ∧ a.kind = 4 then longerV a [b]
  else if op = 9 ∧ a.kind = 4 ∧ b.kind = 4 then longerV a b.l
  else if op = 19 ∧ a.kind = 4 ∧ b.kind = 1 then (if 0 ≤ b.n ∧ b.n < a.l.length then (a.l[b.n.toNat]?.getD zeroVal, 0) else (zeroVal, 3))
  else (zeroVal, 2)
def binaryV (op : Int) (a b : Val) : Val × Int × Int :=
  if op < 9 ∨ 19 < op ∨ mayV a = false ∨ mayV b = false then (zeroVal, 0, 2) else ((binV2 op a b).1, (binV2 op a b).2, 0)
def listV (l : List Val) : Val × Int × Int := if l.all mayV then ((madeV (.mk 4 0 [] l [])).1, (madeV (.mk 4 0 [] l [])).2, 0) else (zeroVal, 0, 2)
def recV (ns : List Str) (l : List Val) : Val × Int × Int :=
  if recordS ns = true ∧ l.length = ns.length ∧ l.all mayV = true then ((madeV (.mk 5 0 [] l ns)).1, (madeV (.mk 5 0 [] l ns)).2, 0) else (zeroVal, 0, 2)
def fieldV (a : Val) (s : Str) : Val × Int × Int :=
  if mayV a = false ∨ recordS [s] = false then (zeroVal, 0, 2)
  else if a.kind = 5 then (match a.names.findIdx? (· == s) with
    | some i => (a.l[i]?.getD zeroVal, 0, 0)
    | none => (zeroVal, 6, 0))
  else (zeroVal, 2, 0)
mutual
def hasTV : Shp → Val → Bool
  | s, .mk k _ _ l ns => decide (k = s.kind) && decide (ns = s.names) && hasL s l 0
def hasL : Shp → List Val → Nat → Bool
  | _, [], _ => true
  | s, v :: l, i => hasTV (s.l[if s.kind = 4 then 0 else i]?.getD default) v && hasL s l (i + 1)
end
theorem hasTV_eq (s : Shp) (v : Val) : hasTV s v = (decide (v.kind = s.kind) && decide (v.names = s.names) && hasL s v.l 0) := by cases v; rw [hasTV]; rfl
def isTV (v : Val) (t : Str) : Bool := (typedS t).2 && (mayV v && hasTV (typedS t).1 v)
def resV (r : Val × Int × Int) : Option Val := if r.2.1 = 0 ∧ r.2.2 = 0 then some r.1 else none
def intsS (op : Int) (a b : Val) : Option Val := if a.kind = 1 ∧ b.kind = 1 then resV (binaryV op a b) else none
def opS (i : Stp) (l : List Val) : Option Val :=
  let a := l[0]?.getD zeroVal
  let b := l[1]?.getD zeroVal
  if i.op = 20 then resV (listV l)
  else if i.op = 21 then resV (recV i.names l)
  else if i.op = 22 then resV (fieldV a i.s)
  else if i.op = 23 then (if isTV a i.s then some a else none)
  else if i.op = 40 then (if a.kind = i.n then some a else none)
  else if i.op = 41 then resV (unaryV 6 a)
  else if i.op = 42 then resV (unaryV 7 a)
  else if i.op = 43 then intsS 9 a b
  else if i.op = 44 then intsS 10 a b
  else if i.op = 45 then intsS 11 a b
  else if i.op = 46 then intsS 16 a b
  else if i.op = 47 then intsS 17 a b
  else if i.op = 48 then intsS 9 a (numV i.n)
  else if i.op = 49 then intsS 16 a (numV i.n)
  else if (needs i).1 = 2 then resV (binaryV i.op a b)
  else resV (unaryV i.op a)
def stepV (i : Stp) (l : List Val) : Option Val :=
  if (needs i).2.2 = true ∧ (needs i).1 ≤ l.length ∧ (l.length : Int) ≤ (needs i).2.1 ∧ l.all mayV = true then opS i l else none
def ofO (homes made : List Val) (o : Opn) : Val :=
  if o.kind = 1 then homes[o.n.toNat]?.getD zeroVal else if o.kind = 2 then made[o.n.toNat]?.getD zeroVal else o.v
def stepsV (homes : List Val) : List Stp → List Val → Option (List Val)
  | [], made => some made
  | i :: l, made => match stepV i (i.l.map (ofO homes made)) with
    | some v => stepsV homes l (made ++ [v])
    | none => none
def toP (x : Pce) (homes made : List Val) : Option Int :=
  if x.exit = 2 then (if (ofO homes made x.cond).kind = 2 then some (if (ofO homes made x.cond).n = 1 then wrapI .i64 (x.at_ + x.many) else x.to) else none) else some x.to
def doP (x : Pce) (homes : List Val) : Option (List Val × Int) :=
  if checkP x = true ∧ (homes.length : Int) = x.homes ∧ homes.all mayV = true then match stepsV homes x.ins [] with
    | some made => (toP x homes made).map fun to => (x.sets.map (ofO homes made), to)
    | none => none
  else none
end Go.RI
namespace Go.Proofs.YtgpjfhaohjnbnaaGreatDoor
open Go Go.RI
section
variable {G : AHeap} (hG : G.next = 2)
include hG
theorem t_aown_loop (v : Val) (hv : v.l.length < 1099511627776) (lv nv : AVal) (H : AHeap) (hr : H.get 2 = some (.cells [.i .i64 v.kind, .i .i64 v.n, .s v.s, lv, nv] 1 false)) (hL : Hold H 4 lv 5 v.l.length (encs v.l))
    (ih : ∀ x ∈ v.l, ∀ t1 t2 : Bool, pureR IP G 99 [.ag [.i .i64 x.kind, .i .i64 x.n, .s x.s, .fs t1 false x.l.length (encs x.l), .fs t2 false x.names.length (encs x.names)]] = some (.ag (Enc.cells x)))
    (Q : Post) (hQ : ∀ b H', (∀ id, H'.get id = H.get id) → H'.next = H.next → Q (.exit 0) [(1, .p 2 0), (2, .p 3 0), (14, .i .i64 v.l.length), (15, .i .i64 v.l.length), (16, b)] H') :
    wp (theCalls IP G 2) 2 (.loop L99a) Q [(1, .p 2 0), (2, .p 3 0), (14, .i .i64 v.l.length), (15, .i .i64 0)] H := by
  refine wp_loop_list (l := v.l) (by omega) (fun i todo e H' => e = [(1, .p 2 0), (2, .p 3 0), (14, .i .i64 v.l.length), (15, .i .i64 i)] ∧ (∀ id, H'.get id = H.get id) ∧ H'.next = H.next) ?_ ?_ ?_
  · rintro i x todo e H' hx hd hlt hlt2 hlt3 ⟨rfl, hs, hn⟩
    have c1 := ih x (List.mem_of_getElem? hx) false false
    simp at c1
    rcases hL with ⟨_, h0, _⟩ | ⟨id, c, rfl, hc, h1, h2, h3, h4⟩
    · omega
    have hr' := (hs 2).trans hr
    have h3' := (hs id).trans h3
    have h5 : i * 5 + 5 ≤ v.l.length * 5 := by omega
    have hne : ¬ id = 2 := by omega
    have hp := put_val hx
    simp at hp
    have hlo : 2 ≤ id := by omega
    clear hlt
    simp -implicitDefEqProofs [L99a, hlt2, hlt3, hx, hr', h3', h5, c1, hne, hlo, hp]
    refine ⟨fun j => ?_, hn⟩
    by_cases hj : j = id
    · subst hj; simp -implicitDefEqProofs [h3]
    · simp -implicitDefEqProofs [hj, hs]
  · rintro e H' ⟨rfl, hs, hn⟩
    simp -implicitDefEqProofs [L99a]
    exact hQ _ _ hs hn
  · simp
theorem t_aown1 : ∀ b, b < 1099511627776 → ∀ v : Val, v.bulk ≤ b → ∀ t1 t2 : Bool, pureR IP G 99 [.ag [.i .i64 v.kind, .i .i64 v.n, .s v.s, .fs t1 false v.l.length (encs v.l), .fs t2 false v.names.length (encs v.names)]] = some (.ag (Enc.cells v)) := by
  intro b
  induction b with
  | zero => intro _ v h; have := v.bulk_pos; omega
  | succ b ih =>
    intro hb v hv t1 t2
    rw [Val.bulk_eq] at hv
    have hl1 := bulkL_len v.l
    have hl2 := bulkS_len v.names
    refine pure_run ip99 rfl ?_
    simp -implicitDefEqProofs [I99, hG]
    refine step_clone (lo' := 4) (by simp) (by omega) (by omega) (by omega) (by simp -implicitDefEqProofs [hG]) ?_
    intro nv H1 hn1 hN hnew1 hf1
    have hg1 : H1.get 2 = _ := hf1 2 (by simp -implicitDefEqProofs [hG])
    have hg2 : H1.get 3 = _ := hf1 3 (by simp -implicitDefEqProofs [hG])
    simp -implicitDefEqProofs [hG] at hg1 hg2 hn1
    simp -implicitDefEqProofs [hg1]
    refine step_clone (lo' := 4) (by simp) (by omega) (by omega) (by omega) (by omega) ?_
    intro lv H2 hn2 hL hnew2 hf2
    have hg3 : H2.get 2 = _ := (hf2 2 (by omega)).trans hg1
    have hg4 : H2.get 3 = _ := (hf2 3 (by omega)).trans hg2
    obtain ⟨o1, o2⟩ := hold_one hN
    obtain ⟨o3, o4⟩ := hold_one hL
    simp -implicitDefEqProofs [hg3, o1, o2, o3, o4, hold_len hL]
    have hN2 : Hold H2 4 nv 1 v.names.length (encs v.names) := hold_keep hN hn2 fun id c h => hf2 id (hold_lt hN _ _ _ h).2
    refine t_aown_loop hG v (by omega) lv nv _ (by simp) (hold_keep hL (by simp) fun id c h => ?_) (fun x hx t1 t2 => ih (by omega) x (by have := bulkL_mem hx; omega) t1 t2) _ ?_
    · have := hold_lt hL _ _ _ h
      simp -implicitDefEqProofs [show ¬ id = 2 by omega]
    · intro b H3 hs hn3
      have e1 : H3.get 2 = _ := hs 2
      have e2 : H3.get 3 = _ := hs 3
      simp -implicitDefEqProofs [hg4] at e1 e2
      simp -implicitDefEqProofs [e1, e2]
      simp at hn3
      have f1 := fun o => hold_frz (k := 14) (hold_in hL (H' := H3.put 3 o) (lo' := 2) (by omega) (by simp; omega) fun id h1 h2 => by simp -implicitDefEqProofs [hs, show ¬ id = 3 by omega, show ¬ id = 2 by omega]) frz_encs
      have f2 := fun o => hold_frz (k := 14) (hold_in hN2 (H' := H3.put 3 o) (lo' := 2) (by omega) (by simp; omega) fun id h1 h2 => by simp -implicitDefEqProofs [hs, show ¬ id = 3 by omega, show ¬ id = 2 by omega]) frz_encs
      simp -implicitDefEqProofs [f1, f2]
theorem t_aown (v : Val) (hv : v.bulk < 1099511627776) (t1 t2 : Bool) : pureR IP G 99 [.ag [.i .i64 v.kind, .i .i64 v.n, .s v.s, .fs t1 false v.l.length (encs v.l), .fs t2 false v.names.length (encs v.names)]] = some (.ag (Enc.cells v)) :=
  t_aown1 hG v.bulk hv v (Nat.le_refl _) t1 t2
theorem t_lown_loop (v : Val) (hv : v.l.length < 1099511627776) (lv nv : AVal) (H : AHeap) (hr : H.get 2 = some (.cells [.i .i64 v.kind, .i .i64 v.n, .s v.s, lv, nv] 1 false)) (hL : Hold H 4 lv 5 v.l.length (encs v.l))
    (ih : ∀ x ∈ v.l, ∀ t1 t2 : Bool, pureR IP G 47 [.ag [.i .i64 x.kind, .i .i64 x.n, .s x.s, .fs t1 false x.l.length (encs x.l), .fs t2 false x.names.length (encs x.names)]] = some (.ag (Enc.cells x)))
    (Q : Post) (hQ : ∀ b H', (∀ id, H'.get id = H.get id) → H'.next = H.next → Q (.exit 0) [(1, .p 2 0), (2, .p 3 0), (14, .i .i64 v.l.length), (15, .i .i64 v.l.length), (16, b)] H') :
    wp (theCalls IP G 2) 2 (.loop L47a) Q [(1, .p 2 0), (2, .p 3 0), (14, .i .i64 v.l.length), (15, .i .i64 0)] H := by
  refine wp_loop_list (l := v.l) (by omega) (fun i todo e H' => e = [(1, .p 2 0), (2, .p 3 0), (14, .i .i64 v.l.length), (15, .i .i64 i)] ∧ (∀ id, H'.get id = H.get id) ∧ H'.next = H.next) ?_ ?_ ?_
  · rintro i x todo e H' hx hd hlt hlt2 hlt3 ⟨rfl, hs, hn⟩
    have c1 := ih x (List.mem_of_getElem? hx) false false
    simp at c1
    rcases hL with ⟨_, h0, _⟩ | ⟨id, c, rfl, hc, h1, h2, h3, h4⟩
    · omega
    have hr' := (hs 2).trans hr
    have h3' := (hs id).trans h3
    have h5 : i * 5 + 5 ≤ v.l.length * 5 := by omega
    have hne : ¬ id = 2 := by omega
    have hp := put_val hx
    simp at hp
    have hlo : 2 ≤ id := by omega
    clear hlt
    simp -implicitDefEqProofs [L47a, hlt2, hlt3, hx, hr', h3', h5, c1, hne, hlo, hp]
    refine ⟨fun j => ?_, hn⟩
    by_cases hj : j = id
    · subst hj; simp -implicitDefEqProofs [h3]
    · simp -implicitDefEqProofs [hj, hs]
  · rintro e H' ⟨rfl, hs, hn⟩
    simp -implicitDefEqProofs [L47a]
    exact hQ _ _ hs hn
  · simp
theorem t_lown1 : ∀ b, b < 1099511627776 → ∀ v : Val, v.bulk ≤ b → ∀ t1 t2 : Bool, pureR IP G 47 [.ag [.i .i64 v.kind, .i .i64 v.n, .s v.s, .fs t1 false v.l.length (encs v.l), .fs t2 false v.names.length (encs v.names)]] = some (.ag (Enc.cells v)) := by
  intro b
  induction b with
  | zero => intro _ v h; have := v.bulk_pos; omega
  | succ b ih =>
    intro hb v hv t1 t2
    rw [Val.bulk_eq] at hv
    have hl1 := bulkL_len v.l
    have hl2 := bulkS_len v.names
    refine pure_run ip47 rfl ?_
    simp -implicitDefEqProofs [I47, hG]
    refine step_clone (lo' := 4) (by simp) (by omega) (by omega) (by omega) (by simp -implicitDefEqProofs [hG]) ?_
    intro nv H1 hn1 hN hnew1 hf1
    have hg1 : H1.get 2 = _ := hf1 2 (by simp -implicitDefEqProofs [hG])
    have hg2 : H1.get 3 = _ := hf1 3 (by simp -implicitDefEqProofs [hG])
    simp -implicitDefEqProofs [hG] at hg1 hg2 hn1
    simp -implicitDefEqProofs [hg1]
    refine step_clone (lo' := 4) (by simp) (by omega) (by omega) (by omega) (by omega) ?_
    intro lv H2 hn2 hL hnew2 hf2
    have hg3 : H2.get 2 = _ := (hf2 2 (by omega)).trans hg1
    have hg4 : H2.get 3 = _ := (hf2 3 (by omega)).trans hg2
    obtain ⟨o1, o2⟩ := hold_one hN
    obtain ⟨o3, o4⟩ := hold_one hL
    simp -implicitDefEqProofs [hg3, o1, o2, o3, o4, hold_len hL]
    have hN2 : Hold H2 4 nv 1 v.names.length (encs v.names) := hold_keep hN hn2 fun id c h => hf2 id (hold_lt hN _ _ _ h).2
    refine t_lown_loop hG v (by omega) lv nv _ (by simp) (hold_keep hL (by simp) fun id c h => ?_) (fun x hx t1 t2 => ih (by omega) x (by have := bulkL_mem hx; omega) t1 t2) _ ?_
    · have := hold_lt hL _ _ _ h
      simp -implicitDefEqProofs [show ¬ id = 2 by omega]
    · intro b H3 hs hn3
      have e1 : H3.get 2 = _ := hs 2
      have e2 : H3.get 3 = _ := hs 3
      simp -implicitDefEqProofs [hg4] at e1 e2
      simp -implicitDefEqProofs [e1, e2]
      simp at hn3
      have f1 := fun o => hold_frz (k := 14) (hold_in hL (H' := H3.put 3 o) (lo' := 2) (by omega) (by simp; omega) fun id h1 h2 => by simp -implicitDefEqProofs [hs, show ¬ id = 3 by omega, show ¬ id = 2 by omega]) frz_encs
      have f2 := fun o => hold_frz (k := 14) (hold_in hN2 (H' := H3.put 3 o) (lo' := 2) (by omega) (by simp; omega) fun id h1 h2 => by simp -implicitDefEqProofs [hs, show ¬ id = 3 by omega, show ¬ id = 2 by omega]) frz_encs
      simp -implicitDefEqProofs [f1, f2]
theorem t_lown (v : Val) (hv : v.bulk < 1099511627776) (t1 t2 : Bool) : pureR IP G 47 [.ag [.i .i64 v.kind, .i .i64 v.n, .s v.s, .fs t1 false v.l.length (encs v.l), .fs t2 false v.names.length (encs v.names)]] = some (.ag (Enc.cells v)) :=
  t_lown1 hG v.bulk hv v (Nat.le_refl _) t1 t2
end
end Go.Proofs.YtgpjfhaohjnbnaaGreatDoor
namespace Go.RI
open Go
theorem bin_sadd {a b : Str} (h : a.length + b.length ≤ 9223372036854775807) : binV .add (.s a) (.s b) = some (.s (a ++ b)) := by
  show binS .add a b = _
  unfold binS
  rw [if_pos h]
theorem bulkL_app : ∀ l m : List Val, bulkL (l ++ m) = bulkL l + bulkL m
  | [], m => by simp [bulkL]
  | v :: l, m => by simp only [List.cons_append, bulkL, bulkL_app l m]; omega
section
variable {call : CallI} {lo : Nat} {xs : List Item} {kill : List Nat} {Q : Post} {dst : Option Nat} {op : IOp} {re : List (Nat × IOp × Option (Nat × Bool))} {e : Env} {H : AHeap}
theorem step_appA {lo' esz bytes n m : Nat} {v : AVal} {cells ys : List AVal} {t f : Bool} (h : Hold H lo' v esz n cells) (hll : lo ≤ lo') (hlo : lo' ≤ H.next) (hl : ys.length = m * esz) (he : 0 < esz) (hb : 0 < bytes) (hs : (2 * (n + m) + 192) * bytes ≤ 281474976710656)
    (k : ∀ (v' : AVal) (H' : AHeap), H.next ≤ H'.next → Hold H' lo' v' esz (n + m) (cells ++ ys) → (∀ id, id < H.next → (∀ id0 n0 c0, v = .sl id0 0 n0 c0 → id ≠ id0) → H'.get id = H.get id) → stepP call lo xs kill Q dst op re e (some (some v', H'))) :
    stepP call lo xs kill Q dst op re e (appR lo H esz bytes (some v) (some (.fs t f m ys))) := by
  by_cases hm : m = 0
  · subst hm
    have hy : ys = [] := List.eq_nil_of_length_eq_zero (by simpa using hl)
    subst hy
    have hc : appR lo H esz bytes (some v) (some (.fs t f 0 [])) = some (some v, H) := by
      rcases h with ⟨rfl | rfl, rfl, rfl⟩ | ⟨id, c, rfl, hc, _⟩
      · simp [appR, appV, moreV, he, hb]
      · simp [appR, appV, moreV, he, hb]
      · rcases hc with rfl | rfl <;> simp [appR, appV, moreV, he, hb]
    rw [hc]
    exact k v H (Nat.le_refl _) (by simpa using h) fun _ _ _ => rfl
  · refine step_appH h hll hlo (by simp [moreV, hm, hl]) hl he hb hs (by omega) ?_
    intro H' hn hA hf
    exact k _ H' (by omega) hA.hold hf
end
end Go.RI
namespace Go.Proofs.YtgpjfhaohjnbnaaGreatDoor
open Go Go.RI
section
variable {G : AHeap} (hG : G.next = 2)
include hG
theorem t_idxV (g : Nat) (p : Val → Bool) (hg : ∀ lo l H, theCalls IP G lo g l H = given H ((snaps H l).bind (pureR IP G g))) (l : List Val) (hl : l.length < 1099511627776) (hp : ∀ v ∈ l, pureR IP G g [.ag (Enc.cells v)] = some (.b (p v))) (t : Bool) : pureR IP G 63 [.fs t false l.length (encs l), .fn (.func g) [] []] = some (.i .i64 (idxF p l 0)) := by
  simp only [snaps_eq] at hg
  refine pure_run ip63 rfl ?_
  simp -implicitDefEqProofs [I63, hG]
  refine wp_loop_list (l := l) (by omega) (fun i todo e H => e = [(0, .fs t false l.length (encs l)), (1, .fn (.func g) [] []), (7, .i .i64 l.length), (8, .i .i64 i)] ∧ H = G ∧ idxF p l 0 = idxF p todo i) ?_ ?_ ?_
  · rintro i x todo e H hx hd hlt hlt2 hlt3 ⟨rfl, rfl, hn⟩
    have c1 := hp x (List.mem_of_getElem? hx)
    simp at c1
    rw [idxF] at hn
    clear hlt
    simp -implicitDefEqProofs [L63a, hlt2, hlt3, hx, hg, c1, hG]
    refine test_intro ?_ ?_ <;> intro h2 <;> simp -implicitDefEqProofs [hlt3, hG]
    · rw [hn, h2]; simp
    · rw [hn, h2]; simp
  · rintro e H ⟨rfl, rfl, hn⟩
    simp -implicitDefEqProofs [L63a, hG]
    rw [hn]; rfl
  · simp -implicitDefEqProofs [hG]
theorem t_anyV (g : Nat) (p : Val → Bool) (hg : ∀ lo l H, theCalls IP G lo g l H = given H ((snaps H l).bind (pureR IP G g))) (l : List Val) (hl : l.length < 1099511627776) (hp : ∀ v ∈ l, pureR IP G g [.ag (Enc.cells v)] = some (.b (p v))) (t f : Bool) : pureR IP G 43 [.fs t f l.length (encs l), .fn (.func g) [] []] = some (.b (l.any p)) := by
  have c1 := t_idxV hG g p hg l hl hp
  refine pure_run ip43 rfl ?_
  simp -implicitDefEqProofs [I43, hG, c1]
  rw [← idxF_any _ l 0 (by omega)]
theorem t_mayNot (v : Val) (hv : v.bulk < 1099511627776) : pureR IP G 110 [.ag (Enc.cells v)] = some (.b (!mayV v)) := by
  have c1 := t_check hG v hv
  refine pure_run ip110 rfl ?_
  simp -implicitDefEqProofs [I110, hG, c1]
theorem t_may (l : List Val) (hl : bulkL l < 1099511627776) (t f : Bool) : pureR IP G 94 [.fs t f l.length (encs l)] = some (.b (l.all mayV)) := by
  have c1 := t_anyV hG 110 (fun v => !mayV v) (fun lo l H => pu110) l (by have := bulkL_len l; omega) (fun v hv => t_mayNot hG v (by have := bulkL_mem hv; omega))
  have e : (l.any fun v => !mayV v) = !(l.all mayV) := by simp -implicitDefEqProofs [List.not_all_eq_any_not]
  rw [e] at c1
  refine pure_run ip94 rfl ?_
  simp -implicitDefEqProofs [I94, hG, c1]
end
end Go.Proofs.YtgpjfhaohjnbnaaGreatDoor
namespace Go.Proofs.YtgpjfhaohjnbnaaGreatDoor
open Go Go.RI
section
variable {G : AHeap} (hG : G.next = 2)
include hG
theorem t_anum (n : Int) : pureR IP G 100 [.i .i64 n] = some (.ag (Enc.cells (numV n))) := by
  refine pure_run ip100 rfl ?_
  simp -implicitDefEqProofs [I100, hG, numV]
theorem t_ayes (b : Bool) : pureR IP G 95 [.b b] = some (.ag (Enc.cells (yesV b))) := by
  refine pure_run ip95 rfl ?_
  cases b <;> simp -implicitDefEqProofs [I95, hG, yesV]
theorem t_amade (v : Val) (hv : v.bulk < 1099511627776) (t1 t2 : Bool) : pureR IP G 105 [.ag [.i .i64 v.kind, .i .i64 v.n, .s v.s, .fs t1 false v.l.length (encs v.l), .fs t2 false v.names.length (encs v.names)]] = some (.tu [.ag (Enc.cells (madeV v).1), .i .i64 (madeV v).2]) := by
  have c1 := t_check hG v hv t1 t2
  have c2 := t_aown hG v hv t1 t2
  refine pure_run ip105 rfl ?_
  cases hm : mayV v
  · simp -implicitDefEqProofs [hm] at c1
    simp -implicitDefEqProofs [I105, hG, c1, madeV, hm, zeroVal]
  · simp -implicitDefEqProofs [hm] at c1 c2
    simp -implicitDefEqProofs [I105, hG, c1, c2, madeV, hm]
set_option maxHeartbeats 1000000 in
theorem t_aints (op a b : Int) : pureR IP G 96 [.i .i64 op, .i .i64 a, .i .i64 b] = some (.tu [.ag (Enc.cells (intsV op a b).1), .i .i64 (intsV op a b).2]) := by
  have n1 := fun n => t_anum hG n
  simp at n1
  by_cases h9 : op = 9
  · subst h9
    refine pure_run ip96 rfl ?_
    simp -implicitDefEqProofs [I96, hG, n1, intsV]
  by_cases h10 : op = 10
  · subst h10
    refine pure_run ip96 rfl ?_
    simp -implicitDefEqProofs [I96, hG, n1, intsV]
  by_cases h11 : op = 11
  · subst h11
    refine pure_run ip96 rfl ?_
    simp -implicitDefEqProofs [I96, hG, n1, intsV]
  by_cases h17 : op = 17
  · subst h17
    by_cases hab : a = b
    · subst hab
      have e1 : (intsV 17 a a) = (yesV true, 0) := by simp -implicitDefEqProofs [intsV]
      rw [e1]
      have y2 := t_ayes hG true
      generalize yesV true = w at y2 ⊢
      simp at y2
      refine pure_run ip96 rfl ?_
      simp -implicitDefEqProofs [I96, hG, y2]
    · have e : decide (a ≤ b) = decide (a < b) := by rw [Bool.eq_iff_iff]; simp; omega
      have e1 : (intsV 17 a b) = (yesV (decide (a < b)), 0) := by rw [← e]; simp -implicitDefEqProofs [intsV]
      rw [e1]
      have y2 := t_ayes hG (decide (a < b))
      clear e e1
      generalize yesV (decide (a < b)) = w at y2 ⊢
      simp at y2
      refine pure_run ip96 rfl ?_
      simp -implicitDefEqProofs [I96, hG, y2, hab]
  by_cases h16 : op = 16
  · subst h16
    have e1 : (intsV 16 a b) = (yesV (decide (a < b)), 0) := by simp -implicitDefEqProofs [intsV]
    rw [e1]
    have y2 := t_ayes hG (decide (a < b))
    generalize yesV (decide (a < b)) = w at y2 ⊢
    simp at y2
    refine pure_run ip96 rfl ?_
    simp -implicitDefEqProofs [I96, hG, y2]
  by_cases h12 : op = 12
  · subst h12
    by_cases hb : b = 0
    · subst hb
      refine pure_run ip96 rfl ?_
      simp -implicitDefEqProofs [I96, hG, intsV, zeroVal]
    · refine pure_run ip96 rfl ?_
      simp -implicitDefEqProofs [I96, hG, n1, intsV, hb]
  by_cases h13 : op = 13
  · subst h13
    by_cases hb : b = 0
    · subst hb
      refine pure_run ip96 rfl ?_
      simp -implicitDefEqProofs [I96, hG, intsV, zeroVal]
    · refine pure_run ip96 rfl ?_
      simp -implicitDefEqProofs [I96, hG, n1, intsV, hb]
  refine pure_run ip96 rfl ?_
  simp -implicitDefEqProofs [I96, hG, intsV, h9, h10, h11, h17, h16, h12, h13, zeroVal]
set_option maxHeartbeats 1000000 in
theorem t_atexts (op : Int) (a b : Str) (ha : a.length + b.length < 549755813888) : pureR IP G 97 [.i .i64 op, .s a, .s b] = some (.tu [.ag (Enc.cells (textsV op a b).1), .i .i64 (textsV op a b).2]) := by
  have m1 := t_amade hG (.mk 3 0 (a ++ b) [] []) (by rw [Val.bulk_eq]; simp -implicitDefEqProofs [bulkL, bulkS]; omega) false false
  simp at m1
  by_cases h9 : op = 9
  · subst h9
    refine pure_run ip97 rfl ?_
    simp -implicitDefEqProofs [I97, hG, m1, textsV, bin_sadd (a := a) (b := b) (by omega)]
  by_cases h17 : op = 17
  · subst h17
    by_cases hab : a = b
    · subst hab
      have e1 : (textsV 17 a a) = (yesV true, 0) := by simp -implicitDefEqProofs [textsV, leS]
      rw [e1]
      have y2 := t_ayes hG true
      generalize yesV true = w at y2 ⊢
      simp at y2
      refine pure_run ip97 rfl ?_
      simp -implicitDefEqProofs [I97, hG, y2]
    · have hbe : (a == b) = false := by simpa using hab
      have e1 : (textsV 17 a b) = (yesV (ltB a b), 0) := by simp -implicitDefEqProofs [textsV, leS, hbe]
      rw [e1]
      have y2 := t_ayes hG (ltB a b)
      generalize yesV (ltB a b) = w at y2 ⊢
      simp at y2
      refine pure_run ip97 rfl ?_
      simp -implicitDefEqProofs [I97, hG, y2, hbe]
  by_cases h16 : op = 16
  · subst h16
    have e1 : (textsV 16 a b) = (yesV (ltB a b), 0) := by simp -implicitDefEqProofs [textsV]
    rw [e1]
    have y2 := t_ayes hG (ltB a b)
    generalize yesV (ltB a b) = w at y2 ⊢
    simp at y2
    refine pure_run ip97 rfl ?_
    simp -implicitDefEqProofs [I97, hG, y2]
  refine pure_run ip97 rfl ?_
  simp -implicitDefEqProofs [I97, hG, textsV, h9, h17, h16, zeroVal]
end
end Go.Proofs.YtgpjfhaohjnbnaaGreatDoor
namespace Go.Proofs.YtgpjfhaohjnbnaaGreatDoor
open Go Go.RI
section
variable {G : AHeap} (hG : G.next = 2)
include hG
set_option maxHeartbeats 1000000 in
theorem t_unary (op : Int) (a : Val) (ha : a.bulk < 549755813888) : pureR IP G 68 [.i .i64 op, .ag [.i .i64 a.kind, .i .i64 a.n, .s a.s, .fs false false a.l.length (encs a.l), .fs false false a.names.length (encs a.names)]] = some (.tu [.ag (Enc.cells (unaryV op a).1), .i .i64 (unaryV op a).2.1, .i .i64 (unaryV op a).2.2]) := by
  have n1 := fun n => t_anum hG n
  have m1 := t_may hG [a] (by simp -implicitDefEqProofs [bulkL]; omega) true false
  have hb := ha
  rw [Val.bulk_eq] at hb
  have hbl := bulkL_len a.l
  have w1 : wrapI .i64 ((a.s.length : Int) + a.l.length) = (a.s.length : Int) + a.l.length := wrap_ok (by omega) (by omega)
  simp at n1 m1
  unfold unaryV
  cases hm : mayV a
  · simp -implicitDefEqProofs [hm] at m1
    refine pure_run ip68 rfl ?_
    simp -implicitDefEqProofs [I68, hG, zeroVal, m1]
  · simp -implicitDefEqProofs [hm] at m1
    by_cases h6 : op = 6
    · subst h6
      by_cases hk : a.kind = 1
      · simp only [hk] at m1
        refine pure_run ip68 rfl ?_
        simp -implicitDefEqProofs [I68, hG, n1, m1, hk]
      · refine pure_run ip68 rfl ?_
        simp -implicitDefEqProofs [I68, hG, zeroVal, n1, m1, hk]
    by_cases h7 : op = 7
    · subst h7
      have y2 := t_ayes hG (decide (a.n = 0))
      obtain ⟨w, hw⟩ : ∃ w, w = yesV (decide (a.n = 0)) := ⟨_, rfl⟩
      rw [← hw] at y2 ⊢
      clear hw
      simp at y2
      by_cases hk : a.kind = 2
      · simp only [hk] at m1
        refine pure_run ip68 rfl ?_
        simp -implicitDefEqProofs [I68, hG, y2, m1, hk]
      · refine pure_run ip68 rfl ?_
        simp -implicitDefEqProofs [I68, hG, zeroVal, y2, m1, hk]
    by_cases h8 : op = 8
    · subst h8
      by_cases hk : a.kind = 3
      · simp only [hk] at m1
        refine pure_run ip68 rfl ?_
        simp -implicitDefEqProofs [I68, hG, n1, m1, hk, w1]
      · by_cases hk4 : a.kind = 4
        · simp only [hk4] at m1
          refine pure_run ip68 rfl ?_
          simp -implicitDefEqProofs [I68, hG, n1, m1, hk, hk4, w1]
        · refine pure_run ip68 rfl ?_
          simp -implicitDefEqProofs [I68, hG, zeroVal, n1, m1, hk, hk4, w1]
    · refine pure_run ip68 rfl ?_
      simp -implicitDefEqProofs [I68, hG, zeroVal, m1, h6, h7, h8]
theorem t_longer (a : Val) (more : List Val) (ha : a.bulk < 274877906944) (hm : bulkL more < 274877906944) (t1 t2 t f : Bool) : pureR IP G 98 [.ag [.i .i64 a.kind, .i .i64 a.n, .s a.s, .fs t1 false a.l.length (encs a.l), .fs t2 false a.names.length (encs a.names)], .fs t f more.length (encs more)] = some (.tu [.ag (Enc.cells (longerV a more).1), .i .i64 (longerV a more).2]) := by
  have hb := ha
  rw [Val.bulk_eq] at hb
  have hbl := bulkL_len a.l
  have hml := bulkL_len more
  refine pure_run ip98 rfl ?_
  simp -implicitDefEqProofs [I98, hG]
  refine step_clone (lo' := 4) (by simp) (by omega) (by omega) (by omega) (by simp -implicitDefEqProofs [hG]) ?_
  intro lv H1 hn1 hL hnew1 hf1
  simp -implicitDefEqProofs [hG] at hn1 hf1
  simp -implicitDefEqProofs [hf1]
  refine step_appA hL (by omega) (by omega) (by simp) (by omega) (by omega) (by omega) ?_
  intro v2 H2 hn2 hL2 hf2
  have g1 := hf2 3 (by omega) (fun id0 n0 c0 hv => by have := (hold_lt hL _ _ _ hv).1; omega)
  rw [hf1 _ (by omega)] at g1
  simp at g1
  obtain ⟨o1, o2⟩ := hold_one hL2
  rw [← encs_append] at hL2
  obtain ⟨fl, s1⟩ : ∃ fl, snapV H2 15 v2 = some (.fs fl false (a.l.length + more.length) (encs (a.l ++ more))) := ⟨_, hold_snap (k := 14) hL2 snap_encs⟩
  have m1 := t_amade hG (.mk 4 0 [] (a.l ++ more) []) (by rw [Val.bulk_eq]; simp -implicitDefEqProofs [bulkL_app, bulkS]; omega) fl false
  simp at m1 s1
  simp -implicitDefEqProofs [g1, o1, o2, s1, m1, longerV]
theorem t_alist (l : List Val) (hl : bulkL l < 274877906944) (t : Bool) : pureR IP G 76 [.fs t false l.length (encs l)] = some (.tu [.ag (Enc.cells (listV l).1), .i .i64 (listV l).2.1, .i .i64 (listV l).2.2]) := by
  have m1 := t_may hG l (by omega) t false
  have m2 := t_amade hG (.mk 4 0 [] l []) (by rw [Val.bulk_eq]; simp -implicitDefEqProofs [bulkS]; omega) t false
  simp at m2
  unfold listV
  cases hm : l.all mayV
  · rw [hm] at m1
    refine pure_run ip76 rfl ?_
    simp -implicitDefEqProofs [I76, hG, m1, zeroVal]
  · rw [hm] at m1
    refine pure_run ip76 rfl ?_
    simp -implicitDefEqProofs [I76, hG, m1, m2]
theorem t_anamed (ns : List Str) (hns : bulkS ns < 549755813888) (t : Bool) : pureR IP G 106 [.fs t false ns.length (encs ns)] = some (.b (recordS ns)) := by
  have hl := bulkS_len ns
  by_cases h : (ns.length : Int) ≤ 8
  · have c1 := fun t1 => t_check hG (.mk 5 0 [] (List.replicate ns.length zeroVal) ns) (by rw [Val.bulk_eq]; simp -implicitDefEqProofs [bulk_rep]; omega) t1 t
    simp only [Val.kind_mk, Val.n_mk, Val.s_mk, Val.l_mk, Val.names_mk, List.length_replicate] at c1
    have e : recordS ns = mayV (.mk 5 0 [] (List.replicate ns.length zeroVal) ns) := by unfold recordS; rw [decide_eq_true h]; rfl
    rw [e]
    obtain ⟨b, hb⟩ : ∃ b, b = mayV (.mk 5 0 [] (List.replicate ns.length zeroVal) ns) := ⟨_, rfl⟩
    rw [← hb] at c1 ⊢
    clear hb e
    have h1 : ns.length ≤ 8 := by omega
    have h2 : (80 : Int) * ns.length ≤ 281474976710656 := by omega
    have h3 : (0 : Int) ≤ ns.length := by omega
    cases hn : ns with
    | nil =>
      subst hn
      have c1 := c1 false
      simp at c1
      refine pure_run ip106 rfl ?_
      cases b <;> simp at c1 <;> simp -implicitDefEqProofs [I106, hG, c1, repCells]
    | cons a l =>
      rw [← hn]
      have h0 : ns ≠ [] := by rw [hn]; simp
      have c1 := c1 true
      refine pure_run ip106 rfl ?_
      cases b <;> simp at c1 <;> simp -implicitDefEqProofs [I106, hG, h, h1, h2, h0, rep_len, snap_rep, c1]
  · have h2 : (80 : Int) * ns.length ≤ 281474976710656 := by omega
    refine pure_run ip106 rfl ?_
    simp -implicitDefEqProofs [I106, hG, h, h2, recordS]
theorem t_arec (ns : List Str) (l : List Val) (hns : bulkS ns < 549755813888) (hl : bulkL l < 274877906944) (t1 t2 : Bool) : pureR IP G 78 [.fs t1 false ns.length (encs ns), .fs t2 false l.length (encs l)] = some (.tu [.ag (Enc.cells (recV ns l).1), .i .i64 (recV ns l).2.1, .i .i64 (recV ns l).2.2]) := by
  have c1 := t_anamed hG ns (by omega)
  have m1 := t_may hG l (by omega) t2 false
  have m2 := t_amade hG (.mk 5 0 [] l ns) (by rw [Val.bulk_eq]; simp; omega) t2 t1
  have hll := bulkL_len l
  have hnl := bulkS_len ns
  simp at m2
  unfold recV
  cases hr : recordS ns
  · rw [hr] at c1
    refine pure_run ip78 rfl ?_
    simp -implicitDefEqProofs [I78, hG, c1, zeroVal]
  · rw [hr] at c1
    by_cases hlen : l.length = ns.length
    · cases hm : l.all mayV
      · rw [hm] at m1
        rw [hlen] at m1
        refine pure_run ip78 rfl ?_
        simp -implicitDefEqProofs [I78, hG, c1, m1, hlen, zeroVal]
      · rw [hm] at m1
        rw [hlen] at m1 m2
        refine pure_run ip78 rfl ?_
        simp -implicitDefEqProofs [I78, hG, c1, m1, m2, hlen]
    · have hle : ¬ (l.length : Int) = ns.length := by omega
      refine pure_run ip78 rfl ?_
      simp -implicitDefEqProofs [I78, hG, c1, hlen, hle, zeroVal]
end
end Go.Proofs.YtgpjfhaohjnbnaaGreatDoor
namespace Go.Proofs.YtgpjfhaohjnbnaaGreatDoor
open Go Go.RI
section
variable {G : AHeap} (hG : G.next = 2)
include hG
set_option maxHeartbeats 4000000 in
theorem t_binary (op : Int) (a b : Val) (ha : a.bulk < 137438953472) (hb : b.bulk < 137438953472) : pureR IP G 67 [.i .i64 op, .ag [.i .i64 a.kind, .i .i64 a.n, .s a.s, .fs false false a.l.length (encs a.l), .fs false false a.names.length (encs a.names)], .ag [.i .i64 b.kind, .i .i64 b.n, .s b.s, .fs false false b.l.length (encs b.l), .fs false false b.names.length (encs b.names)]] =
    some (.tu [.ag (Enc.cells (binaryV op a b).1), .i .i64 (binaryV op a b).2.1, .i .i64 (binaryV op a b).2.2]) := by
  have hba := ha
  have hbb := hb
  rw [Val.bulk_eq] at hba hbb
  have m1 := t_may hG [a, b] (by simp -implicitDefEqProofs [bulkL]; omega) true false
  have s1 := t_same hG a b (by omega) false false false false
  simp at m1
  unfold binaryV
  by_cases hlow : op < 9
  · refine pure_run ip67 rfl ?_
    simp -implicitDefEqProofs [I67, hG, hlow, zeroVal]
  by_cases hhigh : 19 < op
  · refine pure_run ip67 rfl ?_
    simp -implicitDefEqProofs [I67, hG, hlow, hhigh, zeroVal]
  cases hmay : (mayV a && mayV b)
  · have hno : mayV a = false ∨ mayV b = false := by cases h1 : mayV a <;> cases h2 : mayV b <;> simp_all
    rw [if_pos (.inr (.inr hno))]
    rw [hmay] at m1
    refine pure_run ip67 rfl ?_
    simp -implicitDefEqProofs [I67, hG, hlow, hhigh, m1, zeroVal]
  rw [hmay] at m1
  simp only [Bool.and_eq_true] at hmay
  rw [if_neg (by simp -implicitDefEqProofs [hlow, hhigh, hmay.1, hmay.2])]
  have hno : ¬ (op < 9) := hlow
  unfold binV2
  by_cases h14 : op = 14
  · subst h14
    obtain ⟨w, hw⟩ : ∃ w, w = sameV a b := ⟨_, rfl⟩
    rw [← hw] at s1 ⊢
    have y2 := t_ayes hG w
    obtain ⟨y, hy⟩ : ∃ y, y = yesV w := ⟨_, rfl⟩
    rw [← hy] at y2 ⊢
    clear hy hw
    simp at y2
    refine pure_run ip67 rfl ?_
    simp -implicitDefEqProofs [I67, hG, m1, s1, y2]
  by_cases h15 : op = 15
  · subst h15
    obtain ⟨w, hw⟩ : ∃ w, w = sameV a b := ⟨_, rfl⟩
    rw [← hw] at s1 ⊢
    have y2 := t_ayes hG (!w)
    obtain ⟨y, hy⟩ : ∃ y, y = yesV (!w) := ⟨_, rfl⟩
    rw [← hy] at y2 ⊢
    clear hy hw
    simp at y2
    refine pure_run ip67 rfl ?_
    simp -implicitDefEqProofs [I67, hG, m1, s1, y2]
  rw [if_neg h14, if_neg h15]
  by_cases k11 : a.kind = 1 ∧ b.kind = 1
  · have i1 := t_aints hG op a.n b.n
    rw [if_pos k11]
    simp only [k11.1, k11.2] at m1
    simp at i1
    refine pure_run ip67 rfl ?_
    simp -implicitDefEqProofs [I67, hG, hlow, hhigh, m1, i1, h14, h15, k11]
  by_cases k33 : a.kind = 3 ∧ b.kind = 3
  · have i1 := t_atexts hG op a.s b.s (by omega)
    rw [if_neg k11, if_pos k33]
    simp only [k33.1, k33.2] at m1
    simp at i1
    refine pure_run ip67 rfl ?_
    simp -implicitDefEqProofs [I67, hG, hlow, hhigh, m1, i1, h14, h15, k33]
  rw [if_neg k11, if_neg k33]
  have d11 : (decide (a.kind = 1) && decide (b.kind = 1)) = false := by rw [← Bool.decide_and]; exact decide_eq_false k11
  have d33 : (decide (a.kind = 3) && decide (b.kind = 3)) = false := by rw [← Bool.decide_and]; exact decide_eq_false k33
  by_cases k18 : op = 18 ∧ a.kind = 4
  · obtain ⟨rfl, k4⟩ := k18
    have l1 := t_longer hG a [b] (by omega) (by simp -implicitDefEqProofs [bulkL]; omega) false false true false
    rw [if_pos ⟨rfl, k4⟩]
    simp only [k4] at m1 l1
    simp at l1
    have d1 : ¬ a.kind = 1 := by omega
    have d3 : ¬ a.kind = 3 := by omega
    refine pure_run ip67 rfl ?_
    simp -implicitDefEqProofs [I67, hG, m1, l1, k4]
  rw [if_neg k18]
  by_cases k9 : op = 9 ∧ a.kind = 4 ∧ b.kind = 4
  · obtain ⟨rfl, k4, k5⟩ := k9
    have l1 := t_longer hG a b.l (by omega) (by omega) false false false false
    rw [if_pos ⟨rfl, k4, k5⟩]
    simp only [k4, k5] at m1 l1
    simp at l1
    refine pure_run ip67 rfl ?_
    simp -implicitDefEqProofs [I67, hG, m1, l1, k4, k5]
  rw [if_neg k9]
  by_cases k19 : op = 19 ∧ a.kind = 4 ∧ b.kind = 1
  · obtain ⟨rfl, k4, k5⟩ := k19
    rw [if_pos ⟨rfl, k4, k5⟩]
    simp only [k4, k5] at m1
    by_cases hi : 0 ≤ b.n ∧ b.n < a.l.length
    · obtain ⟨x, hx⟩ := get_of_lt (l := a.l) (i := b.n.toNat) (by omega)
      have o1 := t_aown hG x (by have := bulkL_mem (List.mem_of_getElem? hx); omega) false false
      have h1 : ¬ b.n < 0 := by omega
      have h2 : ¬ (a.l.length : Int) ≤ b.n := by omega
      rw [if_pos hi, hx]
      have hx2 : a.l[b.n.toNat]'(by omega) = x := by rw [List.getElem?_eq_getElem (by omega)] at hx; exact Option.some.inj hx
      simp at o1
      refine pure_run ip67 rfl ?_
      simp -implicitDefEqProofs [I67, hG, m1, o1, k4, k5, h1, h2, hi.1, hi.2, hx, hx2]
    · rw [if_neg hi]
      by_cases h1 : b.n < 0
      · refine pure_run ip67 rfl ?_
        simp -implicitDefEqProofs [I67, hG, m1, k4, k5, h1, zeroVal]
      · have h2 : (a.l.length : Int) ≤ b.n := by omega
        refine pure_run ip67 rfl ?_
        simp -implicitDefEqProofs [I67, hG, m1, k4, k5, h1, h2, zeroVal]
  rw [if_neg k19]
  by_cases o18 : op = 18
  · subst o18
    have d4 : ¬ a.kind = 4 := fun h => k18 ⟨rfl, h⟩
    refine pure_run ip67 rfl ?_
    simp -implicitDefEqProofs [I67, hG, m1, d11, d33, d4, zeroVal]
  by_cases o9 : op = 9
  · subst o9
    have d44 : (decide (a.kind = 4) && decide (b.kind = 4)) = false := by rw [← Bool.decide_and]; exact decide_eq_false fun h => k9 ⟨rfl, h.1, h.2⟩
    refine pure_run ip67 rfl ?_
    simp -implicitDefEqProofs [I67, hG, m1, d11, d33, d44, zeroVal]
  by_cases o19 : op = 19
  · subst o19
    have d41 : (decide (a.kind = 4) && decide (b.kind = 1)) = false := by rw [← Bool.decide_and]; exact decide_eq_false fun h => k19 ⟨rfl, h.1, h.2⟩
    refine pure_run ip67 rfl ?_
    simp -implicitDefEqProofs [I67, hG, m1, d11, d33, d41, zeroVal]
  refine pure_run ip67 rfl ?_
  simp -implicitDefEqProofs [I67, hG, hlow, hhigh, m1, h14, h15, o18, o9, o19, d11, d33, zeroVal]
end
end Go.Proofs.YtgpjfhaohjnbnaaGreatDoor
