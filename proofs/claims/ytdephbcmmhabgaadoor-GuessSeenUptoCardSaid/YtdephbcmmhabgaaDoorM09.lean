import Derived.Test.YtdephbcmmhabgaaDoorM08
import Derived.Test.YtdephbcmmhabgaaDoorM05
import Derived.Test.YtdephbcmmhabgaaDoorM07
import Derived.ProofKit
set_option linter.unusedVariables false
set_option linter.unusedSimpArgs false
set_option linter.unusedSectionVars false
/- What Bring and guess.both bring. Conditions: none. -/
namespace Go.Proofs.YtdephbcmmhabgaaDoor
open Go Go.RI
set_option linter.unusedSimpArgs false
set_option linter.unusedVariables false
set_option linter.unusedSectionVars false

theorem tmod_pos (a n : Int) (hn : 0 < n) : (if a.tmod n < 0 then a.tmod n + n else a.tmod n) = a % n := by
  have h1 := Int.emod_nonneg a (show n ≠ 0 by omega)
  have h2 := Int.emod_lt_of_pos a hn
  rw [Int.tmod_eq_emod]
  by_cases h : 0 ≤ a ∨ n ∣ a
  · rw [if_pos h, if_neg (by omega)]; omega
  · rw [if_neg h]
    have e : (n.natAbs : Int) = n := by omega
    rw [e, if_pos (by omega)]; omega

section
variable {G : AHeap} (hG : G.next = 2)
include hG

theorem t_bring (a n : Int) (hn : 0 < n) (hb : n < 4611686018427387904) : pureR IP G 20 [.i .i64 a, .i .i64 n] = some (.i .i64 (a % n)) := by
  have e := tmod_pos a n hn
  have h0 : ¬ n ≤ 0 := by omega
  have h1 : ¬ n = 0 := by omega
  refine pure_run ip20 rfl ?_
  simp [I20, hG, h0, h1]
  refine test_intro ?_ ?_ <;> intro h <;> simp [hG]
  · have h := of_decide_eq_true h
    rw [if_pos h] at e
    have b1 := Int.emod_nonneg a h1
    have b2 := Int.emod_lt_of_pos a hn
    rw [e, wrap_ok (by omega) (by omega)]
  · have h := of_decide_eq_false h
    rw [if_neg h] at e
    exact e

theorem t_both_in (a b : List Int) (ha : a.length ≤ 1000) (hb : b.length ≤ 1000) (t1 f1 t2 f2 : Bool) (i m : Nat) (L : List Int) (hm : L.length = m) (him : i < m) (hmm : m ≤ 1000) (R : Nat) (hR : 3 ≤ R) (Q : Post) (H : AHeap)
    (g1 : H.get 2 = some (.cells (encs L) 1 false)) (g2 : H.get R = some (.cells [.fs t1 f1 a.length (encs a), .fs t2 f2 b.length (encs b)] 1 false)) (hn : R < H.next)
    (hQ1 : (∀ x, a[i]? = some x → b[i]? = some x → False) → ∀ H' : AHeap, H'.get 2 = some (.cells (encs (L.set i (-1))) 1 false) → H'.next = H.next → Q (.exit 1) [(0, .fs t1 f1 a.length (encs a)), (1, .fs t2 f2 b.length (encs b)), (5, .sl 2 0 m (some m)), (16, .i .i64 m), (17, .i .i64 i)] H')
    (hQ2 : ∀ x, a[i]? = some x → b[i]? = some x → ∀ v, Q (.exit 2) [(0, .fs t1 f1 a.length (encs a)), (1, .fs t2 f2 b.length (encs b)), (5, .sl 2 0 m (some m)), (6, .i .i64 i), (16, .i .i64 m), (17, .i .i64 i), (22, .sl R 0 2 (some 2)), (23, .i .i64 2), (24, .i .i64 2), (25, v)] H) :
    wp (theCalls IP G 2) 2 (.loop L23a) Q [(0, .fs t1 f1 a.length (encs a)), (1, .fs t2 f2 b.length (encs b)), (5, .sl 2 0 m (some m)), (6, .i .i64 i), (16, .i .i64 m), (17, .i .i64 i), (22, .sl R 0 2 (some 2)), (23, .i .i64 2), (24, .i .i64 0)] H := by
  have put : ∀ v : Int, (encs L).set i (.i .i64 v) = encs (L.set i v) := fun v => by
    obtain ⟨x, hx⟩ := get_of_lt (l := L) (i := i) (by omega)
    have := put_encs (k := 0) hx (m := [AVal.i .i64 v]) (y := v) (by simp [Enc.sz]) (by simp)
    simpa [show Enc.sz Int = 1 from rfl] using this
  have put1 := put (-1)
  have hi1 : (i : Int) < (m : Int) := by omega
  have hw : i + 1 ≤ L.length := by omega
  have w1 : wrapI .i64 1 = 1 := rfl
  have w2 : wrapI .i64 2 = 2 := rfl
  refine wp_loop_list (l := [0, 1]) (by simp) (fun k todo e H' => e = [(0, .fs t1 f1 a.length (encs a)), (1, .fs t2 f2 b.length (encs b)), (5, .sl 2 0 m (some m)), (6, .i .i64 i), (16, .i .i64 m), (17, .i .i64 i), (22, .sl R 0 2 (some 2)), (23, .i .i64 2), (24, .i .i64 k)] ∧ H' = H ∧ k ≤ 2 ∧ (0 < k → ∃ x, a[i]? = some x) ∧ (1 < k → ∃ x, a[i]? = some x ∧ b[i]? = some x)) ?_ ?_ ?_
  · rintro k x todo e H' hx hd hlt hlt2 hlt3 ⟨rfl, rfl, hk, hk1, hk2⟩
    have hk01 : k = 0 ∨ k = 1 := by simp at hlt; omega
    clear hlt hx hd
    rcases hk01 with rfl | rfl
    · clear hk1 hk2
      by_cases hia : i < a.length
      · obtain ⟨y, hy⟩ := get_of_lt (l := a) hia
        have h1 : ¬ (a.length : Int) ≤ i := by omega
        have h2 : min (i : Int) ((a.length : Int) - 1) = i := by omega
        have h3 : wrapI .i64 ((a.length : Int) - 1) = (a.length : Int) - 1 := wrap_ok (by omega) (by omega)
        have h4 : (i : Int) < (a.length : Int) := by omega
        clear put hQ1 hQ2 hia
        simp [L23a, g1, g2, h1, h2, h3, h4, hy, w1]
      · have h1 : (a.length : Int) ≤ i := by omega
        have hno := hQ1 fun x hx _ => by rw [List.getElem?_eq_none (by omega)] at hx; cases hx
        clear put hQ1 hQ2 hia
        simp [L23a, g1, g2, h1, hi1, hw, put1]
        refine hno _ ?_ ?_ <;> simp
    · obtain ⟨y, hy⟩ := hk1 (by omega)
      clear hk1 hk2
      have hia : i < a.length := by
        rcases Nat.lt_or_ge i a.length with h | h
        · exact h
        · rw [List.getElem?_eq_none h] at hy; cases hy
      have h2 : min (i : Int) ((a.length : Int) - 1) = i := by omega
      have h3 : wrapI .i64 ((a.length : Int) - 1) = (a.length : Int) - 1 := wrap_ok (by omega) (by omega)
      have h4 : (i : Int) < (a.length : Int) := by omega
      by_cases hib : i < b.length
      · obtain ⟨z, hz⟩ := get_of_lt (l := b) hib
        have h1 : ¬ (b.length : Int) ≤ i := by omega
        have h5 : (i : Int) < (b.length : Int) := by omega
        have hno := hQ1
        by_cases hzy : z = y
        · subst hzy
          clear put hQ1 hQ2 hia hib hno
          simp [L23a, g1, g2, h1, h2, h3, h4, h5, hy, hz, w2]
        · have hno := hQ1 fun x hx hx2 => by rw [hy] at hx; cases hx; rw [hz] at hx2; cases hx2; exact hzy rfl
          clear put hQ1 hQ2 hia hib
          simp [L23a, g1, g2, h1, h2, h3, h4, h5, hy, hz, hzy, hi1, hw, put1]
          refine hno _ ?_ ?_ <;> simp
      · have h1 : (b.length : Int) ≤ i := by omega
        have hno := hQ1 fun x hx hx2 => by rw [List.getElem?_eq_none (by omega)] at hx2; cases hx2
        clear put hQ1 hQ2 hia hib
        simp [L23a, g1, g2, h1, hi1, hw, put1]
        refine hno _ ?_ ?_ <;> simp
  · rintro e H' ⟨rfl, rfl, hk, hk1, hk2⟩
    obtain ⟨x, hx1, hx2⟩ := hk2 (by simp)
    simp [L23a]
    exact hQ2 x hx1 hx2 _
  · simp

theorem t_both (a b : List Int) (ha : a.length ≤ 1000) (hb : b.length ≤ 1000) (t1 f1 t2 f2 : Bool) : pureR IP G 23 [.fs t1 f1 a.length (encs a), .fs t2 f2 b.length (encs b)] = some (.fs false false (bothG a b).length (encs (bothG a b))) := by
  have hl := bothG_len a b
  have hmx : max (a.length : Int) b.length = ((bothG a b).length : Int) := by rw [hl]; omega
  have hm : (bothG a b).length ≤ 1000 := by omega
  refine pure_run ip23 rfl ?_
  have h8 : 8 * ((bothG a b).length : Int) ≤ 281474976710656 := by omega
  have hrep : ∀ n, repCells [AVal.i .i64 0] n = encs (List.replicate n (0 : Int)) := by
    intro n; induction n with
    | zero => rfl
    | succ n ih => simp [repCells, List.replicate_succ, ih]
  simp [I23, hG, hmx, h8, hrep]
  refine wp_loop_list (l := bothG a b) (by omega) (fun i todo e H => e = [(0, .fs t1 f1 a.length (encs a)), (1, .fs t2 f2 b.length (encs b)), (5, .sl 2 0 (bothG a b).length (some (bothG a b).length)), (16, .i .i64 (bothG a b).length), (17, .i .i64 i)] ∧ 3 ≤ H.next ∧
    ∃ L : List Int, L.length = (bothG a b).length ∧ H.get 2 = some (.cells (encs L) 1 false) ∧ L.take i = (bothG a b).take i) ?_ ?_ ?_
  · rintro i x todo e H hx hd hlt hlt2 hlt3 ⟨rfl, hH, L, hL, hg, ht⟩
    have hxe := bothG_get hx
    have hlt4 := hlt
    have next : ∀ y, y = x → (L.set i y).take (i + 1) = (bothG a b).take (i + 1) := by
      intro y hy
      subst hy
      rw [List.take_add_one, List.take_add_one, hx, ← ht, List.take_set_of_le (Nat.le_refl _), List.getElem?_set_self (by omega)]
    have n1 : ¬ 2 = H.next := by omega
    clear hlt
    simp [L23b, hlt2, hlt3]
    refine t_both_in hG a b ha hb t1 f1 t2 f2 i _ L hL hlt4 hm H.next (by omega) _ _ (by simp [n1, hg]) (by simp) (by simp) ?_ ?_
    · intro hno H' g1 g2
      simp [hlt3]
      refine ⟨by rw [g2]; simp; omega, L.set i (-1), by simp [hL], g1, next _ ?_⟩
      rw [hxe]; unfold bothAt
      cases ha' : a[i]? with
      | none => rfl
      | some u =>
        cases hb' : b[i]? with
        | none => rfl
        | some w =>
          simp only
          rw [if_neg]
          intro h; subst h
          exact hno _ ha' hb'
    · intro y hy hy2 v
      have hia : i < a.length := by
        rcases Nat.lt_or_ge i a.length with h | h
        · exact h
        · rw [List.getElem?_eq_none h] at hy; cases hy
      have h4 : (i : Int) < (a.length : Int) := by omega
      have put : (encs L).set i (.i .i64 y) = encs (L.set i y) := by
        obtain ⟨x, hx⟩ := get_of_lt (l := L) (i := i) (by omega)
        have := put_encs (k := 0) hx (m := [AVal.i .i64 y]) (y := y) (by simp [Enc.sz]) (by simp)
        simpa [show Enc.sz Int = 1 from rfl] using this
      have hw : i + 1 ≤ L.length := by omega
      have hyx : y = x := by rw [hxe]; unfold bothAt; rw [hy, hy2]; simp
      have hnx := next y hyx
      clear next hia hlt4
      simp [hlt3, hlt2, h4, hy, hg, n1, hw, put]
      refine ⟨by omega, L.set i y, by simp [hL], by simp, ?_⟩
      simpa using hnx
  · rintro e H ⟨rfl, hH, L, hL, hg, ht⟩
    have hLe : L = bothG a b := by
      rw [← hL] at ht
      rw [List.take_length, hL, List.take_length] at ht
      exact ht
    subst hLe
    simp [L23b]
    by_cases h0 : (bothG a b).length = 0
    · have : bothG a b = [] := List.eq_nil_of_length_eq_zero h0
      rw [this]; simp
    · simp [h0, hG, hg]
  · exact ⟨by simp, by simp [hG], List.replicate (bothG a b).length 0, by simp, by simp [hG], by simp⟩
end
end Go.Proofs.YtdephbcmmhabgaaDoor

/- What a profile's Note, Kinds, Count bring. Conditions: none. -/
namespace Go.Proofs.YtdephbcmmhabgaaDoor
open Go Go.RI
set_option linter.unusedSimpArgs false
set_option linter.unusedVariables false
set_option linter.unusedSectionVars false

section
variable {G : AHeap} (hG : G.next = 2)
include hG

theorem t_pnone {H : AHeap} (lo : Nat) (hP : H.get 3 = some (.cells [.m 2] 1 false)) : theCalls IP G lo 21 [.p 3 0] H = some (.b false, H) := by
  refine calls_one ip21 rfl rfl ?_
  rw [ends_fin]
  simp [I21, hP]

theorem t_note_loop (l : List Val) (hl : bulkL l < 1099511627776) (t : Bool) (a b : Int) (D : Nat) (hD : 4 ≤ D) (H : AHeap) (hg : H.get D = some (.cells (encs (List.replicate l.length (0 : Int))) 1 false)) (hn : D < H.next) (Q : Post)
    (hQ1 : l.all mayV = true → ∀ (H' : AHeap) w, H.next ≤ H'.next → (∀ id, id < D → H'.get id = H.get id) → H'.get D = some (.cells (encs (kindsL l)) 1 false) → Q (.exit 0) [(0, .p 3 0), (1, .i .i64 a), (2, .i .i64 b), (9, .sl D 0 l.length (some l.length)), (39, .fs t false l.length (encs l)), (40, .i .i64 l.length), (41, .i .i64 l.length), (42, w)] H')
    (hQ2 : l.all mayV = false → ∀ H' : AHeap, H.next ≤ H'.next → (∀ id, id < D → H'.get id = H.get id) → Q .ret [(8, .i .i64 2)] H') :
    wp (theCalls IP G 2) 2 (.loop L8a) Q [(0, .p 3 0), (1, .i .i64 a), (2, .i .i64 b), (9, .sl D 0 l.length (some l.length)), (39, .fs t false l.length (encs l)), (40, .i .i64 l.length), (41, .i .i64 0)] H := by
  have hll := bulkL_len l
  refine wp_loop_list (l := l) (by omega) (fun i todo e H' => e = [(0, .p 3 0), (1, .i .i64 a), (2, .i .i64 b), (9, .sl D 0 l.length (some l.length)), (39, .fs t false l.length (encs l)), (40, .i .i64 l.length), (41, .i .i64 i)] ∧ H.next ≤ H'.next ∧ (∀ id, id < D → H'.get id = H.get id) ∧
    (l.all mayV = todo.all mayV) ∧ ∃ L : List Int, L.length = l.length ∧ H'.get D = some (.cells (encs L) 1 false) ∧ L.take i = (kindsL l).take i) ?_ ?_ ?_
  · rintro i x todo e H' hx hd hlt hlt2 hlt3 ⟨rfl, hN, hF, hA, L, hL, hgL, ht⟩
    have hxm := List.mem_of_getElem? hx
    have c1 := t_check hG x (by have := bulkL_mem hxm; omega) false false
    have n1 : ¬ D = H'.next := by omega
    have n2 : 2 ≤ H'.next := by omega
    have n3 : 2 ≤ D := by omega
    have hk : (kindsL l)[i]? = some x.kind := by simp [kindsL, hx]
    have hput := put_kind (L := L) (i := i) (k := x.kind) (by omega)
    have hw : i + 1 ≤ L.length := by omega
    have htk := take_set (L := L) (by omega) ht hk
    clear hlt
    cases hm : mayV x
    · have hfl : l.all mayV = false := by rw [hA, List.all_cons, hm]; rfl
      simp [hm] at c1
      simp [L8a, hlt2, hlt3, hx, hgL, n1, n2, c1]
      refine hQ2 hfl _ (by simp; omega) fun id hid => ?_
      simp [show ¬ id = H'.next by omega, hF id hid]
    · have hA' : l.all mayV = todo.all mayV := by rw [hA, List.all_cons, hm]; rfl
      simp [hm] at c1
      simp [L8a, hlt2, hlt3, hx, hgL, n1, n2, n3, c1, hput, hw]
      refine ⟨by omega, fun id hid => ?_, hA', L.set i x.kind, by simp [hL], rfl, by simpa using htk⟩
      simp [show ¬ id = H'.next by omega, show ¬ id = D by omega, hF id hid]
  · rintro e H' ⟨rfl, hN, hF, hA, L, hL, hgL, ht⟩
    have hLe : L = kindsL l := by
      rw [← hL, List.take_length, hL] at ht
      rw [ht]; exact List.take_of_length_le (by simp)
    subst hLe
    simp [L8a]
    exact hQ1 hA _ _ hN hF hgL
  · exact ⟨by simp, Nat.le_refl _, fun _ _ => rfl, rfl, _, by simp, hg, by simp⟩

set_option maxHeartbeats 1000000 in
theorem t_note (l : List Val) (hl : bulkL l < 1099511627776) (t : Bool) (a b : Int) (ha0 : 0 ≤ a) (ha : a < 16) (hb0 : 0 ≤ b) (hb : b < 512) (st : Option (Int × List Int)) (hc0 : 0 ≤ cnt st) (hc : cnt st < 1099511627776) (hk : ∀ c K, st = some (c, K) → K.length ≤ 64) (P : Nat → Prop) (H : AHeap) (hM : Prof H 2 P a b st) (hP : H.get 3 = some (.cells [.m 2] 1 false)) (hn : 4 ≤ H.next) (hp1 : ∀ id, P id → 4 ≤ id) (hp2 : ∀ id, H.next ≤ id → P id) :
    ∃ H', theCalls IP G 2 8 [.p 3 0, .i .i64 a, .i .i64 b, .fs t false l.length (encs l)] H = some (.i .i64 (if noteB l then 0 else 2), H') ∧ H.next ≤ H'.next ∧ (∀ id, 3 ≤ id → id < H.next → H'.get id = H.get id) ∧
      Prof H' 2 P a b (if noteB l then some (cnt st + 1, noteK (st.map (·.2)) l) else st) := by
  have key : ∃ v H', theCalls IP G 2 8 [.p 3 0, .i .i64 a, .i .i64 b, .fs t false l.length (encs l)] H = some (v, H') ∧ (v = .i .i64 (if noteB l then 0 else 2) ∧ H.next ≤ H'.next ∧ (∀ id, 3 ≤ id → id < H.next → H'.get id = H.get id) ∧
      Prof H' 2 P a b (if noteB l then some (cnt st + 1, noteK (st.map (·.2)) l) else st)) := by
    have hll := bulkL_len l
    have c0 := t_pnone hG (H := H) 2 hP
    have a1 : ¬ a < 0 := by omega
    have a2 : ¬ 16 ≤ a := by omega
    have b1 : ¬ b < 0 := by omega
    have b2 : ¬ 512 ≤ b := by omega
    have h8 : 8 * (l.length : Int) ≤ 281474976710656 := by omega
    have w1 : wrapI .i64 1 = 1 := rfl
    have w0 : wrapI .i64 (cnt st + 1) = cnt st + 1 := wrap_ok (by omega) (by omega)
    obtain ⟨nb, hnbd⟩ : ∃ nb, nb = noteB l := ⟨_, rfl⟩
    rw [← hnbd]
    refine calls_nil_of ip8 rfl rfl ?_
    by_cases h64 : (64 : Int) < l.length
    · have hnb : noteB l = false := by unfold noteB; rw [decide_eq_false (by omega)]; rfl
      rw [hnb] at hnbd
      subst hnbd
      simp [I8, c0, a1, a2, b1, b2, h64]
      exact hM
    · have hnb : noteB l = l.all mayV := by unfold noteB; rw [decide_eq_true (by omega)]; rfl
      have n0 : ¬ 2 = H.next := by omega
      have n1 : ¬ 3 = H.next := by omega
      rw [hnb] at hnbd
      simp [I8, c0, a1, a2, b1, b2, h64, h8, rep_kinds]
      refine t_note_loop hG l hl t a b H.next hn _ (by simp) (by simp) _ ?_ ?_
      · intro hall H1 w hn1 hf1 hg1
        obtain rfl : nb = true := hnbd.trans hall
        have p1 : H1.get 2 = H.get 2 := by rw [hf1 _ (by omega)]; simp [n0]
        have p2 : H1.get 3 = some (.cells [.m 2] 1 false) := by rw [hf1 _ (by omega)]; simp [n1]; exact hP
        simp at hn1
        have m0 : ¬ 2 = H1.next := by omega
        have m1 : ¬ 3 = H1.next := by omega
        have m2 : ¬ 2 = H1.next + 1 := by omega
        have m3 : ¬ 3 = H1.next + 1 := by omega
        have m4 : 2 ≤ H1.next := by omega
        have m5 : 2 ≤ H1.next + 1 := by omega
        have hkl : (kindsL l).length = l.length := by simp
        have hkv : ∀ H' : AHeap, H1.next ≤ H'.next → (∀ id, P id → id < H1.next → H'.get id = H1.get id) → KV H' P (.sl H.next 0 l.length (some l.length)) (kindsL l) := fun H' h1 h2 =>
          .inl ⟨H.next, by simp, hp2 _ (Nat.le_refl _), by omega, by rw [h2 _ (hp2 _ (Nat.le_refl _)) (by omega)]; exact hg1⟩
        cases st with
        | none =>
          have hM0 : H1.get 2 = some (.map []) := p1.trans hM
          simp only [cnt] at w0
          simp [p2, m0, m1, m2, m3, m4, m5, hM0, w1]
          refine ⟨by omega, fun id h1 h2 => ?_, _, by simp [cnt], hkv _ (by simp; omega) fun id h1 h2 => ?_⟩
          · have := hf1 id h2
            simp [show ¬ id = 2 by omega, show ¬ id = H1.next by omega, show ¬ id = H1.next + 1 by omega, this, show ¬ id = H.next by omega]
          · have := hp1 id h1
            simp [show ¬ id = 2 by omega, show ¬ id = H1.next by omega, show ¬ id = H1.next + 1 by omega]
        | some x =>
          obtain ⟨c, K⟩ := x
          obtain ⟨kv, hM0, hK⟩ := hM
          have hM1 := p1.trans hM0
          have hK1 : KV H1 P kv K := kv_keep hK (by omega) fun id h1 h2 => by rw [hf1 id h2]; simp [show ¬ id = H.next by omega]
          obtain ⟨o1, o2⟩ := kv_one hK
          have hk64 := hk c K rfl
          simp only [cnt] at w0 hc0 hc
          simp [p2, m0, m1, m2, m3, m4, m5, hM1, o1, o2]
          obtain ⟨HH, hHH⟩ : ∃ HH, HH = (((H1.push (.cells [.i .i64 0, .i .i64 0] 1 false)).put H1.next (some (.cells [.i .i64 a, .i .i64 b] 1 false))).push (.cells [.i .i64 0, .ns] 1 false)).put (H1.next + 1) (some (.cells [.i .i64 c, kv] 1 false)) := ⟨_, rfl⟩
          rw [← hHH]
          have hhn : HH.next = H1.next + 2 := by rw [hHH]; simp
          have hhf : ∀ id, id < H1.next → HH.get id = H1.get id := fun id h => by rw [hHH]; simp [show ¬ id = H1.next by omega, show ¬ id = H1.next + 1 by omega]
          have hh1 : HH.get H1.next = some (.cells [.i .i64 a, .i .i64 b] 1 false) := by rw [hHH]; simp
          have hh2 : HH.get (H1.next + 1) = some (.cells [.i .i64 c, kv] 1 false) := by rw [hHH]; simp
          have hh3 : HH.get 2 = _ := (hhf 2 (by omega)).trans hM1
          have hh4 : HH.get 3 = _ := (hhf 3 (by omega)).trans p2
          obtain ⟨u1, s1⟩ := kv_snap (k := 14) (kv_keep (H' := HH) hK1 (by omega) fun id h1 h2 => hhf id h2)
          obtain ⟨u2, s2⟩ := kv_snap (k := 14) (hkv HH (by omega) fun id h1 h2 => hhf id h2)
          have c2 := t_both hG K (kindsL l) (by omega) (by simp; omega) u1 false u2 false
          simp at s2 c2
          simp [s1, s2, c2, hh1, hh2, hh3, hh4, w0]
          refine ⟨by omega, fun id h1 h2 => ?_, _, (by rw [heap_get_put, if_pos rfl]; rfl), .inr rfl⟩
          have := hf1 id h2
          simp [show ¬ id = 2 by omega, hhf id (by omega), this, show ¬ id = H.next by omega]
      · intro hall H' hn1 hf1
        obtain rfl : nb = false := hnbd.trans hall
        simp at hn1 hf1
        simp
        refine ⟨by omega, fun id h1 h2 => ?_, prof_keep hM (by omega) ?_ fun id h1 h2 => ?_⟩
        · rw [hf1 id h2]; simp [show ¬ id = H.next by omega]
        · rw [hf1 _ (by omega)]; simp [n0]
        · rw [hf1 id h2]; simp [show ¬ id = H.next by omega]
  obtain ⟨v, H', h1, rfl, h2⟩ := key
  exact ⟨H', h1, h2⟩
end
end Go.Proofs.YtdephbcmmhabgaaDoor

/- The law that what is told of a home was so each time, walked. Conditions: that its first line brings true. -/
namespace Go.Proofs.YtdephbcmmhabgaaDoor
open Go Go.RI
set_option linter.unusedSimpArgs false
set_option linter.unusedVariables false
set_option linter.unusedSectionVars false

section
variable {G : AHeap} (hG : G.next = 2)
include hG

theorem t_new {H : AHeap} (hn : H.next = 2) : theCalls IP G 2 6 [] H = some (.p 3 0, (H.push (.map [])).push (.cells [.m 2] 1 false)) := by
  obtain ⟨v, H', h1, rfl, rfl⟩ := calls_nil_of (IP := IP) (G := G) (lo := 2) (H := H) (args := []) (R := fun v H' => v = .p 3 0 ∧ H' = (H.push (.map [])).push (.cells [.m 2] 1 false)) ip6 rfl rfl (by simp [I6, hn])
  exact h1

theorem t_kinds (a b : Int) (N : List (List Val)) (hN : ∀ l ∈ N, l.length ≤ 64) {P : Nat → Prop} {H : AHeap} (hM : Prof H 2 P a b (stN N)) (hP : H.get 3 = some (.cells [.m 2] 1 false)) (hn : 4 ≤ H.next) :
    ∃ v H', theCalls IP G 2 12 [.p 3 0, .i .i64 a, .i .i64 b] H = some (v, H') ∧ (H.next ≤ H'.next ∧ Hold H' 4 v 1 (kindsN N).length (encs (kindsN N)) ∧ ∀ id, id < H.next → H'.get id = H.get id) := by
  have c0 := t_pnone hG (H := H) 2 hP
  have c1 := fun x lo => calls_clone (G := G) (lo := lo) (x := x) (H := H) ip28 rfl (esz := 1) (bytes := 8) rfl
  have hk : ∃ kv c, H.get 2 = some (.map []) ∧ kv = .ns ∧ kindsN N = [] ∨ H.get 2 = some (.map [(.ag [.i .i64 a, .i .i64 b], .ag [.i .i64 c, kv])]) ∧ KV H P kv (kindsN N) := by
    unfold kindsN
    cases hs : stN N with
    | none => rw [hs] at hM; exact ⟨.ns, 0, .inl ⟨hM, rfl, rfl⟩⟩
    | some x => obtain ⟨c, K⟩ := x; rw [hs] at hM; obtain ⟨v, h1, h2⟩ := hM; exact ⟨v, c, .inr ⟨h1, h2⟩⟩
  have hlen : (kindsN N).length ≤ 1000 := by
    unfold kindsN
    cases hs : stN N with
    | none => simp
    | some x => obtain ⟨c, K⟩ := x; have := stN_len hs hN; simp; omega
  refine calls_nil_of ip12 rfl rfl ?_
  obtain ⟨kv, c, ⟨h1, rfl, h2⟩ | ⟨h1, h2⟩⟩ := hk
  · obtain ⟨v', H', e1, e2, e3, e4⟩ := kv_clone (H := H) (P := P) (lo := 4) (v := .ns) (K := kindsN N) (.inr ⟨rfl, h2⟩) hn hlen
    simp [I12, c0, c1, hP, h1, e1]
    exact ⟨e2, e3, e4⟩
  · obtain ⟨v', H', e1, e2, e3, e4⟩ := kv_clone (H := H) (lo := 4) (v := kv) (K := kindsN N) (.inl h2) hn hlen
    simp [I12, c0, c1, hP, h1, e1]
    exact ⟨e2, e3, e4⟩

theorem t_count (a b : Int) (N : List (List Val)) {P : Nat → Prop} {H : AHeap} (hM : Prof H 2 P a b (stN N)) (hP : H.get 3 = some (.cells [.m 2] 1 false)) (b' : Int) :
    theCalls IP G 2 13 [.p 3 0, .i .i64 a, .i .i64 b'] H = some (.i .i64 (if b' = b then (N.length : Int) else 0), H) := by
  have c0 := t_pnone hG (H := H) 2 hP
  obtain ⟨v, H', h1, rfl, rfl⟩ := calls_nil_of (IP := IP) (G := G) (lo := 2) (H := H) (args := [.p 3 0, .i .i64 a, .i .i64 b']) (R := fun v H' => v = .i .i64 (if b' = b then (N.length : Int) else 0) ∧ H' = H) ip13 rfl rfl (by
    rw [← stN_cnt N]
    cases hs : stN N with
    | none =>
      rw [hs] at hM
      have hM : H.get 2 = some (.map []) := hM
      simp [I13, c0, hP, hM, cnt]
    | some x =>
      obtain ⟨c, K⟩ := x
      rw [hs] at hM
      obtain ⟨v, h1, h2⟩ := hM
      simp [I13, c0, hP, h1, cnt]
      by_cases hb : b' = b <;> simp [hb])
  exact h1

/-- What was noted has that kind. -/
theorem t_seen_in (N : List (List Val)) (hN : N.length ≤ 1000) (hNl : ∀ l ∈ N, l.length ≤ 64) (a b : Int) (nv kv : AVal) (i : Nat) (k : Int) (hk : (kindsN N)[i]? = some k) (H : AHeap) (hA : Hold H 4 nv 1 N.length (encs N)) (hK : Hold H 4 kv 1 (kindsN N).length (encs (kindsN N))) (hi : i < 1000) (Q : Post)
    (hQ : ∀ (j : Nat) v, Q (.exit 4) [(1, .i .i64 a), (2, .i .i64 b), (7, .p 3 0), (8, nv), (10, kv), (11, .i .i64 i), (12, .i .i64 j), (66, v)] H) :
    wp (theCalls IP G 2) 2 (.loop L5b) Q [(1, .i .i64 a), (2, .i .i64 b), (7, .p 3 0), (8, nv), (10, kv), (11, .i .i64 i), (12, .i .i64 0)] H := by
  have hlt4 : (i : Int) < ((kindsN N).length : Int) := by
    rcases Nat.lt_or_ge i (kindsN N).length with h | h
    · omega
    · rw [List.getElem?_eq_none h] at hk; cases hk
  obtain ⟨kid, kc, rfl, hkr⟩ : ∃ kid kc, kv = .sl kid 0 (kindsN N).length kc ∧ H.get kid = some (.cells (encs (kindsN N)) 1 false) := by
    rcases hK with ⟨_, h0, _⟩ | ⟨id, c, rfl, _, _, _, h3, _⟩
    · omega
    · exact ⟨id, c, rfl, h3⟩
  have hlenA := hold_len hA
  by_cases h0 : 0 ≤ k
  · have hsay := kindsN_says hk h0
    refine wp_loop_list (l := N) (by omega) (fun j todo e H' => e = [(1, .i .i64 a), (2, .i .i64 b), (7, .p 3 0), (8, nv), (10, .sl kid 0 (kindsN N).length kc), (11, .i .i64 i), (12, .i .i64 j)] ∧ H' = H) ?_ ?_ ?_
    · rintro j l todo e H' hl hd hlt hlt2 hlt3 ⟨rfl, rfl⟩
      obtain ⟨v, hv, hvk⟩ := hsay l (List.mem_of_getElem? hl)
      obtain ⟨nid, nc, rfl, hnr⟩ : ∃ nid nc, nv = .sl nid 0 N.length nc ∧ H'.get nid = some (.cells (encs N) 1 false) := by
        rcases hA with ⟨_, h0, _⟩ | ⟨id, c, rfl, _, _, _, h3, _⟩
        · omega
        · exact ⟨id, c, rfl, h3⟩
      have hlv : i < l.length := by
        rcases Nat.lt_or_ge i l.length with h | h
        · exact h
        · rw [List.getElem?_eq_none h] at hv; cases hv
      have h5 : ¬ (l.length : Int) ≤ i := by omega
      have h6 : (i : Int) < (l.length : Int) := by omega
      have hnc : (encs N)[j]? = some (.fs false false l.length (encs l)) := by
        have := get_encs (l := N) (i := j) (k := 0) (by simp [Enc.sz])
        simpa [show Enc.sz (List Val) = 1 from rfl, hl] using this
      clear hlt hlv
      simp [L5b, hlt2, hlt3, hlt4, hkr, hnr, hk, hnc, h0, h5, h6, hv, hvk]
    · rintro e H' ⟨rfl, rfl⟩
      simp [L5b, hlenA]
      exact hQ _ _
    · simp
  · have h1 : ¬ 0 ≤ k := h0
    refine wp_loop_inv (fun n e H' => e = [(1, .i .i64 a), (2, .i .i64 b), (7, .p 3 0), (8, nv), (10, .sl kid 0 (kindsN N).length kc), (11, .i .i64 i), (12, .i .i64 0)] ∧ H' = H) ?_ 0 _ _ ⟨rfl, rfl⟩
    rintro n e H' ⟨rfl, rfl⟩
    have hq := hQ 0
    by_cases hN0 : 0 < N.length
    · simp [L5b, hlenA, hN0, hlt4, hkr, hk, h1]
      exact hq _
    · simp [L5b, hlenA, hN0]
      exact hq _
end
end Go.Proofs.YtdephbcmmhabgaaDoor

/- The law that what is told of a home was so each time: it brings true. Conditions: that its first line does. -/
namespace Go.Proofs.YtdephbcmmhabgaaDoor
open Go Go.RI
set_option linter.unusedSimpArgs false
set_option linter.unusedVariables false
set_option linter.unusedSectionVars false

section
variable {G : AHeap} (hG : G.next = 2)
include hG

/-- All that is noted. -/
theorem t_seen_notes (l : List (List Val)) (hl : l.length < 1099511627776) (hb : ∀ x ∈ l, bulkL x < 1099511627776) (f a : Int) (hf0 : 0 ≤ f) (hf : f < 16) (ha0 : 0 ≤ a) (ha : a < 512) (Q : Post) (H : AHeap) (hn : 4 ≤ H.next) (hM : H.get 2 = some (.map [])) (hP : H.get 3 = some (.cells [.m 2] 1 false))
    (hQ : ∀ (H' : AHeap) nv v (N : List (List Val)), N.length ≤ 40 → (∀ x ∈ N, x.length ≤ 64) → 4 ≤ H'.next → Acc H' 4 nv 1 N.length (encs N) → Prof H' 2 (fun id => 4 ≤ id) f a (stN N) → H'.get 3 = some (.cells [.m 2] 1 false) → ∀ i : Nat, Q (.exit 0) [(0, .fs false false l.length (encs l)), (1, .i .i64 f), (2, .i .i64 a), (7, .p 3 0), (8, nv), (9, .i .i64 i), (27, v)] H') :
    wp (theCalls IP G 2) 2 (.loop L5a) Q [(0, .fs false false l.length (encs l)), (1, .i .i64 f), (2, .i .i64 a), (7, .p 3 0), (8, .ns), (9, .i .i64 0)] H := by
  refine wp_loop_list (l := l.take 40) (by simp; omega) (fun i todo e H' => ∃ nv, e = [(0, .fs false false l.length (encs l)), (1, .i .i64 f), (2, .i .i64 a), (7, .p 3 0), (8, nv), (9, .i .i64 i)] ∧ 4 ≤ H'.next ∧ Acc H' 4 nv 1 (notedN l i).length (encs (notedN l i)) ∧ Prof H' 2 (fun id => 4 ≤ id ∧ ∀ id0 n0 c0, nv = .sl id0 0 n0 c0 → id ≠ id0) f a (stN (notedN l i)) ∧ H'.get 3 = some (.cells [.m 2] 1 false)) ?_ ?_ ?_
  · rintro i x todo e H' hx hd hlt hlt2 hlt3 ⟨nv, rfl, hn1, hA, hM1, hP1⟩
    obtain ⟨N, hN0⟩ : ∃ N, N = notedN l i := ⟨_, rfl⟩
    rw [← hN0] at hA hM1
    have hN := hN0
    unfold notedN at hN
    have hi40 : i < 40 := by simp at hlt; omega
    have hil : i < l.length := by simp at hlt; omega
    have hxl : l[i]? = some x := by rw [List.getElem?_take, if_pos hi40] at hx; exact hx
    have hxm := List.mem_of_getElem? hxl
    have h1 : (i : Int) < (l.length : Int) := by omega
    have h2 : i < 40 := hi40
    have h3 : (i : Int) < 40 := by omega
    have hNl : N.length ≤ 40 := by
      rw [hN]
      refine Nat.le_trans (List.length_filter_le _ _) ?_
      simp; omega
    have hN64 : ∀ y ∈ N, y.length ≤ 64 := by
      intro y hy
      rw [hN] at hy
      exact noteB_len (List.mem_filter.1 hy).2
    have hNn : notedN l (i + 1) = if noteB x then N ++ [x] else N := by
      unfold notedN
      rw [List.take_add_one, hx, List.filter_append, ← hN]
      by_cases h : noteB x = true <;> simp [h]
    obtain ⟨H2, d1, d2, d3, d4⟩ := t_note hG x (hb x hxm) false f a hf0 hf ha0 ha (stN N) (by rw [stN_cnt]; omega) (by rw [stN_cnt]; omega) (fun c K h => stN_len h hN64) _ H' hM1 hP1 hn1 (fun id h => h.1) (fun id h => ⟨by omega, fun id0 n0 c0 hv => by have := (acc_lt hA _ _ _ hv).2; omega⟩)
    rw [stN_add] at d4
    have hA2 : Acc H2 4 nv 1 N.length (encs N) := acc_keep hA d2 fun id n0 c0 hv => by
      have := acc_lt hA id n0 c0 hv
      exact d3 id (by omega) this.2
    have hP2 : H2.get 3 = some (.cells [.m 2] 1 false) := (d3 _ (by omega) (by omega)).trans hP1
    clear hlt hlt2 hil hi40
    cases hb2 : noteB x
    · rw [hb2] at d1 d4 hNn
      simp at d1 d4 hNn
      simp [L5a, h1, h2, h3, hlt3, hxl, d1]
      rw [hNn]
      exact ⟨by omega, hA2, d4, hP2⟩
    · rw [hb2] at d1 d4 hNn
      simp at d1 d4 hNn
      simp [L5a, h1, h2, h3, hlt3, hxl, d1]
      refine step_app (acc_keep hA2 (by simp) ?_) (lo' := 4) (m := 1) (ys := Enc.cells x) (by omega) (by simp <;> omega) (more_lit (cs := Enc.cells x) (e := 1) (ro := false) (by simp) (by simp) (by omega)) (by simp) (by omega) (by omega) (by omega) (by omega) ?_
      · intro id n0 c0 hv
        have := acc_lt hA2 id n0 c0 hv
        exact get_push_lt this.2
      intro H3 hn3 hA3 hf3
      simp at hn3 hA3 hf3
      have keep : ∀ id, id < 4 → H3.get id = H2.get id := fun id h => by
        rw [hf3 id (by omega) fun id0 n0 c0 hv => by have := (acc_lt hA2 _ _ _ hv).1; omega]
        simp [show ¬ id = H2.next by omega]
      simp [hlt3]
      rw [hNn]
      refine ⟨by omega, by simpa using hA3, ?_, (keep _ (by omega)).trans hP2⟩
      refine prof_mono (prof_keep (prof_mono d4 (lo' := fun id => (4 ≤ id ∧ ∀ id0 n0 c0, nv = .sl id0 0 n0 c0 → id ≠ id0) ∧ id < H2.next) fun id k1 k2 => ⟨k2, k1⟩) (by omega) (keep _ (by omega)) fun id k1 k2 => ?_) fun id k1 k2 => ⟨k2.1.1, by have := k2.2; simp; omega⟩
      · rw [hf3 id (by omega) fun id0 n0 c0 hv => k1.1.2 id0 n0 c0 hv]
        simp [show ¬ id = H2.next by omega]
  · rintro e H' ⟨nv, rfl, hn1, hA, hM1, hP1⟩
    obtain ⟨N, hN0⟩ : ∃ N, N = notedN l (l.take 40).length := ⟨_, rfl⟩
    rw [← hN0] at hA hM1
    have hN := hN0
    unfold notedN at hN
    have hNl : N.length ≤ 40 := by
      rw [hN]
      refine Nat.le_trans (List.length_filter_le _ _) ?_
      simp; omega
    have hN64 : ∀ y ∈ N, y.length ≤ 64 := by
      intro y hy
      rw [hN] at hy
      exact noteB_len (List.mem_filter.1 hy).2
    have hq := fun v => hQ H' nv v N hNl hN64 hn1 hA (prof_mono hM1 fun id k1 k2 => k2.1) hP1 (l.take 40).length
    obtain ⟨m, hm⟩ : ∃ m, m = (l.take 40).length := ⟨_, rfl⟩
    rw [← hm] at hq ⊢
    have hm2 : m = min 40 l.length := by rw [hm]; simp
    clear hQ hm
    by_cases h1 : (m : Int) < l.length
    · have h2 : ¬ (m : Int) < 40 := by omega
      have h3 : ¬ m < 40 := by omega
      simp [L5a, h1, h2, h3]
      exact hq _
    · have h3 : ¬ m < l.length := by omega
      simp [L5a, h1, h3]
      exact hq _
  · exact ⟨.ns, by simp, hn, acc_none, hM, hP⟩

set_option maxHeartbeats 1000000 in
theorem t_guessSeen (cw : pureR IP G 17 [] = some (.b true)) (l : List (List Val)) (hl : l.length < 1099511627776) (hb : ∀ x ∈ l, bulkL x < 1099511627776) (f a : Int) : ∃ H', Brings IP G G.next 5 [.fs false false l.length (encs l), .i .i64 f, .i .i64 a] G (.b true) H' := by
  have c1 := t_bring hG f 16 (by omega) (by omega)
  have c2 := t_bring hG a 512 (by omega) (by omega)
  have c3 := t_bring hG (a % 512 + 1) 512 (by omega) (by omega)
  have c4 := t_new hG (H := G) hG
  obtain ⟨F, hF⟩ : ∃ F, F = f % 16 := ⟨_, rfl⟩
  obtain ⟨A, hA⟩ : ∃ A, A = a % 512 := ⟨_, rfl⟩
  rw [← hF] at c1
  rw [← hA] at c2 c3
  have hF1 : 0 ≤ F ∧ F < 16 := by omega
  have hA1 : 0 ≤ A ∧ A < 512 := by omega
  have w1 : wrapI .i64 (A + 1) = A + 1 := wrap_ok (by omega) (by omega)
  have hne : ¬ (A + 1) % 512 = A := by omega
  refine law_brings ip5 rfl rfl ?_
  simp [I5, hG, cw, c1, c2, c4]
  refine t_seen_notes hG l hl hb F A hF1.1 hF1.2 hA1.1 hA1.2 _ _ (by simp [hG]) (by simp [hG]) (by simp [hG]) ?_
  intro H1 nv v N hN hN64 hn1 hAc hM hP i
  obtain ⟨kv, H2, k1, k2, k3, k4⟩ := t_kinds hG F A N hN64 hM hP hn1
  have hAc2 : Hold H2 4 nv 1 N.length (encs N) := hold_keep hAc.hold k2 fun id c hv => k4 id (acc_lt hAc _ _ _ hv).2
  have hM2 : Prof H2 2 (fun id => 4 ≤ id) F A (stN N) := prof_keep hM k2 (k4 _ (by omega)) fun id _ h => k4 id h
  have hP2 := (k4 3 (by omega)).trans hP
  have d1 := t_count hG F A N hM2 hP2 A
  have d2 := t_count hG F A N hM2 hP2 ((A + 1) % 512)
  have hK := hold_len k3
  have hKl : (kindsN N).length ≤ 64 := by
    unfold kindsN
    cases hs : stN N with
    | none => simp
    | some x => obtain ⟨c, K⟩ := x; have := stN_len hs hN64; simp; omega
  rw [if_neg hne] at d2
  simp at d1
  simp [k1]
  refine wp_loop_list (l := kindsN N) (by omega) (fun i todo e H' => e = [(1, .i .i64 F), (2, .i .i64 A), (7, .p 3 0), (8, nv), (10, kv), (11, .i .i64 i)] ∧ H' = H2) ?_ ?_ ?_
  · rintro i k todo e H' hk hd hlt hlt2 hlt3 ⟨rfl, rfl⟩
    have hlt4 := hlt
    clear hlt
    simp [L5c, hK, hlt2]
    refine t_seen_in hG N (by omega) hN64 F A nv kv i k hk _ hAc2 k3 (by omega) _ ?_
    intro j v
    simp [hlt3]
  · rintro e H' ⟨rfl, rfl⟩
    simp [L5c, hK, d1, d2, c3, w1, hold_len hAc2]
  · simp
end
end Go.Proofs.YtdephbcmmhabgaaDoor

/- RI: a run for the kernel: slots in a tree, nothing dropped. Conditions: none. -/
namespace Go.RI
open Go
set_option linter.unusedSimpArgs false
set_option linter.unusedVariables false

def Opd.evalG (e : Nat → Option AVal) : Opd → Option AVal
  | .t n => e n
  | .c v => some v
  | .g n => some (.p n 0)
  | .f n => some (.fn (.func n) [] [])
def evalsG (e : Nat → Option AVal) : List Opd → Option (List AVal)
  | [] => some []
  | x :: l =>
    match x.evalG e with
    | some v =>
      match evalsG e l with
      | some vs => some (v :: vs)
      | none => none
    | none => none
def evalPartsG (e : Nat → Option AVal) : List (Nat × Nat × Opd) → Option (List (Nat × Nat × AVal))
  | [] => some []
  | (o, n, x) :: l =>
    match x.evalG e with
    | some v =>
      match evalPartsG e l with
      | some vs => some ((o, n, v) :: vs)
      | none => none
    | none => none
def optIG (e : Nat → Option AVal) : Option Opd → Option (Option Nat)
  | none => some none
  | some x => match x.evalG e with
    | some (.i _ n) => if 0 ≤ n then some (some n.toNat) else none
    | _ => none

/-- What an operation that is no call makes; none inside: nothing. -/
noncomputable def aopG (lo : Nat) (o : IOp) (e : Nat → Option AVal) (H : AHeap) : Option (Option AVal × AHeap) :=
  let pure (v : Option AVal) : Option (Option AVal × AHeap) := v.map fun v => (some v, H)
  match o with
  | .mov x => pure (x.evalG e)
  | .pick c a b => match c.evalG e with
    | some (.b true) => pure (a.evalG e)
    | some (.b false) => pure (b.evalG e)
    | _ => none
  | .bin op x y => match x.evalG e, y.evalG e with
    | some a, some b => pure (binV op a b)
    | _, _ => none
  | .eqB neg x y => match x.evalG e, y.evalG e with
    | some (.b a), some (.b b) => pure (some (.b (if neg then !(a == b) else a == b)))
    | _, _ => none
  | .eqNil k neg x y => match x.evalG e, y.evalG e with
    | some a, some b => pure ((eqNilV k a b).map fun r => .b (if neg then !r else r))
    | _, _ => none
  | .eqAg ks neg x y => match x.evalG e, y.evalG e with
    | some (.ag a), some (.ag b) => pure ((eqCells ks a b).map fun r => .b (if neg then !r else r))
    | _, _ => none
  | .un op x => pure ((x.evalG e).bind (unV op))
  | .conv k x => match x.evalG e with
    | some (.i _ n) => pure (some (.i k (wrapI k n)))
    | _ => none
  | .same x => match x.evalG e with
    | some (.s v) => pure (some (.s v))
    | _ => none
  | .alloc z => some (some (.p H.next 0), H.push (.cells z 1 false))
  | .box x => match x.evalG e with
    | some v => if v.tup = false then some (some (.p H.next 0), H.push (.cells v.cells 1 false)) else none
    | none => none
  | .build z parts => match evalPartsG e parts with
    | some ps => pure ((fillA z ps).map .ag)
    | none => none
  | .bsl esz len z parts => match evalPartsG e parts with
    | some ps => match fillA z ps with
      | some cs => some (some (.sl H.next 0 len (some len)), H.push (.cells cs esz false))
      | none => none
    | none => none
  | .load n x => pure ((x.evalG e).bind (loadV H n))
  | .store n x v => match x.evalG e, v.evalG e with
    | some a, some v => (storeV lo H n a v).map fun H' => (none, H')
    | _, _ => none
  | .nck x => match x.evalG e with
    | some (.p id off) => pure (some (.p id off))
    | some (.fn (.func f) a c) => pure (some (.fn (.func f) a c))
    | some (.ifc t v) => pure (some (.ifc t v))
    | some (.fp l) => pure (some (.fp l))
    | _ => none
  | .off x k => pure ((x.evalG e).bind (offV k))
  | .part n x off => pure ((x.evalG e).bind (partV n off))
  | .iaddr esz x i => match x.evalG e, i.evalG e with
    | some a, some b => pure (iaddrV esz a b)
    | _, _ => none
  | .iaddrA esz len x i => match x.evalG e, i.evalG e with
    | some a, some b => pure (iaddrAV esz len a b)
    | _, _ => none
  | .idxS x i => match x.evalG e, i.evalG e with
    | some a, some b => pure (idxSV a b)
    | _, _ => none
  | .idxA n esz len x i => match x.evalG e, i.evalG e with
    | some a, some b => pure (idxAV n esz len a b)
    | _, _ => none
  | .ext x k => pure ((x.evalG e).bind (extV k))
  | .mkf f fst cap => match evalsG e fst, evalsG e cap with
    | some a, some c => pure (some (.fn (.func f) a c))
    | _, _ => none
  | .mksl esz bytes z l c => match l.evalG e, c.evalG e with
    | some (.i _ n), some (.i _ m) =>
      if 0 ≤ n ∧ n ≤ m ∧ bytes * m ≤ 281474976710656 ∧ 0 < bytes then some (some (.sl H.next 0 n.toNat (some m.toNat)), H.push (.cells (repCells z m.toNat) esz false)) else none
    | _, _ => none
  | .slS x lo hi => match x.evalG e, optIG e lo, optIG e hi with
    | some (.s v), some l, some h => pure (slSV v l h)
    | _, _, _ => none
  | .sl esz x lo hi mx => match x.evalG e, optIG e lo, optIG e hi, optIG e mx with
    | some v, some l, some h, some m => (slV esz H v l h m).map fun (v, H') => (some v, H')
    | _, _, _, _ => none
  | .slq esz x lo hi mx => match x.evalG e, optIG e lo, optIG e hi, optIG e mx with
    | some v, some l, some h, some m => match slV esz H v l h m with
      | some (v', H') => if H'.next = H.next ∧ (isFs v = true → m.isSome ∨ l.getD 0 = 0 ∨ isFs0 v' = false) then some (some v', H) else if dynS v l h m = true then some (some v', H') else none
      | none => none
    | _, _, _, _ => none
  | .lenk k x => pure (((x.evalG e).bind (lenV H k)).map fun (m : Nat) => AVal.i .i64 (m : Int))
  | .app esz bytes x y => match x.evalG e, y.evalG e with
    | some a, some b => (appV lo H esz bytes a b).map fun (v, H') => (some v, H')
    | _, _ => none
  | .mm mx x l => match x.evalG e, evalsG e l with
    | some a, some l => pure (mmV mx a l)
    | _, _ => none
  | .iface t x => pure ((x.evalG e).map (.ifc t))
  | .s2b x => match x.evalG e with
    | some (.s v) => some (some (.sl H.next 0 v.length none), H.push (.cells (v.map fun b => .i .u8 b.toNat) 1 false))
    | _ => none
  | .bad => none
  | .mkmap => some (some (.m H.next), H.push (.map []))
  | .mapup ag ks x k v => match x.evalG e, k.evalG e, v.evalG e with
    | some m, some k, some v => (mapupV lo H ag ks k v m).map fun H' => (none, H')
    | _, _, _ => none
  | .look ag ks z okf x k => match x.evalG e, k.evalG e with
    | some m, some k => pure (lookV H ag ks z okf m k)
    | _, _ => none
  | .cpy esz x y => match x.evalG e, y.evalG e with
    | some a, some b => (cpyV lo H esz a b).map fun (v, H') => (some v, H')
    | _, _ => none
  | .call _ _ => none
  | .callv _ _ => none
  | .appz esz bytes z x y => match x.evalG e, y.evalG e with
    | some a, some (.i _ k) => (appzV lo H esz bytes z a k).map fun (v, H') => (some v, H')
    | _, _ => none
  | .inv _ _ _ => none


theorem evalG_eq (e : Env) (x : Opd) : x.evalG e.get = x.eval e := by cases x <;> rfl
theorem evalsG_eq (e : Env) (l : List Opd) : evalsG e.get l = evals e l := by
  induction l with
  | nil => rfl
  | cons x l ih => simp only [evalsG, evals, evalG_eq, ih]; rfl
theorem evalPartsG_eq (e : Env) (l : List (Nat × Nat × Opd)) : evalPartsG e.get l = evalParts e l := by
  induction l with
  | nil => rfl
  | cons x l ih => obtain ⟨a, b, x⟩ := x; simp only [evalPartsG, evalParts, evalG_eq, ih]; rfl
theorem optIG_eq (e : Env) (x : Option Opd) : optIG e.get x = optI e x := by
  cases x with
  | none => rfl
  | some x => simp only [optIG, optI, evalG_eq]; rfl
theorem aopG_eq (lo : Nat) (o : IOp) (e : Env) (H : AHeap) : aopG lo o e.get H = aop lo o e H := by
  cases o <;> simp only [aopG, aop, evalG_eq, evalsG_eq, evalPartsG_eq, optIG_eq] <;> rfl

/-! ### The run -/
abbrev FEnv := Trie AVal
noncomputable def FEnv.put (t : FEnv) (n : Nat) (v : AVal) : FEnv := Trie.put (some v) (n + 1) t n
noncomputable def putF (t : FEnv) : Option Nat → AVal → FEnv
  | none, _ => t
  | some n, v => FEnv.put t n v

noncomputable def killF (t : FEnv) (l : List Nat) : FEnv := @List.rec Nat (fun _ => FEnv → FEnv) (fun t => t) (fun n _ ih t => ih (Trie.put none (Nat.succ n) t n)) l t
noncomputable def wantedF (t : FEnv) : Option (Nat × Bool) → Option Bool
  | none => some true
  | some (n, want) => match t.get n with
    | some (.b b) => some (b == want)
    | some _ => some false
    | none => none

noncomputable def opF (call : CallI) (lo : Nat) (o : IOp) (t : FEnv) (H : AHeap) : Option (Option AVal × AHeap) :=
  match o with
  | .call f args => match evalsG t.get args with
    | some vs => match call f vs H with
      | some (v, H') => some (some v, H')
      | none => none
    | none => none
  | .callv x args => match x.evalG t.get with
    | some (.fn (.func f) fst cap) => match evalsG t.get args with
      | some vs => match call f (fst ++ vs ++ cap) H with
        | some (v, H') => some (some v, H')
        | none => none
      | none => none
    | _ => none
  | .inv x tbl args => match x.evalG t.get with
    | some (.ifc ty v) => match tblGet tbl ty, evalsG t.get args with
      | some f, some vs => match call f (v :: vs) H with
        | some (v, H') => some (some v, H')
        | none => none
      | _, _ => none
    | _ => none
  | o => aopG lo o t.get H

noncomputable def itemF (call : CallI) (lo : Nat) (x : Item) (t : FEnv) (H : AHeap) : Option (FEnv × AHeap) :=
  match wantedF t x.guard with
  | none => none
  | some false => some (putF t x.dst (.tu []), H)
  | some true => match opF call lo x.op t H with
    | some (some v, H') => some (putF t x.dst v, H')
    | some (none, H') => some (putF t x.dst (.tu []), H')
    | none => none

noncomputable def dynG (o : IOp) (e : Nat → Option AVal) : Bool := match o with
  | .slq _ x lo hi mx => match x.evalG e, optIG e lo, optIG e hi, optIG e mx with
    | some v, some l, some h, some m => dynS v l h m
    | _, _, _, _ => false
  | _ => false
theorem dynG_eq (o : IOp) (e : Env) : dynG o e.get = dynE o e := by
  cases o <;> simp only [dynG, dynE, evalG_eq, optIG_eq] <;> rfl
noncomputable def reOkF (lo : Nat) (t : FEnv) (H : AHeap) : List (Nat × IOp × Option (Nat × Bool)) → Bool
  | [] => true
  | (n, o, g) :: l => (match wantedF t g with
    | some false => true
    | some true => dynG o t.get || (match t.get n, aopG lo o t.get H with
      | some v, some (some v', _) => same v v'
      | _, _ => false)
    | none => false) && reOkF lo t H l

/-- What was loaded ahead lies elsewhere than what is touched. -/
noncomputable def touchG (e : Nat → Option AVal) (o : IOp) : Option (List Nat) := match o with
  | .app _ _ x _ => match x.evalG e with
    | some v => touchV v
    | none => none
  | .store _ x _ => match x.evalG e with
    | some (.p id _) => some [id]
    | _ => none
  | _ => none
noncomputable def keepLG (fp : Bool) (ids : List Nat) (e' : Nat → Option AVal) : List (Nat × IOp × Option (Nat × Bool)) → Bool
  | [] => true
  | (_, o, _) :: l => (match o with
    | .load _ b => match b.evalG e' with
      | some (.p id _) => !ids.contains id
      | some (.fp _) => fp
      | _ => false
    | _ => false) && keepLG fp ids e' l
noncomputable def keepG (H : AHeap) (o : IOp) (re : List (Nat × IOp × Option (Nat × Bool))) (e e' : Nat → Option AVal) : Bool := match touchG e o with
  | some ids => keepLG (isSt o && ids.all fun i => wrO (H.get i)) ids e' re
  | none => false
theorem keepG_eq (H : AHeap) (o : IOp) (re : List (Nat × IOp × Option (Nat × Bool))) (e e' : Env) : keepG H o re e.get e'.get = keepI H o re e e' := by
  have h1 : touchG e.get o = touch e o := by cases o <;> simp only [touchG, touch, evalG_eq] <;> rfl
  have h2 : ∀ fp ids l, keepLG fp ids e'.get l = keepL fp ids e' l := by
    intro fp ids l
    induction l with
    | nil => rfl
    | cons x l ih =>
      obtain ⟨a, o, g⟩ := x
      simp only [keepLG, keepL, ih]
      cases o <;> simp only [evalG_eq] <;> rfl
  simp only [keepG, keepI, h1, h2]; rfl

noncomputable def itemsF (call : CallI) (lo : Nat) : List Item → FEnv → AHeap → Option (FEnv × AHeap)
  | [], t, H => some (t, H)
  | x :: l, t, H => match itemF call lo x t H with
    | some (t', H') => match skipI call x.op || (keepG H' x.op x.re t.get t'.get || reOkF lo t' H' x.re) with
      | true => itemsF call lo l t' H'
      | false => none
    | none => none

noncomputable def initF : Nat → List AVal → FEnv → FEnv
  | _, [], t => t
  | k, v :: l, t => initF (k + 1) l (t.put k v)

noncomputable def resF (t : FEnv) (H : AHeap) : List IRes → Option (List AVal)
  | [] => some []
  | .t n :: l => match t.get n, resF t H l with
    | some v, some vs => some (v :: vs)
    | _, _ => none
  | .c n k :: l => match t.get n with
    | some p => match loadV H k p, resF t H l with
      | some v, some vs => some (v :: vs)
      | _, _ => none
    | none => none

noncomputable def bodyF (ex : Nat → ICode → FEnv → AHeap → Option (AExit × FEnv × AHeap)) (fn : IFunc) (lo : Nat) (args : List AVal) (H : AHeap) : Option (AVal × AHeap) :=
  if args.length = fn.np then
    match ex lo fn.body (initF 0 args .e) H with
    | some (.exit _, _, _) => none
    | some (_, t, H') => match resF t H' fn.res with
      | some vs => some (tupI vs, H')
      | none => none
    | none => none
  else none

noncomputable def tabFB (T : Trie IFunc) (G : AHeap) (ex : Nat → ICode → FEnv → AHeap → Option (AExit × FEnv × AHeap)) (lo : Nat) (g : FuncId) (args : List AVal) (H : AHeap) : Option (AVal × AHeap) := match T.get g with
  | some fn => match fn.mode with
    | 0 => bodyF ex fn lo args H
    | 1 => bodyF ex fn H.next args H
    | 2 => match mapO (snapV H 16) args with
      | some args' => match bodyF ex fn G.next args' G with
        | some (v, H1) => match frzV H1 G.next 16 v with
          | some v' => some (v', H)
          | none => none
        | none => none
      | none => none
    | 3 => match bodyF ex fn H.next args H with
      | some (v, _) => if below H.next v then some (v, H) else none
      | none => none
    | _ => cloneB fn.body args H
  | none => none
noncomputable def tabF (T : Trie IFunc) (G : AHeap) (ex : Nat → ICode → FEnv → AHeap → Option (AExit × FEnv × AHeap)) (lo : Nat) : CallI := ⟨tabFB T G ex lo, fun g => match T.get g with
  | some fn => match fn.mode with
    | 0 => false
    | _ => true
  | none => false⟩

/-- Every function is done in the heap that there is; nothing is dropped. -/
noncomputable def execF (T : Trie IFunc) (G : AHeap) : Nat → Nat → ICode → FEnv → AHeap → Option (AExit × FEnv × AHeap)
  | 0, _, _, _, _ => none
  | f + 1, lo, c, t, H =>
    match c with
    | .skip => some (.normal, t, H)
    | .region items kill => match itemsF (tabF T G (execF T G f) lo) lo items t H with
      | some (t', H') => some (.normal, killF t' kill, H')
      | none => none
    | .seq a b => match execF T G f lo a t H with
      | some (.normal, t', H') => execF T G f lo b t' H'
      | r => r
    | .cond x a b => match x.evalG t.get with
      | some (.b true) => execF T G f lo a t H
      | some (.b false) => execF T G f lo b t H
      | _ => none
    | .block id b => match execF T G f lo b t H with
      | some (.exit id', t', H') => if id' = id then some (.normal, t', H') else some (.exit id', t', H')
      | r => r
    | .loop b => match execF T G f lo b t H with
      | some (.normal, t', H') => execF T G f lo (.loop b) t' H'
      | r => r
    | .exit id => some (.exit id, t, H)
    | .ret => some (.ret, t, H)

noncomputable def callF (T : Trie IFunc) (G : AHeap) (f : Nat) (lo : Nat) : CallI := tabF T G (execF T G f) lo

/-! ### It is the interpreter's -/
def EqE (e : Env) (t : FEnv) : Prop := e.get = t.get

theorem EqE.put {e : Env} {t : FEnv} (h : EqE e t) (n : Nat) (v : AVal) : EqE (e.put n v) (t.put n v) := by
  funext s
  rw [Env.get_put, FEnv.put, Trie.get_put _ _ _ _ _ (Nat.lt_succ_self n), h]
theorem EqE.putD {e : Env} {t : FEnv} (h : EqE e t) (d : Option Nat) (v : AVal) : EqE (putD e d v) (putF t d v) := by
  cases d with
  | none => exact h
  | some n => exact h.put n v

theorem EqE.kill : ∀ (l : List Nat) {e : Env} {t : FEnv}, EqE e t → EqE (e.kill l) (killF t l) := by
  intro l
  induction l with
  | nil => intro e t h; exact h
  | cons n l ih =>
    intro e t h
    refine ih (e := e.del n) (t := Trie.put none (n + 1) t n) ?_
    funext s
    rw [Env.get_del, Trie.get_put _ _ _ _ _ (Nat.lt_succ_self n), h]

theorem EqE.wanted {e : Env} {t : FEnv} (h : EqE e t) (g : Option (Nat × Bool)) : wantedI e g = wantedF t g := by
  cases g with
  | none => rfl
  | some x => obtain ⟨n, w⟩ := x; have h : e.get = t.get := h; simp only [wantedI, wantedF, h]; rfl

theorem EqE.op {e : Env} {t : FEnv} (h : EqE e t) (call : CallI) (lo : Nat) (o : IOp) (H : AHeap) : opI call lo o e H = opF call lo o t H := by
  unfold EqE at h
  cases o <;> simp only [opI, opF] <;> first
    | (rw [← h, evalsG_eq]; done)
    | (rw [← h, evalsG_eq]; rfl)
    | (rw [← h, evalG_eq, evalsG_eq]; rfl)
    | (rw [← h, aopG_eq])

theorem EqE.item {e : Env} {t : FEnv} (h : EqE e t) (call : CallI) (lo : Nat) (x : Item) (H : AHeap) {t' : FEnv} {H' : AHeap} (hs : itemF call lo x t H = some (t', H')) : ∃ e', itemI call lo x e H = some (e', H') ∧ EqE e' t' := by
  unfold itemF at hs
  unfold itemI
  rw [h.wanted, h.op]
  split at hs
  · cases hs
  · rename_i hw; cases hs; exact ⟨_, by rw [hw], h.putD _ _⟩
  · rename_i hw
    split at hs
    · rename_i v H1 ho; cases hs; exact ⟨_, by rw [hw, ho], h.putD _ _⟩
    · rename_i H1 ho; cases hs; exact ⟨_, by rw [hw, ho], h.putD _ _⟩
    · cases hs

theorem EqE.reOk {e : Env} {t : FEnv} (h : EqE e t) (lo : Nat) (H : AHeap) : ∀ (l : List (Nat × IOp × Option (Nat × Bool))), reOk lo e H l = reOkF lo t H l := by
  intro l
  induction l with
  | nil => rfl
  | cons x l ih =>
    obtain ⟨n, o, g⟩ := x
    have he : e.get = t.get := h
    simp only [RI.reOk, reOkF, ih, h.wanted]
    rw [← he, aopG_eq, dynG_eq]
    rfl

theorem items_F {call call' : CallI} (hc : LeC call' call) {lo : Nat} : ∀ {xs : List Item} {e : Env} {t : FEnv} {H : AHeap} {t' : FEnv} {H' : AHeap}, EqE e t → itemsF call' lo xs t H = some (t', H') → ∃ e', itemsI call lo xs e H = some (e', H') ∧ EqE e' t' := by
  intro xs
  induction xs with
  | nil => intro e t H t' H' h hs; simp only [itemsF] at hs; cases hs; exact ⟨e, rfl, h⟩
  | cons x xs ih =>
    intro e t H t' H' h hs
    simp only [itemsF] at hs
    split at hs
    · rename_i t1 H1 hi
      split at hs
      · rename_i hre
        have heq0 := h
        obtain ⟨e1, h1, h2⟩ := h.item call' lo x H hi
        obtain ⟨e2, h3, h4⟩ := ih h2 hs
        refine ⟨e2, ?_, h4⟩
        simp only [itemsI]
        rw [itemI_mono hc h1]
        simp only
        have hre2 : (skipI call' x.op || (keepI H1 x.op x.re e e1 || reOkF lo t1 H1 x.re)) = true := by
          rw [Bool.or_eq_true] at hre ⊢
          rcases hre with hre | hre
          · exact .inl hre
          · right
            have he1 : e.get = t.get := heq0
            have he2 : e1.get = t1.get := h2
            rw [← keepG_eq, he1, he2]; exact hre
        rw [h2.reOk, ← hc.skip, hre2]
        simpa using h3
      · cases hs
    · cases hs

theorem init_F : ∀ (args : List AVal) (k : Nat) (e : Env) (t : FEnv), EqE e t → (∀ s v, e.get s = some v → s < k) → ∃ e', EqE e' (initF k args t) ∧ ∀ s, e'.get s = if s < k then e.get s else (initEnv k args).get s := by
  intro args
  induction args with
  | nil => intro k e t h hk; exact ⟨e, h, fun s => by
      split
      · rfl
      · rename_i hs
        simp only [initEnv, Env.get]
        cases hg : e.get s with
        | none => rfl
        | some v => exact absurd (hk s v hg) hs⟩
  | cons v args ih =>
    intro k e t h hk
    obtain ⟨e', h1, h2⟩ := ih (k + 1) (e.put k v) (t.put k v) (h.put k v) (fun s u hs => by
      rw [Env.get_put] at hs
      split at hs
      · omega
      · have := hk s u hs; omega)
    refine ⟨e', h1, fun s => ?_⟩
    rw [h2 s, Env.get_put]
    simp only [initEnv, Env.get]
    by_cases hs : s = k
    · subst hs; rw [if_pos (by omega), if_pos rfl, if_neg (by omega), if_pos rfl]
    · by_cases hlt : s < k
      · rw [if_pos (by omega), if_neg hs, if_pos hlt]
      · rw [if_neg (by omega), if_neg hlt, if_neg (by omega)]

theorem init_E (args : List AVal) : EqE (initEnv 0 args) (initF 0 args .e) := by
  obtain ⟨e', h1, h2⟩ := init_F args 0 [] .e (by funext s; rfl) (fun s v h => by simp [Env.get] at h)
  unfold EqE at *
  rw [← h1]
  funext s
  rw [h2 s, if_neg (by omega)]

theorem res_F {e : Env} {t : FEnv} (h : EqE e t) (H : AHeap) : ∀ l, resI e H l = resF t H l := by
  intro l
  have he : e.get = t.get := h
  induction l with
  | nil => rfl
  | cons x l ih =>
    cases x with
    | t n => simp only [resI, resF, he, ih]; rfl
    | c n k => simp only [resI, resF, he, ih]; rfl

theorem body_F {x : ExI} {x' : Nat → ICode → FEnv → AHeap → Option (AExit × FEnv × AHeap)} (hx : ∀ lo c e t H y t' H', EqE e t → x' lo c t H = some (y, t', H') → ∃ e', x lo c e H = some (y, e', H') ∧ EqE e' t') {fn : IFunc} {lo : Nat} {args : List AVal} {H : AHeap} {r : AVal × AHeap}
    (h : bodyF x' fn lo args H = some r) : bodyI x fn lo args H = some r := by
  unfold bodyF at h
  unfold bodyI
  split at h
  · rename_i hl
    rw [if_pos hl]
    split at h
    · cases h
    · rename_i y t' H' hne he
      obtain ⟨e', h1, h2⟩ := hx _ _ _ _ _ _ _ _ (init_E args) he
      rw [h1]
      cases y with
      | exit id => exact (hne id rfl).elim
      | normal => simp only; rw [res_F h2]; exact h
      | ret => simp only; rw [res_F h2]; exact h
    · cases h
  · cases h

theorem exec_F {T : Trie IFunc} {IP : FuncId → Option IFunc} (hT : ∀ f, T.get f = IP f) {G : AHeap} : ∀ (f lo : Nat) (c : ICode) (e : Env) (t : FEnv) (H : AHeap) (y : AExit) (t' : FEnv) (H' : AHeap), EqE e t → execF T G f lo c t H = some (y, t', H') →
    ∃ e', exec IP G f lo c e H = some (y, e', H') ∧ EqE e' t' := by
  intro f
  induction f with
  | zero => intro lo c e t H y t' H' _ h; simp [execF] at h
  | succ f ih =>
    intro lo c e t H y t' H' heq h
    cases c <;> rw [exec]
    case skip => simp only [execF] at h; cases h; exact ⟨e, rfl, heq⟩
    case region items kill =>
      · simp only [execF] at h
        split at h
        · rename_i t1 H1 hi
          cases h
          have hle : LeC (tabF T G (execF T G f) lo) (callI (exec IP G f) IP G lo) := by
            refine ⟨?_, ?_⟩
            intro g args H r hr
            simp only [tabF, tabFB] at hr
            split at hr
            · rename_i fn hg
              simp only [callI, callB]
              rw [← hT g, hg]
              simp only
              split at hr
              · rename_i hm
                simp only [hm]
                exact body_F ih hr
              · rename_i hm
                simp only [hm]
                exact body_F ih hr
              · rename_i hm
                simp only [hm]
                split at hr
                · rename_i args' ha
                  split at hr
                  · rename_i v H1 hb
                    split at hr
                    · rename_i v' hfz
                      cases hr
                      rw [ha]
                      simp only [body_F ih hb, hfz]
                    · cases hr
                  · cases hr
                · cases hr
              · rename_i hm
                simp only [hm]
                split at hr
                · rename_i v H1 hb
                  rw [body_F ih hb]
                  exact hr
                · cases hr
              · rename_i m hm0 hm1 hm2 hm3
                obtain ⟨k, hk⟩ : ∃ k, fn.mode = k + 4 := ⟨fn.mode - 4, by have a0 : ¬ fn.mode = 0 := hm0; have a1 : ¬ fn.mode = 1 := hm1; have a2 : ¬ fn.mode = 2 := hm2; have a3 : ¬ fn.mode = 3 := hm3; omega⟩
                rw [hk]
                exact hr
            · cases hr
            funext g
            simp only [tabF, callI, pureB]
            rw [← hT g]
            rfl
          obtain ⟨e1, h1, h2⟩ := items_F hle heq hi
          rw [h1]
          exact ⟨_, rfl, h2.kill kill⟩
        · cases h
    case seq a b =>
      simp only [execF] at h
      split at h
      · rename_i t1 H1 ha
        obtain ⟨e1, h1, h2⟩ := ih _ _ _ _ _ _ _ _ heq ha
        rw [h1]; exact ih _ _ _ _ _ _ _ _ h2 h
      · rename_i hne
        obtain ⟨e1, h1, h2⟩ := ih _ _ _ _ _ _ _ _ heq h
        rw [h1]
        cases y with
        | normal => exact (hne _ _ h).elim
        | exit id => exact ⟨e1, rfl, h2⟩
        | ret => exact ⟨e1, rfl, h2⟩
    case cond c a b =>
      simp only [execF] at h
      have he : e.get = t.get := heq
      rw [← he, evalG_eq] at h
      split at h
      · rename_i hv; rw [hv]; exact ih _ _ _ _ _ _ _ _ heq h
      · rename_i hv; rw [hv]; exact ih _ _ _ _ _ _ _ _ heq h
      · cases h
    case block id b =>
      simp only [execF] at h
      split at h
      · rename_i id' t1 H1 hb
        obtain ⟨e1, h1, h2⟩ := ih _ _ _ _ _ _ _ _ heq hb
        rw [h1]
        simp only
        split at h
        · rename_i hid; cases h; exact ⟨e1, by rw [if_pos hid], h2⟩
        · rename_i hid; cases h; exact ⟨e1, by rw [if_neg hid], h2⟩
      · rename_i hne
        obtain ⟨e1, h1, h2⟩ := ih _ _ _ _ _ _ _ _ heq h
        rw [h1]
        cases y with
        | normal => exact ⟨e1, rfl, h2⟩
        | exit id => exact (hne _ _ _ h).elim
        | ret => exact ⟨e1, rfl, h2⟩
    case loop b =>
      simp only [execF] at h
      split at h
      · rename_i t1 H1 ha
        obtain ⟨e1, h1, h2⟩ := ih _ _ _ _ _ _ _ _ heq ha
        rw [h1]; exact ih _ _ _ _ _ _ _ _ h2 h
      · rename_i hne
        obtain ⟨e1, h1, h2⟩ := ih _ _ _ _ _ _ _ _ heq h
        rw [h1]
        cases y with
        | normal => exact (hne _ _ h).elim
        | exit id => exact ⟨e1, rfl, h2⟩
        | ret => exact ⟨e1, rfl, h2⟩
    case exit id => simp only [execF] at h; cases h; exact ⟨e, rfl, heq⟩
    case ret => simp only [execF] at h; cases h; exact ⟨e, rfl, heq⟩

theorem call_F {T : Trie IFunc} {IP : FuncId → Option IFunc} (hT : ∀ f, T.get f = IP f) {G : AHeap} {f lo : Nat} {g : FuncId} {args : List AVal} {H : AHeap} {r : AVal × AHeap} (h : callF T G f lo g args H = some r) : acall IP G f lo g args H = some r := by
  simp only [callF, tabF, tabFB] at h
  simp only [acall, callI, callB]
  split at h
  · rename_i fn hg
    rw [← hT g, hg]
    simp only
    split at h
    · rename_i hm
      simp only [hm]
      exact body_F (exec_F hT f) h
    · rename_i hm
      simp only [hm]
      exact body_F (exec_F hT f) h
    · rename_i hm
      simp only [hm]
      split at h
      · rename_i args' ha
        split at h
        · rename_i v H1 hb
          split at h
          · rename_i v' hfz
            cases h
            rw [ha]
            simp only [body_F (exec_F hT f) hb, hfz]
          · cases h
        · cases h
      · cases h
    · rename_i hm
      simp only [hm]
      split at h
      · rename_i v H1 hb
        rw [body_F (exec_F hT f) hb]
        exact h
      · cases h
    · rename_i m hm0 hm1 hm2 hm3
      obtain ⟨k, hk⟩ : ∃ k, fn.mode = k + 4 := ⟨fn.mode - 4, by have a0 : ¬ fn.mode = 0 := hm0; have a1 : ¬ fn.mode = 1 := hm1; have a2 : ¬ fn.mode = 2 := hm2; have a3 : ¬ fn.mode = 3 := hm3; omega⟩
      rw [hk]
      exact h
  · cases h

/-! ### The same by the recursors themselves: the kernel runs these -/
noncomputable def bindO {α β : Type} (o : Option α) (k : α → Option β) : Option β := @Option.rec α (fun _ => Option β) none k o
theorem bindO_eq {α β : Type} (o : Option α) (k : α → Option β) : bindO o k = match o with | some a => k a | none => none := by cases o <;> rfl

noncomputable def evalK (t : FEnv) (x : Opd) : Option AVal := @Opd.rec (fun _ => Option AVal) (fun n => t.get n) (fun v => some v) (fun n => some (.p n 0)) (fun n => some (.fn (.func n) [] [])) x
theorem evalK_eq (t : FEnv) (x : Opd) : evalK t x = x.evalG t.get := by cases x <;> rfl

noncomputable def evalsK (t : FEnv) (l : List Opd) : Option (List AVal) := @List.rec Opd (fun _ => Option (List AVal)) (some []) (fun x _ ih => bindO (evalK t x) fun v => bindO ih fun vs => some (v :: vs)) l
theorem evalsK_eq (t : FEnv) (l : List Opd) : evalsK t l = evalsG t.get l := by
  induction l with
  | nil => rfl
  | cons x l ih =>
    show (bindO (evalK t x) fun v => bindO (evalsK t l) fun vs => some (v :: vs)) = _
    rw [ih, evalK_eq]
    simp only [bindO_eq, evalsG]
    rcases x.evalG t.get with _ | v
    · rfl
    · rcases evalsG t.get l with _ | vs <;> rfl

noncomputable def wantedK (t : FEnv) (g : Option (Nat × Bool)) : Option Bool := @Option.rec (Nat × Bool) (fun _ => Option Bool) (some true) (fun x => bindO (t.get x.1) fun v => match v with | .b b => some (b == x.2) | _ => some false) g
theorem wantedK_eq (t : FEnv) (g : Option (Nat × Bool)) : wantedK t g = wantedF t g := by
  cases g with
  | none => rfl
  | some x =>
    obtain ⟨n, w⟩ := x
    show (bindO (t.get n) fun v => match v with | .b b => some (b == w) | _ => some false) = _
    simp only [wantedF, bindO_eq]
    rcases t.get n with _ | v
    · rfl
    · cases v <;> rfl

noncomputable def putK (t : FEnv) (d : Option Nat) (v : AVal) : FEnv := @Option.rec Nat (fun _ => FEnv) t (fun n => Trie.put (some v) (Nat.succ n) t n) d
theorem putK_eq (t : FEnv) (d : Option Nat) (v : AVal) : putK t d v = putF t d v := by cases d <;> rfl

noncomputable def callOpK (call : FuncId → List AVal → AHeap → Option (AVal × AHeap)) (t : FEnv) (H : AHeap) (f : FuncId) (args : List Opd) : Option (Option AVal × AHeap) := bindO (evalsK t args) fun vs => bindO (call f vs H) fun r => some (some r.1, r.2)
noncomputable def callvOpK (call : FuncId → List AVal → AHeap → Option (AVal × AHeap)) (t : FEnv) (H : AHeap) (x : Opd) (args : List Opd) : Option (Option AVal × AHeap) := bindO (evalK t x) fun v => match v with
  | .fn (.func f) fst cap => bindO (evalsK t args) fun vs => bindO (call f (fst ++ vs ++ cap) H) fun r => some (some r.1, r.2)
  | _ => none
noncomputable def tblGetK (l : List (Nat × FuncId)) (k : Nat) : Option FuncId := @List.rec (Nat × FuncId) (fun _ => Option FuncId) none (fun p _ ih => @Bool.rec (fun _ => Option FuncId) ih (some p.2) (Nat.beq p.1 k)) l
theorem tblGetK_eq (l : List (Nat × FuncId)) (k : Nat) : tblGetK l k = tblGet l k := by
  induction l with
  | nil => rfl
  | cons p l ih =>
    obtain ⟨a, f⟩ := p
    show @Bool.rec (fun _ => Option FuncId) (tblGetK l k) (some f) (Nat.beq a k) = _
    simp only [tblGet, ih]
    by_cases h : a = k
    · subst h; rw [if_pos rfl, show Nat.beq a a = true from Nat.beq_refl a]
    · rw [if_neg h]
      cases hb : Nat.beq a k with
      | false => rfl
      | true => exact absurd (Nat.eq_of_beq_eq_true hb) h
noncomputable def invOpK (call : FuncId → List AVal → AHeap → Option (AVal × AHeap)) (t : FEnv) (H : AHeap) (x : Opd) (tbl : List (Nat × FuncId)) (args : List Opd) : Option (Option AVal × AHeap) := bindO (evalK t x) fun v => match v with
  | .ifc ty v => bindO (tblGetK tbl ty) fun f => bindO (evalsK t args) fun vs => bindO (call f (v :: vs) H) fun r => some (some r.1, r.2)
  | _ => none
noncomputable def D_appz (lo : Nat) (esz : Nat) (bytes : Nat) (z : List AVal) (x : Opd) (y : Opd) (t : FEnv) (H : AHeap) : Option (Option AVal × AHeap) :=
  match evalK t x, evalK t y with
    | some a, some (.i _ k) => (appzV lo H esz bytes z a k).map fun (v, H') => (some v, H')
    | _, _ => none
theorem D_appz_eq' (lo : Nat) (esz : Nat) (bytes : Nat) (z : List AVal) (x : Opd) (y : Opd) (t : FEnv) (H : AHeap) : D_appz lo esz bytes z x y t H = aopG lo (.appz esz bytes z x y) t.get H := by
  simp only [D_appz, aopG, evalK_eq]
noncomputable def movK (t : FEnv) (H : AHeap) (x : Opd) : Option (Option AVal × AHeap) := bindO (evalK t x) fun v => some (some v, H)
noncomputable def extK (t : FEnv) (H : AHeap) (x : Opd) (k : Nat) : Option (Option AVal × AHeap) := bindO (evalK t x) fun v => bindO (extV k v) fun u => some (some u, H)
noncomputable def loadK (t : FEnv) (H : AHeap) (n : Option Nat) (x : Opd) : Option (Option AVal × AHeap) := bindO (evalK t x) fun v => bindO (loadV H n v) fun u => some (some u, H)
noncomputable def binK (t : FEnv) (H : AHeap) (op : BinOp) (x y : Opd) : Option (Option AVal × AHeap) := bindO (evalK t x) fun v => bindO (evalK t y) fun u => bindO (binV op v u) fun u => some (some u, H)

noncomputable def pureK (H : AHeap) (v : Option AVal) : Option (Option AVal × AHeap) := v.map fun v => (some v, H)
noncomputable def ltK {α : Type} (m n : Nat) (a b : α) : α := @Bool.rec (fun _ => α) b a (Nat.ble (Nat.succ m) n)
theorem ltK_eq {α : Type} (m n : Nat) (a b : α) : ltK m n a b = if m < n then a else b := by
  unfold ltK
  by_cases h : m < n
  · rw [if_pos h, show Nat.ble (Nat.succ m) n = true from Nat.ble_eq.mpr h]
  · rw [if_neg h]
    cases hb : Nat.ble (Nat.succ m) n with
    | false => rfl
    | true => exact absurd (Nat.ble_eq.mp hb) h
noncomputable def D_pick (lo : Nat) (c : Opd) (a : Opd) (b : Opd) (t : FEnv) (H : AHeap) : Option (Option AVal × AHeap) :=
  match evalK t c with
    | some (.b true) => pureK H (evalK t a)
    | some (.b false) => pureK H (evalK t b)
    | _ => none
theorem D_pick_eq (lo : Nat) (c : Opd) (a : Opd) (b : Opd) (t : FEnv) (H : AHeap) : D_pick lo c a b t H = aopG lo (.pick c a b) t.get H := by
  simp only [D_pick, aopG, evalK_eq, evalsK_eq, pureK]
noncomputable def D_eqB (lo : Nat) (neg : Bool) (x : Opd) (y : Opd) (t : FEnv) (H : AHeap) : Option (Option AVal × AHeap) :=
  match evalK t x, evalK t y with
    | some (.b a), some (.b b) => pureK H (some (.b (if neg then !(a == b) else a == b)))
    | _, _ => none
theorem D_eqB_eq (lo : Nat) (neg : Bool) (x : Opd) (y : Opd) (t : FEnv) (H : AHeap) : D_eqB lo neg x y t H = aopG lo (.eqB neg x y) t.get H := by
  simp only [D_eqB, aopG, evalK_eq, evalsK_eq, pureK]
noncomputable def D_eqNil (lo : Nat) (k : Nat) (neg : Bool) (x : Opd) (y : Opd) (t : FEnv) (H : AHeap) : Option (Option AVal × AHeap) :=
  match evalK t x, evalK t y with
    | some a, some b => pureK H ((eqNilV k a b).map fun r => .b (if neg then !r else r))
    | _, _ => none
theorem D_eqNil_eq (lo : Nat) (k : Nat) (neg : Bool) (x : Opd) (y : Opd) (t : FEnv) (H : AHeap) : D_eqNil lo k neg x y t H = aopG lo (.eqNil k neg x y) t.get H := by
  simp only [D_eqNil, aopG, evalK_eq, evalsK_eq, pureK]
noncomputable def D_eqAg (lo : Nat) (ks : List Nat) (neg : Bool) (x : Opd) (y : Opd) (t : FEnv) (H : AHeap) : Option (Option AVal × AHeap) :=
  match evalK t x, evalK t y with
    | some (.ag a), some (.ag b) => pureK H ((eqCells ks a b).map fun r => .b (if neg then !r else r))
    | _, _ => none
theorem D_eqAg_eq (lo : Nat) (ks : List Nat) (neg : Bool) (x : Opd) (y : Opd) (t : FEnv) (H : AHeap) : D_eqAg lo ks neg x y t H = aopG lo (.eqAg ks neg x y) t.get H := by
  simp only [D_eqAg, aopG, evalK_eq, evalsK_eq, pureK]
noncomputable def D_un (lo : Nat) (op : UnOp) (x : Opd) (t : FEnv) (H : AHeap) : Option (Option AVal × AHeap) :=
  pureK H ((evalK t x).bind (unV op))
theorem D_un_eq (lo : Nat) (op : UnOp) (x : Opd) (t : FEnv) (H : AHeap) : D_un lo op x t H = aopG lo (.un op x) t.get H := by
  simp only [D_un, aopG, evalK_eq, evalsK_eq, pureK]
noncomputable def D_conv (lo : Nat) (k : IntKind) (x : Opd) (t : FEnv) (H : AHeap) : Option (Option AVal × AHeap) :=
  match evalK t x with
    | some (.i _ n) => pureK H (some (.i k (wrapI k n)))
    | _ => none
theorem D_conv_eq (lo : Nat) (k : IntKind) (x : Opd) (t : FEnv) (H : AHeap) : D_conv lo k x t H = aopG lo (.conv k x) t.get H := by
  simp only [D_conv, aopG, evalK_eq, evalsK_eq, pureK]
noncomputable def D_same (lo : Nat) (x : Opd) (t : FEnv) (H : AHeap) : Option (Option AVal × AHeap) :=
  match evalK t x with
    | some (.s v) => pureK H (some (.s v))
    | _ => none
theorem D_same_eq (lo : Nat) (x : Opd) (t : FEnv) (H : AHeap) : D_same lo x t H = aopG lo (.same x) t.get H := by
  simp only [D_same, aopG, evalK_eq, evalsK_eq, pureK]
noncomputable def D_alloc (lo : Nat) (z : List AVal) (t : FEnv) (H : AHeap) : Option (Option AVal × AHeap) :=
  some (some (.p H.next 0), H.push (.cells z 1 false))
theorem D_alloc_eq (lo : Nat) (z : List AVal) (t : FEnv) (H : AHeap) : D_alloc lo z t H = aopG lo (.alloc z) t.get H := by
  simp only [D_alloc, aopG, evalK_eq, evalsK_eq, pureK]
noncomputable def D_box (lo : Nat) (x : Opd) (t : FEnv) (H : AHeap) : Option (Option AVal × AHeap) :=
  match evalK t x with
    | some v => if v.tup = false then some (some (.p H.next 0), H.push (.cells v.cells 1 false)) else none
    | none => none
theorem D_box_eq (lo : Nat) (x : Opd) (t : FEnv) (H : AHeap) : D_box lo x t H = aopG lo (.box x) t.get H := by
  simp only [D_box, aopG, evalK_eq, evalsK_eq, pureK]
noncomputable def D_build (lo : Nat) (z : List AVal) (parts : List (Nat × Nat × Opd)) (t : FEnv) (H : AHeap) : Option (Option AVal × AHeap) :=
  match evalPartsG t.get parts with
    | some ps => pureK H ((fillA z ps).map .ag)
    | none => none
theorem D_build_eq (lo : Nat) (z : List AVal) (parts : List (Nat × Nat × Opd)) (t : FEnv) (H : AHeap) : D_build lo z parts t H = aopG lo (.build z parts) t.get H := by
  simp only [D_build, aopG, evalK_eq, evalsK_eq, pureK]
noncomputable def D_bsl (lo : Nat) (esz : Nat) (len : Nat) (z : List AVal) (parts : List (Nat × Nat × Opd)) (t : FEnv) (H : AHeap) : Option (Option AVal × AHeap) :=
  match evalPartsG t.get parts with
    | some ps => match fillA z ps with
      | some cs => some (some (.sl H.next 0 len (some len)), H.push (.cells cs esz false))
      | none => none
    | none => none
theorem D_bsl_eq (lo : Nat) (esz : Nat) (len : Nat) (z : List AVal) (parts : List (Nat × Nat × Opd)) (t : FEnv) (H : AHeap) : D_bsl lo esz len z parts t H = aopG lo (.bsl esz len z parts) t.get H := by
  simp only [D_bsl, aopG, evalK_eq, evalsK_eq, pureK]
noncomputable def D_store (lo : Nat) (n : Nat) (x : Opd) (v : Opd) (t : FEnv) (H : AHeap) : Option (Option AVal × AHeap) :=
  match evalK t x, evalK t v with
    | some a, some v => (storeV lo H n a v).map fun H' => (none, H')
    | _, _ => none
theorem D_store_eq (lo : Nat) (n : Nat) (x : Opd) (v : Opd) (t : FEnv) (H : AHeap) : D_store lo n x v t H = aopG lo (.store n x v) t.get H := by
  simp only [D_store, aopG, evalK_eq, evalsK_eq, pureK]
noncomputable def D_nck (lo : Nat) (x : Opd) (t : FEnv) (H : AHeap) : Option (Option AVal × AHeap) :=
  match evalK t x with
    | some (.p id off) => pureK H (some (.p id off))
    | some (.fn (.func f) a c) => pureK H (some (.fn (.func f) a c))
    | some (.ifc t v) => pureK H (some (.ifc t v))
    | some (.fp l) => pureK H (some (.fp l))
    | _ => none
theorem D_nck_eq (lo : Nat) (x : Opd) (t : FEnv) (H : AHeap) : D_nck lo x t H = aopG lo (.nck x) t.get H := by
  simp only [D_nck, aopG, evalK_eq, evalsK_eq, pureK]
noncomputable def D_off (lo : Nat) (x : Opd) (k : Nat) (t : FEnv) (H : AHeap) : Option (Option AVal × AHeap) :=
  pureK H ((evalK t x).bind (offV k))
theorem D_off_eq (lo : Nat) (x : Opd) (k : Nat) (t : FEnv) (H : AHeap) : D_off lo x k t H = aopG lo (.off x k) t.get H := by
  simp only [D_off, aopG, evalK_eq, evalsK_eq, pureK]
noncomputable def D_part (lo : Nat) (n : Option Nat) (x : Opd) (off : Nat) (t : FEnv) (H : AHeap) : Option (Option AVal × AHeap) :=
  pureK H ((evalK t x).bind (partV n off))
theorem D_part_eq (lo : Nat) (n : Option Nat) (x : Opd) (off : Nat) (t : FEnv) (H : AHeap) : D_part lo n x off t H = aopG lo (.part n x off) t.get H := by
  simp only [D_part, aopG, evalK_eq, evalsK_eq, pureK]
noncomputable def D_iaddr (lo : Nat) (esz : Nat) (x : Opd) (i : Opd) (t : FEnv) (H : AHeap) : Option (Option AVal × AHeap) :=
  match evalK t x, evalK t i with
    | some a, some b => pureK H (iaddrV esz a b)
    | _, _ => none
theorem D_iaddr_eq (lo : Nat) (esz : Nat) (x : Opd) (i : Opd) (t : FEnv) (H : AHeap) : D_iaddr lo esz x i t H = aopG lo (.iaddr esz x i) t.get H := by
  simp only [D_iaddr, aopG, evalK_eq, evalsK_eq, pureK]
noncomputable def D_iaddrA (lo : Nat) (esz : Nat) (len : Nat) (x : Opd) (i : Opd) (t : FEnv) (H : AHeap) : Option (Option AVal × AHeap) :=
  match evalK t x, evalK t i with
    | some a, some b => pureK H (iaddrAV esz len a b)
    | _, _ => none
theorem D_iaddrA_eq (lo : Nat) (esz : Nat) (len : Nat) (x : Opd) (i : Opd) (t : FEnv) (H : AHeap) : D_iaddrA lo esz len x i t H = aopG lo (.iaddrA esz len x i) t.get H := by
  simp only [D_iaddrA, aopG, evalK_eq, evalsK_eq, pureK]
noncomputable def D_idxS (lo : Nat) (x : Opd) (i : Opd) (t : FEnv) (H : AHeap) : Option (Option AVal × AHeap) :=
  match evalK t x, evalK t i with
    | some a, some b => pureK H (idxSV a b)
    | _, _ => none
theorem D_idxS_eq (lo : Nat) (x : Opd) (i : Opd) (t : FEnv) (H : AHeap) : D_idxS lo x i t H = aopG lo (.idxS x i) t.get H := by
  simp only [D_idxS, aopG, evalK_eq, evalsK_eq, pureK]
noncomputable def D_idxA (lo : Nat) (n : Option Nat) (esz : Nat) (len : Nat) (x : Opd) (i : Opd) (t : FEnv) (H : AHeap) : Option (Option AVal × AHeap) :=
  match evalK t x, evalK t i with
    | some a, some b => pureK H (idxAV n esz len a b)
    | _, _ => none
theorem D_idxA_eq (lo : Nat) (n : Option Nat) (esz : Nat) (len : Nat) (x : Opd) (i : Opd) (t : FEnv) (H : AHeap) : D_idxA lo n esz len x i t H = aopG lo (.idxA n esz len x i) t.get H := by
  simp only [D_idxA, aopG, evalK_eq, evalsK_eq, pureK]
noncomputable def D_mkf (lo : Nat) (f : FuncId) (fst : List Opd) (cap : List Opd) (t : FEnv) (H : AHeap) : Option (Option AVal × AHeap) :=
  match evalsK t fst, evalsK t cap with
    | some a, some c => pureK H (some (.fn (.func f) a c))
    | _, _ => none
theorem D_mkf_eq (lo : Nat) (f : FuncId) (fst : List Opd) (cap : List Opd) (t : FEnv) (H : AHeap) : D_mkf lo f fst cap t H = aopG lo (.mkf f fst cap) t.get H := by
  simp only [D_mkf, aopG, evalK_eq, evalsK_eq, pureK]
noncomputable def D_mksl (lo : Nat) (esz : Nat) (bytes : Nat) (z : List AVal) (l : Opd) (c : Opd) (t : FEnv) (H : AHeap) : Option (Option AVal × AHeap) :=
  match evalK t l, evalK t c with
    | some (.i _ n), some (.i _ m) =>
      if 0 ≤ n ∧ n ≤ m ∧ bytes * m ≤ 281474976710656 ∧ 0 < bytes then some (some (.sl H.next 0 n.toNat (some m.toNat)), H.push (.cells (repCells z m.toNat) esz false)) else none
    | _, _ => none
theorem D_mksl_eq (lo : Nat) (esz : Nat) (bytes : Nat) (z : List AVal) (l : Opd) (c : Opd) (t : FEnv) (H : AHeap) : D_mksl lo esz bytes z l c t H = aopG lo (.mksl esz bytes z l c) t.get H := by
  simp only [D_mksl, aopG, evalK_eq, evalsK_eq, pureK]
noncomputable def D_slS (lo : Nat) (x : Opd) (l0 : Option Opd) (hi : Option Opd) (t : FEnv) (H : AHeap) : Option (Option AVal × AHeap) :=
  match evalK t x, optIG t.get l0, optIG t.get hi with
    | some (.s v), some l, some h => pureK H (slSV v l h)
    | _, _, _ => none
theorem D_slS_eq (lo : Nat) (x : Opd) (l0 : Option Opd) (hi : Option Opd) (t : FEnv) (H : AHeap) : D_slS lo x l0 hi t H = aopG lo (.slS x l0 hi) t.get H := by
  simp only [D_slS, aopG, evalK_eq, evalsK_eq, pureK]
noncomputable def D_sl (lo : Nat) (esz : Nat) (x : Opd) (l0 : Option Opd) (hi : Option Opd) (mx : Option Opd) (t : FEnv) (H : AHeap) : Option (Option AVal × AHeap) :=
  match evalK t x, optIG t.get l0, optIG t.get hi, optIG t.get mx with
    | some v, some l, some h, some m => (slV esz H v l h m).map fun (v, H') => (some v, H')
    | _, _, _, _ => none
theorem D_sl_eq (lo : Nat) (esz : Nat) (x : Opd) (l0 : Option Opd) (hi : Option Opd) (mx : Option Opd) (t : FEnv) (H : AHeap) : D_sl lo esz x l0 hi mx t H = aopG lo (.sl esz x l0 hi mx) t.get H := by
  simp only [D_sl, aopG, evalK_eq, evalsK_eq, pureK]
noncomputable def D_slq (lo : Nat) (esz : Nat) (x : Opd) (l0 : Option Opd) (hi : Option Opd) (mx : Option Opd) (t : FEnv) (H : AHeap) : Option (Option AVal × AHeap) :=
  match evalK t x, optIG t.get l0, optIG t.get hi, optIG t.get mx with
    | some v, some l, some h, some m => match slV esz H v l h m with
      | some (v', H') => if H'.next = H.next ∧ (isFs v = true → m.isSome ∨ l.getD 0 = 0 ∨ isFs0 v' = false) then some (some v', H) else if dynS v l h m = true then some (some v', H') else none
      | none => none
    | _, _, _, _ => none
theorem D_slq_eq (lo : Nat) (esz : Nat) (x : Opd) (l0 : Option Opd) (hi : Option Opd) (mx : Option Opd) (t : FEnv) (H : AHeap) : D_slq lo esz x l0 hi mx t H = aopG lo (.slq esz x l0 hi mx) t.get H := by
  simp only [D_slq, aopG, evalK_eq, evalsK_eq, pureK]
noncomputable def D_lenk (lo : Nat) (k : Nat) (x : Opd) (t : FEnv) (H : AHeap) : Option (Option AVal × AHeap) :=
  pureK H (((evalK t x).bind (lenV H k)).map fun (m : Nat) => AVal.i .i64 (m : Int))
theorem D_lenk_eq (lo : Nat) (k : Nat) (x : Opd) (t : FEnv) (H : AHeap) : D_lenk lo k x t H = aopG lo (.lenk k x) t.get H := by
  simp only [D_lenk, aopG, evalK_eq, evalsK_eq, pureK]
noncomputable def D_app (lo : Nat) (esz : Nat) (bytes : Nat) (x : Opd) (y : Opd) (t : FEnv) (H : AHeap) : Option (Option AVal × AHeap) :=
  match evalK t x, evalK t y with
    | some a, some b => (appV lo H esz bytes a b).map fun (v, H') => (some v, H')
    | _, _ => none
theorem D_app_eq (lo : Nat) (esz : Nat) (bytes : Nat) (x : Opd) (y : Opd) (t : FEnv) (H : AHeap) : D_app lo esz bytes x y t H = aopG lo (.app esz bytes x y) t.get H := by
  simp only [D_app, aopG, evalK_eq, evalsK_eq, pureK]
noncomputable def D_mm (lo : Nat) (mx : Bool) (x : Opd) (l : List Opd) (t : FEnv) (H : AHeap) : Option (Option AVal × AHeap) :=
  match evalK t x, evalsK t l with
    | some a, some l => pureK H (mmV mx a l)
    | _, _ => none
theorem D_mm_eq (lo : Nat) (mx : Bool) (x : Opd) (l : List Opd) (t : FEnv) (H : AHeap) : D_mm lo mx x l t H = aopG lo (.mm mx x l) t.get H := by
  simp only [D_mm, aopG, evalK_eq, evalsK_eq, pureK]
noncomputable def D_iface (lo : Nat) (ty : TypeId) (x : Opd) (t : FEnv) (H : AHeap) : Option (Option AVal × AHeap) :=
  pureK H ((evalK t x).map (.ifc ty))
theorem D_iface_eq (lo : Nat) (ty : TypeId) (x : Opd) (t : FEnv) (H : AHeap) : D_iface lo ty x t H = aopG lo (.iface ty x) t.get H := by
  simp only [D_iface, aopG, evalK_eq, evalsK_eq, pureK]
noncomputable def D_s2b (lo : Nat) (x : Opd) (t : FEnv) (H : AHeap) : Option (Option AVal × AHeap) :=
  match evalK t x with
    | some (.s v) => some (some (.sl H.next 0 v.length none), H.push (.cells (v.map fun b => .i .u8 b.toNat) 1 false))
    | _ => none
theorem D_s2b_eq (lo : Nat) (x : Opd) (t : FEnv) (H : AHeap) : D_s2b lo x t H = aopG lo (.s2b x) t.get H := by
  simp only [D_s2b, aopG, evalK_eq, evalsK_eq, pureK]
noncomputable def D_mkmap (lo : Nat)  (t : FEnv) (H : AHeap) : Option (Option AVal × AHeap) :=
  some (some (.m H.next), H.push (.map []))
theorem D_mkmap_eq (lo : Nat)  (t : FEnv) (H : AHeap) : D_mkmap lo  t H = aopG lo (.mkmap ) t.get H := by
  simp only [D_mkmap, aopG, evalK_eq, evalsK_eq, pureK]
noncomputable def D_mapup (lo : Nat) (ag : Bool) (ks : List Nat) (x : Opd) (k : Opd) (v : Opd) (t : FEnv) (H : AHeap) : Option (Option AVal × AHeap) :=
  match evalK t x, evalK t k, evalK t v with
    | some m, some k, some v => (mapupV lo H ag ks k v m).map fun H' => (none, H')
    | _, _, _ => none
theorem D_mapup_eq (lo : Nat) (ag : Bool) (ks : List Nat) (x : Opd) (k : Opd) (v : Opd) (t : FEnv) (H : AHeap) : D_mapup lo ag ks x k v t H = aopG lo (.mapup ag ks x k v) t.get H := by
  simp only [D_mapup, aopG, evalK_eq, evalsK_eq, pureK]
noncomputable def D_look (lo : Nat) (ag : Bool) (ks : List Nat) (z : AVal) (okf : Bool) (x : Opd) (k : Opd) (t : FEnv) (H : AHeap) : Option (Option AVal × AHeap) :=
  match evalK t x, evalK t k with
    | some m, some k => pureK H (lookV H ag ks z okf m k)
    | _, _ => none
theorem D_look_eq (lo : Nat) (ag : Bool) (ks : List Nat) (z : AVal) (okf : Bool) (x : Opd) (k : Opd) (t : FEnv) (H : AHeap) : D_look lo ag ks z okf x k t H = aopG lo (.look ag ks z okf x k) t.get H := by
  simp only [D_look, aopG, evalK_eq, evalsK_eq, pureK]
noncomputable def D_cpy (lo : Nat) (esz : Nat) (x : Opd) (y : Opd) (t : FEnv) (H : AHeap) : Option (Option AVal × AHeap) :=
  match evalK t x, evalK t y with
    | some a, some b => (cpyV lo H esz a b).map fun (v, H') => (some v, H')
    | _, _ => none
theorem D_cpy_eq (lo : Nat) (esz : Nat) (x : Opd) (y : Opd) (t : FEnv) (H : AHeap) : D_cpy lo esz x y t H = aopG lo (.cpy esz x y) t.get H := by
  simp only [D_cpy, aopG, evalK_eq, evalsK_eq, pureK]
noncomputable def opK (call : FuncId → List AVal → AHeap → Option (AVal × AHeap)) (lo : Nat) (o : IOp) (t : FEnv) (H : AHeap) : Option (Option AVal × AHeap) :=
  @IOp.rec (fun _ => (FuncId → List AVal → AHeap → Option (AVal × AHeap)) → Nat → FEnv → AHeap → Option (Option AVal × AHeap))
    (fun x _ _ t H => movK t H x)
    (fun c a b _ lo t H => D_pick lo c a b t H)
    (fun op x y _ _ t H => binK t H op x y)
    (fun neg x y _ lo t H => D_eqB lo neg x y t H)
    (fun k neg x y _ lo t H => D_eqNil lo k neg x y t H)
    (fun ks neg x y _ lo t H => D_eqAg lo ks neg x y t H)
    (fun op x _ lo t H => D_un lo op x t H)
    (fun k x _ lo t H => D_conv lo k x t H)
    (fun x _ lo t H => D_same lo x t H)
    (fun z _ lo t H => D_alloc lo z t H)
    (fun x _ lo t H => D_box lo x t H)
    (fun z parts _ lo t H => D_build lo z parts t H)
    (fun esz len z parts _ lo t H => D_bsl lo esz len z parts t H)
    (fun n x _ _ t H => loadK t H n x)
    (fun n x v _ lo t H => D_store lo n x v t H)
    (fun x _ lo t H => D_nck lo x t H)
    (fun x k _ lo t H => D_off lo x k t H)
    (fun n x off _ lo t H => D_part lo n x off t H)
    (fun esz x i _ lo t H => D_iaddr lo esz x i t H)
    (fun esz len x i _ lo t H => D_iaddrA lo esz len x i t H)
    (fun x i _ lo t H => D_idxS lo x i t H)
    (fun n esz len x i _ lo t H => D_idxA lo n esz len x i t H)
    (fun x k _ _ t H => extK t H x k)
    (fun f fst cap _ lo t H => D_mkf lo f fst cap t H)
    (fun esz bytes z l c _ lo t H => D_mksl lo esz bytes z l c t H)
    (fun x l0 hi _ lo t H => D_slS lo x l0 hi t H)
    (fun esz x l0 hi mx _ lo t H => D_sl lo esz x l0 hi mx t H)
    (fun esz x l0 hi mx _ lo t H => D_slq lo esz x l0 hi mx t H)
    (fun k x _ lo t H => D_lenk lo k x t H)
    (fun esz bytes x y _ lo t H => D_app lo esz bytes x y t H)
    (fun mx x l _ lo t H => D_mm lo mx x l t H)
    (fun ty x _ lo t H => D_iface lo ty x t H)
    (fun x _ lo t H => D_s2b lo x t H)
    (fun _ _ _ _ => none)
    (fun _ lo t H => D_mkmap lo t H)
    (fun ag ks x k v _ lo t H => D_mapup lo ag ks x k v t H)
    (fun ag ks z ok x k _ lo t H => D_look lo ag ks z ok x k t H)
    (fun esz x y _ lo t H => D_cpy lo esz x y t H)
    (fun f args call _ t H => callOpK call t H f args)
    (fun x args call _ t H => callvOpK call t H x args)
    (fun esz bytes z x y _ lo t H => D_appz lo esz bytes z x y t H)
    (fun x tbl args call _ t H => invOpK call t H x tbl args) o call lo t H
theorem opK_eq (call : CallI) (lo : Nat) (o : IOp) (t : FEnv) (H : AHeap) : opK call.call lo o t H = opF call lo o t H := by
  cases o <;> simp only [opK, opF, D_pick_eq, D_eqB_eq, D_eqNil_eq, D_eqAg_eq, D_un_eq, D_conv_eq, D_same_eq, D_alloc_eq, D_box_eq, D_build_eq, D_bsl_eq, D_store_eq, D_nck_eq, D_off_eq, D_part_eq, D_iaddr_eq, D_iaddrA_eq, D_idxS_eq, D_idxA_eq, D_mkf_eq, D_mksl_eq, D_slS_eq, D_sl_eq, D_slq_eq, D_lenk_eq, D_app_eq, D_mm_eq, D_iface_eq, D_s2b_eq, D_mkmap_eq, D_mapup_eq, D_look_eq, D_cpy_eq, D_appz_eq']
  case bad => rfl
  case call f args =>
    simp only [callOpK, bindO_eq, evalsK_eq]
    rcases evalsG t.get args with _ | vs
    · rfl
    · simp only; rcases call f vs H with _ | ⟨v, H'⟩ <;> rfl
  case callv x args =>
    simp only [callvOpK, bindO_eq, evalsK_eq, evalK_eq]
    rcases x.evalG t.get with _ | v
    · rfl
    · cases v <;> try rfl
      case fn f a c =>
        cases f <;> try rfl
        case func f =>
          simp only
          rcases evalsG t.get args with _ | vs
          · rfl
          · simp only; rcases call f (a ++ vs ++ c) H with _ | ⟨v, H'⟩ <;> rfl
  case inv x tbl args =>
    simp only [invOpK, bindO_eq, evalsK_eq, evalK_eq, tblGetK_eq]
    rcases x.evalG t.get with _ | v
    · rfl
    · cases v <;> try rfl
      case ifc ty v =>
        simp only
        rcases tblGet tbl ty with _ | f
        · rfl
        · rcases evalsG t.get args with _ | vs
          · rfl
          · simp only; rcases call f (v :: vs) H with _ | ⟨v, H'⟩ <;> rfl
  case mov x =>
    simp only [movK, bindO_eq, evalK_eq, aopG]
    rcases x.evalG t.get with _ | v <;> rfl
  case ext x k =>
    simp only [extK, bindO_eq, evalK_eq, aopG]
    rcases x.evalG t.get with _ | v
    · rfl
    · simp only [Option.bind_some]; rcases extV k v with _ | u <;> rfl
  case load n x =>
    simp only [loadK, bindO_eq, evalK_eq, aopG]
    rcases x.evalG t.get with _ | v
    · rfl
    · simp only [Option.bind_some]; rcases loadV H n v with _ | u <;> rfl
  case bin op x y =>
    simp only [binK, bindO_eq, evalK_eq, aopG]
    rcases x.evalG t.get with _ | v
    · rfl
    · rcases y.evalG t.get with _ | u
      · rfl
      · simp only; rcases binV op v u with _ | u <;> rfl

noncomputable def itemK (call : FuncId → List AVal → AHeap → Option (AVal × AHeap)) (lo : Nat) (x : Item) (t : FEnv) (H : AHeap) : Option (FEnv × AHeap) :=
  bindO (wantedK t x.guard) fun b => @Bool.rec (fun _ => Option (FEnv × AHeap)) (some (putK t x.dst (.tu []), H))
    (bindO (opK call lo x.op t H) fun r => some (putK t x.dst (@Option.rec AVal (fun _ => AVal) (.tu []) (fun v => v) r.1), r.2)) b
theorem itemK_eq (call : CallI) (lo : Nat) (x : Item) (t : FEnv) (H : AHeap) : itemK call.call lo x t H = itemF call lo x t H := by
  simp only [itemK, itemF, bindO_eq, wantedK_eq, opK_eq, putK_eq]
  rcases wantedF t x.guard with _ | b
  · rfl
  · cases b
    · rfl
    · simp only
      rcases opF call lo x.op t H with _ | ⟨v, H'⟩
      · rfl
      · cases v <;> rfl

noncomputable def reK (pu : FuncId → Bool) (o : IOp) (lo : Nat) (t0 t : FEnv) (H : AHeap) (l : List (Nat × IOp × Option (Nat × Bool))) : Bool := @List.rec (Nat × IOp × Option (Nat × Bool)) (fun _ => Bool) true (fun _ _ _ => match o with | .call f _ => @Bool.rec (fun _ => Bool) (reOkF lo t H l) true (pu f) | o => keepG H o l t0.get t.get || reOkF lo t H l) l
theorem keepG_nil (H : AHeap) (o : IOp) (e e' : Nat → Option AVal) : (keepG H o [] e e' || true) = true := Bool.or_true _
theorem reK_eq (call : CallI) (o : IOp) (lo : Nat) (t0 t : FEnv) (H : AHeap) : ∀ l, reK call.pure o lo t0 t H l = (skipI call o || (keepG H o l t0.get t.get || reOkF lo t H l)) := by
  intro l
  cases l with
  | nil => simp [reK, reOkF]
  | cons x l =>
    cases o <;> simp only [reK, skipI, Bool.false_or]
    case call f args => cases call.pure f <;> simp [keepG, touchG]
noncomputable def itemsK (pu : FuncId → Bool) (call : FuncId → List AVal → AHeap → Option (AVal × AHeap)) (lo : Nat) (xs : List Item) : FEnv → AHeap → Option (FEnv × AHeap) :=
  @List.rec Item (fun _ => FEnv → AHeap → Option (FEnv × AHeap)) (fun t H => some (t, H))
    (fun x _ ih t H => bindO (itemK call lo x t H) fun r => @Bool.rec (fun _ => Option (FEnv × AHeap)) none (ih r.1 r.2) (reK pu x.op lo t r.1 r.2 x.re)) xs
theorem itemsK_eq (call : CallI) (lo : Nat) : ∀ (xs : List Item) (t : FEnv) (H : AHeap), itemsK call.pure call.call lo xs t H = itemsF call lo xs t H := by
  intro xs
  induction xs with
  | nil => intro t H; rfl
  | cons x xs ih =>
    intro t H
    show (bindO (itemK call.call lo x t H) fun r => @Bool.rec (fun _ => Option (FEnv × AHeap)) none (itemsK call.pure call.call lo xs r.1 r.2) (reK call.pure x.op lo t r.1 r.2 x.re)) = _
    simp only [itemsF, bindO_eq, itemK_eq, reK_eq]
    rcases itemF call lo x t H with _ | ⟨t', H'⟩
    · rfl
    · simp only [ih]
      cases (skipI call x.op || (keepG H' x.op x.re t.get t'.get || reOkF lo t' H' x.re)) <;> rfl

noncomputable def initK (l : List AVal) : Nat → FEnv → FEnv := @List.rec AVal (fun _ => Nat → FEnv → FEnv) (fun _ t => t) (fun v _ ih k t => ih (Nat.succ k) (Trie.put (some v) (Nat.succ k) t k)) l
theorem initK_eq : ∀ (l : List AVal) (k : Nat) (t : FEnv), initK l k t = initF k l t := by
  intro l
  induction l with
  | nil => intro k t; rfl
  | cons v l ih => intro k t; show initK l (k + 1) (FEnv.put t k v) = _; rw [ih]; rfl
noncomputable def resK (t : FEnv) (H : AHeap) (l : List IRes) : Option (List AVal) := @List.rec IRes (fun _ => Option (List AVal)) (some [])
  (fun x _ ih => @IRes.rec (fun _ => Option (List AVal)) (fun n => bindO (t.get n) fun v => bindO ih fun vs => some (v :: vs)) (fun n k => bindO (t.get n) fun p => bindO (loadV H k p) fun v => bindO ih fun vs => some (v :: vs)) x) l
theorem resK_eq (t : FEnv) (H : AHeap) : ∀ l, resK t H l = resF t H l := by
  intro l
  induction l with
  | nil => rfl
  | cons x l ih =>
    cases x with
    | t n =>
      show (bindO (t.get n) fun v => bindO (resK t H l) fun vs => some (v :: vs)) = _
      rw [ih]; simp only [bindO_eq, resF]
      rcases t.get n with _ | v
      · rfl
      · rcases resF t H l with _ | vs <;> rfl
    | c n k =>
      show (bindO (t.get n) fun p => bindO (loadV H k p) fun v => bindO (resK t H l) fun vs => some (v :: vs)) = _
      rw [ih]; simp only [bindO_eq, resF]
      rcases t.get n with _ | p
      · rfl
      · simp only
        rcases loadV H k p with _ | v
        · rfl
        · rcases resF t H l with _ | vs <;> rfl

noncomputable def bodyK (ex : ICode → FEnv → AHeap → Option (AExit × FEnv × AHeap)) (fn : IFunc) (args : List AVal) (H : AHeap) : Option (AVal × AHeap) :=
  @Bool.rec (fun _ => Option (AVal × AHeap)) none
    (bindO (ex fn.body (initK args 0 .e) H) fun r => @AExit.rec (fun _ => Option (AVal × AHeap)) (bindO (resK r.2.1 r.2.2 fn.res) fun vs => some (tupI vs, r.2.2)) (fun _ => none) (bindO (resK r.2.1 r.2.2 fn.res) fun vs => some (tupI vs, r.2.2)) r.1)
    (Nat.beq args.length fn.np)
theorem bodyK_eq (ex : Nat → ICode → FEnv → AHeap → Option (AExit × FEnv × AHeap)) (fn : IFunc) (lo : Nat) (args : List AVal) (H : AHeap) : bodyK (ex lo) fn args H = bodyF ex fn lo args H := by
  unfold bodyK bodyF
  simp only [initK_eq, resK_eq]
  by_cases h : args.length = fn.np
  · have : Nat.beq args.length fn.np = true := by rw [h]; exact Nat.beq_refl _
    rw [this, if_pos h]
    simp only [bindO_eq]
    rcases ex lo fn.body (initF 0 args .e) H with _ | ⟨x, t, H'⟩
    · rfl
    · cases x with
      | exit id => rfl
      | normal => simp only; rcases resF t H' fn.res with _ | vs <;> rfl
      | ret => simp only; rcases resF t H' fn.res with _ | vs <;> rfl
  · have : Nat.beq args.length fn.np = false := by
      cases hb : Nat.beq args.length fn.np with
      | false => rfl
      | true => exact absurd (Nat.eq_of_beq_eq_true hb) h
    rw [this, if_neg h]

noncomputable def seqK (r : Option (AExit × FEnv × AHeap)) (k : FEnv → AHeap → Option (AExit × FEnv × AHeap)) : Option (AExit × FEnv × AHeap) :=
  bindO r fun r => @AExit.rec (fun _ => Option (AExit × FEnv × AHeap)) (k r.2.1 r.2.2) (fun id => some (.exit id, r.2)) (some (.ret, r.2)) r.1
noncomputable def condK (v : Option AVal) (a b : Option (AExit × FEnv × AHeap)) : Option (AExit × FEnv × AHeap) :=
  bindO v fun v => match v with | .b b' => @Bool.rec (fun _ => Option (AExit × FEnv × AHeap)) b a b' | _ => none
noncomputable def blockK (id : Nat) (r : Option (AExit × FEnv × AHeap)) : Option (AExit × FEnv × AHeap) :=
  bindO r fun r => @AExit.rec (fun _ => Option (AExit × FEnv × AHeap)) (some (.normal, r.2)) (fun i => @Bool.rec (fun _ => Option (AExit × FEnv × AHeap)) (some (.exit i, r.2)) (some (.normal, r.2)) (Nat.beq i id)) (some (.ret, r.2)) r.1

noncomputable def pureT (T : Trie IFunc) (g : FuncId) : Bool := match T.get g with
  | some fn => match fn.mode with
    | 0 => false
    | _ => true
  | none => false
noncomputable def tabK (T : Trie IFunc) (G : AHeap) (ex : Nat → ICode → FEnv → AHeap → Option (AExit × FEnv × AHeap)) (lo : Nat) (g : FuncId) (args : List AVal) (H : AHeap) : Option (AVal × AHeap) := bindO (T.get g) fun fn =>
  @Nat.rec (fun _ => Option (AVal × AHeap)) (bodyK (ex lo) fn args H) (fun m _ => @Nat.rec (fun _ => Option (AVal × AHeap)) (bodyK (ex H.next) fn args H)
    (fun m _ => @Nat.rec (fun _ => Option (AVal × AHeap)) (bindO (mapO (snapV H 16) args) fun args' => bindO (bodyK (ex G.next) fn args' G) fun r => bindO (frzV r.2 G.next 16 r.1) fun v => some (v, H))
      (fun m _ => @Nat.rec (fun _ => Option (AVal × AHeap)) (bindO (bodyK (ex H.next) fn args H) fun r => @Bool.rec (fun _ => Option (AVal × AHeap)) none (some (r.1, H)) (below H.next r.1))
        (fun _ _ => cloneB fn.body args H) m) m) m) fn.mode

noncomputable def execK (T : Trie IFunc) (G : AHeap) (f : Nat) : Nat → ICode → FEnv → AHeap → Option (AExit × FEnv × AHeap) :=
  @Nat.rec (fun _ => Nat → ICode → FEnv → AHeap → Option (AExit × FEnv × AHeap)) (fun _ _ _ _ => none)
    (fun _ ex lo c t H => @ICode.rec (fun _ => Option (AExit × FEnv × AHeap)) (some (.normal, t, H))
      (fun items kill => bindO (itemsK (pureT T) (tabK T G ex lo) lo items t H) fun r => some (.normal, killF r.1 kill, r.2))
      (fun a b _ _ => seqK (ex lo a t H) (ex lo b))
      (fun x a b _ _ => condK (evalK t x) (ex lo a t H) (ex lo b t H))
      (fun id b _ => blockK id (ex lo b t H))
      (fun b _ => seqK (ex lo b t H) (ex lo (.loop b)))
      (fun id => some (.exit id, t, H))
      (some (.ret, t, H)) c) f

theorem seqK_eq (r : Option (AExit × FEnv × AHeap)) (k : FEnv → AHeap → Option (AExit × FEnv × AHeap)) : seqK r k = match r with | some (.normal, t', H') => k t' H' | r => r := by
  rcases r with _ | ⟨x, t, H⟩
  · rfl
  · cases x <;> rfl
theorem blockK_eq (id : Nat) (r : Option (AExit × FEnv × AHeap)) : blockK id r = match r with | some (.exit id', t', H') => if id' = id then some (.normal, t', H') else some (.exit id', t', H') | r => r := by
  rcases r with _ | ⟨x, t, H⟩
  · rfl
  · cases x with
    | normal => rfl
    | ret => rfl
    | exit i =>
      show (@Bool.rec (fun _ => Option (AExit × FEnv × AHeap)) (some (.exit i, t, H)) (some (.normal, t, H)) (Nat.beq i id)) = _
      by_cases h : i = id
      · have : Nat.beq i id = true := by rw [h]; exact Nat.beq_refl _
        rw [this]; simp [h]
      · have : Nat.beq i id = false := by
          cases hb : Nat.beq i id with
          | false => rfl
          | true => exact absurd (Nat.eq_of_beq_eq_true hb) h
        rw [this]; simp [h]

theorem tabK_eq (T : Trie IFunc) (G : AHeap) (ex : Nat → ICode → FEnv → AHeap → Option (AExit × FEnv × AHeap)) (lo : Nat) : tabK T G ex lo = (tabF T G ex lo).call := by
  funext g args H
  simp only [tabK, tabF, tabFB, bindO_eq]
  rcases T.get g with _ | fn
  · rfl
  · simp only
    rcases fn.mode with _ | m
    · exact bodyK_eq ex fn lo args H
    · rcases m with _ | m
      · exact bodyK_eq ex fn H.next args H
      · rcases m with _ | m
        · simp only
          rcases mapO (snapV H 16) args with _ | args'
          · rfl
          · simp only
            rw [bodyK_eq ex fn G.next args' G]
            rcases bodyF ex fn G.next args' G with _ | ⟨v, H1⟩
            · rfl
            · simp only
              rcases frzV H1 G.next 16 v with _ | v' <;> rfl
        · rcases m with _ | m
          · simp only
            rw [bodyK_eq ex fn H.next args H]
            rcases bodyF ex fn H.next args H with _ | ⟨v, H1⟩
            · rfl
            · simp only
              cases below H.next v <;> rfl
          · rfl

theorem execK_eq (T : Trie IFunc) (G : AHeap) : ∀ (f lo : Nat) (c : ICode) (t : FEnv) (H : AHeap), execK T G f lo c t H = execF T G f lo c t H := by
  intro f
  induction f with
  | zero => intro lo c t H; cases c <;> rfl
  | succ f ih =>
    have ihf : execK T G f = fun lo c t H => execF T G f lo c t H := by funext lo c t H; exact ih lo c t H
    intro lo c t H
    cases c with
    | skip => simp only [execF]; rfl
    | region items kill =>
      · show (bindO (itemsK (pureT T) (tabK T G (execK T G f) lo) lo items t H) fun r => some (AExit.normal, killF r.1 kill, r.2)) = _
        simp only [execF]
        rw [tabK_eq, show pureT T = (tabF T G (execK T G f) lo).pure from rfl, itemsK_eq, bindO_eq, ihf]
        rcases itemsF _ lo items t H with _ | ⟨t', H'⟩ <;> rfl
    | seq a b =>
      show seqK (execK T G f lo a t H) (execK T G f lo b) = _
      rw [seqK_eq, ihf]; simp only [execF]
    | cond x a b =>
      show condK (evalK t x) (execK T G f lo a t H) (execK T G f lo b t H) = _
      rw [ihf, evalK_eq]
      simp only [execF, condK, bindO_eq]
      rcases x.evalG t.get with _ | v
      · rfl
      · cases v <;> try rfl
        rename_i b; cases b <;> rfl
    | block id b =>
      show blockK id (execK T G f lo b t H) = _
      rw [blockK_eq, ihf]; simp only [execF]
    | loop b =>
      show seqK (execK T G f lo b t H) (execK T G f lo (.loop b)) = _
      rw [seqK_eq, ihf]; simp only [execF]
    | exit id => simp only [execF]; rfl
    | ret => simp only [execF]; rfl

noncomputable def callK (T : Trie IFunc) (G : AHeap) (f : Nat) (lo : Nat) : FuncId → List AVal → AHeap → Option (AVal × AHeap) := tabK T G (execK T G f) lo
theorem callK_eq (T : Trie IFunc) (G : AHeap) (f lo : Nat) (g : FuncId) (args : List AVal) (H : AHeap) : callK T G f lo g args H = callF T G f lo g args H := by
  have ihf : execK T G f = fun lo c t H => execF T G f lo c t H := by funext lo c t H; exact execK_eq T G f lo c t H
  simp only [callK, callF]
  rw [tabK_eq, ihf]

/-! ### The table, as a tree -/
noncomputable def buildT : List (Nat × IFunc) → Trie IFunc
  | [] => .e
  | (k, fn) :: l => Trie.put (some fn) (k + 1) (buildT l) k
theorem buildT_get : ∀ (l : List (Nat × IFunc)) (f : Nat), (buildT l).get f = tabIP l f := by
  intro l
  induction l with
  | nil => intro f; rfl
  | cons x l ih =>
    obtain ⟨k, fn⟩ := x
    intro f
    simp only [buildT, tabIP]
    rw [Trie.get_put _ _ _ _ _ (Nat.lt_succ_self k), ih]
    by_cases h : f = k
    · subst h; simp
    · have : ¬ k = f := fun e => h e.symm
      simp [h, this]

/-- A call without arguments, run by the kernel. -/
theorem closed_callsF {P : Program} (hm : P.follows .mixedOrders = true) {tab : List (Nat × IFunc)} (htab : TabOK P (tabIP tab)) {G : AHeap} (hn : G.next = P.globals.size) (hw : Wf G) {f k : Nat} (h : isTrue (callK (buildT tab) G k G.next f [] G) = true)
    (w : World) (hG : GHolds P.globals.size G w) : Calls P f #[] w fun e w' => e = .returned (.bool true) ∧ Kept w w' := by
  refine closed_calls hm htab hn hw (k := k) ?_ w hG
  unfold isTrue at h
  split at h
  · rename_i H' he
    rw [callK_eq] at he
    rw [call_F (IP := tabIP tab) (buildT_get tab) he]; rfl
  · cases h

/-- A pure call without arguments, run by the kernel: true, wherever it is called. -/
def isTrueP : Option (AVal × AHeap) → Bool
  | some (.b true, _) => true
  | _ => false
theorem closed_pure {tab : List (Nat × IFunc)} {G : AHeap} {f k : Nat} {fn : IFunc} (hf : tabIP tab f = some fn) (hm : fn.mode = 2) (h : isTrueP (callK (buildT tab) G k G.next f [] G) = true) (lo : Nat) (H : AHeap) : Brings (tabIP tab) G lo f [] H (.b true) H := by
  have : ∃ H', callK (buildT tab) G k G.next f [] G = some (.b true, H') := by
    unfold isTrueP at h
    split at h
    · rename_i H' he; exact ⟨H', he⟩
    · cases h
  obtain ⟨H', hH⟩ := this
  rw [callK_eq] at hH
  have hc := call_F (IP := tabIP tab) (buildT_get tab) hH
  refine ⟨k, ?_⟩
  simp only [acall, callI, callB, hf, hm] at hc ⊢
  simp only [mapO] at hc ⊢
  split at hc
  · rename_i v H1 hb
    split at hc
    · rename_i v' hfz; cases hc; rfl
    · cases hc
  · cases hc
end Go.RI

/- RI, part SD: what a pure call without arguments brings, run by the kernel. Conditions: none. -/
namespace Go.RI
open Go
theorem pure_closed {tab : List (Nat × IFunc)} {G : AHeap} {f k : Nat} {fn : IFunc} (hf : tabIP tab f = some fn) (hm : fn.mode = 2) (h : isTrueP (callK (buildT tab) G k G.next f [] G) = true) : pureR (tabIP tab) G f [] = some (.b true) := by
  obtain ⟨n, hn⟩ := closed_pure hf hm h G.next G
  simp only [acall, callI, callB, hf, hm] at hn
  simp only [mapO] at hn
  split at hn
  · rename_i u H1 hb
    split at hn
    · rename_i v' hv
      cases hn
      exact pureR_some ⟨fn, n, u, H1, hf, hb, hv⟩
    · cases hn
  · cases hn
end Go.RI

/- The first line of the laws: it brings true. Conditions: none. -/
namespace Go.Proofs.YtdephbcmmhabgaaDoor
open Go
noncomputable def G1 : RI.AHeap := (RI.G0 2).put 0 (some (.cells [.i .i64 0, .s [], .b false] 1 true))
theorem works_run : RI.isTrueP (RI.callK (RI.buildT tab) G1 100000 2 17 [] G1) = true := by kernel_rfl
theorem works_pure : RI.pureR IP G1 17 [] = some (.b true) := RI.pure_closed ip17 rfl works_run
end Go.Proofs.YtdephbcmmhabgaaDoor

/- RI, part TO: a law's arguments as trees, with their bulk. Conditions: none. -/
namespace Go.RI
open Go
set_option linter.unusedSimpArgs false
set_option linter.unusedVariables false

/-- The tree is one of that type, and its bulk is at most 'm'. -/
def TyM (P : Program) : Nat → TypeId → List AVal → Nat → Prop
  | 0, _, _, _ => False
  | n + 1, t, l, m => match P.underlying t with
    | some .bool => ∃ b, l = [.b b]
    | some (.int k) => ∃ i, l = [.i k i] ∧ (Lit.int k i).wf = true
    | some .string => ∃ s, l = [.s s] ∧ s.length + 1 ≤ m
    | some (.slice e) => ∃ es : List (List AVal × Nat), l = [.fs false false es.length (es.map (·.1)).flatten] ∧ (es.map (·.2)).sum + 1 ≤ m ∧ ∀ x ∈ es, TyM P n e x.1 x.2 ∧ x.1.length = P.cellsOf e
    | some (.struct fs) => ∃ xs : List (List AVal × Nat), l = (xs.map (·.1)).flatten ∧ xs.length = fs.toList.length ∧ (xs.map (·.2)).sum + 1 ≤ m ∧ ∀ (i : Nat) f x, fs.toList[i]? = some f → xs[i]? = some x → TyM P n f.type x.1 x.2 ∧ x.1.length = P.cellsOf f.type
    | _ => False

/-- A measure of what is read. -/
structure Meas {H : Type} (μ : DataW H → Nat) : Prop where
  one : ∀ d, 0 + 1 ≤ μ d
  str : ∀ s, s.length + 1 ≤ μ (.lit (.string s))
  sl : ∀ l r, (l.map μ).sum + 1 ≤ μ (.slice l r)
  ag : ∀ l, (l.map μ).sum + 1 ≤ μ (.agg l)

section
variable {w : World}
variable {H : Type} {enc : TypeId × Value → H} {P : Program} {base : Nat} {spare : Nat → Bool} {held : Bool}
variable {r : TypeId → List Value → Option (DataW H × List MemPlace)} {t : TypeId} {cs : List Value} {d : DataW H} {ps : List MemPlace}
theorem tile_rdM {n : Nat} {ts : List TypeId} {μ : DataW H → Nat} {cs : List Value}
    (ih : ∀ t cs d ps, t ∈ ts → DataW.trod enc P w base spare held n t cs = some (d, ps) → ∃ l, RdL w l cs ∧ TyM P n t l (μ d)) :
    ∀ (fs : List Field) (o N : Nat) (ys : List (DataW H × List MemPlace)), tile P fs o N = true → (∀ f ∈ fs, f.type ∈ ts) → cs.length = N → fs.mapM (fun f => DataW.trod enc P w base spare held n f.type ((cs.drop f.offset).take (P.cellsOf f.type))) = some ys → (∀ f ∈ fs, f.offset + P.cellsOf f.type ≤ N) →
      ∃ xs : List (List AVal × Nat), RdL w (xs.map (·.1)).flatten (cs.drop o) ∧ xs.length = fs.length ∧ (xs.map (·.2)).sum = ((ys.map (·.1)).map μ).sum ∧ ∀ (i : Nat) f x, fs[i]? = some f → xs[i]? = some x → TyM P n f.type x.1 x.2 ∧ x.1.length = P.cellsOf f.type := by
  intro fs
  induction fs with
  | nil =>
    intro o N ys ht _ hl hm _
    simp only [tile, beq_iff_eq] at ht
    subst ht
    rw [List.mapM_nil] at hm
    cases hm
    refine ⟨[], ?_, rfl, rfl, fun i f x h => by simp at h⟩
    rw [List.drop_of_length_le (by omega)]
    simp [RdL]
  | cons f fs ihf =>
    intro o N ys ht hts hl hm hb
    simp only [tile, Bool.and_eq_true, beq_iff_eq] at ht
    obtain ⟨rfl, ht⟩ := ht
    rw [List.mapM_cons] at hm
    simp only [bind, Option.bind_eq_some_iff, pure] at hm
    obtain ⟨⟨d, p⟩, h1, ys', h2, h3⟩ := hm
    cases h3
    obtain ⟨x, hx, hty⟩ := ih f.type _ d p (hts f (by simp)) h1
    obtain ⟨xs, hxs, hlen, hsum, hall⟩ := ihf (f.offset + P.cellsOf f.type) N ys' ht (fun g hg => hts g (by simp [hg])) hl h2 (fun g hg => hb g (by simp [hg]))
    have hxl : x.length = P.cellsOf f.type := by
      rw [RdL_len hx, List.length_take, List.length_drop]
      have := hb f (by simp)
      omega
    refine ⟨(x, μ d) :: xs, ?_, by simp [hlen], by simp only [List.map_cons, List.sum_cons]; rw [hsum], fun i g y hg hy => ?_⟩
    · have : cs.drop f.offset = (cs.drop f.offset).take (P.cellsOf f.type) ++ cs.drop (f.offset + P.cellsOf f.type) := by
        conv => lhs; rw [← List.take_append_drop (P.cellsOf f.type) (cs.drop f.offset)]
        rw [List.drop_drop]
      rw [this, List.map_cons, List.flatten_cons]
      exact RdL_append hx hxs
    · cases i with
      | zero => simp at hg hy; subst hg hy; exact ⟨hty, hxl⟩
      | succ i => exact hall i g y (by simpa using hg) (by simpa using hy)

theorem trod_rdM {ts : List TypeId} (hts : ts.all (okTy P ts) = true) {μ : DataW H → Nat} (hsm : Meas μ) (hsp : ∀ b, spare b = true) :
    ∀ (n : Nat) (t : TypeId) (cs : List Value) (d : DataW H) (ps : List MemPlace), t ∈ ts → DataW.trod enc P w base spare held n t cs = some (d, ps) → ∃ l, RdL w l cs ∧ TyM P n t l (μ d) := by
  intro n
  induction n with
  | zero => intro t cs d ps _ h; simp [DataW.trod] at h
  | succ n ih =>
    intro t cs d ps ht h
    have hok := List.all_eq_true.1 hts t ht
    unfold okTy at hok
    rw [DataW.trod_step] at h
    unfold TyM
    cases hu : P.underlying t with
    | none => rw [hu] at hok; cases hok
    | some T =>
      rw [hu] at hok
      cases T <;> simp only at hok <;> try (cases hok; done)
      case bool =>
        obtain ⟨b, rfl, rfl⟩ := step_bool hu h
        exact ⟨[.b b], RdL_one (by simp [Rd, noId, one, ren]), b, rfl⟩
      case int k =>
        obtain ⟨m, rfl, rfl, hw⟩ := step_int hu h
        exact ⟨[.i k m], RdL_one (by simp [Rd, noId, one, ren]), m, rfl, hw⟩
      case string =>
        obtain ⟨s, rfl, rfl⟩ := step_string hu h
        exact ⟨[.s s.data.toList], RdL_one (by simp [Rd, noId, one, ren]), _, rfl, hsm.str _⟩
      case slice e =>
        simp only [Bool.and_eq_true, decide_eq_true_eq, List.contains_iff_mem] at hok
        obtain ⟨he, hc⟩ := hok
        rcases step_slice hu h with rfl | ⟨a, len, cap, elems, rest, rfl, hlc, hel, hrest, rfl⟩
        · exact ⟨[.fs false false 0 []], RdL_one (by simp [Rd]), [], rfl, hsm.one _, fun x hx => by simp at hx⟩
        · have hB := fun r => hsm.sl (elems.map (·.1)) r
          have hlen : elems.length = len := by simpa using mapM_some_length hel
          by_cases h0 : len = 0
          · subst h0
            refine ⟨[.fs false false 0 []], RdL_one ?_, [], rfl, hsm.one _, fun x hx => by simp at hx⟩
            simp only [Rd]
            refine ⟨trivial, trivial, .inl ⟨trivial, trivial, .inr ?_⟩⟩
            by_cases hc0 : cap = 0
            · subst hc0; exact .inl ⟨a, rfl⟩
            · rw [hsp, if_pos rfl] at hrest
              obtain ⟨b, hb, hfb⟩ := Go.Lib.mapM_at hrest 0 0 (by rw [List.getElem?_range (by omega)])
              simp only [Option.bind_eq_some_iff] at hfb
              obtain ⟨c0, hc1, _⟩ := hfb
              have := (cells_at hc1 hc).1
              have ha : a.add ((0 + 0) * P.cellsOf e) = a := by simp [Addr.add]
              rw [ha] at this
              obtain ⟨ab, ao, asp⟩ := a
              cases this
              exact .inr ⟨ab, ao, cap, rfl⟩
          · have el : ∀ i, i < len → ∃ csi x bd, (elems.map (·.1))[i]? = some bd ∧ w.cells? base (a.add (i * P.cellsOf e)) (P.cellsOf e) = some csi ∧ RdL w x csi ∧ TyM P n e x (μ bd) := fun i hi => by
              obtain ⟨b, hb, hfb⟩ := Go.Lib.mapM_at hel i i (by simp [hi])
              simp only [Option.bind_eq_some_iff] at hfb
              obtain ⟨csi, h1, h2⟩ := hfb
              obtain ⟨bd, bp⟩ := b
              obtain ⟨x, h3, h4⟩ := ih e csi bd bp he h2
              exact ⟨csi, x, bd, by rw [List.getElem?_map, hb]; rfl, h1, h3, h4⟩
            obtain ⟨cs0, _, _, _, hc0, _, _⟩ := el 0 (by omega)
            have ha0 : a.add (0 * P.cellsOf e) = a := by simp [Addr.add]
            rw [ha0] at hc0
            obtain ⟨hspot, C, ty, fz, hC, _, _⟩ := cells_at hc0 hc
            have row : ∀ i, i < len → ∃ x bd, (elems.map (·.1))[i]? = some bd ∧ RdL w x ((C.toList.drop (a.off + i * P.cellsOf e)).take (P.cellsOf e)) ∧ TyM P n e x (μ bd) ∧ x.length = P.cellsOf e ∧ a.off + i * P.cellsOf e + P.cellsOf e ≤ C.size := fun i hi => by
              obtain ⟨csi, x, bd, h0, h1, h2, h3⟩ := el i hi
              obtain ⟨_, C', ty', fz', hC', hsz, hcs⟩ := cells_at h1 hc
              have hb : (a.add (i * P.cellsOf e)).block = a.block := by unfold Addr.add; split <;> rfl
              have ho : (a.add (i * P.cellsOf e)).off = a.off + i * P.cellsOf e := by unfold Addr.add; split <;> simp_all
              rw [hb, hC] at hC'
              cases hC'
              rw [ho] at hcs hsz
              subst hcs
              refine ⟨x, bd, h0, h2, h3, ?_, hsz⟩
              rw [RdL_len h2]
              simp only [List.length_take, List.length_drop, Array.length_toList]
              omega
            have : ∃ es : List (List AVal × Nat), es.length = len ∧ ∀ (i : Nat) x, es[i]? = some x → RdL w x.1 ((C.toList.drop (a.off + i * P.cellsOf e)).take (P.cellsOf e)) ∧ TyM P n e x.1 x.2 ∧ x.1.length = P.cellsOf e ∧ ∃ bd, (elems.map (·.1))[i]? = some bd ∧ x.2 = μ bd := by
              clear hlen hel hB hlc hrest h
              clear el
              have key : ∀ m, m ≤ len → ∃ es : List (List AVal × Nat), es.length = m ∧ ∀ (i : Nat) x, es[i]? = some x → RdL w x.1 ((C.toList.drop (a.off + i * P.cellsOf e)).take (P.cellsOf e)) ∧ TyM P n e x.1 x.2 ∧ x.1.length = P.cellsOf e ∧ ∃ bd, (elems.map (·.1))[i]? = some bd ∧ x.2 = μ bd := by
                intro m
                induction m with
                | zero => intro _; exact ⟨[], rfl, fun i x hx => by simp at hx⟩
                | succ m ihm =>
                  intro hm
                  obtain ⟨es, h1, h2⟩ := ihm (by omega)
                  obtain ⟨x, bd, g0, g1, g2, g3, _⟩ := row m (by omega)
                  refine ⟨es ++ [(x, μ bd)], by simp [h1], fun i y hy => ?_⟩
                  by_cases hi : i < es.length
                  · rw [List.getElem?_append_left hi] at hy; exact h2 i y hy
                  · rw [List.getElem?_append_right (by omega)] at hy
                    have hi0 : i - es.length = 0 := by
                      rcases Nat.eq_zero_or_pos (i - es.length) with h | h
                      · exact h
                      · rw [List.getElem?_eq_none (by simp; omega)] at hy; cases hy
                    rw [hi0] at hy
                    simp at hy
                    subst hy
                    have : i = m := by omega
                    subst this
                    exact ⟨g1, g2, g3, bd, g0, rfl⟩
              exact key len (Nat.le_refl _)
            obtain ⟨es, hes, hall2⟩ := this
            refine ⟨[.fs false false len (es.map (·.1)).flatten], RdL_one ?_, es, by rw [hes], ?_, ?_⟩
            · simp only [Rd]
              have hfl := flat_rd (w := w) (c := P.cellsOf e) C.toList (es.map (·.1)) a.off (fun i x hx => by
                rw [List.getElem?_map] at hx
                obtain ⟨y, hy, rfl⟩ := Option.map_eq_some_iff.1 hx
                exact ⟨(hall2 i y hy).1, (hall2 i y hy).2.2.1⟩)
              rw [List.length_map] at hfl
              obtain ⟨xl, _, _, _, _, _, hsz⟩ := row (len - 1) (by omega)
              have hsz2 : a.off + len * P.cellsOf e ≤ C.size := by
                have : len * P.cellsOf e = (len - 1) * P.cellsOf e + P.cellsOf e := by
                  conv => lhs; rw [show len = (len - 1) + 1 by omega, Nat.add_mul, Nat.one_mul]
                omega
              refine ⟨trivial, trivial, .inr ⟨by omega, a.block, a.off, cap, P.cellsOf e, C, ty, fz, ?_, hlc, hC, ?_, hsz2, ?_⟩⟩
              · obtain ⟨ab, ao, asp⟩ := a; cases hspot; rfl
              · rw [RdL_len hfl, hes, List.length_take, List.length_drop]; have : C.toList.length = C.size := rfl; omega
              · rw [hes] at hfl; exact hfl
            · have hs : es.map (·.2) = (elems.map (·.1)).map μ := by
                apply List.ext_getElem?
                intro i
                rw [List.getElem?_map, List.getElem?_map]
                rcases Nat.lt_or_ge i len with hi | hi
                · obtain ⟨x, hx⟩ := List.getElem?_eq_some_iff.2 ⟨by omega, rfl⟩ |> fun h => (⟨es[i]'(by omega), h⟩ : ∃ x, es[i]? = some x)
                  obtain ⟨bd, h1, h2⟩ := (hall2 i x hx).2.2.2
                  rw [hx, h1]
                  simp [h2]
                · rw [List.getElem?_eq_none (by omega), List.getElem?_eq_none (by simp; omega)]; rfl
              rw [hs]
              exact hB _
            · intro x hx
              obtain ⟨i, hi⟩ := List.getElem?_of_mem hx
              exact ⟨(hall2 i x hi).2.1, (hall2 i x hi).2.2.1⟩
      case struct fs =>
        simp only [Bool.and_eq_true, List.all_eq_true, List.contains_iff_mem] at hok
        obtain ⟨hl, ys, hm, rfl⟩ := step_struct hu h
        obtain ⟨xs, h1, h2, h3, h4⟩ := tile_rdM ih fs.toList 0 (P.cellsOf t) ys hok.1 hok.2 hl hm (tile_le _ _ _ hok.1).2
        exact ⟨(xs.map (·.1)).flatten, by simpa using h1, xs, rfl, h2, by rw [h3]; exact hsm.ag _, h4⟩

end
/-- An argument. -/
def TyVM (P : Program) (n : Nat) (t : TypeId) (x : AVal) (m : Nat) : Prop := ∃ l, TyM P n t l m ∧ (match P.underlying t with
  | some (.struct _) => x = .ag l
  | _ => l = [x])
section
variable {H : Type} {enc : TypeId × Value → H} {P : Program} {W W' : World}
/-- An argument is a tree of its type. -/
theorem arg_rdM {ts : List TypeId} (hts : ts.all (okTy P ts) = true) {μ : DataW H → Nat} (hsm : Meas μ) {t : TypeId} (ht : t ∈ ts) {base : Nat} {v : Value} (hv : Value.okWide P W .any base t v) {d : DataW H} {p : List MemPlace}
    (h : DataW.Trod enc P W 0 (fun _ => true) true t v d p) : ∃ n x, RdV W x v ∧ TyVM P n t x (μ d) := by
  obtain ⟨n, hn⟩ := h
  obtain ⟨l, h1, h2⟩ := trod_rdM hts hsm (fun _ => rfl) n t _ d p ht hn
  have hok := List.all_eq_true.1 hts t ht
  unfold okTy at hok
  cases n with
  | zero => simp [TyM] at h2
  | succ n =>
    have h2' := h2
    unfold TyM at h2
    unfold Value.okWide at hv
    cases hu : P.underlying t with
    | none => rw [hu] at hok; cases hok
    | some T =>
      rw [hu] at hok h2 hv
      have leaf : ∀ x, l = [x] → (∀ cs, v ≠ .agg cs) → (∀ l, x ≠ .ag l) → (match some T with | some (.struct _) => x = .ag l | _ => l = [x]) → ∃ n x, RdV W x v ∧ TyVM P n t x (μ d) := by
        intro x hx hna hxa hm
        subst hx
        have : v.cells.toList = [v] := by cases v <;> first | rfl | exact (hna _ rfl).elim
        rw [this] at h1
        simp only [RdL] at h1
        obtain ⟨v', r, he, hr, _⟩ := h1
        cases he
        refine ⟨n + 1, x, ?_, [x], h2', by rw [hu]; exact hm⟩
        cases x <;> first | exact hr | exact (hxa _ rfl).elim
      cases T <;> simp only at hok <;> try (cases hok; done)
      case bool =>
        obtain ⟨b, rfl⟩ := h2
        refine leaf _ rfl (fun cs e => ?_) (fun l e => by cases e) rfl
        subst e
        simp [Cell.okWide, Cell.ok, hu] at hv
      case int k =>
        obtain ⟨i, rfl, _⟩ := h2
        refine leaf _ rfl (fun cs e => ?_) (fun l e => by cases e) rfl
        subst e
        simp [Cell.okWide, Cell.ok, hu] at hv
      case string =>
        obtain ⟨s, rfl, _⟩ := h2
        refine leaf _ rfl (fun cs e => ?_) (fun l e => by cases e) rfl
        subst e
        simp [Cell.okWide, Cell.ok, hu] at hv
      case slice e =>
        obtain ⟨es, rfl, _⟩ := h2
        refine leaf _ rfl (fun cs e => ?_) (fun l e => by cases e) rfl
        subst e
        simp [Cell.okWide, Cell.ok, hu] at hv
      case struct fs =>
        obtain ⟨cs, rfl, _⟩ := hv
        exact ⟨n + 1, .ag l, ⟨cs, rfl, h1⟩, l, h2', by rw [hu]⟩
end
end Go.RI

/- RI, part QE: trees of a piece type are pieces. Conditions: none. -/
namespace Go.RI
open Go
set_option linter.unusedSimpArgs false
set_option linter.unusedVariables false

/-- The types of a piece. -/
structure PceTys (P : Program) (tI tS tV tLV tLS tO tLO tSt tLSt tP : TypeId) : Prop where
  i : P.underlying tI = some (.int .i64)
  s : P.underlying tS = some .string
  v : ∃ fs, P.underlying tV = some (.struct fs) ∧ fs.toList.map (·.type) = [tI, tI, tS, tLV, tLS]
  lv : P.underlying tLV = some (.slice tV)
  ls : P.underlying tLS = some (.slice tS)
  o : ∃ fs, P.underlying tO = some (.struct fs) ∧ fs.toList.map (·.type) = [tI, tI, tV]
  lo : P.underlying tLO = some (.slice tO)
  st : ∃ fs, P.underlying tSt = some (.struct fs) ∧ fs.toList.map (·.type) = [tI, tI, tLO, tS, tLS]
  lst : P.underlying tLSt = some (.slice tSt)
  p : ∃ fs, P.underlying tP = some (.struct fs) ∧ fs.toList.map (·.type) = [tI, tI, tI, tI, tLSt, tLO, tI, tI, tO, tI]

section
variable {P : Program}
theorem tyM_int {t : TypeId} {n m : Nat} {l : List AVal} (hu : P.underlying t = some (.int .i64)) (h : TyM P n t l m) : ∃ i, l = [.i .i64 i] := by
  cases n with
  | zero => cases h
  | succ n => unfold TyM at h; rw [hu] at h; obtain ⟨i, h1, _⟩ := h; exact ⟨i, h1⟩
theorem tyM_str {t : TypeId} {n m : Nat} {l : List AVal} (hu : P.underlying t = some .string) (h : TyM P n t l m) : ∃ s : Str, l = Enc.cells s ∧ 1 + s.length ≤ m := by
  cases n with
  | zero => cases h
  | succ n => unfold TyM at h; rw [hu] at h; obtain ⟨s, h1, h2⟩ := h; exact ⟨s, h1, by omega⟩
theorem tyM_slice {t e : TypeId} {n m : Nat} {l : List AVal} (hu : P.underlying t = some (.slice e)) {α : Type} [Enc α] (μ : α → Nat) (hx : ∀ n x m, TyM P n e x m → ∃ a : α, x = Enc.cells a ∧ μ a ≤ m) (h : TyM P n t l m) : ∃ bs : List α, l = [.fs false false bs.length (encs bs)] ∧ (bs.map μ).sum + 1 ≤ m := by
  cases n with
  | zero => cases h
  | succ n =>
    unfold TyM at h
    rw [hu] at h
    obtain ⟨es, rfl, h1, h2⟩ := h
    have : ∃ bs : List α, bs.length = es.length ∧ (es.map (·.1)).flatten = encs bs ∧ (bs.map μ).sum ≤ (es.map (·.2)).sum := by
      clear h1
      induction es with
      | nil => exact ⟨[], rfl, rfl, Nat.le_refl _⟩
      | cons x es ih =>
        obtain ⟨bs, g1, g2, g3⟩ := ih fun y hy => h2 y (List.mem_cons_of_mem _ hy)
        obtain ⟨a, g4, g5⟩ := hx _ _ _ (h2 x (List.mem_cons_self ..)).1
        exact ⟨a :: bs, by simp [g1], by simp [g2, g4], by simp only [List.map_cons, List.sum_cons]; omega⟩
    obtain ⟨bs, g1, g2, g3⟩ := this
    exact ⟨bs, by rw [g1, g2], by omega⟩
theorem tyM_struct {t : TypeId} {n m : Nat} {l : List AVal} {ts : List TypeId} (hu : ∃ fs, P.underlying t = some (.struct fs) ∧ fs.toList.map (·.type) = ts) (h : TyM P (n + 1) t l m) :
    ∃ xs : List (List AVal × Nat), l = (xs.map (·.1)).flatten ∧ xs.length = ts.length ∧ (xs.map (·.2)).sum + 1 ≤ m ∧ ∀ (i : Nat) t x, ts[i]? = some t → xs[i]? = some x → TyM P n t x.1 x.2 := by
  obtain ⟨fs, hu, rfl⟩ := hu
  unfold TyM at h
  rw [hu] at h
  obtain ⟨xs, h1, h2, h3, h4⟩ := h
  refine ⟨xs, h1, by simpa using h2, h3, fun i t x ht hx => ?_⟩
  rw [List.getElem?_map] at ht
  obtain ⟨f, hf, rfl⟩ := Option.map_eq_some_iff.1 ht
  exact (h4 i f x hf hx).1

theorem sum_bulkS : ∀ l : List Str, (l.map fun s => 1 + s.length).sum = bulkS l
  | [] => rfl
  | s :: l => by simp only [List.map_cons, List.sum_cons, bulkS]; rw [sum_bulkS l]
theorem sum_bulkL : ∀ l : List Val, (l.map Val.bulk).sum = bulkL l
  | [] => rfl
  | v :: l => by simp only [List.map_cons, List.sum_cons, bulkL]; rw [sum_bulkL l]
theorem list3 {α : Type} {l : List α} (h : l.length = 3) : ∃ a b c, l = [a, b, c] := by
  match l, h with
  | [a, b, c], _ => exact ⟨a, b, c, rfl⟩
theorem list5 {α : Type} {l : List α} (h : l.length = 5) : ∃ a b c d e, l = [a, b, c, d, e] := by
  match l, h with
  | [a, b, c, d, e], _ => exact ⟨a, b, c, d, e, rfl⟩
theorem list10 {α : Type} {l : List α} (h : l.length = 10) : ∃ a b c d e f g i j k, l = [a, b, c, d, e, f, g, i, j, k] := by
  match l, h with
  | [a, b, c, d, e, f, g, i, j, k], _ => exact ⟨a, b, c, d, e, f, g, i, j, k, rfl⟩
variable {tI tS tV tLV tLS tO tLO tSt tLSt tP : TypeId}
theorem tyM_strs (K : PceTys P tI tS tV tLV tLS tO tLO tSt tLSt tP) {n m : Nat} {l : List AVal} (h : TyM P n tLS l m) : ∃ ns : List Str, l = [.fs false false ns.length (encs ns)] ∧ bulkS ns + 1 ≤ m := by
  obtain ⟨ns, h1, h2⟩ := tyM_slice K.ls (fun s : Str => 1 + s.length) (fun n x m hx => tyM_str K.s hx) h
  exact ⟨ns, h1, by rw [← sum_bulkS]; exact h2⟩
theorem tyM_val (K : PceTys P tI tS tV tLV tLS tO tLO tSt tLSt tP) : ∀ (n m : Nat) (l : List AVal), TyM P n tV l m → ∃ v : Val, l = Enc.cells v ∧ v.bulk ≤ m := by
  intro n
  induction n using Nat.strongRecOn with
  | _ n ih =>
    intro m l h
    cases n with
    | zero => cases h
    | succ n =>
      obtain ⟨xs, rfl, h1, h2, h3⟩ := tyM_struct K.v h
      obtain ⟨x0, x1, x2, x3, x4, rfl⟩ := list5 h1
      obtain ⟨k, e0⟩ := tyM_int K.i (h3 0 tI x0 rfl rfl)
      obtain ⟨i, e1⟩ := tyM_int K.i (h3 1 tI x1 rfl rfl)
      obtain ⟨s, e2, b2⟩ := tyM_str K.s (h3 2 tS x2 rfl rfl)
      have h4 := h3 3 tLV x3 rfl rfl
      obtain ⟨ns, e4, b4⟩ := tyM_strs K (h3 4 tLS x4 rfl rfl)
      have : ∃ vs : List Val, x3.1 = [.fs false false vs.length (encs vs)] ∧ (vs.map Val.bulk).sum + 1 ≤ x3.2 := by
        cases n with
        | zero => cases h4
        | succ n =>
          unfold TyM at h4
          rw [K.lv] at h4
          obtain ⟨es, g0, g1, g2⟩ := h4
          have : ∃ bs : List Val, bs.length = es.length ∧ (es.map (·.1)).flatten = encs bs ∧ (bs.map Val.bulk).sum ≤ (es.map (·.2)).sum := by
            clear g0 g1
            induction es with
            | nil => exact ⟨[], rfl, rfl, Nat.le_refl _⟩
            | cons x es ihe =>
              obtain ⟨bs, f1, f2, f3⟩ := ihe fun y hy => g2 y (List.mem_cons_of_mem _ hy)
              obtain ⟨a, f4, f5⟩ := ih n (by omega) _ _ (g2 x (List.mem_cons_self ..)).1
              exact ⟨a :: bs, by simp [f1], by rw [List.map_cons, List.flatten_cons, f2, f4, encs_cons], by simp only [List.map_cons, List.sum_cons]; omega⟩
          obtain ⟨bs, f1, f2, f3⟩ := this
          exact ⟨bs, by rw [g0, f1, f2], by omega⟩
      obtain ⟨vs, e3, b3⟩ := this
      refine ⟨.mk k i s vs ns, ?_, ?_⟩
      · simp only [List.map_cons, List.map_nil, List.flatten_cons, List.flatten_nil, e0, e1, e2, e3, e4, cells_val, cells_str]
        rfl
      · rw [sum_bulkL] at b3
        simp only [List.map_cons, List.map_nil, List.sum_cons, List.sum_nil] at h2
        simp only [Val.bulk]
        omega
def opnB (o : Opn) : Nat := 1 + o.v.bulk
def stpB (i : Stp) : Nat := (i.l.map opnB).sum + i.s.length + bulkS i.names + 1
theorem tyM_opn (K : PceTys P tI tS tV tLV tLS tO tLO tSt tLSt tP) (n : Nat) (l : List AVal) (m : Nat) (h : TyM P n tO l m) : ∃ o : Opn, l = Enc.cells o ∧ 1 + o.v.bulk ≤ m := by
  cases n with
  | zero => cases h
  | succ n =>
    obtain ⟨xs, rfl, h1, h2, h3⟩ := tyM_struct K.o h
    obtain ⟨x0, x1, x2, rfl⟩ := list3 h1
    obtain ⟨k, e0⟩ := tyM_int K.i (h3 0 tI x0 rfl rfl)
    obtain ⟨i, e1⟩ := tyM_int K.i (h3 1 tI x1 rfl rfl)
    obtain ⟨v, e2, b2⟩ := tyM_val K _ _ _ (h3 2 tV x2 rfl rfl)
    refine ⟨⟨k, i, v⟩, ?_, ?_⟩
    · simp only [List.map_cons, List.map_nil, List.flatten_cons, List.flatten_nil, e0, e1, e2, cells_opn, cells_val]
      rfl
    · simp only [List.map_cons, List.map_nil, List.sum_cons, List.sum_nil] at h2
      show 1 + v.bulk ≤ m
      omega
theorem sum_len {α : Type} (μ : α → Nat) (hp : ∀ a, 1 ≤ μ a) : ∀ l : List α, l.length ≤ (l.map μ).sum
  | [] => Nat.le_refl _
  | a :: l => by have := sum_len μ hp l; have := hp a; simp only [List.map_cons, List.sum_cons, List.length_cons]; omega
theorem sum_mem {α : Type} (μ : α → Nat) : ∀ {l : List α} {a : α}, a ∈ l → μ a ≤ (l.map μ).sum
  | b :: l, a, h => by
    simp only [List.map_cons, List.sum_cons]
    rcases List.mem_cons.1 h with rfl | h
    · omega
    · have := sum_mem μ h; omega
theorem tyM_opns (K : PceTys P tI tS tV tLV tLS tO tLO tSt tLSt tP) {n m : Nat} {l : List AVal} (h : TyM P n tLO l m) : ∃ os : List Opn, l = [.fs false false os.length (encs os)] ∧ (os.map opnB).sum + 1 ≤ m :=
  tyM_slice K.lo opnB (fun n x m hx => tyM_opn K n x m hx) h
theorem opns_ok {os : List Opn} (h : (os.map opnB).sum < 549755813887) : os.length < 1099511627776 ∧ ∀ o ∈ os, okO o := by
  refine ⟨?_, fun o ho => ?_⟩
  · have := sum_len opnB (fun a => by unfold opnB; omega) os
    omega
  · have := sum_mem opnB ho
    unfold okO
    unfold opnB at this h
    omega
theorem tyM_stp (K : PceTys P tI tS tV tLV tLS tO tLO tSt tLSt tP) (n : Nat) (l : List AVal) (m : Nat) (h : TyM P n tSt l m) : ∃ i : Stp, l = Enc.cells i ∧ stpB i ≤ m := by
  cases n with
  | zero => cases h
  | succ n =>
    obtain ⟨xs, rfl, h1, h2, h3⟩ := tyM_struct K.st h
    obtain ⟨x0, x1, x2, x3, x4, rfl⟩ := list5 h1
    simp only [List.map_cons, List.map_nil, List.sum_cons, List.sum_nil] at h2
    obtain ⟨k, e0⟩ := tyM_int K.i (h3 0 tI x0 rfl rfl)
    obtain ⟨i, e1⟩ := tyM_int K.i (h3 1 tI x1 rfl rfl)
    obtain ⟨os, e2, b2⟩ := tyM_opns K (h3 2 tLO x2 rfl rfl)
    obtain ⟨s, e3, b3⟩ := tyM_str K.s (h3 3 tS x3 rfl rfl)
    obtain ⟨ns, e4, b4⟩ := tyM_strs K (h3 4 tLS x4 rfl rfl)
    refine ⟨⟨k, i, os, s, ns⟩, ?_, by show (os.map opnB).sum + s.length + bulkS ns + 1 ≤ m; omega⟩
    simp only [List.map_cons, List.map_nil, List.flatten_cons, List.flatten_nil, e0, e1, e2, e3, e4, cells_stp, cells_str]
    rfl
theorem stp_ok {i : Stp} (h : stpB i < 549755813887) : okStp i := by
  unfold stpB at h
  have := opns_ok (os := i.l) (by omega)
  exact ⟨by omega, by omega, this.1, this.2⟩
theorem tyM_pce (K : PceTys P tI tS tV tLV tLS tO tLO tSt tLSt tP) (n : Nat) (l : List AVal) (m : Nat) (h : TyM P n tP l m) (hm : m < 549755813887) : ∃ x : Pce, l = Enc.cells x ∧ okPce x := by
  cases n with
  | zero => cases h
  | succ n =>
    obtain ⟨xs, rfl, h1, h2, h3⟩ := tyM_struct K.p h
    obtain ⟨x0, x1, x2, x3, x4, x5, x6, x7, x8, x9, rfl⟩ := list10 h1
    simp only [List.map_cons, List.map_nil, List.sum_cons, List.sum_nil] at h2
    obtain ⟨a0, e0⟩ := tyM_int K.i (h3 0 tI x0 rfl rfl)
    obtain ⟨a1, e1⟩ := tyM_int K.i (h3 1 tI x1 rfl rfl)
    obtain ⟨a2, e2⟩ := tyM_int K.i (h3 2 tI x2 rfl rfl)
    obtain ⟨a3, e3⟩ := tyM_int K.i (h3 3 tI x3 rfl rfl)
    obtain ⟨ss, e4, b4⟩ := tyM_slice K.lst stpB (fun n x m hx => tyM_stp K n x m hx) (h3 4 tLSt x4 rfl rfl)
    obtain ⟨os, e5, b5⟩ := tyM_opns K (h3 5 tLO x5 rfl rfl)
    obtain ⟨a6, e6⟩ := tyM_int K.i (h3 6 tI x6 rfl rfl)
    obtain ⟨a7, e7⟩ := tyM_int K.i (h3 7 tI x7 rfl rfl)
    obtain ⟨o, e8, b8⟩ := tyM_opn K _ _ _ (h3 8 tO x8 rfl rfl)
    obtain ⟨a9, e9⟩ := tyM_int K.i (h3 9 tI x9 rfl rfl)
    have hs := opns_ok (os := os) (by omega)
    refine ⟨⟨a0, a1, a2, a3, ss, os, a6, a7, o, a9⟩, ?_, fun i hi => stp_ok ?_, ?_, hs.1, hs.2, ?_⟩
    · simp only [List.map_cons, List.map_nil, List.flatten_cons, List.flatten_nil, e0, e1, e2, e3, e4, e5, e6, e7, e8, e9, cells_pce, cells_opn]
      rfl
    · have := sum_mem stpB hi
      simp only at this
      omega
    · have := sum_len stpB (fun a => by unfold stpB; omega) ss
      show ss.length < _
      omega
    · show o.v.bulk < _
      omega
end
end Go.RI

