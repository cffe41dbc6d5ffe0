/- The closed statement: both ends of all. Conditions: none. -/
import Derived.Test.YtcmieknogpjnmaaRtF
namespace Go.Proofs.Ytcmieknogpjnmaa
open Go Go.RI
set_option linter.unusedSimpArgs false
set_option linter.unusedVariables false

def nums : List AVal := [.i .i64 (-1), .i .i64 0, .i .i64 1, .i .i64 2, .i .i64 999, .i .i64 1000, .i .i64 1001, .i .i64 1099511627776, .i .i64 1099511627777, .i .i64 (-9223372036854775808), .i .i64 9223372036854775807, .i .i64 9007199254740991, .i .i64 9007199254740992]

theorem nums_get : ∀ j : Nat, j < 13 → ∃ n, nums[j]? = some (.i .i64 n) ∧ fits n := by
  intro j hj
  rcases j with _ | _ | _ | _ | _ | _ | _ | _ | _ | _ | _ | _ | _ | j
  all_goals first
    | exact ⟨_, rfl, by decide, by decide⟩
    | omega

section
variable {G : AHeap}

theorem loop7a (m f t c i k : Int) (s q : Nat) (H : AHeap) (hs : H.get s = some (.cells nums 1 false)) (hq : H.get q = some (.cells [.i .i64 m, .i .i64 f, .i .i64 t, .i .i64 c] 1 false)) (Q : Post) :
    ∀ (r j : Nat) (x : Int), x = j → j + r = 13 →
    (∀ x b, Q (.exit 5) [(1, .sl s 0 13 (some 13)), (2, .i .i64 i), (3, .i .i64 k), (4, .p q 0), (5, x), (51, b)] H) →
    rounds (fun Q' => wp (theCalls IP G G.next) G.next L7a Q') Q (r + 1) [(1, .sl s 0 13 (some 13)), (2, .i .i64 i), (3, .i .i64 k), (4, .p q 0), (5, .i .i64 x)] H := by
  intro r
  induction r with
  | zero =>
    intro j x hx hj hQ
    have h1 : ¬ (x < 13) := by omega
    rw [rounds_step]
    simp [L7a, h1]
    exact hQ _ _
  | succ r ih =>
    intro j x hx hj hQ
    have h1 : x < 13 := by omega
    have h0 : 0 ≤ x := by omega
    have hj2 : x.toNat = j := by omega
    obtain ⟨n, hn1, hn2⟩ := nums_get j (by omega)
    have wx : wrapI .i64 (x + 1) = x + 1 := wrapI_i64 (by omega) (by omega)
    have c3 := t3 (G := G) m f t c n hn2 G.next H
    simp only [pol] at c3
    have := ih (j + 1) (x + 1) (by omega) (by omega) hQ
    rw [rounds_step]
    simp [L7a, h1, h0, hj2, hs, hq, hn1, c3, wx]
    exact this

/-- The numbers stand. -/
def Nums (s : Nat) (H : AHeap) : Prop := H.get s = some (.cells nums 1 false) ∧ s < H.next

theorem loop7b (i : Int) (s : Nat) (hi0 : 0 ≤ i) (hi1 : i < 13) (hG : G.next ≤ s) (Q : Post) :
    ∀ (r j : Nat) (k : Int) (H : AHeap), k = j → j + r = 4 → Nums s H → G.next ≤ H.next →
    (∀ k b H', Nums s H' → G.next ≤ H'.next → Q (.exit 2) [(1, .sl s 0 13 (some 13)), (2, .i .i64 i), (3, k), (17, b)] H') →
    rounds (fun Q' => wp (theCalls IP G G.next) G.next L7b Q') Q (r + 1) [(1, .sl s 0 13 (some 13)), (2, .i .i64 i), (3, .i .i64 k)] H := by
  intro r
  induction r with
  | zero =>
    intro j k H hk hj hN hGH hQ
    have h1 : ¬ (k < 4) := by omega
    rw [rounds_step]
    simp [L7b, h1]
    exact hQ _ _ H hN hGH
  | succ r ih =>
    intro j k H hk hj hN hGH hQ
    obtain ⟨hs, hsl⟩ := hN
    have h1 : k < 4 := by omega
    have hi2 : i.toNat < 13 := by omega
    obtain ⟨n, hn1, hn2⟩ := nums_get i.toNat hi2
    have wk : wrapI .i64 (k + 1) = k + 1 := wrapI_i64 (by omega) (by omega)
    have c20 := t20 (G := G)
    simp only [pol] at c20
    have hne : ¬ s = H.next := by omega
    have next : ∀ H', H'.get s = H.get s → H.next ≤ H'.next → rounds (fun Q' => wp (theCalls IP G G.next) G.next L7b Q') Q (r + 1) [(1, .sl s 0 13 (some 13)), (2, .i .i64 i), (3, .i .i64 (k + 1))] H' := fun H' g1 g2 =>
      ih (j + 1) (k + 1) H' (by omega) (by omega) ⟨by rw [g1]; exact hs, by omega⟩ (by omega) hQ
    rw [rounds_step]
    by_cases k0 : k = 0
    · subst k0
      simp [L7b, c20, hs, hi0, hi1, hn1, hne, hGH]
      refine wp_loop_of _ (loop7a n 10 3 50 i 0 s H.next _ (by simp [hs, hne]) (by simp) _ 13 0 0 rfl rfl ?_)
      intro x b
      simp
      exact next _ (by simp [hne]) (by simp)
    · by_cases k1 : k = 1
      · subst k1
        simp [L7b, c20, hs, hi0, hi1, hn1, hne, hGH]
        refine wp_loop_of _ (loop7a 4 n 3 50 i 1 s H.next _ (by simp [hs, hne]) (by simp) _ 13 0 0 rfl rfl ?_)
        intro x b
        simp
        exact next _ (by simp [hne]) (by simp)
      · by_cases k2 : k = 2
        · subst k2
          simp [L7b, c20, hs, hi0, hi1, hn1, hne, hGH]
          refine wp_loop_of _ (loop7a 4 10 n 50 i 2 s H.next _ (by simp [hs, hne]) (by simp) _ 13 0 0 rfl rfl ?_)
          intro x b
          simp
          exact next _ (by simp [hne]) (by simp)
        · have k3 : k = 3 := by omega
          subst k3
          simp [L7b, c20, hs, hi0, hi1, hn1, hne, hGH]
          refine wp_loop_of _ (loop7a 4 10 3 n i 3 s H.next _ (by simp [hs, hne]) (by simp) _ 13 0 0 rfl rfl ?_)
          intro x b
          simp
          exact next _ (by simp [hne]) (by simp)

theorem loop7c (s : Nat) (hG : G.next ≤ s) (Q : Post) :
    ∀ (r j : Nat) (i : Int) (H : AHeap), i = j → j + r = 13 → Nums s H → G.next ≤ H.next →
    (∀ i b H', Nums s H' → G.next ≤ H'.next → Q (.exit 0) [(1, .sl s 0 13 (some 13)), (2, i), (13, b)] H') →
    rounds (fun Q' => wp (theCalls IP G G.next) G.next L7c Q') Q (r + 1) [(1, .sl s 0 13 (some 13)), (2, .i .i64 i)] H := by
  intro r
  induction r with
  | zero =>
    intro j i H hi hj hN hGH hQ
    have h1 : ¬ (i < 13) := by omega
    rw [rounds_step]
    simp [L7c, h1]
    exact hQ _ _ H hN hGH
  | succ r ih =>
    intro j i H hi hj hN hGH hQ
    have h1 : i < 13 := by omega
    have wi : wrapI .i64 (i + 1) = i + 1 := wrapI_i64 (by omega) (by omega)
    rw [rounds_step]
    simp [L7c, h1]
    refine wp_loop_of _ (loop7b i s (by omega) h1 hG _ 4 0 0 H rfl rfl hN hGH ?_)
    intro k b H' hN' hGH'
    simp [wi]
    exact ih (j + 1) (i + 1) H' (by omega) (by omega) hN' hGH' hQ

/-- RetryKnown. -/
theorem t7 (lo : Nat) (H : AHeap) : theCalls IP G lo 7 [] H = some (.b true, H) := by
  refine theCalls_of (comes2 (theCalls_knows _) ip7 rfl rfl rfl rfl ?_ lo H)
  have c16 := t16 (G := G)
  have c3 := t3 (G := G) 1000 1099511627776 1000 1099511627776 1000 ⟨by decide, by decide⟩
  have c3' := t3 (G := G) 1000 7 1 9 1000 ⟨by decide, by decide⟩
  have d1 := t19 (G := G) 1000 7 1 9 9007199254740991 7 ⟨by decide, by decide⟩
  have d2 := t19 (G := G) 2 1 1000 1099511627776 4 1000000000 ⟨by decide, by decide⟩
  have d3 := t19 (G := G) 2 1 1000 1099511627776 5 1000000000000 ⟨by decide, by decide⟩
  have d4 := t19 (G := G) 2 1 1000 1099511627776 6 1099511627776 ⟨by decide, by decide⟩
  have d5 := t19 (G := G) 1 0 9 9 1000 0 ⟨by decide, by decide⟩
  have v1 : (if waitE 1000 7 1 9 9007199254740991 then decide (waitV 7 1 9 9007199254740991 = 7) else false) = true := by
    simp [waitE, okP, hasB, waitV]
    rfl
  have v2 : (if waitE 2 1 1000 1099511627776 4 then decide (waitV 1 1000 1099511627776 4 = 1000000000) else false) = true := by decide
  have v3 : (if waitE 2 1 1000 1099511627776 5 then decide (waitV 1 1000 1099511627776 5 = 1000000000000) else false) = true := by decide
  have v4 : (if waitE 2 1 1000 1099511627776 6 then decide (waitV 1 1000 1099511627776 6 = 1099511627776) else false) = true := by decide
  have v5 : (if waitE 1 0 9 9 1000 then decide (waitV 0 9 9 1000 = 0) else false) = true := by
    simp [waitE, okP, hasB, waitV]
    have h0 : min (0 : Int) 9 = 0 := rfl
    simp [h0]
  rw [v1] at d1; rw [v2] at d2; rw [v3] at d3; rw [v4] at d4; rw [v5] at d5
  simp only [pol] at c3 c3' d1 d2 d3 d4 d5
  simp [I7]
  refine wp_loop_of _ (loop7c G.next (Nat.le_refl _) _ 13 0 0 _ rfl rfl ⟨by simp [nums], by simp⟩ (by simp) ?_)
  intro i b H' hN hGH
  have h1 : ¬ H'.next = H'.next + 1 := by omega
  have h2 : ¬ H'.next = H'.next + 2 := by omega
  have g1 : G.next ≤ H'.next + 1 := by omega
  have g2 : G.next ≤ H'.next + 2 := by omega
  simp [c16, c3, c3', d1, d2, d3, d4, d5, hGH, g1, g2, Nat.add_assoc]

end
end Go.Proofs.Ytcmieknogpjnmaa
