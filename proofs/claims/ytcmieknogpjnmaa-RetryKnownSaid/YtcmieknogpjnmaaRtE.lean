/- What Total brings, in the program and in the document's answer. Conditions: none. -/
import Derived.Test.YtcmieknogpjnmaaRtD
namespace Go.Proofs.Ytcmieknogpjnmaa
open Go Go.RI
set_option linter.unusedSimpArgs false

def sumV (f t c : Int) : Nat → Int
  | 0 => 0
  | k + 1 => sumV f t c k + waitV f t c ((k : Int) + 1)

theorem sumV_bounds {f t c : Int} (h1 : 0 ≤ f) (h2 : 0 ≤ c) (h3 : c ≤ 1099511627776) (ht : 1 ≤ t) : ∀ k, 0 ≤ sumV f t c k ∧ sumV f t c k ≤ k * 1099511627776 := by
  intro k
  induction k with
  | zero => simp [sumV]
  | succ k ih =>
    have := waitV_bounds (a := (k : Int) + 1) h1 h2 ht
    simp only [sumV]
    omega

def totE (m f t c n : Int) : Bool := okP m f t c && hasB 0 1000 n
def totR (m f t c n : Int) : AVal := if totE m f t c n then .tu [.i .i64 (sumV f t c n.toNat), .i .i64 0] else .tu [.i .i64 0, .i .i64 2]

section
variable {G : AHeap}

theorem sum_step {f t c : Int} {i : Nat} {j : Int} (hj : j = i) : sumV f t c (i + 1) = sumV f t c i + waitV f t c (j + 1) := by rw [hj]; rfl

theorem loop10 (m f t c n : Int) (hf1 : 0 ≤ f) (hf2 : f ≤ 1099511627776) (ht1 : 1 ≤ t) (ht2 : t ≤ 1000) (hc1 : 0 ≤ c) (hc2 : c ≤ 1099511627776) (hn : n ≤ 1000) (Q : Post) : ∀ (k i : Nat) (j : Int), j = i → i + k = n.toNat → 0 ≤ n →
    (∀ b, Q (.exit 0) [(2, .p G.next 0), (4, .i .i64 (sumV f t c n.toNat)), (18, .i .i64 n), (19, .i .i64 n), (20, b)] (heap9 G m f t c)) →
    rounds (fun Q' => wp (theCalls IP G G.next) G.next L10a Q') Q (k + 1) [(2, .p G.next 0), (4, .i .i64 (sumV f t c i)), (18, .i .i64 n), (19, .i .i64 j)] (heap9 G m f t c) := by
  intro k
  induction k with
  | zero =>
    intro i j hj hk hn0 hQ
    have h1 : ¬ (j < n) := by omega
    have hi : j = n := by omega
    have hi2 : i = n.toNat := by omega
    rw [rounds_step]
    simp [L10a, h1]
    rw [hi, hi2]
    exact hQ _
  | succ k ih =>
    intro i j hj hk hn0 hQ
    have h1 : j < n := by omega
    have hj0 : 0 ≤ j := by omega
    have g1 : (heap9 G m f t c).get G.next = some (.cells [.i .i64 m, .i .i64 f, .i .i64 t, .i .i64 c] 1 false) := by simp [heap9]
    have wi : wrapI .i64 (j + 1) = j + 1 := wrapI_i64 (by omega) (by omega)
    have c21 := t21 (G := G) m f t c (j + 1) hf1 hf2 ht1 ht2 hc1 hc2 (by omega) (by omega) G.next (heap9 G m f t c)
    simp only [pol] at c21
    have hb := sumV_bounds hf1 hc1 hc2 ht1 (i + 1)
    have hs := sum_step (f := f) (t := t) (c := c) hj
    have ws : wrapI .i64 (sumV f t c i + waitV f t c (j + 1)) = sumV f t c (i + 1) := by rw [hs] at hb ⊢; exact wrapI_i64 (by omega) (by omega)
    have := ih (i + 1) (j + 1) (by omega) (by omega) hn0 hQ
    rw [rounds_step]
    simp [L10a, h1, g1, wi, c21, ws]
    exact this

theorem t10 (m f t c n : Int) (lo : Nat) (H : AHeap) : theCalls IP G lo 10 [pol m f t c, .i .i64 n] H = some (totR m f t c n, H) := by
  have hno : noId (totR m f t c n) = true := by unfold totR; split <;> rfl
  refine theCalls_of (comes2 (theCalls_knows _) ip10 rfl rfl rfl hno ?_ lo H)
  have c12 := t12 (G := G) m f t c
  simp only [pol] at c12
  cases h1 : okP m f t c with
  | false => simp [pol, I10, errI, totR, totE, h1, c12]
  | true =>
    obtain ⟨_, ⟨b1, b2⟩, ⟨b3, b4⟩, ⟨b5, b6⟩⟩ := okP_iff.1 h1
    by_cases h2 : n < 0
    · simp [pol, I10, errI, totR, totE, h1, c12, h2, hasB]
      omega
    · by_cases h3 : 1000 < n
      · have h4 : ¬ n ≤ 1000 := by omega
        simp [pol, I10, errI, totR, totE, h1, c12, h2, h3, h4, hasB]
      · have h4 : 0 ≤ n := by omega
        have h5 : n ≤ 1000 := by omega
        simp [pol, I10, errI, totR, totE, h1, c12, h2, h3, h4, h5, hasB]
        refine wp_loop_of _ (loop10 m f t c n b3 b4 b1 b2 b5 b6 h5 _ n.toNat 0 0 rfl (by omega) h4 ?_)
        intro b
        simp

theorem loop11 (m f t c n : Int) (hok : okP m f t c = true) (hn : n ≤ 1000) (Q : Post) : ∀ (k i : Nat) (j : Int), j = (i : Int) + 1 → i + k = n.toNat → 0 ≤ n →
    (∀ j b, Q (.exit 0) [(1, .i .i64 n), (2, .p G.next 0), (6, .i .i64 (sumV f t c n.toNat)), (7, .i .i64 j), (20, b)] (heap9 G m f t c)) →
    rounds (fun Q' => wp (theCalls IP G G.next) G.next L11a Q') Q (k + 1) [(1, .i .i64 n), (2, .p G.next 0), (6, .i .i64 (sumV f t c i)), (7, .i .i64 j)] (heap9 G m f t c) := by
  obtain ⟨_, ⟨b1, b2⟩, ⟨b3, b4⟩, ⟨b5, b6⟩⟩ := okP_iff.1 hok
  intro k
  induction k with
  | zero =>
    intro i j hj hk hn0 hQ
    have h1 : ¬ (j ≤ n) := by omega
    have hi2 : i = n.toNat := by omega
    rw [rounds_step]
    simp [L11a, h1]
    rw [← hi2] at hQ
    exact hQ _ _
  | succ k ih =>
    intro i j hj hk hn0 hQ
    have h1 : j ≤ n := by omega
    have hj1 : 1 ≤ j := by omega
    have g1 : (heap9 G m f t c).get G.next = some (.cells [.i .i64 m, .i .i64 f, .i .i64 t, .i .i64 c] 1 false) := by simp [heap9]
    have wi : wrapI .i64 (j + 1) = j + 1 := wrapI_i64 (by omega) (by omega)
    have c9 := t9 (G := G) m f t c j G.next (heap9 G m f t c)
    have hw : waitR m f t c j = .tu [.i .i64 (waitV f t c j), .i .i64 0] := by
      unfold waitR waitE
      rw [hok, if_pos (by simp [hasB]; omega)]
    rw [hw] at c9
    simp only [pol] at c9
    have hb := sumV_bounds b3 b5 b6 b1 (i + 1)
    have hs : sumV f t c (i + 1) = sumV f t c i + waitV f t c j := by rw [hj]; rfl
    have ws : wrapI .i64 (sumV f t c i + waitV f t c j) = sumV f t c (i + 1) := by rw [hs] at hb ⊢; exact wrapI_i64 (by omega) (by omega)
    have := ih (i + 1) (j + 1) (by omega) (by omega) hn0 hQ
    rw [rounds_step]
    simp [L11a, h1, g1, wi, c9, ws]
    exact this

theorem t11 (m f t c n : Int) (lo : Nat) (H : AHeap) : theCalls IP G lo 11 [pol m f t c, .i .i64 n] H = some (totR m f t c n, H) := by
  have hno : noId (totR m f t c n) = true := by unfold totR; split <;> rfl
  refine theCalls_of (comes2 (theCalls_knows _) ip11 rfl rfl rfl hno ?_ lo H)
  have c13 := t13 (G := G) m f t c
  simp only [pol] at c13
  cases h1 : okP m f t c with
  | false => simp [pol, I11, errI, totR, totE, h1, c13]
  | true =>
    cases h2 : hasB 0 1000 n with
    | false => simp [pol, I11, errI, totR, totE, h1, c13, t22, h2]
    | true =>
      have h3 : 0 ≤ n ∧ n ≤ 1000 := by simpa [hasB] using h2
      simp [pol, I11, errI, totR, totE, h1, c13, t22, h2]
      refine wp_loop_of _ (loop11 m f t c n h1 h3.2 _ n.toNat 0 1 rfl (by omega) h3.1 ?_)
      intro j b
      simp

end
end Go.Proofs.Ytcmieknogpjnmaa
