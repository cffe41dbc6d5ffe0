/- What Check, More and Wait bring, in the program and in the document's answer. Conditions: none. -/
import Derived.Test.YtcmieknogpjnmaaRtC
namespace Go.Proofs.Ytcmieknogpjnmaa
open Go Go.RI
set_option linter.unusedSimpArgs false

/-- Do they fit an int? -/
def fits (n : Int) : Prop := -9223372036854775808 ≤ n ∧ n ≤ 9223372036854775807

theorem okP_iff {m f t c : Int} : okP m f t c = true ↔ (1 ≤ m ∧ m ≤ 1000) ∧ (1 ≤ t ∧ t ≤ 1000) ∧ (0 ≤ f ∧ f ≤ 1099511627776) ∧ (0 ≤ c ∧ c ≤ 1099511627776) := by
  simp [okP, hasB, and_assoc]

def waitE (m f t c a : Int) : Bool := okP m f t c && hasB 1 9007199254740991 a
def waitR (m f t c a : Int) : AVal := if waitE m f t c a then .tu [.i .i64 (waitV f t c a), .i .i64 0] else .tu [.i .i64 0, .i .i64 2]

/-- The document's rounds. -/
def rise (t c : Int) : Nat → Int → Int
  | 0, w => w
  | k + 1, w => if w < c ∧ 0 < w ∧ 1 < t then rise t c k (w * t) else w

theorem rise_stay (t c : Int) (w : Int) (h : ¬ (w < c ∧ 0 < w ∧ 1 < t)) : ∀ k, rise t c k w = w := by
  intro k; cases k with
  | zero => rfl
  | succ k => simp only [rise]; rw [if_neg h]

theorem rise_grow (t c : Int) (ht : 1 < t) : ∀ (k : Nat) (w : Int), 0 < w → min (rise t c k w) c = grow t c k (min w c) := by
  intro k
  induction k with
  | zero => intro w _; rfl
  | succ k ih =>
    intro w hw
    simp only [rise, grow]
    by_cases h : w < c
    · rw [if_pos ⟨h, hw, ht⟩, if_pos (by omega), ih (w * t) (Int.mul_pos hw (by omega))]
      have : min w c = w := by omega
      rw [this]
    · rw [if_neg (by omega), if_neg (by omega)]

theorem rise_wait {f t c a : Int} (hf : 0 ≤ f) (hc : 0 ≤ c) (ht : 1 ≤ t) : min (rise t c (a - 1).toNat f) c = waitV f t c a := by
  unfold waitV
  by_cases h : t = 1 ∨ min f c = 0
  · rw [if_pos h, rise_stay]
    omega
  · rw [if_neg h, rise_grow t c (by omega) _ _ (by omega)]

theorem rise_bounds (t c : Int) (ht : 1 ≤ t) (ht2 : t ≤ 1000) (hc : c ≤ 1099511627776) : ∀ (k : Nat) (w : Int), 0 ≤ w → w ≤ 1099511627776 * 1000 → 0 ≤ rise t c k w ∧ rise t c k w ≤ 1099511627776 * 1000 := by
  intro k
  induction k with
  | zero => intro w h0 h1; exact ⟨h0, h1⟩
  | succ k ih =>
    intro w h0 h1
    simp only [rise]
    split
    · rename_i h
      have p : w * t ≤ 1099511627776 * 1000 := Int.mul_le_mul (by omega) ht2 (by omega) (by omega)
      exact ih _ (Int.mul_nonneg h0 (by omega)) p
    · exact ⟨h0, h1⟩

section
variable {G : AHeap}

theorem t8 (m f t c a : Int) (ha : fits a) (lo : Nat) (H : AHeap) : theCalls IP G lo 8 [pol m f t c, .i .i64 a] H = some (waitR m f t c a, H) := by
  have hno : noId (waitR m f t c a) = true := by unfold waitR; split <;> rfl
  refine theCalls_of (comes2 (theCalls_knows _) ip8 rfl rfl rfl hno ?_ lo H)
  have c12 := t12 (G := G) m f t c
  cases h1 : okP m f t c with
  | false => simp [pol, I8, errI, waitR, waitE, h1, show ∀ lo H, theCalls IP G lo 12 [.ag [.i .i64 m, .i .i64 f, .i .i64 t, .i .i64 c]] H = _ from c12]
  | true =>
    obtain ⟨_, ⟨b1, b2⟩, ⟨b3, b4⟩, ⟨b5, b6⟩⟩ := okP_iff.1 h1
    have c21 := t21 (G := G) m f t c a b3 b4 b1 b2 b5 b6 ha.1 ha.2
    simp only [pol] at c12 c21
    by_cases h2 : a < 1
    · simp [pol, I8, errI, waitR, waitE, h1, c12, h2, hasB]
      omega
    · by_cases h3 : 9007199254740991 < a
      · simp [pol, I8, errI, waitR, waitE, h1, c12, h2, h3, hasB]
      · have h4 : 1 ≤ a := by omega
        have h5 : a ≤ 9007199254740991 := by omega
        simp [pol, I8, errI, waitR, waitE, h1, c12, c21, h2, h3, h4, h5, hasB]

/-- The heap of the document's 'Wait'. -/
def heap9 (G : AHeap) (m f t c : Int) : AHeap := G.push (.cells [.i .i64 m, .i .i64 f, .i .i64 t, .i .i64 c] 1 false)

theorem loop9 (m f t c a : Int) (ht1 : 1 ≤ t) (ht2 : t ≤ 1000) (hc1 : 0 ≤ c) (hc2 : c ≤ 1099511627776) (ha : a ≤ 9007199254740991) (Q : Post) : ∀ (k : Nat) (i w : Int), 0 ≤ w → w ≤ 1099511627776 * 1000 → (a - i).toNat = k → 1 ≤ i → i ≤ a →
    (∀ i' b, Q (.exit 0) [(1, .i .i64 a), (2, .p G.next 0), (6, .i .i64 (rise t c k w)), (7, .i .i64 i'), (35, b)] (heap9 G m f t c)) →
    rounds (fun Q' => wp (theCalls IP G G.next) G.next L9a Q') Q (k + 1) [(1, .i .i64 a), (2, .p G.next 0), (6, .i .i64 w), (7, .i .i64 i)] (heap9 G m f t c) := by
  intro k
  induction k with
  | zero =>
    intro i w hw0 hw1 hk hi1 hi2 hQ
    have h1 : ¬ (i < a) := by omega
    rw [rounds_step]
    simp [L9a, heap9, h1]
    exact hQ i _
  | succ k ih =>
    intro i w hw0 hw1 hk hi1 hi2 hQ
    have h1 : i < a := by omega
    have g1 : (heap9 G m f t c).get G.next = some (.cells [.i .i64 m, .i .i64 f, .i .i64 t, .i .i64 c] 1 false) := by simp [heap9]
    have wi : wrapI .i64 (i + 1) = i + 1 := wrapI_i64 (by omega) (by omega)
    rw [rounds_step]
    by_cases h2 : w < c
    · by_cases h3 : 0 < w
      · by_cases h4 : 1 < t
        · have p : w * t ≤ 1099511627776 * 1000 := Int.mul_le_mul (by omega) ht2 (by omega) (by omega)
          have p0 : 0 ≤ w * t := Int.mul_nonneg hw0 (by omega)
          have ww : wrapI .i64 (w * t) = w * t := wrapI_i64 (by omega) (by omega)
          have := ih (i + 1) (w * t) p0 p (by omega) (by omega) (by omega) (fun i' b => by have := hQ i' b; simp only [rise, if_pos (And.intro h2 (And.intro h3 h4))] at this; exact this)
          simp [L9a, h1, g1, h2, h3, h4, ww, wi]
          exact this
        · simp [L9a, h1, g1, h2, h3, h4]
          have := hQ i (.b false)
          simp only [rise, h2, h3, h4, and_false, if_false] at this
          exact this
      · simp [L9a, h1, g1, h2, h3]
        have := hQ i (.b false)
        simp only [rise, h2, h3, and_false, false_and, if_false] at this
        exact this
    · simp [L9a, h1, g1, h2]
      have := hQ i (.b false)
      simp only [rise, h2, false_and, if_false] at this
      exact this

theorem t9 (m f t c a : Int) (lo : Nat) (H : AHeap) : theCalls IP G lo 9 [pol m f t c, .i .i64 a] H = some (waitR m f t c a, H) := by
  have hno : noId (waitR m f t c a) = true := by unfold waitR; split <;> rfl
  refine theCalls_of (comes2 (theCalls_knows _) ip9 rfl rfl rfl hno ?_ lo H)
  have c13 := t13 (G := G) m f t c
  simp only [pol] at c13
  cases h1 : okP m f t c with
  | false => simp [pol, I9, errI, waitR, waitE, h1, c13]
  | true =>
    obtain ⟨_, ⟨b1, b2⟩, ⟨b3, b4⟩, ⟨b5, b6⟩⟩ := okP_iff.1 h1
    cases h2 : hasB 1 9007199254740991 a with
    | false => simp [pol, I9, errI, waitR, waitE, h1, h2, c13, t22]
    | true =>
      have h3 : 1 ≤ a ∧ a ≤ 9007199254740991 := by simpa [hasB] using h2
      have hb := rise_bounds t c b1 b2 b6 (a - 1).toNat f b3 (by omega)
      have hw := rise_wait (f := f) (t := t) (c := c) (a := a) b3 b5 b1
      simp [pol, I9, errI, waitR, waitE, h1, h2, c13, t22]
      refine wp_loop_of _ (loop9 m f t c a b1 b2 b5 b6 h3.2 _ (a - 1).toNat 1 f b3 (by omega) rfl (by omega) h3.1 ?_)
      intro i' b
      simp [heap9]
      simpa using hw

theorem t14 (m f t c a : Int) (lo : Nat) (H : AHeap) : theCalls IP G lo 14 [pol m f t c, .i .i64 a] H = some (.b (okP m f t c && (decide (0 ≤ a) && decide (a < m))), H) := by
  refine theCalls_of (comes2 (theCalls_knows _) ip14 rfl rfl rfl rfl ?_ lo H)
  have c12 := t12 (G := G) m f t c
  simp only [pol] at c12
  cases h1 : okP m f t c with
  | false => simp [pol, I14, errI, h1, c12]
  | true => by_cases h2 : 0 ≤ a <;> simp [pol, I14, errI, h1, h2, c12]

theorem t15 (m f t c a : Int) (lo : Nat) (H : AHeap) : theCalls IP G lo 15 [pol m f t c, .i .i64 a] H = some (.b (okP m f t c && (decide (0 ≤ a) && decide (a < m))), H) := by
  refine theCalls_of (comes2 (theCalls_knows _) ip15 rfl rfl rfl rfl ?_ lo H)
  have c13 := t13 (G := G) m f t c
  simp only [pol] at c13
  cases h1 : okP m f t c with
  | false => simp [pol, I15, errI, h1, c13]
  | true => by_cases h2 : 0 ≤ a <;> simp [pol, I15, errI, h1, h2, c13]

end
end Go.Proofs.Ytcmieknogpjnmaa
