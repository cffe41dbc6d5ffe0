/- Each wait is Times times the one ahead, or Cap; waits do not fall. Conditions: none. -/
import Derived.Test.YtcmieknogpjnmaaRtF
namespace Go.Proofs.Ytcmieknogpjnmaa
open Go Go.RI
set_option linter.unusedSimpArgs false
set_option linter.unusedVariables false

theorem grow_next (t c : Int) : ∀ (k : Nat) (w : Int), grow t c (k + 1) w = if grow t c k w < c then min (grow t c k w * t) c else grow t c k w := by
  intro k
  induction k with
  | zero => intro w; rfl
  | succ k ih =>
    intro w
    have h1 : grow t c (k + 1 + 1) w = if w < c then grow t c (k + 1) (min (w * t) c) else w := rfl
    have h2 : grow t c (k + 1) w = if w < c then grow t c k (min (w * t) c) else w := rfl
    rw [h1, h2]
    by_cases h : w < c
    · rw [if_pos h, if_pos h]; exact ih _
    · rw [if_neg h, if_neg h, if_neg h]

theorem wait_next {f t c a : Int} (hf : 0 ≤ f) (hc : 0 ≤ c) (ht : 1 ≤ t) (ha : 1 ≤ a) : waitV f t c (a + 1) = if waitV f t c a < c then min (waitV f t c a * t) c else waitV f t c a := by
  unfold waitV
  by_cases h : t = 1 ∨ min f c = 0
  · rw [if_pos h, if_pos h]
    rcases h with h | h
    · rw [h, Int.mul_one]
      split <;> omega
    · rw [h]; split <;> omega
  · rw [if_neg h, if_neg h]
    have : (a + 1 - 1).toNat = (a - 1).toNat + 1 := by omega
    rw [this, grow_next]

theorem wait_mono {f t c : Int} (hf : 0 ≤ f) (hc : 0 ≤ c) (ht : 1 ≤ t) : ∀ (k : Nat) (a : Int), 1 ≤ a → waitV f t c a ≤ waitV f t c (a + k) := by
  intro k
  induction k with
  | zero => intro a _; simp
  | succ k ih =>
    intro a ha
    have h1 := ih a ha
    have h2 := wait_next (f := f) (t := t) (c := c) (a := a + k) hf hc ht (by omega)
    have h3 := waitV_bounds (f := f) (t := t) (c := c) (a := a + k) hf hc ht
    have h4 : a + ((k + 1 : Nat) : Int) = a + k + 1 := by omega
    rw [h4, h2]
    split
    · have : waitV f t c (a + k) ≤ waitV f t c (a + k) * t := by
        have := Int.mul_le_mul_of_nonneg_left ht h3.1
        omega
      omega
    · exact h1

theorem wait_first (f t c : Int) : waitV f t c 1 = min f c := by
  unfold waitV
  split <;> rfl

theorem wait_flat {f t c : Int} (h : ¬ (1 < t ∧ 0 < f)) (hf : 0 ≤ f) (hc : 0 ≤ c) (ht : 1 ≤ t) (a b : Int) : waitV f t c a = waitV f t c b := by
  unfold waitV
  rw [if_pos (by omega), if_pos (by omega)]

section
variable {G : AHeap}

/-- RetryNext. -/
theorem t5 (m f t c n : Int) (lo : Nat) (H : AHeap) : theCalls IP G lo 5 [pol m f t c, .i .i64 n] H = some (.b true, H) := by
  refine theCalls_of (comes2 (theCalls_knows _) ip5 rfl rfl rfl rfl ?_ lo H)
  have c17 := t17 (G := G) m f t c
  have hM := bring_bounds (n := m) (b := 1000) (by decide)
  have hT := bring_bounds (n := t) (b := 1000) (by decide)
  have hF := bring_bounds (n := f) (b := 1099511627777) (by decide)
  have hC := bring_bounds (n := c) (b := 1099511627777) (by decide)
  have hI := bring_bounds (n := n) (b := 9007199254740990) (by decide)
  have c18 := t18 (G := G) n 9007199254740990 ⟨by decide, by decide⟩
  have hM1 : 1 ≤ 1 + bring m 1000 ∧ 1 + bring m 1000 ≤ 1000 := by omega
  have hT1 : 1 ≤ 1 + bring t 1000 ∧ 1 + bring t 1000 ≤ 1000 := by omega
  generalize 1 + bring m 1000 = M at c17 hM1
  generalize 1 + bring t 1000 = T at c17 hT1
  generalize bring f 1099511627777 = F at c17 hF
  generalize bring c 1099511627777 = C at c17 hC
  generalize bring n 9007199254740990 = j at c18 hI
  have wj : wrapI .i64 (1 + j) = 1 + j := wrapI_i64 (by omega) (by omega)
  have wj2 : wrapI .i64 (1 + j + 1) = 1 + j + 1 := wrapI_i64 (by omega) (by omega)
  have hok : okP M F T C = true := okP_iff.2 ⟨hM1, hT1, ⟨hF.1, by omega⟩, ⟨hC.1, by omega⟩⟩
  have e1 : waitR M F T C (1 + j) = .tu [.i .i64 (waitV F T C (1 + j)), .i .i64 0] := by unfold waitR waitE; rw [hok, if_pos (by simp [hasB]; omega)]
  have e2 : waitR M F T C (1 + j + 1) = .tu [.i .i64 (waitV F T C (1 + j + 1)), .i .i64 0] := by unfold waitR waitE; rw [hok, if_pos (by simp [hasB]; omega)]
  have c8 := t8 (G := G) M F T C (1 + j) ⟨by omega, by omega⟩
  have c8' := t8 (G := G) M F T C (1 + j + 1) ⟨by omega, by omega⟩
  have c19 := t19 (G := G) M F T C 1 (min F C) ⟨by decide, by decide⟩
  have v19 : (if waitE M F T C 1 then decide (waitV F T C 1 = min F C) else false) = true := by
    unfold waitE; rw [hok, wait_first]; simp [hasB]
  rw [e1] at c8; rw [e2] at c8'; rw [v19] at c19
  have hn := wait_next (f := F) (t := T) (c := C) (a := 1 + j) hF.1 hC.1 hT1.1 (by omega)
  have hb := waitV_bounds (f := F) (t := T) (c := C) (a := 1 + j) hF.1 hC.1 hT1.1
  generalize waitV F T C (1 + j) = a at c8 hn hb
  generalize waitV F T C (1 + j + 1) = b at c8' hn
  have pm : a * T ≤ 1099511627776 * 1000 := Int.mul_le_mul (by omega) hT1.2 (by omega) (by omega)
  have pm0 : 0 ≤ a * T := Int.mul_nonneg hb.1 (by omega)
  have wm : wrapI .i64 (a * T) = a * T := wrapI_i64 (by omega) (by omega)
  simp only [pol] at c17 c8 c8' c19
  by_cases h : a < C
  · rw [if_pos h] at hn
    subst hn
    simp [pol, I5, c17, c18, wj, wj2, c8, c8', c19, t16, h, wm]
  · rw [if_neg h] at hn
    have hac : a = C := by omega
    subst hn
    subst hac
    simp [pol, I5, c17, c18, wj, wj2, c8, c8', c19, t16, h, wm]

/-- RetryRises. -/
theorem t4 (m f t c i k : Int) (lo : Nat) (H : AHeap) : theCalls IP G lo 4 [pol m f t c, .i .i64 i, .i .i64 k] H = some (.b true, H) := by
  refine theCalls_of (comes2 (theCalls_knows _) ip4 rfl rfl rfl rfl ?_ lo H)
  have c17 := t17 (G := G) m f t c
  have hM := bring_bounds (n := m) (b := 1000) (by decide)
  have hT := bring_bounds (n := t) (b := 1000) (by decide)
  have hF := bring_bounds (n := f) (b := 1099511627777) (by decide)
  have hC := bring_bounds (n := c) (b := 1099511627777) (by decide)
  have hI := bring_bounds (n := i) (b := 9007199254740991) (by decide)
  have hK := bring_bounds (n := k) (b := 40) (by decide)
  have c18 := t18 (G := G) i 9007199254740991 ⟨by decide, by decide⟩
  have c18' := t18 (G := G) k 40 ⟨by decide, by decide⟩
  have hM1 : 1 ≤ 1 + bring m 1000 ∧ 1 + bring m 1000 ≤ 1000 := by omega
  have hT1 : 1 ≤ 1 + bring t 1000 ∧ 1 + bring t 1000 ≤ 1000 := by omega
  generalize 1 + bring m 1000 = M at c17 hM1
  generalize 1 + bring t 1000 = T at c17 hT1
  generalize bring f 1099511627777 = F at c17 hF
  generalize bring c 1099511627777 = C at c17 hC
  generalize bring i 9007199254740991 = j at c18 hI
  generalize bring k 40 = l at c18' hK
  have wj : wrapI .i64 (1 + j) = 1 + j := wrapI_i64 (by omega) (by omega)
  have wj2 : wrapI .i64 (1 + j + l) = 1 + j + l := wrapI_i64 (by omega) (by omega)
  have hok : okP M F T C = true := okP_iff.2 ⟨hM1, hT1, ⟨hF.1, by omega⟩, ⟨hC.1, by omega⟩⟩
  have c12 := t12 (G := G) M F T C
  rw [hok] at c12
  have e1 : waitR M F T C (1 + j) = .tu [.i .i64 (waitV F T C (1 + j)), .i .i64 0] := by unfold waitR waitE; rw [hok, if_pos (by simp [hasB]; omega)]
  have e2 : waitR M F T C (min (1 + j + l) 9007199254740991) = .tu [.i .i64 (waitV F T C (min (1 + j + l) 9007199254740991)), .i .i64 0] := by unfold waitR waitE; rw [hok, if_pos (by simp [hasB]; omega)]
  have c8 := t8 (G := G) M F T C (1 + j) ⟨by omega, by omega⟩
  have c8' := t8 (G := G) M F T C (min (1 + j + l) 9007199254740991) ⟨by omega, by omega⟩
  rw [e1] at c8; rw [e2] at c8'
  have hb := waitV_bounds (f := F) (t := T) (c := C) (a := min (1 + j + l) 9007199254740991) hF.1 hC.1 hT1.1
  have hmono := wait_mono (f := F) (t := T) (c := C) hF.1 hC.1 hT1.1 (min (1 + j + l) 9007199254740991 - (1 + j)).toNat (1 + j) (by omega)
  have hidx : 1 + j + ((min (1 + j + l) 9007199254740991 - (1 + j)).toNat : Int) = min (1 + j + l) 9007199254740991 := by omega
  rw [hidx] at hmono
  have hlow := wait_mono (f := F) (t := T) (c := C) hF.1 hC.1 hT1.1 j.toNat 1 (by omega)
  have hidx2 : 1 + (j.toNat : Int) = 1 + j := by omega
  rw [hidx2, wait_first] at hlow
  have hflat : ¬ (1 < T ∧ 0 < F) → waitV F T C (1 + j) = waitV F T C (min (1 + j + l) 9007199254740991) := fun h => wait_flat h hF.1 hC.1 hT1.1 _ _
  generalize waitV F T C (1 + j) = a at c8 hmono hlow hflat
  generalize waitV F T C (min (1 + j + l) 9007199254740991) = b at c8' hmono hb hflat
  simp only [pol] at c17 c8 c8' c12
  have hle : b ≤ C := hb.2
  have c16 := t16 (G := G)
  by_cases h1 : 1 < T
  · by_cases h2 : 0 < F
    · simp [pol, I4, c17, c18, c18', wj, wj2, c8, c8', c12, c16, h1, h2, hmono, hlow, hle, errI]
    · have := hflat (by omega)
      subst this
      simp [pol, I4, c17, c18, c18', wj, wj2, c8, c8', c12, c16, h1, h2, hlow, hle, errI]
  · have := hflat (by omega)
    subst this
    simp [pol, I4, c17, c18, c18', wj, wj2, c8, c8', c12, c16, h1, hlow, hle, errI]

end
end Go.Proofs.Ytcmieknogpjnmaa
