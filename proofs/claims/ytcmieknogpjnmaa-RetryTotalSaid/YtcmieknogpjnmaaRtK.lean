/- The total of all waits, and the closed statement. Conditions: none. -/
import Derived.Test.YtcmieknogpjnmaaRtF
namespace Go.Proofs.Ytcmieknogpjnmaa
open Go Go.RI
set_option linter.unusedSimpArgs false
set_option linter.unusedVariables false

section
variable {G : AHeap}

/-- The heap of 'RetryTotal': the policy as it came, then brought to be one. -/
def heap6 (H0 : AHeap) (M F T C : Int) : AHeap := H0.put G.next (some (.cells [.i .i64 M, .i .i64 F, .i .i64 T, .i .i64 C] 1 false))

theorem loop6 (M F T C k : Int) (H : AHeap) (hok : okP M F T C = true) (hk0 : 0 ≤ k) (hk : k ≤ M) (hH : H.get G.next = some (.cells [.i .i64 M, .i .i64 F, .i .i64 T, .i .i64 C] 1 false)) (Q : Post) (all : Int) :
    ∀ (r j : Nat) (i : Int), i = j → j + r = M.toNat →
    (∀ b, Q (.exit 0) [(2, .p G.next 0), (5, .i .i64 k), (6, .i .i64 (sumV F T C M.toNat)), (7, .i .i64 0), (8, .i .i64 all), (9, .i .i64 0), (10, .i .i64 M), (39, b)] H) →
    rounds (fun Q' => wp (theCalls IP G G.next) G.next L6a Q') Q (r + 1) [(2, .p G.next 0), (5, .i .i64 k), (6, .i .i64 (sumV F T C (max k.toNat j))), (7, .i .i64 0), (8, .i .i64 all), (9, .i .i64 0), (10, .i .i64 i)] H := by
  obtain ⟨⟨m1, m2⟩, ⟨b1, b2⟩, ⟨b3, b4⟩, ⟨b5, b6⟩⟩ := okP_iff.1 hok
  intro r
  induction r with
  | zero =>
    intro j i hi hj hQ
    have hiM : i = M := by omega
    have hmx : max k.toNat j = M.toNat := by omega
    have c14 := t14 (G := G) M F T C i G.next H
    have v14 : (okP M F T C && (decide (0 ≤ i) && decide (i < M))) = false := by rw [hok]; simp; omega
    rw [v14] at c14
    simp only [pol] at c14
    rw [rounds_step]
    simp [L6a, hH, c14]
    rw [hmx, hiM]
    exact hQ _
  | succ r ih =>
    intro j i hi hj hQ
    have hi0 : 0 ≤ i := by omega
    have hiM : i < M := by omega
    have h2000 : i < 2000 := by omega
    have c14 := t14 (G := G) M F T C i G.next H
    have v14 : (okP M F T C && (decide (0 ≤ i) && decide (i < M))) = true := by rw [hok]; simp; omega
    rw [v14] at c14
    have wi : wrapI .i64 (i + 1) = i + 1 := wrapI_i64 (by omega) (by omega)
    have c8 := t8 (G := G) M F T C (i + 1) ⟨by omega, by omega⟩ G.next H
    have e1 : waitR M F T C (i + 1) = .tu [.i .i64 (waitV F T C (i + 1)), .i .i64 0] := by unfold waitR waitE; rw [hok, if_pos (by simp [hasB]; omega)]
    rw [e1] at c8
    simp only [pol] at c14 c8
    have := ih (j + 1) (i + 1) (by omega) (by omega) hQ
    rw [rounds_step]
    by_cases h : k < i + 1
    · have hm1 : max k.toNat j = j := by omega
      have hm2 : max k.toNat (j + 1) = j + 1 := by omega
      rw [hm2] at this
      rw [hm1]
      have hs := sum_step (f := F) (t := T) (c := C) hi
      have hb := sumV_bounds b3 b5 b6 b1 (j + 1)
      have ws : wrapI .i64 (sumV F T C j + waitV F T C (i + 1)) = sumV F T C (j + 1) := by rw [hs] at hb ⊢; exact wrapI_i64 (by omega) (by omega)
      simp [L6a, hH, c14, h2000, wi, h, c8, ws]
      exact this
    · have hm1 : max k.toNat j = k.toNat := by omega
      have hm2 : max k.toNat (j + 1) = k.toNat := by omega
      rw [hm2] at this
      rw [hm1]
      simp [L6a, hH, c14, h2000, wi, h]
      exact this

/-- RetryTotal. -/
theorem t6 (m f t c n : Int) (lo : Nat) (H : AHeap) : theCalls IP G lo 6 [pol m f t c, .i .i64 n] H = some (.b true, H) := by
  refine theCalls_of (comes2 (theCalls_knows _) ip6 rfl rfl rfl rfl ?_ lo H)
  have c17 := t17 (G := G) m f t c
  have hM := bring_bounds (n := m) (b := 1000) (by decide)
  have hT := bring_bounds (n := t) (b := 1000) (by decide)
  have hF := bring_bounds (n := f) (b := 1099511627777) (by decide)
  have hC := bring_bounds (n := c) (b := 1099511627777) (by decide)
  have hM1 : 1 ≤ 1 + bring m 1000 ∧ 1 + bring m 1000 ≤ 1000 := by omega
  have hT1 : 1 ≤ 1 + bring t 1000 ∧ 1 + bring t 1000 ≤ 1000 := by omega
  generalize 1 + bring m 1000 = M at c17 hM1
  generalize 1 + bring t 1000 = T at c17 hT1
  generalize bring f 1099511627777 = F at c17 hF
  generalize bring c 1099511627777 = C at c17 hC
  have hK := bring_bounds (n := n) (b := M + 1) (by omega)
  have c18 := t18 (G := G) n (M + 1) ⟨by omega, by omega⟩
  generalize bring n (M + 1) = k at c18 hK
  have wM : wrapI .i64 (M + 1) = M + 1 := wrapI_i64 (by omega) (by omega)
  have hok : okP M F T C = true := okP_iff.2 ⟨hM1, hT1, ⟨hF.1, by omega⟩, ⟨hC.1, by omega⟩⟩
  have e1 : totR M F T C k = .tu [.i .i64 (sumV F T C k.toNat), .i .i64 0] := by unfold totR totE; rw [hok, if_pos (by simp [hasB]; omega)]
  have e2 : totR M F T C M = .tu [.i .i64 (sumV F T C M.toNat), .i .i64 0] := by unfold totR totE; rw [hok, if_pos (by simp [hasB]; omega)]
  have c10 := t10 (G := G) M F T C k
  have c10' := t10 (G := G) M F T C M
  rw [e1] at c10; rw [e2] at c10'
  simp only [pol] at c17 c10 c10'
  have c16 := t16 (G := G)
  have hmx : max k.toNat 0 = k.toNat := by omega
  simp [pol, I6, c17, c18, wM, c10, c10']
  rw [← hmx]
  refine wp_loop_of (M.toNat + 1) (loop6 (G := G) M F T C k ((G.push (.cells [.i .i64 m, .i .i64 f, .i .i64 t, .i .i64 c] 1 false)).put G.next (some (.cells [.i .i64 M, .i .i64 F, .i .i64 T, .i .i64 C] 1 false))) hok hK.1 (by omega) (by simp)
    _ (sumV F T C M.toNat) M.toNat 0 0 rfl (by omega) ?_)
  intro b
  simp [c16]

end
end Go.Proofs.Ytcmieknogpjnmaa
