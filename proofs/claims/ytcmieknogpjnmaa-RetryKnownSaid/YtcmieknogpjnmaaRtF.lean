/- The chapter's examples hold in the program; a policy brought to be one. Conditions: none. -/
import Derived.Test.YtcmieknogpjnmaaRtE
namespace Go.Proofs.Ytcmieknogpjnmaa
open Go Go.RI
set_option linter.unusedSimpArgs false

section
variable {G : AHeap}

theorem t20 (lo : Nat) (H : AHeap) : theCalls IP G lo 20 [] H = some (pol 4 10 3 50, H) := by
  refine theCalls_of (comes2 (theCalls_knows _) ip20 rfl rfl rfl rfl ?_ lo H)
  simp [pol, I20]

theorem t19 (m f t c a x : Int) (ha : fits a) (lo : Nat) (H : AHeap) : theCalls IP G lo 19 [pol m f t c, .i .i64 a, .i .i64 x] H = some (.b (if waitE m f t c a then decide (waitV f t c a = x) else false), H) := by
  refine theCalls_of (comes2 (theCalls_knows _) ip19 rfl rfl rfl rfl ?_ lo H)
  have c8 := t8 (G := G) m f t c a ha
  simp only [pol] at c8
  cases h1 : waitE m f t c a with
  | false =>
    by_cases h2 : x = 0
    · subst h2; simp [pol, I19, c8, waitR, h1]
    · have h3 : ¬ 0 = x := fun e => h2 e.symm
      simp [pol, I19, c8, waitR, h1, h3]
  | true => by_cases h2 : waitV f t c a = x <;> simp [pol, I19, c8, waitR, h1, h2]

theorem t16 (lo : Nat) (H : AHeap) : theCalls IP G lo 16 [] H = some (.b true, H) := by
  refine theCalls_of (comes2 (theCalls_knows _) ip16 rfl rfl rfl rfl ?_ lo H)
  have c20 := t20 (G := G)
  have c10 := t10 (G := G) 4 10 3 50 3
  have c1 := t19 (G := G) 4 10 3 50 1 10 ⟨by decide, by decide⟩
  have c2 := t19 (G := G) 4 10 3 50 2 30 ⟨by decide, by decide⟩
  have c3 := t19 (G := G) 4 10 3 50 3 50 ⟨by decide, by decide⟩
  have c4 := t19 (G := G) 4 10 3 50 4 50 ⟨by decide, by decide⟩
  have d1 := t14 (G := G) 4 10 3 50 0
  have d2 := t14 (G := G) 4 10 3 50 3
  have d3 := t14 (G := G) 4 10 3 50 4
  have e10 : totR 4 10 3 50 3 = .tu [.i .i64 90, .i .i64 0] := by rfl
  have v1 : (if waitE 4 10 3 50 1 then decide (waitV 10 3 50 1 = 10) else false) = true := by decide
  have v2 : (if waitE 4 10 3 50 2 then decide (waitV 10 3 50 2 = 30) else false) = true := by decide
  have v3 : (if waitE 4 10 3 50 3 then decide (waitV 10 3 50 3 = 50) else false) = true := by decide
  have v4 : (if waitE 4 10 3 50 4 then decide (waitV 10 3 50 4 = 50) else false) = true := by decide
  have u1 : (okP 4 10 3 50 && (decide ((0 : Int) ≤ 0) && decide ((0 : Int) < 4))) = true := by decide
  have u2 : (okP 4 10 3 50 && (decide ((0 : Int) ≤ 3) && decide ((3 : Int) < 4))) = true := by decide
  have u3 : (okP 4 10 3 50 && (decide ((0 : Int) ≤ 4) && decide ((4 : Int) < 4))) = false := by decide
  rw [v1] at c1; rw [v2] at c2; rw [v3] at c3; rw [v4] at c4
  rw [u1] at d1; rw [u2] at d2; rw [u3] at d3
  rw [e10] at c10
  simp only [pol] at c20 c10 c1 c2 c3 c4 d1 d2 d3
  simp [I16, c20, c10, c1, c2, c3, c4, d1, d2, d3]

/-- A number brought below another. -/
def bring (n b : Int) : Int := if b ≤ 0 then 0 else if n.tmod b < 0 then n.tmod b + b else n.tmod b

theorem bring_bounds {n b : Int} (hb : 0 < b) : 0 ≤ bring n b ∧ bring n b < b := by
  unfold bring
  rw [if_neg (by omega)]
  have h1 := Int.tmod_lt_of_pos n hb
  have h2 : -b < n.tmod b := by
    have := Int.tmod_lt_of_pos (-n) hb
    rw [Int.neg_tmod] at this
    omega
  split <;> omega

theorem t18 (n b : Int) (hb : fits b) (lo : Nat) (H : AHeap) : theCalls IP G lo 18 [.i .i64 n, .i .i64 b] H = some (.i .i64 (bring n b), H) := by
  refine theCalls_of (comes2 (theCalls_knows _) ip18 rfl rfl rfl rfl ?_ lo H)
  obtain ⟨b1, b2⟩ := hb
  by_cases h1 : b ≤ 0
  · simp [I18, h1, bring]
  · have h2 : ¬ b = 0 := by omega
    have h3 := bring_bounds (n := n) (b := b) (by omega)
    unfold bring at h3 ⊢
    rw [if_neg h1] at h3 ⊢
    by_cases h4 : n.tmod b < 0
    · rw [if_pos h4] at h3 ⊢
      have w : wrapI .i64 (n.tmod b + b) = n.tmod b + b := wrapI_i64 (by omega) (by omega)
      simp [I18, h1, h2, h4, w]
    · rw [if_neg h4] at h3 ⊢
      simp [I18, h1, h2, h4]

theorem t17 (m f t c : Int) (lo : Nat) (H : AHeap) : theCalls IP G lo 17 [pol m f t c] H = some (pol (1 + bring m 1000) (bring f 1099511627777) (1 + bring t 1000) (bring c 1099511627777), H) := by
  refine theCalls_of (comes2 (theCalls_knows _) ip17 rfl rfl rfl rfl ?_ lo H)
  have hm := bring_bounds (n := m) (b := 1000) (by decide)
  have ht := bring_bounds (n := t) (b := 1000) (by decide)
  have w1 : wrapI .i64 (1 + bring m 1000) = 1 + bring m 1000 := wrapI_i64 (by omega) (by omega)
  have w2 : wrapI .i64 (1 + bring t 1000) = 1 + bring t 1000 := wrapI_i64 (by omega) (by omega)
  have c1 := fun n => t18 (G := G) n 1000 ⟨by decide, by decide⟩
  have c2 := fun n => t18 (G := G) n 1099511627777 ⟨by decide, by decide⟩
  simp [pol, I17, c1, c2, w1, w2]

/-- RetryAnswers. -/
theorem t3 (m f t c n : Int) (hn : fits n) (lo : Nat) (H : AHeap) : theCalls IP G lo 3 [pol m f t c, .i .i64 n] H = some (.b true, H) := by
  refine theCalls_of (comes2 (theCalls_knows _) ip3 rfl rfl rfl rfl ?_ lo H)
  have c8 := t8 (G := G) m f t c n hn
  have c9 := t9 (G := G) m f t c n
  have c10 := t10 (G := G) m f t c n
  have c11 := t11 (G := G) m f t c n
  have c12 := t12 (G := G) m f t c
  have c13 := t13 (G := G) m f t c
  have c14 := t14 (G := G) m f t c n
  have c15 := t15 (G := G) m f t c n
  generalize (okP m f t c && (decide (0 ≤ n) && decide (n < m))) = b at c14 c15
  obtain ⟨w, e, hw⟩ : ∃ w e, waitR m f t c n = .tu [.i .i64 w, .i .i64 e] := by unfold waitR; split <;> exact ⟨_, _, rfl⟩
  obtain ⟨s, g, hs⟩ : ∃ s g, totR m f t c n = .tu [.i .i64 s, .i .i64 g] := by unfold totR; split <;> exact ⟨_, _, rfl⟩
  rw [hw] at c8 c9
  rw [hs] at c10 c11
  simp only [pol] at c8 c9 c10 c11 c12 c13 c14 c15
  simp [pol, I3, c8, c9, c10, c11, c12, c13, c14, c15, t16]

end
end Go.Proofs.Ytcmieknogpjnmaa
