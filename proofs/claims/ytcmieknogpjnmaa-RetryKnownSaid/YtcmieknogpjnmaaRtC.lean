/- The waits of the program's own road, as the interpreter has them. Conditions: none. -/
import Derived.Test.YtcmieknogpjnmaaRtB
namespace Go.Proofs.Ytcmieknogpjnmaa
open Go Go.RI
set_option linter.unusedSimpArgs false

section
variable {G : AHeap}

/-- The heap of 'waits': the policy, the bounds. -/
def heap21 (G : AHeap) (m f t c : Int) : AHeap :=
  ((G.push (.cells [.i .i64 m, .i .i64 f, .i .i64 t, .i .i64 c] 1 false)).push (.cells [.i .u64 0, .i .u64 0] 1 false)).put (G.next + 1) (some (.cells [.i .u64 0, .i .u64 c] 1 false))

theorem loop21 (m f t c : Int) (ht1 : 1 ≤ t) (ht2 : t ≤ 1000) (hc1 : 0 ≤ c) (hc2 : c ≤ 1099511627776) (Q : Post) : ∀ (k : Nat) (a w : Int), 0 ≤ w → w ≤ c → (a - 1).toNat = k → -9223372036854775808 ≤ a → a ≤ 9223372036854775807 →
    (∀ a', Q (.exit 0) [(1, .i .i64 a'), (2, .p G.next 0), (5, .p (G.next + 1) 0), (6, .i .u64 (grow t c k w)), (34, .b false)] (heap21 G m f t c)) →
    rounds (fun Q' => wp (theCalls IP G G.next) G.next L21a Q') Q (k + 1) [(1, .i .i64 a), (2, .p G.next 0), (5, .p (G.next + 1) 0), (6, .i .u64 w)] (heap21 G m f t c) := by
  intro k
  induction k with
  | zero =>
    intro a w hw0 hw1 hk ha1 ha2 hQ
    have h1 : ¬ (1 < a) := by omega
    rw [rounds_step]
    simp [L21a, heap21, h1]
    exact hQ a
  | succ k ih =>
    intro a w hw0 hw1 hk ha1 ha2 hQ
    have h1 : 1 < a := by omega
    have g1 : (heap21 G m f t c).get G.next = some (.cells [.i .i64 m, .i .i64 f, .i .i64 t, .i .i64 c] 1 false) := by simp [heap21]
    have g2 : (heap21 G m f t c).get (G.next + 1) = some (.cells [.i .u64 0, .i .u64 c] 1 false) := by simp [heap21]
    have wt : wrapI .u64 t = t := wrapI_u64 (by omega) (by omega)
    have p0 : 0 ≤ w * t := Int.mul_nonneg hw0 (by omega)
    have wa : wrapI .i64 (a - 1) = a - 1 := wrapI_i64 (by omega) (by omega)
    have c27 := t27 (G := G) w t hw0 (by omega) (by omega) ht2 G.next (heap21 G m f t c)
    have c26 := t26 (G := G) (w * t) 0 c G.next (heap21 G m f t c)
    rw [rounds_step]
    by_cases hwc : w < c
    · have := ih (a - 1) (min (w * t) c) (by omega) (by omega) (by omega) (by omega) (by omega) (fun a' => by have := hQ a'; simp only [grow, if_pos hwc] at this; exact this)
      simp [L21a, h1, g1, g2, hwc, wt, wa, c26, c27]
      exact this
    · simp [L21a, h1, g1, g2, hwc]
      have := hQ a
      simp only [grow, if_neg hwc] at this
      exact this

theorem t21 (m f t c a : Int) (hf1 : 0 ≤ f) (hf2 : f ≤ 1099511627776) (ht1 : 1 ≤ t) (ht2 : t ≤ 1000) (hc1 : 0 ≤ c) (hc2 : c ≤ 1099511627776) (ha1 : -9223372036854775808 ≤ a) (ha2 : a ≤ 9223372036854775807) (lo : Nat) (H : AHeap) :
    theCalls IP G lo 21 [pol m f t c, .i .i64 a] H = some (.i .i64 (waitV f t c a), H) := by
  refine theCalls_of (comes2 (theCalls_knows _) ip21 rfl rfl rfl rfl ?_ lo H)
  have wf : wrapI .u64 f = f := wrapI_u64 (by omega) (by omega)
  have wc : wrapI .u64 c = c := wrapI_u64 (by omega) (by omega)
  have wm : wrapI .i64 (min f c) = min f c := wrapI_i64 (by omega) (by omega)
  by_cases h1 : t = 1
  · simp [pol, I21, t26, wf, wc, wm, h1, waitV]
  · by_cases h2 : min f c = 0
    · simp [pol, I21, t26, wf, wc, wm, h1, h2, waitV]
      rfl
    · have hg := grow_bounds t c ht1 (a - 1).toNat (min f c) (by omega) (by omega)
      have wg : wrapI .i64 (grow t c (a - 1).toNat (min f c)) = grow t c (a - 1).toNat (min f c) := wrapI_i64 (by omega) (by omega)
      simp [pol, I21, t26, wf, wc, wm, h1, h2, waitV]
      refine wp_loop_of _ (loop21 m f t c ht1 ht2 hc1 hc2 _ (a - 1).toNat a (min f c) (by omega) (by omega) rfl ha1 ha2 ?_)
      intro a'
      simp
      simpa using wg

end
end Go.Proofs.Ytcmieknogpjnmaa
