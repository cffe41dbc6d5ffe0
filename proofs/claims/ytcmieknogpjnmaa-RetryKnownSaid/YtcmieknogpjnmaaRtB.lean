/- The product of two words, and the waits, as the interpreter has them. Conditions: none. -/
import Derived.Test.YtcmieknogpjnmaaRtA
namespace Go.Proofs.Ytcmieknogpjnmaa
open Go Go.RI
set_option linter.unusedSimpArgs false

section
variable {G : AHeap}
theorem t27 (x y : Int) (h1 : 0 ≤ x) (h2 : x ≤ 1099511627776) (h3 : 0 ≤ y) (h4 : y ≤ 1000) (lo : Nat) (H : AHeap) : theCalls IP G lo 27 [.i .u64 x, .i .u64 y] H = some (.tu [.i .u64 0, .i .u64 (x * y)], H) := by
  refine theCalls_of (comes2 (theCalls_knows _) ip27 rfl rfl rfl rfl ?_ lo H)
  have e1 := bin_and32 (a := x) h1 (by omega)
  have e2 := bin_and32 (a := y) h3 (by omega)
  have hy : y % 4294967296 = y := Int.emod_eq_of_lt h3 (by omega)
  have hy2 : y / 4294967296 = 0 := Int.ediv_eq_zero_of_lt h3 (by omega)
  rw [hy] at e2
  have hx : x % 4294967296 < 4294967296 := by omega
  have hx0 : 0 ≤ x % 4294967296 := by omega
  have hd : x / 4294967296 ≤ 256 := by omega
  have hd0 : 0 ≤ x / 4294967296 := by omega
  have p1 : 0 ≤ x % 4294967296 * y := Int.mul_nonneg hx0 h3
  have p2 : x % 4294967296 * y ≤ 4294967296 * 1000 := Int.mul_le_mul (by omega) h4 h3 (by omega)
  have p3 : 0 ≤ x / 4294967296 * y := Int.mul_nonneg hd0 h3
  have p4 : x / 4294967296 * y ≤ 256 * 1000 := Int.mul_le_mul hd h4 h3 (by omega)
  have p5 : 0 ≤ x * y := Int.mul_nonneg h1 h3
  have p6 : x * y ≤ 1099511627776 * 1000 := Int.mul_le_mul h2 h4 h3 (by omega)
  have w1 : wrapI .u64 (x % 4294967296 * y) = x % 4294967296 * y := wrapI_u64 p1 (by omega)
  have w2 : wrapI .u64 (x / 4294967296 * y) = x / 4294967296 * y := wrapI_u64 p3 (by omega)
  have w3 : wrapI .u64 (x / 4294967296 * y + x % 4294967296 * y / 4294967296) = x / 4294967296 * y + x % 4294967296 * y / 4294967296 := wrapI_u64 (by omega) (by omega)
  generalize hz : x / 4294967296 * y + x % 4294967296 * y / 4294967296 = z at *
  have z0 : 0 ≤ z := by omega
  have z1 : z < 4294967296 := by omega
  have e3 := bin_and32 (a := z) z0 (by omega)
  rw [Int.emod_eq_of_lt z0 z1] at e3
  have z2 : z / 4294967296 = 0 := Int.ediv_eq_zero_of_lt z0 z1
  have w4 : wrapI .u64 z = z := wrapI_u64 z0 (by omega)
  have w5 : wrapI .u64 0 = 0 := rfl
  have w6 : wrapI .u64 (x * y) = x * y := wrapI_u64 p5 (by omega)
  simp [I27, e1, e2, e3, bin_shr32, hy2, w1, w2, hz, w4, w5, w6, z2]

/-- The wait behind 'k' attempts more. -/
def grow (t c : Int) : Nat → Int → Int
  | 0, w => w
  | k + 1, w => if w < c then grow t c k (min (w * t) c) else w
def waitV (f t c a : Int) : Int := if t = 1 ∨ min f c = 0 then min f c else grow t c (a - 1).toNat (min f c)

theorem grow_stay (t c w : Int) (h : c ≤ w) : ∀ k, grow t c k w = w := by
  intro k; cases k with
  | zero => rfl
  | succ k => simp only [grow]; rw [if_neg (by omega)]

theorem grow_bounds (t c : Int) (ht : 1 ≤ t) : ∀ (k : Nat) (w : Int), 0 ≤ w → w ≤ c → w ≤ grow t c k w ∧ grow t c k w ≤ c := by
  intro k
  induction k with
  | zero => intro w h0 h1; exact ⟨Int.le_refl _, h1⟩
  | succ k ih =>
    intro w h0 h1
    simp only [grow]
    split
    · have h2 : w ≤ w * t := by
        have := Int.mul_le_mul_of_nonneg_left ht h0
        omega
      obtain ⟨h3, h4⟩ := ih (min (w * t) c) (by omega) (by omega)
      exact ⟨by omega, h4⟩
    · exact ⟨Int.le_refl _, h1⟩

theorem waitV_bounds {f t c a : Int} (h1 : 0 ≤ f) (h2 : 0 ≤ c) (ht : 1 ≤ t) : 0 ≤ waitV f t c a ∧ waitV f t c a ≤ c := by
  unfold waitV
  split
  · omega
  · have := grow_bounds t c ht (a - 1).toNat (min f c) (by omega) (by omega)
    omega
end
end Go.Proofs.Ytcmieknogpjnmaa
