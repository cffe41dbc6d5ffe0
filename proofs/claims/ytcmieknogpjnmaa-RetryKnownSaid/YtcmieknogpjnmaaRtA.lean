/- The functions of the layer, each told by what it brings, in the interpreter: without loops. Conditions: none. -/
import Derived.Test.YtcmieknogpjnmaaTab
import Derived.Test.YtcmieknogpjnmaaRiSimp
namespace Go.Proofs.Ytcmieknogpjnmaa
open Go Go.RI
set_option linter.unusedSimpArgs false

def pol (m f t c : Int) : AVal := .ag [.i .i64 m, .i .i64 f, .i .i64 t, .i .i64 c]
def hasB (a b n : Int) : Bool := decide (a ≤ n) && decide (n ≤ b)
def okP (m f t c : Int) : Bool := hasB 1 1000 m && hasB 1 1000 t && hasB 0 1099511627776 f && hasB 0 1099511627776 c
def errI (b : Bool) : Int := if b then 0 else 2

section
variable {G : AHeap}

theorem t22 (n a b : Int) (lo : Nat) (H : AHeap) : theCalls IP G lo 22 [.i .i64 n, .i .i64 a, .i .i64 b] H = some (.b (hasB a b n), H) := by
  refine theCalls_of (comes2 (theCalls_knows _) ip22 rfl rfl rfl rfl ?_ lo H)
  by_cases h : a ≤ n <;>
  simp [I22, h, hasB]

theorem t23 (lo : Nat) (H : AHeap) : theCalls IP G lo 23 [] H = some (.ag [.i .i64 1, .i .i64 1000], H) := by
  refine theCalls_of (comes2 (theCalls_knows _) ip23 rfl rfl rfl rfl ?_ lo H)
  simp [I23]

theorem t25 (lo : Nat) (H : AHeap) : theCalls IP G lo 25 [] H = some (.ag [.i .i64 0, .i .i64 1099511627776], H) := by
  refine theCalls_of (comes2 (theCalls_knows _) ip25 rfl rfl rfl rfl ?_ lo H)
  simp [I25]

theorem t24 (a b n : Int) (lo : Nat) (H : AHeap) : theCalls IP G lo 24 [.ag [.i .i64 a, .i .i64 b], .i .i64 n] H = some (.b (hasB a b n), H) := by
  refine theCalls_of (comes2 (theCalls_knows _) ip24 rfl rfl rfl rfl ?_ lo H)
  by_cases h : a ≤ n <;>
  simp [I24, h, hasB]

theorem t26 (n a b : Int) (lo : Nat) (H : AHeap) : theCalls IP G lo 26 [.i .u64 n, .ag [.i .u64 a, .i .u64 b]] H = some (.i .u64 (min n b), H) := by
  refine theCalls_of (comes2 (theCalls_knows _) ip26 rfl rfl rfl rfl ?_ lo H)
  simp [I26]

theorem t12 (m f t c : Int) (lo : Nat) (H : AHeap) : theCalls IP G lo 12 [pol m f t c] H = some (.i .i64 (errI (okP m f t c)), H) := by
  refine theCalls_of (comes2 (theCalls_knows _) ip12 rfl rfl rfl rfl ?_ lo H)
  cases h1 : hasB 1 1000 m
  · simp [pol, I12, t23, t24, t25, h1, okP, errI]
  · cases h2 : hasB 1 1000 t
    · simp [pol, I12, t23, t24, t25, h1, h2, okP, errI]
    · cases h3 : hasB 0 1099511627776 f
      · simp [pol, I12, t23, t24, t25, h1, h2, h3, okP, errI]
      · cases h4 : hasB 0 1099511627776 c <;> simp [pol, I12, t23, t24, t25, h1, h2, h3, h4, okP, errI]

theorem t13 (m f t c : Int) (lo : Nat) (H : AHeap) : theCalls IP G lo 13 [pol m f t c] H = some (.i .i64 (errI (okP m f t c)), H) := by
  refine theCalls_of (comes2 (theCalls_knows _) ip13 rfl rfl rfl rfl ?_ lo H)
  cases h1 : hasB 1 1000 m
  · simp [pol, I13, t22, h1, okP, errI]
  · cases h2 : hasB 1 1000 t
    · simp [pol, I13, t22, h1, h2, okP, errI]
    · cases h3 : hasB 0 1099511627776 f
      · simp [pol, I13, t22, h1, h2, h3, okP, errI]
      · cases h4 : hasB 0 1099511627776 c <;> simp [pol, I13, t22, h1, h2, h3, h4, okP, errI]

end
end Go.Proofs.Ytcmieknogpjnmaa
