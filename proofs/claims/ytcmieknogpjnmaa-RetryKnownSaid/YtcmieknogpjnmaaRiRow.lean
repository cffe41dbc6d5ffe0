/- RI: from the interpreter to a row of a statement, no package-level variable read. Conditions: none. -/
import Derived.Test.YtcmieknogpjnmaaRiWp
import Derived.RowKit3
namespace Go.RI
open Go

def G0 (n : Nat) : AHeap := ⟨n, .e⟩
def rho0 : Ren := fun g => ⟨g, 0, 0, 1⟩

theorem G0_get (n id : Nat) : (G0 n).get id = none := by simp [G0, AHeap.get, Trie.get]
theorem G0_ok (n : Nat) : GOk (G0 n) := fun g o _ h => by rw [G0_get] at h; cases h
theorem G0_wf (n : Nat) : Wf (G0 n) := fun id _ => G0_get n id
theorem G0_rel (n : Nat) (w : World) : HRel (G0 n) rho0 (fun id => id < n) (G0 n) w where
  lt := fun _ h => h
  cells := fun id c esz ro _ h => by rw [G0_get] at h; cases h
  maps := fun id es _ h => by rw [G0_get] at h; cases h
  apart := fun id id' o o' _ _ _ h => by rw [G0_get] at h; cases h
  glob := fun g h => ⟨h, rfl, rfl, rfl⟩
  gnext := Nat.le_refl _
  wf := G0_wf n

/-- What was there and may not be written stands. -/
theorem Step.grown {lo : Nat} {ρ ρ' : Ren} {D D' : Nat → Prop} {H H' : AHeap} {w w' : World} (s : Step lo ρ D H w ρ' D' H' w') (h : ∀ id o, D id → H.get id = some o → o.wr = false) : RowKit.Grown w w' := by
  have hk : ∀ k, k < w.heap.size → w'.heap[k]? = w.heap[k]? := fun k hk => s.frame k hk fun id o hd ho hw => by rw [h id o hd ho] at hw; cases hw
  refine ⟨⟨s.os, s.output, fun i hi => ?_⟩, s.froz, s.size⟩
  rw [hk i hi]
  split <;> rename_i h1 h2
  · rw [h1] at h2; cases h2; exact ⟨rfl, rfl, rfl, fun _ _ => rfl⟩
  · rw [h1] at h2; cases h2; exact .inr ⟨rfl, rfl⟩
  · rfl

/-- A call of plain values that name nothing. -/
theorem plain_calls {P : Program} (hm : P.follows .mixedOrders = true) {IP : FuncId → Option IFunc} (htab : TabOK P IP) {n : Nat} (hn : n = P.globals.size) {f : FuncId} {args : List AVal} {v : AVal} {H' : AHeap}
    (h : Brings IP (G0 n) n f args (G0 n) v H') (ha : noIdL args = true) (hv : noId v = true) (w : World) : Calls P f (renL rho0 args).toArray w fun e w' => e = .returned (ren rho0 v) ∧ RowKit.Grown w w' := by
  obtain ⟨k, hk⟩ := h
  have hc := acall_sim hm htab (G := G0 n) (by exact hn) (G0_ok n) (G0_wf n) k (lo := n) (Nat.le_refl _)
  refine (hc.calls f args _ _ _ hk rho0 _ w (G0_rel n w) (noIdL_ok _ _ _ ha)).mono ?_
  rintro e w' ⟨ρ', D', rfl, hst, _, _⟩
  refine ⟨?_, hst.grown fun id o _ ho => by rw [G0_get] at ho; cases ho⟩
  exact congrArg _ (ren_congr (D := fun _ => False) (fun _ h => h.elim) v (noId_ok _ _ v hv))

/-! ### A table of functions -/
def tabIP : List (Nat × IFunc) → FuncId → Option IFunc
  | [], _ => none
  | (k, fn) :: l, f => if k = f then some fn else tabIP l f

inductive TabAll (P : Program) : List (Nat × IFunc) → Prop
  | nil : TabAll P []
  | cons {k : Nat} {ifn : IFunc} {l : List (Nat × IFunc)} {fn : Func} {hs : List Hint} {mode : Nat} (h1 : P.funcs[k]? = some fn) (h2 : trFunc P hs mode fn = some ifn) (h : TabAll P l) : TabAll P ((k, ifn) :: l)

theorem TabAll.ok {P : Program} {l : List (Nat × IFunc)} (h : TabAll P l) : TabOK P (tabIP l) := by
  induction h with
  | nil => intro f ifn h; cases h
  | cons h1 h2 _ ih =>
    intro f ifn h
    simp only [tabIP] at h
    split at h
    · rename_i hk; subst hk; cases h; exact ⟨_, _, _, h1, h2⟩
    · exact ih f ifn h

end Go.RI
