/- RI: from the interpreter to a row of a statement, no package-level variable read. Conditions: none. -/
import Derived.Test.YteoliiakbmomeaaRiWp
import Derived.ChangeSame
import Derived.RowKit3
namespace Go.RI
open Go

def G0 (n : Nat) : AHeap := ⟨n, .e⟩
def rho0 : Ren := fun g => ⟨g, 0, 0, 1⟩

theorem G0_get (n id : Nat) : (G0 n).get id = none := by simp [G0, AHeap.get, Trie.get]
theorem G0_ok (n : Nat) : GOk (G0 n) := fun g o _ h => by rw [G0_get] at h; cases h
theorem G0_wf (n : Nat) : Wf (G0 n) := fun id _ => G0_get n id
theorem G0_rel (n : Nat) (w : World) : HRel (G0 n) rho0 (fun id => id < n) (G0 n) w where
  lt := fun _ h => h
  cells := fun id c esz ro _ h => by rw [G0_get] at h; cases h
  maps := fun id es _ h => by rw [G0_get] at h; cases h
  apart := fun id id' o o' _ _ _ h => by rw [G0_get] at h; cases h
  glob := fun g h => ⟨h, rfl, rfl, rfl⟩
  gnext := Nat.le_refl _
  wf := G0_wf n

/-- The world has at most new blocks. -/
def Kept (w w' : World) : Prop := w.keptBut w' (fun _ => False) ∧ (∀ a, a.block < w.heap.size → w'.frozen? a = w.frozen? a) ∧ w.heap.size ≤ w'.heap.size

theorem Kept.frame {w w' : World} (h : Kept w w') (may : MemPlace → Prop) : w.keptBut w' may := World.keptBut_mono (fun _ f => f.elim) h.1

/-- What was there and may not be written stands. -/
theorem Step.grown {lo : Nat} {ρ ρ' : Ren} {D D' : Nat → Prop} {H H' : AHeap} {w w' : World} (s : Step lo ρ D H w ρ' D' H' w') (h : ∀ id o, D id → H.get id = some o → o.wr = false) : Kept w w' := by
  have hk : ∀ k, k < w.heap.size → w'.heap[k]? = w.heap[k]? := fun k hk => s.frame k hk fun id o hd ho hw => by rw [h id o hd ho] at hw; cases hw
  refine ⟨⟨s.os, s.output, fun i hi => ?_⟩, s.froz, s.size⟩
  rw [hk i hi]
  split <;> rename_i h1 h2
  · rw [h1] at h2; cases h2; exact ⟨rfl, rfl, rfl, fun _ _ => rfl⟩
  · rw [h1] at h2; cases h2; exact .inr ⟨rfl, rfl⟩
  · rfl

/-- The answer stands, the arguments read as they did: only what was there matters of what is frozen. -/
theorem post_same {H : Type} {enc : TypeId × Value → H} {P : Program} {f : Func} {s : ChangeSpec} {apart fresh handsOn again : Bool} {W W' : World} {args : Array Value} {v : Value} {ds gs : List (DataW H)} {before pa pv : List MemPlace}
    (hW : DataW.Whole enc P f.params.toList s.vars apart W args.toList ds gs before)
    (hres : ∀ (b : Nat) (sp : Nat → Bool) (hd : Bool), DataW.TrodAll enc P W' b sp hd f.resultTypes.toList (v.resultList f.resultTypes.size) (s.fn H (ds ++ gs)).results [])
    (hargs : ∀ sp : Nat → Bool, (∀ p ∈ before, sp p.block = true) → DataW.TrodAll enc P W' 0 sp true f.params.toList args.toList (s.fn H (ds ++ gs)).args pa)
    (hvars : ∀ sp : Nat → Bool, (∀ p ∈ before, sp p.block = true) → DataW.TrodVars enc P W' sp s.vars (s.fn H (ds ++ gs)).vars pv)
    (hps : before = pa ++ pv) (hk : W.keptBut W' (· ∈ before)) (hfz : ∀ a, a.block < W.heap.size → W'.frozen? a = W.frozen? a)
    (hok : ∀ (j : Nat) (t : TypeId) (r : Value), f.resultTypes[j]? = some t → (v.resultList f.resultTypes.size)[j]? = some r → Value.okWide P W' .any 0 t r) :
    s.post enc P f apart fresh handsOn again W args v W' := by
  have hold : ∀ p ∈ before, (fun b => decide (b < W.heap.size)) p.block = true := fun p hp => by simpa using hW.lt p hp
  have hlt := hW.lt
  refine ⟨ds, gs, before, [], pa, pv, hW, hres _ _ _, hargs _ hold, hvars _ hold, World.keptBut_mono (fun p hp => ⟨hp, ?_⟩) hk, fun _ => ?_⟩
  · rw [hps, List.mem_append] at hp
    exact Or.inr hp
  · obtain ⟨_, _, _, _, _, hz, hn⟩ := hW
    refine ⟨hok, _, _, ([] ++ pa) ++ pv, ⟨[] ++ pa, pv, _root_.Go.ChangeShapes.trodAll_append (hargs _ (fun _ _ => rfl)) (hres _ _ _), hvars _ (fun _ _ => rfl), rfl, ?_, ?_⟩, ?_⟩
    · intro b off hp
      have hp' : MemPlace.cell b off ∈ before := by rw [hps]; simpa using hp
      rw [hfz _ (hlt _ hp')]
      exact hz b off hp'
    · intro ha
      have := hn ha
      rw [hps] at this
      simpa using this
    · intro p hp _
      rw [hps]
      simpa using hp

/-- A call of plain values that name nothing. -/
theorem plain_calls {P : Program} (hm : P.follows .mixedOrders = true) {IP : FuncId → Option IFunc} (htab : TabOK P IP) {n : Nat} (hn : n = P.globals.size) {f : FuncId} {args : List AVal} {v : AVal} {H' : AHeap}
    (h : Brings IP (G0 n) n f args (G0 n) v H') (ha : noIdL args = true) (hv : noId v = true) (hvi : ∀ k i, v ≠ .i k i) (w : World) : Calls P f (renL rho0 args).toArray w fun e w' => e = .returned (ren rho0 v) ∧ Kept w w' := by
  obtain ⟨k, hk⟩ := h
  have hc := acall_sim hm htab (G := G0 n) (by exact hn) (G0_ok n) k (lo := n) (Nat.le_refl _)
  have hb : HasBody P f := by
    rcases hc.body _ _ _ _ hk with hb | ⟨i, hi, _⟩
    · exact hb
    · cases hi; exact absurd rfl (hvi _ _)
  refine (hc.calls f args _ _ _ hk hb rho0 _ w (G0_rel n w) (noIdL_ok _ _ _ ha)).mono ?_
  rintro e w' ⟨ρ', D', rfl, hst, _, _⟩
  refine ⟨?_, hst.grown fun id o _ ho => by rw [G0_get] at ho; cases ho⟩
  exact congrArg _ (ren_congr (D := fun _ => False) (fun _ h => h.elim) v (noId_ok _ _ v hv))

/-! ### A table of functions -/
def tabIP : List (Nat × IFunc) → FuncId → Option IFunc
  | [], _ => none
  | (k, fn) :: l, f => if k = f then some fn else tabIP l f

/-- internal/bytealg.IndexByteString. -/
def extFn : IFunc := ⟨.skip, 0, 2, [], 4⟩
inductive TabAll (P : Program) : List (Nat × IFunc) → Prop
  | nil : TabAll P []
  | ext {k : Nat} {l : List (Nat × IFunc)} {fn : Func} (h1 : P.funcs[k]? = some fn) (h2 : (fn.name == "runtime.NumGoroutine") = false) (h3 : fn.body.isNone = true) (h4 : Extern.findNext fn = none) (h5 : Extern.find fn = some Extern.BytealgIndexByte.indexByte) (h : TabAll P l) : TabAll P ((k, extFn) :: l)
  | cons {k : Nat} {ifn : IFunc} {l : List (Nat × IFunc)} {fn : Func} {hs : List Hint} {mode : Nat} (h1 : P.funcs[k]? = some fn) (h2 : trFunc P hs mode fn = some ifn) (h : TabAll P l) : TabAll P ((k, ifn) :: l)

theorem TabAll.two {P : Program} {l : List (Nat × IFunc)} (h : TabAll P l) : ∀ f ifn, tabIP l f = some ifn → TrOK P f ifn ∨ ExtOK P f ifn := by
  induction h with
  | nil => intro f ifn h; cases h
  | cons h1 h2 _ ih =>
    intro f ifn h
    simp only [tabIP] at h
    split at h
    · rename_i hk; subst hk; cases h; exact .inl ⟨_, _, _, h1, h2⟩
    · exact ih f ifn h
  | ext h1 h2 h3 h4 h5 _ ih =>
    intro f ifn h
    simp only [tabIP] at h
    split at h
    · rename_i hk; subst hk; cases h; exact .inr ⟨rfl, rfl, _, h1, h2, h3, h4, h5⟩
    · exact ih f ifn h
theorem TabAll.ok {P : Program} {l : List (Nat × IFunc)} (h : TabAll P l) : TabOK P (tabIP l) := fun f ifn hf => (h.two f ifn hf).imp id .inl
/-- With one function that is shown by itself. -/
theorem TabAll.okC {P : Program} {l : List (Nat × IFunc)} (h : TabAll P l) {k : Nat} {fn : IFunc} (hc : CusOK P (tabIP ((k, fn) :: l)) k fn) : TabOK P (tabIP ((k, fn) :: l)) := fun f ifn hf => by
  simp only [tabIP] at hf
  split at hf
  · rename_i hk; subst hk; cases hf; exact .inr (.inr hc)
  · exact (h.two f ifn hf).imp id .inl

end Go.RI
