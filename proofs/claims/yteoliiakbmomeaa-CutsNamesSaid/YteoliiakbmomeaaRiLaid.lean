/- RI: package-level variables that hold what the program's text lays: from the interpreter to a call of the machine. Conditions: none. -/
import Derived.Test.YteoliiakbmomeaaRiRow
import Derived.LaidLaws
import Derived.Lib.LaidTab
namespace Go.RI
open Go

/-- The world holds the interpreter's package-level variables. -/
def GHolds (n : Nat) (G : AHeap) (w : World) : Prop := ∀ g o, G.get g = some o → g < n ∧ ∃ c C e fz, o = .cells c 1 true ∧ noIdL c = true ∧ oneL c = true ∧ w.heap[g]? = some (.cells C e fz) ∧ C.toList = renL rho0 c

noncomputable def rhoG (G : AHeap) : Ren := fun g => ⟨g, 0, match G.get g with | some (.cells c _ _) => c.length | _ => 0, 1⟩

theorem GHolds.rel {n : Nat} {G : AHeap} {w : World} (h : GHolds n G w) (hn : G.next = n) (hw : Wf G) : HRel G (rhoG G) (fun id => id < n) G w where
  lt := fun _ h => by rw [hn]; exact h
  cells := fun id c esz ro hd hg => by
    obtain ⟨_, c', C, e, fz, ho, h1, h2, h3, h4⟩ := h id _ hg
    cases ho
    have hl : C.size = c.length := by rw [← Array.length_toList, h4, renL_length]
    refine { esz_eq := rfl, len := ?_, at_ := ⟨C, e, fz, h3, ?_, fun j v hj => ?_, fun hf => by cases hf⟩, ok := noIdL_ok _ _ _ h1, one := h2 }
    · simp [rhoG, hg]
    · simp [rhoG, hg, hl]
    · have : C[j]? = (renL rho0 c)[j]? := by rw [← h4, Array.getElem?_toList]
      simp only [rhoG, Nat.zero_add, this, renL_get, hj, Option.map_some]
      exact congrArg some (ren_congr (D := fun _ => False) (fun _ h => h.elim) v (okL_iff.1 (noIdL_ok rho0 (fun _ => False) c h1) v (List.mem_of_getElem? hj))).symm
  maps := fun id es _ hg => by obtain ⟨_, c', C, e, fz, ho, _⟩ := h id _ hg; cases ho
  apart := fun id id' o o' _ _ _ hg _ hw => by obtain ⟨_, c', C, e, fz, ho, _⟩ := h id _ hg; subst ho; simp [AObj.wr] at hw
  glob := fun g hg => ⟨by rw [← hn]; exact hg, rfl, rfl, rfl⟩
  gnext := Nat.le_refl _
  wf := hw

theorem GHolds.ok {n : Nat} {G : AHeap} {w : World} (h : GHolds n G w) : GOk G := fun g o _ hg => by
  obtain ⟨_, c, C, e, fz, ho, h1, h2, _⟩ := h g o hg
  exact ⟨c, 1, ho, h1, h2⟩

/-- A call of plain values that name nothing. -/
theorem plain_callsG {P : Program} (hm : P.follows .mixedOrders = true) {IP : FuncId → Option IFunc} (htab : TabOK P IP) {G : AHeap} (hn : G.next = P.globals.size) (hw : Wf G) {f : FuncId} {args : List AVal} {v : AVal} {H' : AHeap}
    (h : Brings IP G G.next f args G v H') (ha : noIdL args = true) (hv : noId v = true) (hvi : ∀ k i, v ≠ .i k i) (w : World) (hG : GHolds P.globals.size G w) : Calls P f (renL rho0 args).toArray w fun e w' => e = .returned (ren rho0 v) ∧ Kept w w' := by
  obtain ⟨k, hk⟩ := h
  have hc := acall_sim hm htab (G := G) hn hG.ok k (lo := G.next) (Nat.le_refl _)
  have hr : renL (rhoG G) args = renL rho0 args := renL_congr (D := fun _ => False) (fun _ h => h.elim) args (noIdL_ok _ _ _ ha)
  rw [← hr]
  have hb : HasBody P f := by
    rcases hc.body _ _ _ _ hk with hb | ⟨i, hi, _⟩
    · exact hb
    · cases hi; exact absurd rfl (hvi _ _)
  refine (hc.calls f args _ _ _ hk hb (rhoG G) _ w (hG.rel hn hw) (noIdL_ok _ _ _ ha)).mono ?_
  rintro e w' ⟨ρ', D', rfl, hst, _, _⟩
  refine ⟨?_, hst.grown fun id o _ ho => ?_⟩
  · exact congrArg _ (ren_congr (D := fun _ => False) (fun _ h => h.elim) v (noId_ok _ _ v hv))
  · obtain ⟨_, c, C, e, fz, hoe, _⟩ := hG id o ho
    subst hoe; rfl

/-- Is it the call's true? -/
def isTrue : Option (AVal × AHeap) → Bool
  | some (.b true, _) => true
  | _ => false

/-- A call without arguments, run by the kernel. -/
theorem closed_calls {P : Program} (hm : P.follows .mixedOrders = true) {IP : FuncId → Option IFunc} (htab : TabOK P IP) {G : AHeap} (hn : G.next = P.globals.size) (hw : Wf G) {f k : Nat} (h : isTrue (acall IP G k G.next f [] G) = true)
    (w : World) (hG : GHolds P.globals.size G w) : Calls P f #[] w fun e w' => e = .returned (.bool true) ∧ Kept w w' := by
  have : ∃ H', acall IP G k G.next f [] G = some (.b true, H') := by
    unfold isTrue at h
    split at h
    · rename_i H' he; exact ⟨H', he⟩
    · cases h
  obtain ⟨H', hH⟩ := this
  exact plain_callsG hm htab hn hw (args := []) (v := .b true) ⟨k, hH⟩ rfl rfl (fun _ _ e => by cases e) w hG

/-! ### From what a row lists to what the world holds -/
theorem cell_lit {H : Type} {enc : TypeId × Value → H} {P : Program} {w : World} {base : Nat} {sp : Nat → Bool} {held : Bool} {fuel : Nat} {t : TypeId} {cs : List Value} {l : Lit} {p : List MemPlace}
    (h : DataW.trod enc P w base sp held fuel t cs = some (.lit l, p)) : cs = [l.value] := by
  cases fuel with
  | zero => simp [DataW.trod] at h
  | succ fuel => 
    unfold DataW.trod at h
    split at h
    all_goals first
      | (cases h; done)
      | (cases h; rfl)
      | (split at h
         · rename_i hc; cases h; first | (obtain ⟨rfl, _⟩ := hc; rfl) | rfl
         · cases h)
      | (exfalso; simp only [Option.map_eq_some_iff] at h; obtain ⟨x, _, hx⟩ := h; cases hx; done)
      | (exfalso; split at h
         · simp only [Option.map_eq_some_iff, Option.bind_eq_some_iff] at h
           first
           | (obtain ⟨x, _, hx⟩ := h; cases hx; done)
           | (obtain ⟨x, _, y, _, hx⟩ := h; cases hx; done)
         · cases h)
      | (exfalso; split at h <;> first | (cases h; done) | (simp only [Option.map_eq_some_iff] at h; obtain ⟨x, _, hx⟩ := h; cases hx; done))
      | skip
    exfalso
    split at h
    · split at h
      · simp only [Option.bind_eq_some_iff] at h
        obtain ⟨x, _, hx⟩ := h
        split at hx
        · cases hx
        · cases hx
      · cases h
    · cases h

/-- A struct of plain fields, a cell each. -/
theorem cells_flat {H : Type} {enc : TypeId × Value → H} {P : Program} {w : World} {base : Nat} {sp : Nat → Bool} {held : Bool} {fuel : Nat} {t : TypeId} {fs : Array Field} {cs : List Value} {ls : List Lit} {p : List MemPlace}
    (ht : P.underlying t = some (.struct fs)) (hn : P.cellsOf t = ls.length) (hf : fs.toList.map (fun f => (f.offset, P.cellsOf f.type)) = (List.range ls.length).map fun i => (i, 1))
    (h : DataW.trod enc P w base sp held fuel t cs = some (.agg (ls.map .lit), p)) : cs = ls.map Lit.value := by
  cases fuel with
  | zero => simp [DataW.trod] at h
  | succ fuel =>
    simp only [DataW.trod, ht] at h
    split at h
    · rename_i hl
      obtain ⟨xs, hm, hx⟩ := Option.map_eq_some_iff.1 h
      have hxs : xs.map (·.1) = ls.map fun z => (DataW.lit z : DataW H) := by
        have := congrArg Prod.fst hx
        simpa using this
      have hlen : fs.toList.length = ls.length := by have := congrArg List.length hf; simpa using this
      apply List.ext_getElem?
      intro i
      by_cases hi : i < ls.length
      · have hfi : ∃ f, fs.toList[i]? = some f := ⟨_, List.getElem?_eq_getElem (by omega)⟩
        obtain ⟨f, hfi⟩ := hfi
        obtain ⟨b, hb, hfb⟩ := Go.Lib.mapM_at hm i f hfi
        have hoff : f.offset = i ∧ P.cellsOf f.type = 1 := by
          have := congrArg (·[i]?) hf
          simp only [List.getElem?_map, hfi, Option.map_some, List.getElem?_range hi, Option.some.injEq, Prod.mk.injEq] at this
          exact this
        rw [hoff.1, hoff.2] at hfb
        have h2 : (xs.map (·.1))[i]? = some b.1 := by simp [hb]
        rw [hxs, List.getElem?_map, Option.map_eq_some_iff] at h2
        obtain ⟨l, hl2, he⟩ := h2
        obtain ⟨b1, b2⟩ := b
        simp only at he
        subst he
        have h1 := cell_lit hfb
        have h3 : cs[i]? = some l.value := by
          have := congrArg (·[0]?) h1
          simpa [List.getElem?_take, List.getElem?_drop] using this
        rw [h3, List.getElem?_map, hl2]; rfl
      · rw [List.getElem?_eq_none (by omega), List.getElem?_eq_none (by simp; omega)]
    · cases h

theorem laid_one {P : Program} {W : World} {name : String} {g : Nat} {t : TypeId} {fs : Array Field} {ls : List Lit}
    (hg : P.globalNamed name = some g) (hty : (P.globals[g]?).map (·.type) = some t) (ht : P.underlying t = some (.struct fs)) (hn : P.cellsOf t = ls.length) (hf : fs.toList.map (fun f => (f.offset, P.cellsOf f.type)) = (List.range ls.length).map fun i => (i, 1))
    (h : laidMet P [(name, .agg (ls.map .lit))] W) : ∃ C e fz, W.heap[g]? = some (.cells C e fz) ∧ C.toList = ls.map Lit.value := by
  obtain ⟨ps, ⟨g', t', cs, fuel, p, q, hg', ht', hvar, hd, _, _⟩, _⟩ := h
  obtain rfl := Option.some.inj (hg.symm.trans hg')
  obtain rfl := Option.some.inj (hty.symm.trans ht')
  have := cells_flat ht hn hf hd
  simp only [World.var?, hg, Option.bind_some] at hvar
  split at hvar
  · rename_i C e fz hh; simp only [Option.some.injEq] at hvar; subst hvar; exact ⟨_, _, _, hh, this⟩
  · cases hvar
end Go.RI
