/- RI: more fuel does no harm. Conditions: none. -/
import Derived.Test.YteoliiakbmomeaaRiO
namespace Go.RI
open Go
set_option linter.unusedSimpArgs false

/-! ### More fuel -/
structure LeC (c c' : CallI) : Prop where
  le : ∀ f args H r, c f args H = some r → c' f args H = some r
  pu : c.pure = c'.pure
theorem LeC.skip {c c' : CallI} (h : LeC c c') (o : IOp) : skipI c o = skipI c' o := by cases o <;> simp [skipI, h.pu]
abbrev ExI := Nat → ICode → Env → AHeap → Option (AExit × Env × AHeap)
def LeX (x x' : ExI) : Prop := ∀ lo c e H r, x lo c e H = some r → x' lo c e H = some r

theorem opI_mono {c c' : CallI} (h : LeC c c') {lo : Nat} {o : IOp} {e : Env} {H : AHeap} {r : Option AVal × AHeap} (hs : opI c lo o e H = some r) : opI c' lo o e H = some r := by
  cases o <;> simp only [opI] at hs ⊢ <;> try (exact hs)
  case call f args =>
    split at hs
    · rename_i vs hvs
      split at hs
      · rename_i v H' hc
        rw [h.le _ _ _ _ hc]; exact hs
      · cases hs
    · cases hs
  case callv x args =>
    split at hs
    · rename_i f fst cap hx
      split at hs
      · rename_i vs hvs
        split at hs
        · rename_i v H' hc
          simp only [h.le _ _ _ _ hc]; exact hs
        · cases hs
      · cases hs
    · cases hs

theorem itemI_mono {c c' : CallI} (h : LeC c c') {lo : Nat} {x : Item} {e : Env} {H : AHeap} {r : Env × AHeap} (hs : itemI c lo x e H = some r) : itemI c' lo x e H = some r := by
  simp only [itemI] at hs ⊢
  split at hs
  · cases hs
  · exact hs
  · split at hs
    · rename_i v H' ho; rw [opI_mono h ho]; exact hs
    · rename_i H' ho; rw [opI_mono h ho]; exact hs
    · cases hs

theorem itemsI_mono {c c' : CallI} (h : LeC c c') {lo : Nat} : ∀ {xs : List Item} {e : Env} {H : AHeap} {r : Env × AHeap}, itemsI c lo xs e H = some r → itemsI c' lo xs e H = some r := by
  intro xs
  induction xs with
  | nil => intro e H r hs; exact hs
  | cons x xs ih =>
    intro e H r hs
    simp only [itemsI] at hs ⊢
    split at hs
    · rename_i e' H' hi
      rw [itemI_mono h hi]
      simp only
      split at hs
      · rename_i hre; rw [← h.skip, if_pos hre]; exact ih hs
      · cases hs
    · cases hs

theorem bodyI_mono {x x' : ExI} (h : LeX x x') {fn : IFunc} {lo : Nat} {args : List AVal} {H : AHeap} {r : AVal × AHeap} (hs : bodyI x fn lo args H = some r) : bodyI x' fn lo args H = some r := by
  simp only [bodyI] at hs ⊢
  split at hs
  · rename_i hl
    rw [if_pos hl]
    split at hs
    · cases hs
    · rename_i y e' H' hne hx
      have := h _ _ _ _ _ hx
      rw [this]
      cases y with
      | exit id => exact (hne id rfl).elim
      | normal => exact hs
      | ret => exact hs
    · cases hs
  · cases hs

theorem callI_mono {x x' : ExI} (h : LeX x x') (IP : FuncId → Option IFunc) (G : AHeap) (lo : Nat) : LeC (callI x IP G lo) (callI x' IP G lo) := by
  refine ⟨?_, rfl⟩
  intro f args H r hs
  simp only [callI, callB] at hs ⊢
  split at hs
  · cases hs
  · split at hs
    · exact bodyI_mono h hs
    · exact bodyI_mono h hs
    · split at hs
      · split at hs
        · rename_i v H' hb; rw [bodyI_mono h hb]; exact hs
        · cases hs
      · cases hs
    · split at hs
      · rename_i v H' hb; rw [bodyI_mono h hb]; exact hs
      · cases hs
    · exact hs

section
variable {IP : FuncId → Option IFunc} {G : AHeap}

theorem exec_succ : ∀ f, LeX (exec IP G f) (exec IP G (f + 1)) := by
  intro f
  induction f with
  | zero => intro lo c e H r h; simp [exec] at h
  | succ f ih =>
    intro lo c e H r h
    cases c <;> rw [exec] at h ⊢
    case skip => exact h
    case region items kill =>
      split at h
      · rename_i e' H' hi
        rw [itemsI_mono (callI_mono ih IP G lo) hi]; exact h
      · cases h
    case seq a b =>
      split at h
      · rename_i e' H' ha
        rw [ih _ _ _ _ _ ha]; exact ih _ _ _ _ _ h
      · rename_i hne
        rw [ih _ _ _ _ _ h]
        obtain ⟨x, e', H'⟩ := r
        cases x with
        | normal => exact (hne _ _ h).elim
        | exit id => rfl
        | ret => rfl
    case cond c a b =>
      split at h
      · exact ih _ _ _ _ _ h
      · exact ih _ _ _ _ _ h
      · cases h
    case block id b =>
      split at h
      · rename_i id' e' H' hb
        rw [ih _ _ _ _ _ hb]; exact h
      · rename_i hne
        rw [ih _ _ _ _ _ h]
        obtain ⟨x, e', H'⟩ := r
        cases x with
        | normal => rfl
        | exit id => exact (hne _ _ _ h).elim
        | ret => rfl
    case loop b =>
      split at h
      · rename_i e' H' ha
        rw [ih _ _ _ _ _ ha]; exact ih _ _ _ _ _ h
      · rename_i hne
        rw [ih _ _ _ _ _ h]
        obtain ⟨x, e', H'⟩ := r
        cases x with
        | normal => exact (hne _ _ h).elim
        | exit id => rfl
        | ret => rfl
    case exit id => exact h
    case ret => exact h

theorem exec_mono {f f' : Nat} (hf : f ≤ f') : LeX (exec IP G f) (exec IP G f') := by
  induction hf with
  | refl => exact fun _ _ _ _ _ h => h
  | step _ ih => exact fun lo c e H r h => exec_succ _ lo c e H r (ih lo c e H r h)

theorem acall_mono {f f' : Nat} (hf : f ≤ f') (lo : Nat) : LeC (acall IP G f lo) (acall IP G f' lo) := callI_mono (exec_mono hf) IP G lo


end
end Go.RI
