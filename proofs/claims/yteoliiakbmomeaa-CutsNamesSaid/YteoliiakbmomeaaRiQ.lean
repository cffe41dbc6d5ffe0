/- RI, part Q: what an operation reads; what kinds of them there are; new rows told apart. Conditions: none. -/
import Derived.Test.YteoliiakbmomeaaRiP
namespace Go.RI
open Go

/-! ### What an operation reads -/
def Opd.reads : Opd → List Nat
  | .t n => [n]
  | _ => []
def readsL : List Opd → List Nat
  | [] => []
  | x :: l => x.reads ++ readsL l
def readsP : List (Nat × Nat × Opd) → List Nat
  | [] => []
  | (_, _, x) :: l => x.reads ++ readsP l
def readsO : Option Opd → List Nat
  | none => []
  | some x => x.reads

def IOp.reads : IOp → List Nat
  | .mov x | .un _ x | .conv _ x | .same x | .box x | .load _ x | .nck x | .off x _ | .part _ x _ | .ext x _ | .lenk _ x | .iface _ x | .s2b x => x.reads
  | .pick c a b => c.reads ++ (a.reads ++ b.reads)
  | .bin _ x y | .eqB _ x y | .eqNil _ _ x y | .eqAg _ _ x y | .look _ _ _ _ x y | .cpy _ x y | .store _ x y | .iaddr _ x y | .iaddrA _ _ x y | .idxS x y | .idxA _ _ _ x y | .mksl _ _ _ x y | .app _ _ x y => x.reads ++ y.reads
  | .alloc _ | .bad | .mkmap => []
  | .mapup _ _ x k v => x.reads ++ (k.reads ++ v.reads)
  | .build _ ps | .bsl _ _ _ ps => readsP ps
  | .mkf _ a c => readsL a ++ readsL c
  | .slS x lo hi => x.reads ++ (readsO lo ++ readsO hi)
  | .sl _ x lo hi mx | .slq _ x lo hi mx => x.reads ++ (readsO lo ++ (readsO hi ++ readsO mx))
  | .mm _ x l => x.reads ++ readsL l
  | .call _ l => readsL l
  | .callv x l => x.reads ++ readsL l

def Agree (us : List Nat) (e e' : Env) : Prop := ∀ u ∈ us, e.get u = e'.get u

theorem Agree.l {us vs : List Nat} {e e' : Env} (h : Agree (us ++ vs) e e') : Agree us e e' := fun u hu => h u (List.mem_append_left _ hu)
theorem Agree.r {us vs : List Nat} {e e' : Env} (h : Agree (us ++ vs) e e') : Agree vs e e' := fun u hu => h u (List.mem_append_right _ hu)

theorem eval_congr {x : Opd} {e e' : Env} (h : Agree x.reads e e') : x.eval e = x.eval e' := by
  cases x <;> simp only [Opd.eval]
  exact h _ (by simp [Opd.reads])

theorem evals_congr {e e' : Env} : ∀ {l : List Opd}, Agree (readsL l) e e' → evals e l = evals e' l
  | [], _ => rfl
  | x :: l, h => by simp only [evals, eval_congr (x := x) h.l, evals_congr (l := l) h.r]

theorem evalParts_congr {e e' : Env} : ∀ {l : List (Nat × Nat × Opd)}, Agree (readsP l) e e' → evalParts e l = evalParts e' l
  | [], _ => rfl
  | (_, _, x) :: l, h => by simp only [evalParts, eval_congr (x := x) h.l, evalParts_congr (l := l) h.r]

theorem optI_congr {e e' : Env} {x : Option Opd} (h : Agree (readsO x) e e') : optI e x = optI e' x := by
  cases x with
  | none => rfl
  | some x => simp only [optI, eval_congr (x := x) h]

theorem aop_congr {lo : Nat} {o : IOp} {e e' : Env} (H : AHeap) (h : Agree o.reads e e') : aop lo o e H = aop lo o e' H := by
  cases o <;> simp only [IOp.reads] at h <;> simp only [aop]
  case mov x => rw [eval_congr h]
  case pick c a b => rw [eval_congr h.l, eval_congr h.r.l, eval_congr h.r.r]
  case bin op x y => rw [eval_congr h.l, eval_congr h.r]
  case eqB n x y => rw [eval_congr h.l, eval_congr h.r]
  case eqNil k n x y => rw [eval_congr h.l, eval_congr h.r]
  case eqAg k n x y => rw [eval_congr h.l, eval_congr h.r]
  case un op x => rw [eval_congr h]
  case conv k x => rw [eval_congr h]
  case same x => rw [eval_congr h]
  case box x => rw [eval_congr h]
  case build z ps => rw [evalParts_congr h]
  case bsl a b z ps => rw [evalParts_congr h]
  case load n x => rw [eval_congr h]
  case store n x y => rw [eval_congr h.l, eval_congr h.r]
  case nck x => rw [eval_congr h]
  case off x k => rw [eval_congr h]
  case part n x k => rw [eval_congr h]
  case iaddr s x y => rw [eval_congr h.l, eval_congr h.r]
  case iaddrA s l x y => rw [eval_congr h.l, eval_congr h.r]
  case idxS x y => rw [eval_congr h.l, eval_congr h.r]
  case idxA n s l x y => rw [eval_congr h.l, eval_congr h.r]
  case ext x k => rw [eval_congr h]
  case mkf f a c => rw [evals_congr h.l, evals_congr h.r]
  case mksl s b z x y => rw [eval_congr h.l, eval_congr h.r]
  case slS x lo hi => rw [eval_congr h.l, optI_congr h.r.l, optI_congr h.r.r]
  case sl s x lo hi mx => rw [eval_congr h.l, optI_congr h.r.l, optI_congr h.r.r.l, optI_congr h.r.r.r]
  case slq s x lo hi mx => rw [eval_congr h.l, optI_congr h.r.l, optI_congr h.r.r.l, optI_congr h.r.r.r]
  case lenk k x => rw [eval_congr h]
  case app s b x y => rw [eval_congr h.l, eval_congr h.r]
  case mm b x l => rw [eval_congr h.l, evals_congr h.r]
  case iface t x => rw [eval_congr h]
  case s2b x => rw [eval_congr h]
  case mapup ag ks x k v => rw [eval_congr h.l, eval_congr h.r.l, eval_congr h.r.r]
  case look ag ks z okf x k => rw [eval_congr h.l, eval_congr h.r]
  case cpy s x y => rw [eval_congr h.l, eval_congr h.r]

theorem opI_congr {call : CallI} {lo : Nat} {o : IOp} {e e' : Env} (H : AHeap) (h : Agree o.reads e e') : opI call lo o e H = opI call lo o e' H := by
  cases o <;> simp only [opI] <;> first
    | exact aop_congr H h
    | (simp only [IOp.reads] at h; rw [evals_congr h])
    | (simp only [IOp.reads] at h; rw [eval_congr h.l, evals_congr h.r])

/-! ### Kinds of operations -/
/-- It turns what was there, or calls. -/
def IOp.act : IOp → Bool
  | .store .. | .app .. | .call .. | .callv .. | .sl .. | .s2b .. | .bad | .mkmap | .mapup .. | .cpy .. => true
  | _ => false
/-- It looks into the heap. -/
def IOp.looks : IOp → Bool
  | .load .. | .slq .. | .lenk .. | .look .. => true
  | _ => false
/-- It makes a row. -/
def IOp.makes : IOp → Bool
  | .alloc .. | .box .. | .bsl .. | .mksl .. => true
  | _ => false

/-- An operation that neither looks nor makes nor acts hangs on no heap. -/
theorem aop_still {lo : Nat} {o : IOp} {e : Env} {H : AHeap} {v : Option AVal} {H' : AHeap} (h1 : o.act = false) (h2 : o.looks = false) (h3 : o.makes = false) (h : aop lo o e H = some (v, H')) :
    H' = H ∧ (∃ u, v = some u) ∧ ∀ H2, aop lo o e H2 = some (v, H2) := by
  cases o <;> simp only [IOp.act, IOp.looks, IOp.makes] at h1 h2 h3 <;> (try (cases h1; done)) <;> (try (cases h2; done)) <;> (try (cases h3; done)) <;> simp only [aop] at h ⊢
  all_goals first
    | (rw [Option.map_eq_some_iff] at h; obtain ⟨u, hu, he⟩ := h; cases he; exact ⟨rfl, ⟨u, rfl⟩, fun H2 => by rw [hu]; rfl⟩)
    | (split at h
       all_goals first
         | (cases h; done)
         | (rw [Option.map_eq_some_iff] at h; obtain ⟨u, hu, he⟩ := h; cases he; refine ⟨rfl, ⟨u, rfl⟩, fun H2 => ?_⟩; simp_all; done)
         | (simp only [Option.map_some, Option.some.injEq, Prod.mk.injEq] at h; obtain ⟨rfl, rfl⟩ := h; refine ⟨rfl, ⟨_, rfl⟩, fun H2 => ?_⟩; simp_all; done))
    | cases h

end Go.RI
