/- RI, part F: the machine's operations turned into the interpreter's; those that touch no memory. Conditions: none. -/
import Derived.Test.YteoliiakbmomeaaRiE
import Derived.Laws.StructEq
import Derived.Laws.Tables
namespace Go.RI
open Go

mutual
/-- A constant. -/
def ofVal : Value → Option AVal
  | .bool v => some (.b v)
  | .int k n => some (.i k n)
  | .string ⟨⟨l⟩⟩ => some (.s l)
  | .pointer none => some .np
  | .slice none 0 0 => some .ns
  | .map none => some .nm
  | .nilFunc => some .nf
  | .nilIface => some .nif
  | .agg ⟨l⟩ => match ofValL l with
    | some l' => if oneL l' then some (.ag l') else none
    | none => none
  | .tuple ⟨l⟩ => (ofValL l).map .tu
  | _ => none
def ofValL : List Value → Option (List AVal)
  | [] => some []
  | v :: l => match ofVal v, ofValL l with
    | some a, some b => some (a :: b)
    | _, _ => none
end

mutual
theorem ofVal_ren : ∀ (v : Value) (a : AVal), ofVal v = some a → noId a = true ∧ ∀ ρ, ren ρ a = v
  | .bool _, a, h | .int _ _, a, h | .nilFunc, a, h | .nilIface, a, h => by
    simp only [ofVal, Option.some.injEq] at h; subst h; exact ⟨rfl, fun _ => rfl⟩
  | .string ⟨⟨l⟩⟩, a, h => by simp only [ofVal, Option.some.injEq] at h; subst h; exact ⟨rfl, fun _ => rfl⟩
  | .pointer none, a, h => by simp only [ofVal, Option.some.injEq] at h; subst h; exact ⟨rfl, fun _ => rfl⟩
  | .map none, a, h => by simp only [ofVal, Option.some.injEq] at h; subst h; exact ⟨rfl, fun _ => rfl⟩
  | .slice none 0 0, a, h => by simp only [ofVal, Option.some.injEq] at h; subst h; exact ⟨rfl, fun _ => rfl⟩
  | .agg ⟨l⟩, a, h => by
    simp only [ofVal] at h
    split at h
    · rename_i l' hl
      split at h
      · rename_i hone
        simp only [Option.some.injEq] at h; subst h
        obtain ⟨h1, h2⟩ := ofValL_ren l l' hl
        exact ⟨by simp [noId, h1, hone], fun ρ => by simp [ren, h2 ρ]⟩
      · cases h
    · cases h
  | .tuple ⟨l⟩, a, h => by
    simp only [ofVal, Option.map_eq_some_iff] at h
    obtain ⟨l', hl, rfl⟩ := h
    obtain ⟨h1, h2⟩ := ofValL_ren l l' hl
    exact ⟨by simp [noId, h1], fun ρ => by simp [ren, h2 ρ]⟩
  | .float _ _, a, h | .complex _ _ _, a, h | .chan _, a, h | .func _ _ _, a, h | .iface _ _, a, h => by simp [ofVal] at h
  | .pointer (some _), a, h | .map (some _), a, h => by simp [ofVal] at h
  | .slice (some _) _ _, a, h => by simp [ofVal] at h
  | .slice none (n + 1) _, a, h => by simp [ofVal] at h
  | .slice none 0 (n + 1), a, h => by simp [ofVal] at h
theorem ofValL_ren : ∀ (l : List Value) (a : List AVal), ofValL l = some a → noIdL a = true ∧ ∀ ρ, renL ρ a = l
  | [], a, h => by simp only [ofValL, Option.some.injEq] at h; subst h; exact ⟨rfl, fun _ => rfl⟩
  | v :: l, a, h => by
    simp only [ofValL] at h
    split at h
    · rename_i x y hx hy
      simp only [Option.some.injEq] at h; subst h
      obtain ⟨h1, h2⟩ := ofVal_ren v x hx
      obtain ⟨h3, h4⟩ := ofValL_ren l y hy
      exact ⟨by simp [noIdL, h1, h3], fun ρ => by simp [renL, h2 ρ, h4 ρ]⟩
    · cases h
end

def trOpd (P : Program) : Operand → Option Opd
  | .tmp t => some (.t t)
  | .const v => (ofVal v).map .c
  | .global g => if g < P.globals.size then some (.g g) else none
  | .func f => some (.f f)

def trOpds (P : Program) : List Operand → Option (List Opd)
  | [] => some []
  | x :: l => match trOpd P x, trOpds P l with
    | some a, some b => some (a :: b)
    | _, _ => none

def trOpt (P : Program) : Option Operand → Option (Option Opd)
  | none => some none
  | some x => (trOpd P x).map some

/-- What stands between the interpreter's state and the machine's at one place. -/
structure Rel (P : Program) (G : AHeap) (ds : List Deferred) (ρ : Ren) (D : Nat → Prop) (n : Nat) (e : Env) (a : Act) (H : AHeap) (w : World) : Prop where
  gsize : G.next = P.globals.size
  gok : GOk G
  heap : HRel G ρ D H w
  slots : ARel ds ρ D n e a

section
variable {ds : List Deferred} {P : Program} {G : AHeap} {ρ : Ren} {D : Nat → Prop} {n : Nat} {e : Env} {a : Act} {H : AHeap} {w : World}

theorem opd_sim (r : Rel P G ds ρ D n e a H w) {x : Operand} {x' : Opd} {v : AVal} (hx : trOpd P x = some x') (hv : x'.eval e = some v) : a.eval x = ren ρ v ∧ ok ρ D v := by
  cases x with
  | tmp t =>
    simp only [trOpd, Option.some.injEq] at hx; subst hx
    obtain ⟨_, h2, h3⟩ := r.slots.get t v hv
    exact ⟨h2, h3⟩
  | const c =>
    simp only [trOpd, Option.map_eq_some_iff] at hx
    obtain ⟨u, hu, rfl⟩ := hx
    simp only [Opd.eval, Option.some.injEq] at hv; subst hv
    obtain ⟨h1, h2⟩ := ofVal_ren c u hu
    exact ⟨(h2 ρ).symm, noId_ok ρ D u h1⟩
  | global g =>
    simp only [trOpd] at hx
    split at hx
    · rename_i hg
      simp only [Option.some.injEq] at hx; subst hx
      simp only [Opd.eval, Option.some.injEq] at hv; subst hv
      obtain ⟨h1, h2, h3, _⟩ := r.heap.glob g (by rw [r.gsize]; exact hg)
      exact ⟨by simp [Act.eval, ren, h2, h3], by simpa [ok] using h1⟩
    · cases hx
  | func f =>
    simp only [trOpd, Option.some.injEq] at hx; subst hx
    simp only [Opd.eval, Option.some.injEq] at hv; subst hv
    exact ⟨by simp [Act.eval, ren, renL], by simp [ok, okL]⟩

theorem opds_sim (r : Rel P G ds ρ D n e a H w) : ∀ {l : List Operand} {l' : List Opd} {vs : List AVal}, trOpds P l = some l' → evals e l' = some vs →
    l.map a.eval = renL ρ vs ∧ okL ρ D vs := by
  intro l
  induction l with
  | nil =>
    intro l' vs h1 h2
    simp only [trOpds, Option.some.injEq] at h1; subst h1
    simp only [evals, Option.some.injEq] at h2; subst h2
    exact ⟨rfl, by simp [okL]⟩
  | cons x l ih =>
    intro l' vs h1 h2
    simp only [trOpds] at h1
    split at h1
    · rename_i x' l1 hx hl
      simp only [Option.some.injEq] at h1; subst h1
      simp only [evals] at h2
      split at h2
      · rename_i v hv
        split at h2
        · rename_i vs' hvs
          simp only [Option.some.injEq] at h2; subst h2
          obtain ⟨h3, h4⟩ := opd_sim r hx hv
          obtain ⟨h5, h6⟩ := ih hl hvs
          exact ⟨by simp [renL, h3, h5], by simp [okL, h4, h6]⟩
        · cases h2
      · cases h2
    · cases h1

end

/-- What an operation's run comes to. -/
def Sim (G : AHeap) (lo : Nat) (ρ : Ren) (D : Nat → Prop) (H : AHeap) (w : World) (run : Result Next) (v : Option AVal) (H' : AHeap) : Prop :=
  ∃ ρ' D' w', run = .ok (match v with | some v => .value (ren ρ' v) | none => .skip) w' ∧ Step lo ρ D H w ρ' D' H' w' ∧ HRel G ρ' D' H' w' ∧ ∀ u, v = some u → ok ρ' D' u

theorem sim_val {G : AHeap} {lo : Nat} {ρ : Ren} {D : Nat → Prop} {H : AHeap} {w : World} {run : Result Next} {v : AVal} (h : HRel G ρ D H w) (hr : run = .ok (.value (ren ρ v)) w) (hv : ok ρ D v) :
    Sim G lo ρ D H w run (some v) H :=
  ⟨ρ, D, w, hr, Step.refl lo ρ D H w h.lt, h, fun u hu => by cases hu; exact hv⟩

/-! ### Numbers -/
theorem wrap_i64 (n : Int) : IntKind.i64.wrap n = if n % 18446744073709551616 ≥ 9223372036854775808 then n % 18446744073709551616 - 18446744073709551616 else n % 18446744073709551616 := by
  simp [IntKind.wrap, IntKind.signed, IntKind.bits]
theorem wrapI_eq (k : IntKind) (n : Int) : wrapI k n = k.wrap n := by
  cases k
  case i64 =>
    rw [wrap_i64]
    simp only [wrapI]
    by_cases h : -9223372036854775808 ≤ n ∧ n ≤ 9223372036854775807
    · rw [if_pos h]
      split <;> omega
    · rw [if_neg h]
  all_goals simp [wrapI, IntKind.wrap, IntKind.signed, IntKind.bits]

theorem ltB_eq (a b : List UInt8) : Op.bytesLess a b = ltB a b := by
  induction a generalizing b with
  | nil => cases b <;> rfl
  | cons x a ih => cases b with
    | nil => rfl
    | cons y b => simp [Op.bytesLess, ltB, ih]

theorem bytes_toList (l : List UInt8) : (ByteArray.mk l.toArray).toList = l := by rw [ByteArray.toList_eq]
theorem bytes_size (l : List UInt8) : (ByteArray.mk l.toArray).size = l.length := by simp [ByteArray.size]
theorem bytes_append (a b : List UInt8) : (ByteArray.mk a.toArray) ++ (ByteArray.mk b.toArray) = ByteArray.mk (a ++ b).toArray := by
  apply ByteArray.ext; simp

theorem run_binOp {P : Program} {w : World} (op : BinOp) (t : TypeId) (ρ : Ren) {x y v : AVal} (h : binV op x y = some v) :
    (binOp op t (ren ρ x) (ren ρ y)).run P w = .ok (ren ρ v) w ∧ noId v = true ∧ (∀ o p q, eqGuard o t p q (ren ρ x) (ren ρ y) = pure ()) := by
  cases x <;> cases y <;> simp only [binV] at h <;> try (cases h; done)
  case i.i k a k' b =>
    refine ⟨?_, ?_, fun o p q => by cases o <;> rfl⟩
    · cases op <;> simp only [ren] <;> simp only [binI] at h
      case shl =>
        split at h
        · cases h
        · rename_i hb; cases h; simp only [binOp, Op.shift, if_neg hb]; rfl
      case shr =>
        split at h
        · cases h
        · rename_i hb; cases h; simp only [binOp, Op.shift, if_neg hb]; rfl
      all_goals
        split at h
        · rename_i hk
          subst hk
          first
          | (cases h; simp [binOp, Op.intArith, Op.intBits, Op.intCmp, wrapI_eq, ren]; done)
          | (split at h
             · cases h
             · rename_i hb; cases h; simp [binOp, Op.intDiv, hb, wrapI_eq, ren])
        · cases h
    · cases op <;> simp only [binI] at h <;> (try (split at h)) <;> (try (cases h; done)) <;> (try (cases h; rfl)) <;> (try (split at h)) <;> (try (cases h; done)) <;> cases h <;> rfl
  case s.s a b =>
    refine ⟨?_, ?_, fun o p q => by cases o <;> rfl⟩
    · have e1 := bytes_toList a
      have e2 := bytes_toList b
      cases op <;> simp only [binS] at h <;> try (cases h; done)
      case add =>
        split at h
        · rename_i hl
          cases h
          have : ¬ (((ByteArray.mk a.toArray).size + (ByteArray.mk b.toArray).size : Nat) : Int) > IntKind.i64.max := by
            rw [bytes_size, bytes_size]
            have : IntKind.i64.max = 9223372036854775807 := by decide
            omega
          simp only [ren, binOp, Op.stringOp, if_neg this, bytes_append]
          rfl
        · cases h
      all_goals
        cases h
        simp only [ren, binOp, Op.stringOp, e1, e2, ltB_eq]
        rfl
    · cases op <;> simp only [binS] at h <;> (try (split at h)) <;> (try (cases h; done)) <;> cases h <;> rfl

theorem run_unary {P : Program} {w : World} (op : UnOp) (ρ : Ren) {x v : AVal} (h : unV op x = some v) : (Op.unary op (ren ρ x)).run P w = .ok (ren ρ v) w ∧ noId v = true := by
  cases x <;> simp only [unV] at h <;> try (cases h; done)
  case i k a =>
    cases op <;> simp only at h <;> (try (cases h; done)) <;> cases h
    · exact ⟨by simp [ren, Op.unary, Op.intArith, wrapI_eq], rfl⟩
    · exact ⟨by simp [ren, Op.unary, Op.intBits], rfl⟩
  case b v =>
    cases op <;> simp only at h <;> (try (cases h; done)) <;> cases h
    exact ⟨by simp [ren, Op.unary], rfl⟩

end Go.RI
