/- RI: more fuel does no harm; a calculus over the interpreter that names no fuel. Conditions: none. -/
import Derived.Test.YteoliiakbmomeaaRiZ
import Derived.Test.YteoliiakbmomeaaRiMono
namespace Go.RI
open Go
set_option linter.unusedSimpArgs false

section
variable {IP : FuncId → Option IFunc} {G : AHeap}

/-! ### The calculus -/
/-- With fuel enough, the call comes to that. -/
def Brings (IP : FuncId → Option IFunc) (G : AHeap) (lo : Nat) (f : FuncId) (args : List AVal) (H : AHeap) (v : AVal) (H' : AHeap) : Prop := ∃ n, acall IP G n lo f args H = some (v, H')

/-- What is known of calls. -/
structure Knows (IP : FuncId → Option IFunc) (G : AHeap) (lo : Nat) (call : CallI) : Prop where
  brings : ∀ f args H v H', call f args H = some (v, H') → Brings IP G lo f args H v H'
  pu : call.pure = pureB IP

abbrev Post := AExit → Env → AHeap → Prop
def rounds (W : Post → Env → AHeap → Prop) (Q : Post) : Nat → Env → AHeap → Prop
  | 0, _, _ => False
  | n + 1, e, H => W (fun x e H => match x with | .normal => rounds W Q n e H | x => Q x e H) e H

def andThen (Q : Post) (k : Env → AHeap → Prop) : Post := fun x e H => match x with | .normal => k e H | x => Q x e H
def inBlock (Q : Post) (id : Nat) : Post := fun x e H => match x with | .exit i => if i = id then Q .normal e H else Q (.exit i) e H | x => Q x e H
def upon (r : Option (Env × AHeap)) (k : Env → AHeap → Prop) : Prop := match r with | some (e, H) => k e H | none => False
def test (v : Option AVal) (a b : Prop) : Prop := match v with | some (.b true) => a | some (.b false) => b | _ => False

def wp (call : CallI) (lo : Nat) : ICode → Post → Env → AHeap → Prop
  | .skip, Q, e, H => Q .normal e H
  | .region xs kill, Q, e, H => upon (itemsI call lo xs e H) fun e' H' => Q .normal (e'.kill kill) H'
  | .seq a b, Q, e, H => wp call lo a (andThen Q fun e' H' => wp call lo b Q e' H') e H
  | .cond c a b, Q, e, H => test (c.eval e) (wp call lo a Q e H) (wp call lo b Q e H)
  | .block id b, Q, e, H => wp call lo b (inBlock Q id) e H
  | .loop b, Q, e, H => ∃ n, rounds (fun Q' => wp call lo b Q') Q n e H
  | .exit id, Q, e, H => Q (.exit id) e H
  | .ret, Q, e, H => Q .ret e H

theorem items_fuel {call : CallI} {lo : Nat} (hk : Knows IP G lo call) : ∀ {xs : List Item} {e : Env} {H : AHeap} {r : Env × AHeap}, itemsI call lo xs e H = some r → ∃ n, itemsI (acall IP G n lo) lo xs e H = some r := by
  have one : ∀ {o : IOp} {e : Env} {H : AHeap} {r : Option AVal × AHeap}, opI call lo o e H = some r → ∃ n, opI (acall IP G n lo) lo o e H = some r := by
    intro o e H r hs
    cases o <;> simp only [opI] at hs ⊢ <;> try (exact ⟨0, hs⟩)
    case call f args =>
      split at hs
      · rename_i vs hvs
        split at hs
        · rename_i v H' hc
          obtain ⟨n, hn⟩ := hk.brings _ _ _ _ _ hc
          exact ⟨n, by rw [hn]; exact hs⟩
        · cases hs
      · cases hs
    case callv x args =>
      split at hs
      · rename_i f fst cap hx
        split at hs
        · rename_i vs hvs
          split at hs
          · rename_i v H' hc
            obtain ⟨n, hn⟩ := hk.brings _ _ _ _ _ hc
            exact ⟨n, by simp only [hn]; exact hs⟩
          · cases hs
        · cases hs
      · cases hs
  intro xs
  induction xs with
  | nil => intro e H r hs; exact ⟨0, hs⟩
  | cons x xs ih =>
    intro e H r hs
    simp only [itemsI] at hs
    split at hs
    · rename_i e' H' hi
      split at hs
      · rename_i hre
        obtain ⟨n, hn⟩ := ih hs
        have : ∃ m, itemI (acall IP G m lo) lo x e H = some (e', H') := by
          simp only [itemI] at hi ⊢
          split at hi
          · cases hi
          · exact ⟨0, hi⟩
          · split at hi
            · rename_i v H2 ho
              obtain ⟨m, hm⟩ := one ho
              exact ⟨m, by rw [hm]; exact hi⟩
            · rename_i H2 ho
              obtain ⟨m, hm⟩ := one ho
              exact ⟨m, by rw [hm]; exact hi⟩
            · cases hi
        obtain ⟨m, hm⟩ := this
        refine ⟨max n m, ?_⟩
        simp only [itemsI]
        rw [itemI_mono (acall_mono (Nat.le_max_right n m) lo) hm]
        have hsk : skipI (acall IP G (max n m) lo) x.op = skipI call x.op := by cases x.op <;> simp only [skipI, hk.pu] <;> rfl
        simp only [hsk, hre, if_true]
        exact itemsI_mono (acall_mono (Nat.le_max_left n m) lo) hn
      · cases hs
    · cases hs

theorem wp_exec {call : CallI} {lo : Nat} (hk : Knows IP G lo call) : ∀ (c : ICode) (Q : Post) (e : Env) (H : AHeap), wp call lo c Q e H → ∃ n x e' H', exec IP G n lo c e H = some (x, e', H') ∧ Q x e' H' := by
  intro c
  induction c with
  | skip => intro Q e H h; exact ⟨1, .normal, e, H, rfl, h⟩
  | region xs kill =>
    intro Q e H h
    simp only [wp, upon] at h
    split at h
    · rename_i e' H' hi
      obtain ⟨n, hn⟩ := items_fuel hk hi
      refine ⟨n + 1, .normal, e'.kill kill, H', ?_, h⟩
      rw [exec]
      show (match itemsI (acall IP G n lo) lo xs e H with | some (e', H') => some (AExit.normal, e'.kill kill, H') | none => none) = _
      rw [hn]
    · exact h.elim
  | seq a b iha ihb =>
    intro Q e H h
    obtain ⟨n, x, e', H', hx, hq⟩ := iha _ e H h
    cases x with
    | normal =>
      obtain ⟨m, y, e2, H2, hy, hq2⟩ := ihb Q e' H' hq
      refine ⟨max n m + 1, y, e2, H2, ?_, hq2⟩
      rw [exec]
      simp only [exec_mono (Nat.le_max_left n m) _ _ _ _ _ hx]
      exact exec_mono (Nat.le_max_right n m) _ _ _ _ _ hy
    | exit id => exact ⟨n + 1, .exit id, e', H', by rw [exec]; simp only [hx], hq⟩
    | ret => exact ⟨n + 1, .ret, e', H', by rw [exec]; simp only [hx], hq⟩
  | cond c a b iha ihb =>
    intro Q e H h
    simp only [wp, test] at h
    split at h
    · rename_i hv
      obtain ⟨n, x, e', H', hx, hq⟩ := iha Q e H h
      exact ⟨n + 1, x, e', H', by rw [exec]; simp only [hv]; exact hx, hq⟩
    · rename_i hv
      obtain ⟨n, x, e', H', hx, hq⟩ := ihb Q e H h
      exact ⟨n + 1, x, e', H', by rw [exec]; simp only [hv]; exact hx, hq⟩
    · exact h.elim
  | block id b ih =>
    intro Q e H h
    obtain ⟨n, x, e', H', hx, hq⟩ := ih _ e H h
    cases x with
    | normal => exact ⟨n + 1, .normal, e', H', by rw [exec]; simp only [hx], hq⟩
    | exit i =>
      simp only [inBlock] at hq
      split at hq
      · rename_i hi
        exact ⟨n + 1, .normal, e', H', by rw [exec]; simp only [hx, if_pos hi], hq⟩
      · rename_i hi
        exact ⟨n + 1, .exit i, e', H', by rw [exec]; simp only [hx, if_neg hi], hq⟩
    | ret => exact ⟨n + 1, .ret, e', H', by rw [exec]; simp only [hx], hq⟩
  | loop b ih =>
    intro Q e H h
    obtain ⟨k, hk'⟩ := h
    induction k generalizing e H with
    | zero => exact hk'.elim
    | succ k ihk =>
      obtain ⟨n, x, e', H', hx, hq⟩ := ih _ e H hk'
      cases x with
      | normal =>
        obtain ⟨m, y, e2, H2, hy, hq2⟩ := ihk e' H' hq
        refine ⟨max n m + 1, y, e2, H2, ?_, hq2⟩
        rw [exec]
        simp only [exec_mono (Nat.le_max_left n m) _ _ _ _ _ hx]
        exact exec_mono (Nat.le_max_right n m) _ _ _ _ _ hy
      | exit id => exact ⟨n + 1, .exit id, e', H', by rw [exec]; simp only [hx], hq⟩
      | ret => exact ⟨n + 1, .ret, e', H', by rw [exec]; simp only [hx], hq⟩
  | exit id => intro Q e H h; exact ⟨1, .exit id, e, H, rfl, h⟩
  | ret => intro Q e H h; exact ⟨1, .ret, e, H, rfl, h⟩

/-- A post for a body: what it hands back. -/
def ends (fn : IFunc) (R : AVal → AHeap → Prop) : Post := fun x e H => match x with
  | .exit _ => False
  | _ => match resI e H fn.res with
    | some vs => R (tupI vs) H
    | none => False

theorem body_wp {call : CallI} {lo : Nat} (hk : Knows IP G lo call) {fn : IFunc} {args : List AVal} {H : AHeap} {R : AVal → AHeap → Prop} (hl : args.length = fn.np) (h : wp call lo fn.body (ends fn R) (initEnv 0 args) H) :
    ∃ n v H', bodyI (exec IP G n) fn lo args H = some (v, H') ∧ R v H' := by
  obtain ⟨n, x, e', H', hx, hq⟩ := wp_exec hk _ _ _ _ h
  refine ⟨n, ?_⟩
  simp only [bodyI, if_pos hl, hx]
  unfold ends at hq
  cases x with
  | exit id => exact hq.elim
  | normal =>
    simp only at hq ⊢
    split at hq
    · rename_i vs hvs; exact ⟨tupI vs, H', by rw [hvs], hq⟩
    · exact hq.elim
  | ret =>
    simp only at hq ⊢
    split at hq
    · rename_i vs hvs; exact ⟨tupI vs, H', by rw [hvs], hq⟩
    · exact hq.elim

/-- A pure call. -/
theorem comesP {call : CallI} (hk : Knows IP G G.next call) {f : FuncId} {fn : IFunc} (hf : IP f = some fn) (hm : fn.mode = 2) {H : AHeap} {args args' : List AVal} (ha : mapO (snapV H 16) args = some args') (hl : args'.length = fn.np) {v : AVal}
    (h : wp call G.next fn.body (ends fn fun u H1 => frzV H1 G.next 16 u = some v) (initEnv 0 args') G) (lo : Nat) : Brings IP G lo f args H v H := by
  obtain ⟨n, v', H', hb, hv⟩ := body_wp hk hl h
  refine ⟨n, ?_⟩
  simp only [acall, callI, callB, hf, hm, ha, hb, hv]

/-- A pure call in the caller's heap. -/
theorem comes3 {call : CallI} {H : AHeap} (hk : Knows IP G H.next call) {f : FuncId} {fn : IFunc} (hf : IP f = some fn) (hm : fn.mode = 3) {args : List AVal} (hl : args.length = fn.np) {v : AVal}
    (h : wp call H.next fn.body (ends fn fun u _ => u = v ∧ below H.next u = true) (initEnv 0 args) H) (lo : Nat) : Brings IP G lo f args H v H := by
  obtain ⟨n, v', H', hb, rfl, hv⟩ := body_wp hk hl h
  refine ⟨n, ?_⟩
  simp only [acall, callI, callB, hf, hm, hb, hv, if_true]

/-- A call that writes nothing old. -/
theorem comes1 {call : CallI} {H : AHeap} (hk : Knows IP G H.next call) {f : FuncId} {fn : IFunc} (hf : IP f = some fn) (hm : fn.mode = 1) {args : List AVal} (hl : args.length = fn.np) {v : AVal} {H' : AHeap}
    (h : wp call H.next fn.body (ends fn fun u H1 => u = v ∧ H1 = H') (initEnv 0 args) H) (lo : Nat) : Brings IP G lo f args H v H' := by
  obtain ⟨n, v', H1, hb, rfl, rfl⟩ := body_wp hk hl h
  refine ⟨n, ?_⟩
  simp only [acall, callI, callB, hf, hm, hb]

theorem comes0 {call : CallI} {lo : Nat} {H : AHeap} (hk : Knows IP G lo call) {f : FuncId} {fn : IFunc} (hf : IP f = some fn) (hm : fn.mode = 0) {args : List AVal} (hl : args.length = fn.np) {R : AVal → AHeap → Prop}
    (h : wp call lo fn.body (ends fn R) (initEnv 0 args) H) : ∃ v H', Brings IP G lo f args H v H' ∧ R v H' := by
  obtain ⟨n, v, H', hb, hR⟩ := body_wp hk hl h
  exact ⟨v, H', ⟨n, by simp only [acall, callI, callB, hf, hm, hb]⟩, hR⟩

/-- The calls that come to something, as they do. -/
noncomputable def theCallsB (IP : FuncId → Option IFunc) (G : AHeap) (lo : Nat) (f : FuncId) (args : List AVal) (H : AHeap) : Option (AVal × AHeap) := open Classical in if h : ∃ r : AVal × AHeap, Brings IP G lo f args H r.1 r.2 then some h.choose else none
noncomputable def theCalls (IP : FuncId → Option IFunc) (G : AHeap) (lo : Nat) : CallI := ⟨theCallsB IP G lo, pureB IP⟩

theorem comes_unique {lo : Nat} {f : FuncId} {args : List AVal} {H : AHeap} {v v' : AVal} {H1 H2 : AHeap} (h : Brings IP G lo f args H v H1) (h' : Brings IP G lo f args H v' H2) : v = v' ∧ H1 = H2 := by
  obtain ⟨n, hn⟩ := h
  obtain ⟨m, hm⟩ := h'
  have h1 := (acall_mono (Nat.le_max_left n m) lo).le _ _ _ _ hn
  have h2 := (acall_mono (Nat.le_max_right n m) lo).le _ _ _ _ hm
  rw [h1] at h2
  cases h2
  exact ⟨rfl, rfl⟩

theorem theCalls_knows (lo : Nat) : Knows IP G lo (theCalls IP G lo) := by
  refine ⟨?_, rfl⟩
  intro f args H v H' h
  simp only [theCalls] at h
  unfold theCallsB at h
  split at h
  · rename_i hex
    have := hex.choose_spec
    rw [Option.some.inj h] at this
    exact this
  · cases h

theorem theCalls_of {lo : Nat} {f : FuncId} {args : List AVal} {H : AHeap} {v : AVal} {H' : AHeap} (h : Brings IP G lo f args H v H') : theCalls IP G lo f args H = some (v, H') := by
  have hex : ∃ r : AVal × AHeap, Brings IP G lo f args H r.1 r.2 := ⟨(v, H'), h⟩
  simp only [theCalls]
  unfold theCallsB
  rw [dif_pos hex]
  obtain ⟨h1, h2⟩ := comes_unique hex.choose_spec h
  exact congrArg some (Prod.ext h1 h2)

end
end Go.RI
