import Derived.Test.YtpkhhphpjhfoiaaGreatDoorM02
import Derived.Test.YtpkhhphpjhfoiaaGreatDoorM03
set_option linter.unusedVariables false
set_option linter.unusedSimpArgs false
set_option linter.unusedSectionVars false
/- RI: more fuel does no harm. Conditions: none. -/
namespace Go.RI
open Go
set_option linter.unusedSimpArgs false

/-! ### More fuel -/
structure LeC (c c' : CallI) : Prop where
  le : ∀ f args H r, c f args H = some r → c' f args H = some r
  pu : c.pure = c'.pure
theorem LeC.pureV {c c' : CallI} (h : LeC c c') (v : Option AVal) : pureV c v = pureV c' v := by unfold RI.pureV; rw [h.pu]
theorem LeC.skip {c c' : CallI} (h : LeC c c') (e : Env) (o : IOp) : skipI c e o = skipI c' e o := by cases o <;> simp [skipI, h.pu, h.pureV]
abbrev ExI := Nat → ICode → Env → AHeap → Option (AExit × Env × AHeap)
def LeX (x x' : ExI) : Prop := ∀ lo c e H r, x lo c e H = some r → x' lo c e H = some r

theorem opI_mono {c c' : CallI} (h : LeC c c') {lo : Nat} {o : IOp} {e : Env} {H : AHeap} {r : Option AVal × AHeap} (hs : opI c lo o e H = some r) : opI c' lo o e H = some r := by
  cases o <;> simp only [opI] at hs ⊢ <;> try (exact hs)
  case call f args =>
    split at hs
    · rename_i vs hvs
      split at hs
      · rename_i v H' hc
        rw [h.le _ _ _ _ hc]; exact hs
      · cases hs
    · cases hs
  case callv x args =>
    split at hs
    · rename_i f fst cap hx
      split at hs
      · rename_i vs hvs
        split at hs
        · rename_i v H' hc
          simp only [h.le _ _ _ _ hc]; exact hs
        · cases hs
      · cases hs
    · cases hs
  case inv x tbl args =>
    split at hs
    · rename_i t v hx
      split at hs
      · rename_i f vs hf hvs
        split at hs
        · rename_i u H' hc
          simp only [h.le _ _ _ _ hc]; exact hs
        · cases hs
      · cases hs
    · cases hs

theorem itemI_mono {c c' : CallI} (h : LeC c c') {lo : Nat} {x : Item} {e : Env} {H : AHeap} {r : Env × AHeap} (hs : itemI c lo x e H = some r) : itemI c' lo x e H = some r := by
  simp only [itemI] at hs ⊢
  split at hs
  · cases hs
  · exact hs
  · split at hs
    · rename_i v H' ho; rw [opI_mono h ho]; exact hs
    · rename_i H' ho; rw [opI_mono h ho]; exact hs
    · cases hs

theorem itemsI_mono {c c' : CallI} (h : LeC c c') {lo : Nat} : ∀ {xs : List Item} {e : Env} {H : AHeap} {r : Env × AHeap}, itemsI c lo xs e H = some r → itemsI c' lo xs e H = some r := by
  intro xs
  induction xs with
  | nil => intro e H r hs; exact hs
  | cons x xs ih =>
    intro e H r hs
    simp only [itemsI] at hs ⊢
    split at hs
    · rename_i e' H' hi
      rw [itemI_mono h hi]
      simp only
      split at hs
      · rename_i hre; rw [← h.skip, if_pos hre]; exact ih hs
      · cases hs
    · cases hs

theorem bodyI_mono {x x' : ExI} (h : LeX x x') {fn : IFunc} {lo : Nat} {args : List AVal} {H : AHeap} {r : AVal × AHeap} (hs : bodyI x fn lo args H = some r) : bodyI x' fn lo args H = some r := by
  simp only [bodyI] at hs ⊢
  split at hs
  · rename_i hl
    rw [if_pos hl]
    split at hs
    · cases hs
    · rename_i y e' H' hne hx
      have := h _ _ _ _ _ hx
      rw [this]
      cases y with
      | exit id => exact (hne id rfl).elim
      | normal => exact hs
      | ret => exact hs
    · cases hs
  · cases hs

theorem callI_mono {x x' : ExI} (h : LeX x x') (IP : FuncId → Option IFunc) (G : AHeap) (lo : Nat) : LeC (callI x IP G lo) (callI x' IP G lo) := by
  refine ⟨?_, rfl⟩
  intro f args H r hs
  simp only [callI, callB] at hs ⊢
  split at hs
  · cases hs
  · split at hs
    · exact bodyI_mono h hs
    · exact bodyI_mono h hs
    · split at hs
      · split at hs
        · rename_i v H' hb; rw [bodyI_mono h hb]; exact hs
        · cases hs
      · cases hs
    · split at hs
      · rename_i v H' hb; rw [bodyI_mono h hb]; exact hs
      · cases hs
    · exact hs

section
variable {IP : FuncId → Option IFunc} {G : AHeap}

theorem exec_succ : ∀ f, LeX (exec IP G f) (exec IP G (f + 1)) := by
  intro f
  induction f with
  | zero => intro lo c e H r h; simp [exec] at h
  | succ f ih =>
    intro lo c e H r h
    cases c <;> rw [exec] at h ⊢
    case skip => exact h
    case region items kill =>
      split at h
      · rename_i e' H' hi
        rw [itemsI_mono (callI_mono ih IP G lo) hi]; exact h
      · cases h
    case seq a b =>
      split at h
      · rename_i e' H' ha
        rw [ih _ _ _ _ _ ha]; exact ih _ _ _ _ _ h
      · rename_i hne
        rw [ih _ _ _ _ _ h]
        obtain ⟨x, e', H'⟩ := r
        cases x with
        | normal => exact (hne _ _ h).elim
        | exit id => rfl
        | ret => rfl
    case cond c a b =>
      split at h
      · exact ih _ _ _ _ _ h
      · exact ih _ _ _ _ _ h
      · cases h
    case block id b =>
      split at h
      · rename_i id' e' H' hb
        rw [ih _ _ _ _ _ hb]; exact h
      · rename_i hne
        rw [ih _ _ _ _ _ h]
        obtain ⟨x, e', H'⟩ := r
        cases x with
        | normal => rfl
        | exit id => exact (hne _ _ _ h).elim
        | ret => rfl
    case loop b =>
      split at h
      · rename_i e' H' ha
        rw [ih _ _ _ _ _ ha]; exact ih _ _ _ _ _ h
      · rename_i hne
        rw [ih _ _ _ _ _ h]
        obtain ⟨x, e', H'⟩ := r
        cases x with
        | normal => exact (hne _ _ h).elim
        | exit id => rfl
        | ret => rfl
    case exit id => exact h
    case ret => exact h

theorem exec_mono {f f' : Nat} (hf : f ≤ f') : LeX (exec IP G f) (exec IP G f') := by
  induction hf with
  | refl => exact fun _ _ _ _ _ h => h
  | step _ ih => exact fun lo c e H r h => exec_succ _ lo c e H r (ih lo c e H r h)

theorem acall_mono {f f' : Nat} (hf : f ≤ f') (lo : Nat) : LeC (acall IP G f lo) (acall IP G f' lo) := callI_mono (exec_mono hf) IP G lo


end
end Go.RI

/- RI: more fuel does no harm; a calculus over the interpreter that names no fuel. Conditions: none. -/
namespace Go.RI
open Go
set_option linter.unusedSimpArgs false

section
variable {IP : FuncId → Option IFunc} {G : AHeap}

/-! ### The calculus -/
/-- With fuel enough, the call comes to that. -/
def Brings (IP : FuncId → Option IFunc) (G : AHeap) (lo : Nat) (f : FuncId) (args : List AVal) (H : AHeap) (v : AVal) (H' : AHeap) : Prop := ∃ n, acall IP G n lo f args H = some (v, H')

/-- What is known of calls. -/
structure Knows (IP : FuncId → Option IFunc) (G : AHeap) (lo : Nat) (call : CallI) : Prop where
  brings : ∀ f args H v H', call f args H = some (v, H') → Brings IP G lo f args H v H'
  pu : call.pure = pureB IP

abbrev Post := AExit → Env → AHeap → Prop
def rounds (W : Post → Env → AHeap → Prop) (Q : Post) : Nat → Env → AHeap → Prop
  | 0, _, _ => False
  | n + 1, e, H => W (fun x e H => match x with | .normal => rounds W Q n e H | x => Q x e H) e H

def andThen (Q : Post) (k : Env → AHeap → Prop) : Post := fun x e H => match x with | .normal => k e H | x => Q x e H
def inBlock (Q : Post) (id : Nat) : Post := fun x e H => match x with | .exit i => if i = id then Q .normal e H else Q (.exit i) e H | x => Q x e H
def upon (r : Option (Env × AHeap)) (k : Env → AHeap → Prop) : Prop := match r with | some (e, H) => k e H | none => False
def test (v : Option AVal) (a b : Prop) : Prop := match v with | some (.b true) => a | some (.b false) => b | _ => False

def wp (call : CallI) (lo : Nat) : ICode → Post → Env → AHeap → Prop
  | .skip, Q, e, H => Q .normal e H
  | .region xs kill, Q, e, H => upon (itemsI call lo xs e H) fun e' H' => Q .normal (e'.kill kill) H'
  | .seq a b, Q, e, H => wp call lo a (andThen Q fun e' H' => wp call lo b Q e' H') e H
  | .cond c a b, Q, e, H => test (c.eval e) (wp call lo a Q e H) (wp call lo b Q e H)
  | .block id b, Q, e, H => wp call lo b (inBlock Q id) e H
  | .loop b, Q, e, H => ∃ n, rounds (fun Q' => wp call lo b Q') Q n e H
  | .exit id, Q, e, H => Q (.exit id) e H
  | .ret, Q, e, H => Q .ret e H

theorem items_fuel {call : CallI} {lo : Nat} (hk : Knows IP G lo call) : ∀ {xs : List Item} {e : Env} {H : AHeap} {r : Env × AHeap}, itemsI call lo xs e H = some r → ∃ n, itemsI (acall IP G n lo) lo xs e H = some r := by
  have one : ∀ {o : IOp} {e : Env} {H : AHeap} {r : Option AVal × AHeap}, opI call lo o e H = some r → ∃ n, opI (acall IP G n lo) lo o e H = some r := by
    intro o e H r hs
    cases o <;> simp only [opI] at hs ⊢ <;> try (exact ⟨0, hs⟩)
    case call f args =>
      split at hs
      · rename_i vs hvs
        split at hs
        · rename_i v H' hc
          obtain ⟨n, hn⟩ := hk.brings _ _ _ _ _ hc
          exact ⟨n, by rw [hn]; exact hs⟩
        · cases hs
      · cases hs
    case callv x args =>
      split at hs
      · rename_i f fst cap hx
        split at hs
        · rename_i vs hvs
          split at hs
          · rename_i v H' hc
            obtain ⟨n, hn⟩ := hk.brings _ _ _ _ _ hc
            exact ⟨n, by simp only [hn]; exact hs⟩
          · cases hs
        · cases hs
      · cases hs
    case inv x tbl args =>
      split at hs
      · rename_i t v hx
        split at hs
        · rename_i f vs hf hvs
          split at hs
          · rename_i u H' hc
            obtain ⟨n, hn⟩ := hk.brings _ _ _ _ _ hc
            exact ⟨n, by simp only [hn]; exact hs⟩
          · cases hs
        · cases hs
      · cases hs
  intro xs
  induction xs with
  | nil => intro e H r hs; exact ⟨0, hs⟩
  | cons x xs ih =>
    intro e H r hs
    simp only [itemsI] at hs
    split at hs
    · rename_i e' H' hi
      split at hs
      · rename_i hre
        obtain ⟨n, hn⟩ := ih hs
        have : ∃ m, itemI (acall IP G m lo) lo x e H = some (e', H') := by
          simp only [itemI] at hi ⊢
          split at hi
          · cases hi
          · exact ⟨0, hi⟩
          · split at hi
            · rename_i v H2 ho
              obtain ⟨m, hm⟩ := one ho
              exact ⟨m, by rw [hm]; exact hi⟩
            · rename_i H2 ho
              obtain ⟨m, hm⟩ := one ho
              exact ⟨m, by rw [hm]; exact hi⟩
            · cases hi
        obtain ⟨m, hm⟩ := this
        refine ⟨max n m, ?_⟩
        simp only [itemsI]
        rw [itemI_mono (acall_mono (Nat.le_max_right n m) lo) hm]
        have hsk : skipI (acall IP G (max n m) lo) e x.op = skipI call e x.op := by cases x.op <;> simp only [skipI, pureV, hk.pu] <;> rfl
        simp only [hsk, hre, if_true]
        exact itemsI_mono (acall_mono (Nat.le_max_left n m) lo) hn
      · cases hs
    · cases hs

theorem wp_exec {call : CallI} {lo : Nat} (hk : Knows IP G lo call) : ∀ (c : ICode) (Q : Post) (e : Env) (H : AHeap), wp call lo c Q e H → ∃ n x e' H', exec IP G n lo c e H = some (x, e', H') ∧ Q x e' H' := by
  intro c
  induction c with
  | skip => intro Q e H h; exact ⟨1, .normal, e, H, rfl, h⟩
  | region xs kill =>
    intro Q e H h
    simp only [wp, upon] at h
    split at h
    · rename_i e' H' hi
      obtain ⟨n, hn⟩ := items_fuel hk hi
      refine ⟨n + 1, .normal, e'.kill kill, H', ?_, h⟩
      rw [exec]
      show (match itemsI (acall IP G n lo) lo xs e H with | some (e', H') => some (AExit.normal, e'.kill kill, H') | none => none) = _
      rw [hn]
    · exact h.elim
  | seq a b iha ihb =>
    intro Q e H h
    obtain ⟨n, x, e', H', hx, hq⟩ := iha _ e H h
    cases x with
    | normal =>
      obtain ⟨m, y, e2, H2, hy, hq2⟩ := ihb Q e' H' hq
      refine ⟨max n m + 1, y, e2, H2, ?_, hq2⟩
      rw [exec]
      simp only [exec_mono (Nat.le_max_left n m) _ _ _ _ _ hx]
      exact exec_mono (Nat.le_max_right n m) _ _ _ _ _ hy
    | exit id => exact ⟨n + 1, .exit id, e', H', by rw [exec]; simp only [hx], hq⟩
    | ret => exact ⟨n + 1, .ret, e', H', by rw [exec]; simp only [hx], hq⟩
  | cond c a b iha ihb =>
    intro Q e H h
    simp only [wp, test] at h
    split at h
    · rename_i hv
      obtain ⟨n, x, e', H', hx, hq⟩ := iha Q e H h
      exact ⟨n + 1, x, e', H', by rw [exec]; simp only [hv]; exact hx, hq⟩
    · rename_i hv
      obtain ⟨n, x, e', H', hx, hq⟩ := ihb Q e H h
      exact ⟨n + 1, x, e', H', by rw [exec]; simp only [hv]; exact hx, hq⟩
    · exact h.elim
  | block id b ih =>
    intro Q e H h
    obtain ⟨n, x, e', H', hx, hq⟩ := ih _ e H h
    cases x with
    | normal => exact ⟨n + 1, .normal, e', H', by rw [exec]; simp only [hx], hq⟩
    | exit i =>
      simp only [inBlock] at hq
      split at hq
      · rename_i hi
        exact ⟨n + 1, .normal, e', H', by rw [exec]; simp only [hx, if_pos hi], hq⟩
      · rename_i hi
        exact ⟨n + 1, .exit i, e', H', by rw [exec]; simp only [hx, if_neg hi], hq⟩
    | ret => exact ⟨n + 1, .ret, e', H', by rw [exec]; simp only [hx], hq⟩
  | loop b ih =>
    intro Q e H h
    obtain ⟨k, hk'⟩ := h
    induction k generalizing e H with
    | zero => exact hk'.elim
    | succ k ihk =>
      obtain ⟨n, x, e', H', hx, hq⟩ := ih _ e H hk'
      cases x with
      | normal =>
        obtain ⟨m, y, e2, H2, hy, hq2⟩ := ihk e' H' hq
        refine ⟨max n m + 1, y, e2, H2, ?_, hq2⟩
        rw [exec]
        simp only [exec_mono (Nat.le_max_left n m) _ _ _ _ _ hx]
        exact exec_mono (Nat.le_max_right n m) _ _ _ _ _ hy
      | exit id => exact ⟨n + 1, .exit id, e', H', by rw [exec]; simp only [hx], hq⟩
      | ret => exact ⟨n + 1, .ret, e', H', by rw [exec]; simp only [hx], hq⟩
  | exit id => intro Q e H h; exact ⟨1, .exit id, e, H, rfl, h⟩
  | ret => intro Q e H h; exact ⟨1, .ret, e, H, rfl, h⟩

/-- A post for a body: what it hands back. -/
def ends (fn : IFunc) (R : AVal → AHeap → Prop) : Post := fun x e H => match x with
  | .exit _ => False
  | _ => match resI e H fn.res with
    | some vs => R (tupI vs) H
    | none => False

theorem body_wp {call : CallI} {lo : Nat} (hk : Knows IP G lo call) {fn : IFunc} {args : List AVal} {H : AHeap} {R : AVal → AHeap → Prop} (hl : args.length = fn.np) (h : wp call lo fn.body (ends fn R) (initEnv 0 args) H) :
    ∃ n v H', bodyI (exec IP G n) fn lo args H = some (v, H') ∧ R v H' := by
  obtain ⟨n, x, e', H', hx, hq⟩ := wp_exec hk _ _ _ _ h
  refine ⟨n, ?_⟩
  simp only [bodyI, if_pos hl, hx]
  unfold ends at hq
  cases x with
  | exit id => exact hq.elim
  | normal =>
    simp only at hq ⊢
    split at hq
    · rename_i vs hvs; exact ⟨tupI vs, H', by rw [hvs], hq⟩
    · exact hq.elim
  | ret =>
    simp only at hq ⊢
    split at hq
    · rename_i vs hvs; exact ⟨tupI vs, H', by rw [hvs], hq⟩
    · exact hq.elim

/-- A pure call. -/
theorem comesP {call : CallI} (hk : Knows IP G G.next call) {f : FuncId} {fn : IFunc} (hf : IP f = some fn) (hm : fn.mode = 2) {H : AHeap} {args args' : List AVal} (ha : mapO (snapV H 16) args = some args') (hl : args'.length = fn.np) {v : AVal}
    (h : wp call G.next fn.body (ends fn fun u H1 => frzV H1 G.next 16 u = some v) (initEnv 0 args') G) (lo : Nat) : Brings IP G lo f args H v H := by
  obtain ⟨n, v', H', hb, hv⟩ := body_wp hk hl h
  refine ⟨n, ?_⟩
  simp only [acall, callI, callB, hf, hm, ha, hb, hv]

/-- A pure call in the caller's heap. -/
theorem comes3 {call : CallI} {H : AHeap} (hk : Knows IP G H.next call) {f : FuncId} {fn : IFunc} (hf : IP f = some fn) (hm : fn.mode = 3) {args : List AVal} (hl : args.length = fn.np) {v : AVal}
    (h : wp call H.next fn.body (ends fn fun u _ => u = v ∧ below H.next u = true) (initEnv 0 args) H) (lo : Nat) : Brings IP G lo f args H v H := by
  obtain ⟨n, v', H', hb, rfl, hv⟩ := body_wp hk hl h
  refine ⟨n, ?_⟩
  simp only [acall, callI, callB, hf, hm, hb, hv, if_true]

/-- A call that writes nothing old. -/
theorem comes1 {call : CallI} {H : AHeap} (hk : Knows IP G H.next call) {f : FuncId} {fn : IFunc} (hf : IP f = some fn) (hm : fn.mode = 1) {args : List AVal} (hl : args.length = fn.np) {v : AVal} {H' : AHeap}
    (h : wp call H.next fn.body (ends fn fun u H1 => u = v ∧ H1 = H') (initEnv 0 args) H) (lo : Nat) : Brings IP G lo f args H v H' := by
  obtain ⟨n, v', H1, hb, rfl, rfl⟩ := body_wp hk hl h
  refine ⟨n, ?_⟩
  simp only [acall, callI, callB, hf, hm, hb]

theorem comes0 {call : CallI} {lo : Nat} {H : AHeap} (hk : Knows IP G lo call) {f : FuncId} {fn : IFunc} (hf : IP f = some fn) (hm : fn.mode = 0) {args : List AVal} (hl : args.length = fn.np) {R : AVal → AHeap → Prop}
    (h : wp call lo fn.body (ends fn R) (initEnv 0 args) H) : ∃ v H', Brings IP G lo f args H v H' ∧ R v H' := by
  obtain ⟨n, v, H', hb, hR⟩ := body_wp hk hl h
  exact ⟨v, H', ⟨n, by simp only [acall, callI, callB, hf, hm, hb]⟩, hR⟩

/-- The calls that come to something, as they do. -/
noncomputable def theCallsB (IP : FuncId → Option IFunc) (G : AHeap) (lo : Nat) (f : FuncId) (args : List AVal) (H : AHeap) : Option (AVal × AHeap) := open Classical in if h : ∃ r : AVal × AHeap, Brings IP G lo f args H r.1 r.2 then some h.choose else none
noncomputable def theCalls (IP : FuncId → Option IFunc) (G : AHeap) (lo : Nat) : CallI := ⟨theCallsB IP G lo, pureB IP⟩

theorem comes_unique {lo : Nat} {f : FuncId} {args : List AVal} {H : AHeap} {v v' : AVal} {H1 H2 : AHeap} (h : Brings IP G lo f args H v H1) (h' : Brings IP G lo f args H v' H2) : v = v' ∧ H1 = H2 := by
  obtain ⟨n, hn⟩ := h
  obtain ⟨m, hm⟩ := h'
  have h1 := (acall_mono (Nat.le_max_left n m) lo).le _ _ _ _ hn
  have h2 := (acall_mono (Nat.le_max_right n m) lo).le _ _ _ _ hm
  rw [h1] at h2
  cases h2
  exact ⟨rfl, rfl⟩

theorem theCalls_knows (lo : Nat) : Knows IP G lo (theCalls IP G lo) := by
  refine ⟨?_, rfl⟩
  intro f args H v H' h
  simp only [theCalls] at h
  unfold theCallsB at h
  split at h
  · rename_i hex
    have := hex.choose_spec
    rw [Option.some.inj h] at this
    exact this
  · cases h

theorem theCalls_of {lo : Nat} {f : FuncId} {args : List AVal} {H : AHeap} {v : AVal} {H' : AHeap} (h : Brings IP G lo f args H v H') : theCalls IP G lo f args H = some (v, H') := by
  have hex : ∃ r : AVal × AHeap, Brings IP G lo f args H r.1 r.2 := ⟨(v, H'), h⟩
  simp only [theCalls]
  unfold theCallsB
  rw [dif_pos hex]
  obtain ⟨h1, h2⟩ := comes_unique hex.choose_spec h
  exact congrArg some (Prod.ext h1 h2)

end
end Go.RI

/- RI, part TA: values by what they read, and plain values: how they stand to each other. Conditions: none. -/
namespace Go.RI
open Go
set_option linter.unusedSimpArgs false

/-- Rows of the plain interpreter's heap that nobody writes: their cells, an element's size. -/
abbrev Stab := Nat → Option (List AVal × Nat)
def look (tmp : Bool) (S T : Stab) (id : Nat) : Option (List AVal × Nat) := match S id with
  | some x => some x
  | none => if tmp then T id else none

def lv (tmp : Bool) : Nat := if tmp then 1 else 0

mutual
/-- 'k': 0: what nobody writes any more; 1: what nobody writes as long as the call lasts, besides; 2: names, besides. 'N': how many names there are. -/
def RV (ρ : Nat → Nat) (N : Nat) (S T : Stab) : AVal → Nat → AVal → Prop
  | .p id off, k, u => k = 2 ∧ id < N ∧ u = .p (ρ id) off
  | .sl id off len cap, k, u => k = 2 ∧ id < N ∧ u = .sl (ρ id) off len cap
  | .m id, k, u => k = 2 ∧ id < N ∧ u = .m (ρ id)
  | .fn f a c, k, u => ∃ a' c', u = .fn f a' c' ∧ RVL ρ N S T a k a' ∧ RVL ρ N S T c k c'
  | .ag l, k, u => ∃ l', u = .ag l' ∧ RVL ρ N S T l k l'
  | .tu l, k, u => ∃ l', u = .tu l' ∧ RVL ρ N S T l k l'
  | .ifc t v, k, u => ∃ v', u = .ifc t v' ∧ RV ρ N S T v k v'
  | .fs tmp full len l, k, u => (tmp = true → 1 ≤ k) ∧
      ((len = 0 ∧ l = [] ∧ (u = .ns ∨ (∃ ad, u = .es ad) ∨ ∃ id off cap, u = .sl id off 0 cap ∧ (full = true → cap = some 0))) ∨
       (0 < len ∧ ∃ id off cap c esz, u = .sl id off len cap ∧ (full = true → cap = some len) ∧ (∀ m, cap = some m → len ≤ m) ∧ look tmp S T id = some (c, esz) ∧ l.length = len * esz ∧ off + len * esz ≤ c.length ∧
         RVL ρ N S T l (lv tmp) ((c.drop off).take (len * esz))))
  | .fp l, k, u => 1 ≤ k ∧ ∃ id off c esz, u = .p id off ∧ look true S T id = some (c, esz) ∧ (l = [] ∨ off + l.length ≤ c.length) ∧ RVL ρ N S T l 1 ((c.drop off).take l.length)
  | v, _, u => u = v
def RVL (ρ : Nat → Nat) (N : Nat) (S T : Stab) : List AVal → Nat → List AVal → Prop
  | [], _, l' => l' = []
  | v :: l, k, l' => ∃ u r, l' = u :: r ∧ RV ρ N S T v k u ∧ RVL ρ N S T l k r
end

section
variable {ρ : Nat → Nat} {N : Nat} {S T : Stab} {k : Nat}

theorem RVL_len : ∀ {l l' : List AVal}, RVL ρ N S T l k l' → l'.length = l.length := by
  intro l
  induction l with
  | nil => intro l' h; simp only [RVL] at h; subst h; rfl
  | cons v l ih => intro l' h; simp only [RVL] at h; obtain ⟨u, r, rfl, _, h2⟩ := h; simp [ih h2]
theorem RVL_get : ∀ {l l' : List AVal}, RVL ρ N S T l k l' → ∀ {j : Nat} {v : AVal}, l[j]? = some v → ∃ u, l'[j]? = some u ∧ RV ρ N S T v k u := by
  intro l
  induction l with
  | nil => intro l' h j v hj; simp at hj
  | cons v l ih =>
    intro l' h j w hj
    simp only [RVL] at h
    obtain ⟨u, r, rfl, h1, h2⟩ := h
    cases j with
    | zero => simp at hj; subst hj; exact ⟨u, rfl, h1⟩
    | succ j => simp at hj; obtain ⟨u2, h3, h4⟩ := ih h2 hj; exact ⟨u2, by simpa using h3, h4⟩
theorem RVL_of : ∀ {l l' : List AVal}, l'.length = l.length → (∀ (j : Nat) (v u : AVal), l[j]? = some v → l'[j]? = some u → RV ρ N S T v k u) → RVL ρ N S T l k l' := by
  intro l
  induction l with
  | nil => intro l' h _; simp only [RVL]; exact List.eq_nil_of_length_eq_zero h
  | cons v l ih =>
    intro l' h hall
    cases l' with
    | nil => simp at h
    | cons u r =>
      simp only [RVL]
      exact ⟨u, r, rfl, hall 0 v u rfl rfl, ih (by simpa using h) fun j v u h1 h2 => hall (j + 1) v u (by simpa using h1) (by simpa using h2)⟩
theorem RVL_drop {l l' : List AVal} (h : RVL ρ N S T l k l') (n : Nat) : RVL ρ N S T (l.drop n) k (l'.drop n) := by
  have hl := RVL_len h
  refine RVL_of (by simp [hl]) fun j v u h1 h2 => ?_
  rw [List.getElem?_drop] at h1 h2
  obtain ⟨u', h3, h4⟩ := RVL_get h h1
  rw [h2] at h3; cases h3; exact h4
theorem RVL_take {l l' : List AVal} (h : RVL ρ N S T l k l') (n : Nat) : RVL ρ N S T (l.take n) k (l'.take n) := by
  have hl := RVL_len h
  refine RVL_of (by simp [hl]) fun j v u h1 h2 => ?_
  rw [List.getElem?_take] at h1 h2
  split at h1
  · rename_i hj
    rw [if_pos hj] at h2
    obtain ⟨u', h3, h4⟩ := RVL_get h h1
    rw [h2] at h3; cases h3; exact h4
  · cases h1
theorem RVL_append {l l' m m' : List AVal} (h : RVL ρ N S T l k l') (g : RVL ρ N S T m k m') : RVL ρ N S T (l ++ m) k (l' ++ m') := by
  have hl := RVL_len h
  have gl := RVL_len g
  refine RVL_of (by simp [hl, gl]) fun j v u h1 h2 => ?_
  by_cases hj : j < l.length
  · rw [List.getElem?_append_left hj] at h1
    rw [List.getElem?_append_left (by omega)] at h2
    obtain ⟨u', h3, h4⟩ := RVL_get h h1
    rw [h2] at h3; cases h3; exact h4
  · rw [List.getElem?_append_right (by omega)] at h1
    rw [List.getElem?_append_right (by omega), hl] at h2
    obtain ⟨u', h3, h4⟩ := RVL_get g h1
    rw [h2] at h3; cases h3; exact h4
theorem RVL_set {l l' : List AVal} (h : RVL ρ N S T l k l') {n : Nat} {v u : AVal} (hv : RV ρ N S T v k u) : RVL ρ N S T (l.set n v) k (l'.set n u) := by
  have hl := RVL_len h
  refine RVL_of (by simp [hl]) fun j w x h1 h2 => ?_
  by_cases hj : n = j
  · subst hj
    have hlt : n < l.length := by
      rcases Nat.lt_or_ge n l.length with h | h
      · exact h
      · rw [List.getElem?_eq_none (by simpa using h)] at h1; cases h1
    rw [List.getElem?_set_self hlt] at h1
    rw [List.getElem?_set_self (by omega)] at h2
    cases h1; cases h2; exact hv
  · rw [List.getElem?_set_ne hj] at h1 h2
    obtain ⟨u', h3, h4⟩ := RVL_get h h1
    rw [h2] at h3; cases h3; exact h4
theorem RVL_putCells : ∀ {m m' l l' : List AVal} (n : Nat), RVL ρ N S T l k l' → RVL ρ N S T m k m' → RVL ρ N S T (putCells l n m) k (putCells l' n m') := by
  intro m
  induction m with
  | nil => intro m' l l' n h g; simp only [RVL] at g; subst g; exact h
  | cons v m ih =>
    intro m' l l' n h g
    simp only [RVL] at g
    obtain ⟨u, r, rfl, g1, g2⟩ := g
    exact ih (n + 1) (RVL_set h g1) g2
theorem RVL_rep {z z' : List AVal} (h : RVL ρ N S T z k z') : ∀ n, RVL ρ N S T (repCells z n) k (repCells z' n) := by
  intro n
  induction n with
  | zero => simp [repCells, RVL]
  | succ n ih => exact RVL_append h ih
theorem RVL_cons {v u : AVal} {l l' : List AVal} (h : RV ρ N S T v k u) (g : RVL ρ N S T l k l') : RVL ρ N S T (v :: l) k (u :: l') := by
  simp only [RVL]; exact ⟨u, l', rfl, h, g⟩
theorem RVL_one {v u : AVal} (h : RV ρ N S T v k u) : RVL ρ N S T [v] k [u] := RVL_cons h (by simp [RVL])

/-- A value that names nothing stands to itself. -/
theorem RV_noId : ∀ (v : AVal), noId v = true → RV ρ N S T v k v
  | .b _, _ | .i _ _, _ | .s _, _ | .np, _ | .ns, _ | .nf, _ | .nm, _ | .nif, _ | .es _, _ => by simp [RV]
  | .p _ _, h | .sl _ _ _ _, h | .m _, h | .fs _ _ _ _, h | .fp _, h => by simp [noId] at h
  | .fn f a c, h => by simp only [noId, Bool.and_eq_true] at h; simp only [RV]; exact ⟨a, c, rfl, RVL_noId a h.1, RVL_noId c h.2⟩
  | .ag l, h => by simp only [noId, Bool.and_eq_true] at h; simp only [RV]; exact ⟨l, rfl, RVL_noId l h.1⟩
  | .tu l, h => by simp only [noId] at h; simp only [RV]; exact ⟨l, rfl, RVL_noId l h⟩
  | .ifc t v, h => by simp only [noId] at h; simp only [RV]; exact ⟨v, rfl, RV_noId v h⟩
where RVL_noId : ∀ (l : List AVal), noIdL l = true → RVL ρ N S T l k l
  | [], _ => by simp [RVL]
  | v :: l, h => by simp only [noIdL, Bool.and_eq_true] at h; exact RVL_cons (RV_noId v h.1) (RVL_noId l h.2)

theorem RV_tup {v u : AVal} (h : RV ρ N S T v k u) : u.tup = v.tup := by
  cases v <;> simp only [RV] at h
  case fs => obtain ⟨_, ⟨_, _, rfl | ⟨_, rfl⟩ | ⟨_, _, _, rfl, _⟩⟩ | ⟨_, _, _, _, _, _, rfl, _⟩⟩ := h <;> rfl
  case fp => obtain ⟨_, _, _, _, _, rfl, _⟩ := h; rfl
  case p => obtain ⟨_, _, rfl⟩ := h; rfl
  case sl => obtain ⟨_, _, rfl⟩ := h; rfl
  case m => obtain ⟨_, _, rfl⟩ := h; rfl
  case fn => obtain ⟨_, _, rfl, _⟩ := h; rfl
  case ag => obtain ⟨_, rfl, _⟩ := h; rfl
  case tu => obtain ⟨_, rfl, _⟩ := h; rfl
  case ifc => obtain ⟨_, rfl, _⟩ := h; rfl
  all_goals subst h; rfl
theorem RV_cells {v u : AVal} (h : RV ρ N S T v k u) : RVL ρ N S T v.cells k u.cells := by
  cases v
  case ag l => simp only [RV] at h; obtain ⟨l', rfl, h⟩ := h; exact h
  all_goals
    have h0 := h
    simp only [RV] at h
  case fs =>
    have : u.cells = [u] := by obtain ⟨_, ⟨_, _, rfl | ⟨_, rfl⟩ | ⟨_, _, _, rfl, _⟩⟩ | ⟨_, _, _, _, _, _, rfl, _⟩⟩ := h <;> rfl
    rw [this]; exact RVL_one h0
  case fp => have : u.cells = [u] := by obtain ⟨_, _, _, _, _, rfl, _⟩ := h; rfl
             rw [this]; exact RVL_one h0
  case p => have : u.cells = [u] := by obtain ⟨_, _, rfl⟩ := h; rfl
            rw [this]; exact RVL_one h0
  case sl => have : u.cells = [u] := by obtain ⟨_, _, rfl⟩ := h; rfl
             rw [this]; exact RVL_one h0
  case m => have : u.cells = [u] := by obtain ⟨_, _, rfl⟩ := h; rfl
            rw [this]; exact RVL_one h0
  case fn => have : u.cells = [u] := by obtain ⟨_, _, rfl, _⟩ := h; rfl
             rw [this]; exact RVL_one h0
  case tu => have : u.cells = [u] := by obtain ⟨_, rfl, _⟩ := h; rfl
             rw [this]; exact RVL_one h0
  case ifc => have : u.cells = [u] := by obtain ⟨_, rfl, _⟩ := h; rfl
              rw [this]; exact RVL_one h0
  all_goals subst h; exact RVL_one h0
end

/-! ### More names, more rows -/
structure LeS (k : Nat) (S T S' T' : Stab) : Prop where
  s : ∀ id x, S id = some x → S' id = some x
  t : 1 ≤ k → ∀ id x, look true S T id = some x → look true S' T' id = some x

theorem LeS.look {S T S' T' : Stab} {k : Nat} (h : LeS k S T S' T') {tmp : Bool} (hk : tmp = true → 1 ≤ k) {id : Nat} {x : List AVal × Nat} (hx : look tmp S T id = some x) : look tmp S' T' id = some x := by
  cases tmp
  · simp only [RI.look, Bool.false_eq_true, if_false] at hx ⊢
    split at hx
    · rename_i y hy; rw [h.s _ _ hy]; exact hx
    · cases hx
  · exact h.t (hk rfl) id x hx

theorem LeS.lv {S T S' T' : Stab} {k : Nat} (h : LeS k S T S' T') {tmp : Bool} (hk : tmp = true → 1 ≤ k) : LeS (lv tmp) S T S' T' :=
  ⟨h.s, fun hl => h.t (by cases tmp; simp [RI.lv] at hl; exact hk rfl)⟩

mutual
theorem RV_mono {ρ ρ' : Nat → Nat} {N N' : Nat} {S T S' T' : Stab} {k k' : Nat} (hρ : k = 2 → ∀ id, id < N → id < N' ∧ ρ' id = ρ id) (hs : LeS k S T S' T') (hk : k ≤ k') (hk2 : k' ≤ 2) :
    ∀ (v u : AVal), RV ρ N S T v k u → RV ρ' N' S' T' v k' u
  | .p id off, u, h => by simp only [RV] at *; obtain ⟨h1, h2, h3⟩ := h; obtain ⟨a, b⟩ := hρ h1 id h2; exact ⟨by omega, a, by rw [b]; exact h3⟩
  | .sl id off len cap, u, h => by simp only [RV] at *; obtain ⟨h1, h2, h3⟩ := h; obtain ⟨a, b⟩ := hρ h1 id h2; exact ⟨by omega, a, by rw [b]; exact h3⟩
  | .m id, u, h => by simp only [RV] at *; obtain ⟨h1, h2, h3⟩ := h; obtain ⟨a, b⟩ := hρ h1 id h2; exact ⟨by omega, a, by rw [b]; exact h3⟩
  | .fn f a c, u, h => by simp only [RV] at *; obtain ⟨a', c', h1, h2, h3⟩ := h; exact ⟨a', c', h1, RVL_mono hρ hs hk hk2 a a' h2, RVL_mono hρ hs hk hk2 c c' h3⟩
  | .ag l, u, h => by simp only [RV] at *; obtain ⟨l', h1, h2⟩ := h; exact ⟨l', h1, RVL_mono hρ hs hk hk2 l l' h2⟩
  | .tu l, u, h => by simp only [RV] at *; obtain ⟨l', h1, h2⟩ := h; exact ⟨l', h1, RVL_mono hρ hs hk hk2 l l' h2⟩
  | .ifc t v, u, h => by simp only [RV] at *; obtain ⟨v', h1, h2⟩ := h; exact ⟨v', h1, RV_mono hρ hs hk hk2 v v' h2⟩
  | .fs tmp full len l, u, h => by
    simp only [RV] at *
    obtain ⟨h0, h1⟩ := h
    refine ⟨fun ht => Nat.le_trans (h0 ht) hk, ?_⟩
    rcases h1 with h1 | ⟨h1, id, off, cap, c, esz, h2, h3, h4, h5, h6, h7, h8⟩
    · exact .inl h1
    · have hlv : lv tmp ≤ 1 := by cases tmp <;> simp [lv]
      exact .inr ⟨h1, id, off, cap, c, esz, h2, h3, h4, hs.look h0 h5, h6, h7, RVL_mono (fun e => absurd e (by omega)) (hs.lv h0) (Nat.le_refl _) (by omega) l _ h8⟩
  | .fp l, u, h => by
    simp only [RV] at *
    obtain ⟨h0, id, off, c, esz, h1, h2, h3, h4⟩ := h
    exact ⟨by omega, id, off, c, esz, h1, hs.look (fun _ => h0) h2, h3, RVL_mono (k := 1) (k' := 1) (fun e => absurd e (by omega)) (hs.lv (tmp := true) (fun _ => h0)) (Nat.le_refl _) (by omega) l _ h4⟩
  | .b _, _, h | .i _ _, _, h | .s _, _, h | .np, _, h | .ns, _, h | .nf, _, h | .nm, _, h | .nif, _, h | .es _, _, h => by simp only [RV] at *; exact h
theorem RVL_mono {ρ ρ' : Nat → Nat} {N N' : Nat} {S T S' T' : Stab} {k k' : Nat} (hρ : k = 2 → ∀ id, id < N → id < N' ∧ ρ' id = ρ id) (hs : LeS k S T S' T') (hk : k ≤ k') (hk2 : k' ≤ 2) :
    ∀ (l l' : List AVal), RVL ρ N S T l k l' → RVL ρ' N' S' T' l k' l'
  | [], l', h => by simp only [RVL] at *; exact h
  | v :: l, l', h => by simp only [RVL] at *; obtain ⟨u, r, h1, h2, h3⟩ := h; exact ⟨u, r, h1, RV_mono hρ hs hk hk2 v u h2, RVL_mono hρ hs hk hk2 l r h3⟩
end

end Go.RI

/- RI, part TB: the heap of values by what they read, beside the plain one. Conditions: none. -/
namespace Go.RI
open Go
set_option linter.unusedSimpArgs false

def REs (ρ : Nat → Nat) (N : Nat) (S T : Stab) : List (AVal × AVal) → List (AVal × AVal) → Prop
  | [], es' => es' = []
  | (a, b) :: es, es' => ∃ a' b' r, es' = (a', b') :: r ∧ RV ρ N S T a 2 a' ∧ RV ρ N S T b 2 b' ∧ REs ρ N S T es r

def RO (ρ : Nat → Nat) (N : Nat) (S T : Stab) : AObj → AObj → Prop
  | .cells c e ro, o' => ∃ c', o' = .cells c' e ro ∧ RVL ρ N S T c 2 c'
  | .map es, o' => ∃ es', o' = .map es' ∧ REs ρ N S T es es'

theorem RO_wr {ρ : Nat → Nat} {N : Nat} {S T : Stab} {o o' : AObj} (h : RO ρ N S T o o') : o'.wr = o.wr := by
  cases o with
  | cells c e ro => obtain ⟨c', rfl, _⟩ := h; rfl
  | map es => obtain ⟨es', rfl, _⟩ := h; rfl

structure TR (G : AHeap) (ρ : Nat → Nat) (S T : Stab) (H A : AHeap) : Prop where
  inj : ∀ i j, i < H.next → j < H.next → ρ i = ρ j → i = j
  lt : ∀ i, i < H.next → ρ i < A.next
  glob : ∀ g, g < G.next → ρ g = g ∧ H.get g = G.get g ∧ A.get g = G.get g
  gH : G.next ≤ H.next
  gA : G.next ≤ A.next
  obj : ∀ i o, i < H.next → H.get i = some o → ∃ o', A.get (ρ i) = some o' ∧ RO ρ H.next S T o o'
  stab : ∀ id c esz, look true S T id = some (c, esz) → id < A.next ∧ ∃ ro, A.get id = some (.cells c esz ro)
  excl : ∀ i o, i < H.next → H.get i = some o → o.wr = true → look true S T (ρ i) = none
  wfH : Wf H
  wfA : Wf A

/-- What a step may turn. -/
structure Mono (ρ : Nat → Nat) (S : Stab) (H A : AHeap) (ρ' : Nat → Nat) (S' : Stab) (H' A' : AHeap) : Prop where
  rho : ∀ i, i < H.next → ρ' i = ρ i
  nextH : H.next ≤ H'.next
  nextA : A.next ≤ A'.next
  new : ∀ i, H.next ≤ i → i < H'.next → A.next ≤ ρ' i
  frame : ∀ id, id < A.next → (∀ i, i < H.next → ρ i ≠ id) → A'.get id = A.get id
  ss : ∀ id x, S id = some x → S' id = some x
  ssn : ∀ id, id < A.next → S' id = S id

theorem Mono.refl (ρ : Nat → Nat) (S : Stab) (H A : AHeap) : Mono ρ S H A ρ S H A :=
  ⟨fun _ _ => rfl, Nat.le_refl _, Nat.le_refl _, fun _ h1 h2 => by omega, fun _ _ _ => rfl, fun _ _ h => h, fun _ _ => rfl⟩
theorem Mono.trans {ρ ρ1 ρ2 : Nat → Nat} {S S1 S2 : Stab} {H H1 H2 A A1 A2 : AHeap} (a : Mono ρ S H A ρ1 S1 H1 A1) (b : Mono ρ1 S1 H1 A1 ρ2 S2 H2 A2) : Mono ρ S H A ρ2 S2 H2 A2 where
  rho := fun i h => (b.rho i (Nat.lt_of_lt_of_le h a.nextH)).trans (a.rho i h)
  nextH := Nat.le_trans a.nextH b.nextH
  nextA := Nat.le_trans a.nextA b.nextA
  new := fun i h1 h2 => by
    rcases Nat.lt_or_ge i H1.next with h | h
    · rw [b.rho i h]; exact a.new i h1 h
    · exact Nat.le_trans a.nextA (b.new i h h2)
  frame := fun id h1 h2 => by
    rw [b.frame id (Nat.lt_of_lt_of_le h1 a.nextA) fun i hi => ?_, a.frame id h1 h2]
    rcases Nat.lt_or_ge i H.next with h | h
    · rw [a.rho i h]; exact h2 i h
    · have := a.new i h hi; omega
  ss := fun id x h => b.ss id x (a.ss id x h)
  ssn := fun id h => (b.ssn id (Nat.lt_of_lt_of_le h a.nextA)).trans (a.ssn id h)

section
variable {G : AHeap} {ρ : Nat → Nat} {S T : Stab} {H A : AHeap}

theorem LeS.refl (k : Nat) (S T : Stab) : LeS k S T S T := ⟨fun _ _ h => h, fun _ _ _ h => h⟩

theorem REs_mono {ρ ρ' : Nat → Nat} {N N' : Nat} {S T S' T' : Stab} (hρ : ∀ id, id < N → id < N' ∧ ρ' id = ρ id) (hs : LeS 2 S T S' T') : ∀ {es es' : List (AVal × AVal)}, REs ρ N S T es es' → REs ρ' N' S' T' es es' := by
  intro es
  induction es with
  | nil => intro es' h; exact h
  | cons x es ih =>
    obtain ⟨a, b⟩ := x
    intro es' h
    obtain ⟨a', b', r, h1, h2, h3, h4⟩ := h
    exact ⟨a', b', r, h1, RV_mono (fun _ => hρ) hs (Nat.le_refl _) (Nat.le_refl _) _ _ h2, RV_mono (fun _ => hρ) hs (Nat.le_refl _) (Nat.le_refl _) _ _ h3, ih h4⟩
theorem RO_mono {ρ ρ' : Nat → Nat} {N N' : Nat} {S T S' T' : Stab} (hρ : ∀ id, id < N → id < N' ∧ ρ' id = ρ id) (hs : LeS 2 S T S' T') {o o' : AObj} (h : RO ρ N S T o o') : RO ρ' N' S' T' o o' := by
  cases o with
  | cells c e ro => obtain ⟨c', h1, h2⟩ := h; exact ⟨c', h1, RVL_mono (fun _ => hρ) hs (Nat.le_refl _) (Nat.le_refl _) _ _ h2⟩
  | map es => obtain ⟨es', h1, h2⟩ := h; exact ⟨es', h1, REs_mono hρ hs h2⟩

/-- Names that are no globals stand for names that are none. -/
theorem TR.lo (h : TR G ρ S T H A) {i : Nat} (hi : i < H.next) (hg : G.next ≤ i) : G.next ≤ ρ i := by
  rcases Nat.lt_or_ge (ρ i) G.next with hlt | hge
  · have h1 := (h.glob _ hlt).1
    have := h.inj (ρ i) i (Nat.lt_of_lt_of_le hlt h.gH) hi h1
    omega
  · exact hge

def updN (ρ : Nat → Nat) (n m : Nat) : Nat → Nat := fun i => if i = n then m else ρ i
theorem updN_same (ρ : Nat → Nat) (n m : Nat) : updN ρ n m n = m := by simp [updN]
theorem updN_ne (ρ : Nat → Nat) {n m i : Nat} (h : i ≠ n) : updN ρ n m i = ρ i := by simp [updN, h]

/-- A new object in both; or none. -/
theorem TR.push (h : TR G ρ S T H A) {H' A' : AHeap} {o o' : Option AObj} (hH : H'.next = H.next + 1) (hA : A'.next = A.next + 1) (gH : ∀ i, H'.get i = if i = H.next then o else H.get i) (gA : ∀ i, A'.get i = if i = A.next then o' else A.get i)
    (ho : ∀ x, o = some x → ∃ x', o' = some x' ∧ RO ρ H.next S T x x') : TR G (updN ρ H.next A.next) S T H' A' ∧ Mono ρ S H A (updN ρ H.next A.next) S H' A' := by
  have hold : ∀ i, i < H.next → i < H'.next ∧ updN ρ H.next A.next i = ρ i := fun i hi => ⟨by omega, updN_ne _ (by omega)⟩
  constructor
  · exact {
      inj := fun i j hi hj he => by
        rw [hH] at hi hj
        by_cases h1 : i = H.next
        · by_cases h2 : j = H.next
          · omega
          · rw [h1, updN_same, updN_ne _ h2] at he
            have := h.lt j (by omega); omega
        · by_cases h2 : j = H.next
          · rw [h2, updN_same, updN_ne _ h1] at he
            have := h.lt i (by omega); omega
          · rw [updN_ne _ h1, updN_ne _ h2] at he
            exact h.inj i j (by omega) (by omega) he
      lt := fun i hi => by
        rw [hH] at hi; rw [hA]
        by_cases h1 : i = H.next
        · rw [h1, updN_same]; omega
        · rw [updN_ne _ h1]; have := h.lt i (by omega); omega
      glob := fun g hg => by
        obtain ⟨a, b, c⟩ := h.glob g hg
        have := h.gH; have := h.gA
        exact ⟨by rw [updN_ne _ (by omega)]; exact a, by rw [gH, if_neg (by omega)]; exact b, by rw [gA, if_neg (by omega)]; exact c⟩
      gH := by have := h.gH; omega
      gA := by have := h.gA; omega
      obj := fun i x hi hx => by
        rw [hH] at hi
        rw [gH] at hx
        by_cases h1 : i = H.next
        · rw [if_pos h1] at hx
          obtain ⟨x', e1, e2⟩ := ho x hx
          exact ⟨x', by rw [h1, updN_same, gA, if_pos rfl]; exact e1, RO_mono hold (LeS.refl _ _ _) e2⟩
        · rw [if_neg h1] at hx
          obtain ⟨x', e1, e2⟩ := h.obj i x (by omega) hx
          have := h.lt i (by omega)
          exact ⟨x', by rw [updN_ne _ h1, gA, if_neg (by omega)]; exact e1, RO_mono hold (LeS.refl _ _ _) e2⟩
      stab := fun id c esz hl => by
        obtain ⟨a, ro, b⟩ := h.stab id c esz hl
        exact ⟨by omega, ro, by rw [gA, if_neg (by omega)]; exact b⟩
      excl := fun i x hi hx hw => by
        rw [hH] at hi
        rw [gH] at hx
        by_cases h1 : i = H.next
        · rw [h1, updN_same]
          cases hl : look true S T A.next with
          | none => rfl
          | some y => obtain ⟨c, esz⟩ := y; have := (h.stab _ _ _ hl).1; omega
        · rw [if_neg h1] at hx
          rw [updN_ne _ h1]
          exact h.excl i x (by omega) hx hw
      wfH := fun i hi => by rw [gH, if_neg (by omega)]; exact h.wfH i (by omega)
      wfA := fun i hi => by rw [gA, if_neg (by omega)]; exact h.wfA i (by omega) }
  · exact {
      rho := fun i hi => updN_ne _ (by omega)
      nextH := by omega
      nextA := by omega
      new := fun i h1 h2 => by
        have : i = H.next := by omega
        rw [this, updN_same]; exact Nat.le_refl _
      frame := fun id hid _ => by rw [gA, if_neg (by omega)]
      ss := fun _ _ h => h
      ssn := fun _ _ => rfl }

/-- A name more in the plain heap alone. -/
theorem TR.ghost (h : TR G ρ S T H A) {A' : AHeap} {o : Option AObj} (hA : A'.next = A.next + 1) (gA : ∀ i, A'.get i = if i = A.next then o else A.get i) : TR G ρ S T H A' ∧ Mono ρ S H A ρ S H A' := by
  constructor
  · exact { h with
      lt := fun i hi => by have := h.lt i hi; omega
      glob := fun g hg => by
        obtain ⟨a, b, c⟩ := h.glob g hg
        have := h.gA
        exact ⟨a, b, by rw [gA, if_neg (by omega)]; exact c⟩
      gA := by have := h.gA; omega
      obj := fun i x hi hx => by
        obtain ⟨x', e1, e2⟩ := h.obj i x hi hx
        have := h.lt i hi
        exact ⟨x', by rw [gA, if_neg (by omega)]; exact e1, e2⟩
      stab := fun id c esz hl => by
        obtain ⟨a, ro, b⟩ := h.stab id c esz hl
        exact ⟨by omega, ro, by rw [gA, if_neg (by omega)]; exact b⟩
      wfA := fun i hi => by
        rw [gA, if_neg (by omega)]
        exact h.wfA i (by omega) }
  · exact { Mono.refl ρ S H A with
      nextA := by omega
      new := fun i h1 h2 => by omega
      frame := fun id hid _ => by rw [gA, if_neg (by omega)] }

/-- A write. -/
theorem TR.set (h : TR G ρ S T H A) {i : Nat} (hi : i < H.next) (hg : G.next ≤ i) {o0 : AObj} (h0 : H.get i = some o0) (hw : o0.wr = true) {o o' : Option AObj} (ho : ∀ x, o = some x → ∃ x', o' = some x' ∧ RO ρ H.next S T x x') :
    TR G ρ S T (H.put i o) (A.put (ρ i) o') ∧ Mono ρ S H A ρ S (H.put i o) (A.put (ρ i) o') := by
  have hex := h.excl i o0 hi h0 hw
  have hlo := h.lo hi hg
  have hlt := h.lt i hi
  constructor
  · exact {
      inj := h.inj
      lt := h.lt
      glob := fun g hgl => by
        obtain ⟨a, b, c⟩ := h.glob g hgl
        exact ⟨a, by rw [AHeap.get_put, if_neg (by omega)]; exact b, by rw [AHeap.get_put, if_neg (by omega)]; exact c⟩
      gH := h.gH
      gA := h.gA
      obj := fun j x hj hx => by
        rw [AHeap.get_put] at hx
        by_cases hji : j = i
        · subst hji
          rw [if_pos rfl] at hx
          obtain ⟨x', e1, e2⟩ := ho x hx
          exact ⟨x', by rw [AHeap.get_put, if_pos rfl]; exact e1, e2⟩
        · rw [if_neg hji] at hx
          obtain ⟨x', e1, e2⟩ := h.obj j x hj hx
          exact ⟨x', by rw [AHeap.get_put, if_neg (fun e => hji (h.inj j i hj hi e))]; exact e1, e2⟩
      stab := fun id c esz hl => by
        obtain ⟨a, ro, b⟩ := h.stab id c esz hl
        have : id ≠ ρ i := fun e => by rw [e, hex] at hl; cases hl
        exact ⟨a, ro, by rw [AHeap.get_put, if_neg this]; exact b⟩
      excl := fun j x hj hx hwx => by
        rw [AHeap.get_put] at hx
        by_cases hji : j = i
        · subst hji; exact hex
        · rw [if_neg hji] at hx; exact h.excl j x hj hx hwx
      wfH := fun j hj => by rw [AHeap.next_put] at hj; rw [AHeap.get_put, if_neg (by omega)]; exact h.wfH j hj
      wfA := fun j hj => by rw [AHeap.next_put] at hj; rw [AHeap.get_put, if_neg (by omega)]; exact h.wfA j hj }
  · exact { Mono.refl ρ S H A with
      nextH := Nat.le_refl _
      nextA := Nat.le_refl _
      new := fun j h1 h2 => by rw [AHeap.next_put] at h2; omega
      frame := fun id _ hn => by rw [AHeap.get_put, if_neg (fun e => hn i hi e.symm)] }

/-- A value stays what it is. -/
theorem Mono.val {ρ' : Nat → Nat} {S' : Stab} {H' A' : AHeap} (m : Mono ρ S H A ρ' S' H' A') (h : TR G ρ S T H A) (h' : TR G ρ' S' T H' A') {v u : AVal} (hv : RV ρ H.next S T v 2 u) : RV ρ' H'.next S' T v 2 u := by
  refine RV_mono (fun _ i hi => ⟨Nat.lt_of_lt_of_le hi m.nextH, m.rho i hi⟩) ⟨m.ss, fun _ id x hx => ?_⟩ (Nat.le_refl _) (Nat.le_refl _) v u hv
  unfold RI.look at hx ⊢
  cases hS : S id with
  | some y => rw [hS] at hx; rw [m.ss _ _ hS]; exact hx
  | none =>
    rw [hS] at hx
    have hlt : id < A.next := by
      obtain ⟨c, esz⟩ := x
      exact (h.stab id c esz (by unfold RI.look; rw [hS]; exact hx)).1
    rw [m.ssn id hlt, hS]; exact hx
end
end Go.RI

/- RI, part TC: operations on values, at both levels. Conditions: none. -/
namespace Go.RI
open Go
set_option linter.unusedSimpArgs false
set_option linter.unusedVariables false

/-! ### Is a text's constant plain? 'g': how many globals there are. -/
def Opd.ck (g : Nat) : Opd → Bool
  | .t _ => true
  | .c v => noId v
  | .g n => decide (n < g)
  | .f _ => true
def ckL (g : Nat) : List Opd → Bool
  | [] => true
  | x :: l => x.ck g && ckL g l
def ckP (g : Nat) : List (Nat × Nat × Opd) → Bool
  | [] => true
  | (_, _, x) :: l => x.ck g && ckP g l
def ckO (g : Nat) : Option Opd → Bool
  | none => true
  | some x => x.ck g
def IOp.ck (g : Nat) : IOp → Bool
  | .mov x | .un _ x | .conv _ x | .same x | .box x | .load _ x | .nck x | .off x _ | .part _ x _ | .ext x _ | .lenk _ x | .iface _ x | .s2b x => x.ck g
  | .pick c a b => c.ck g && (a.ck g && b.ck g)
  | .bin _ x y | .eqB _ x y | .eqNil _ _ x y | .eqAg _ _ x y | .cpy _ x y | .store _ x y | .iaddr _ x y | .iaddrA _ _ x y | .idxS x y | .idxA _ _ _ x y | .app _ _ x y => x.ck g && y.ck g
  | .mksl _ _ z x y => noIdL z && (x.ck g && y.ck g)
  | .look _ _ z _ x y => noId z && (x.ck g && y.ck g)
  | .alloc z => noIdL z
  | .bad | .mkmap => true
  | .mapup _ _ x k v => x.ck g && (k.ck g && v.ck g)
  | .build z ps | .bsl _ _ z ps => noIdL z && ckP g ps
  | .mkf _ a c => ckL g a && ckL g c
  | .slS x lo hi => x.ck g && (ckO g lo && ckO g hi)
  | .sl _ x lo hi mx | .slq _ x lo hi mx => x.ck g && (ckO g lo && (ckO g hi && ckO g mx))
  | .mm _ x l => x.ck g && ckL g l
  | .call _ l => ckL g l
  | .callv x l => x.ck g && ckL g l
  | .appz _ _ z x y => noIdL z && (x.ck g && y.ck g)
  | .inv x _ l => x.ck g && ckL g l

/-- Slots at both levels. -/
def ER (ρ : Nat → Nat) (N : Nat) (S T : Stab) (e a : Env) : Prop := ∀ t v, e.get t = some v → ∃ u, a.get t = some u ∧ RV ρ N S T v 2 u

section
variable {G : AHeap} {ρ : Nat → Nat} {N : Nat} {S T : Stab} {H A : AHeap} {e a : Env}

theorem opdT (h : TR G ρ S T H A) (he : ER ρ H.next S T e a) {x : Opd} (hc : x.ck G.next = true) {v : AVal} (hv : x.eval e = some v) : ∃ u, x.eval a = some u ∧ RV ρ H.next S T v 2 u := by
  cases x with
  | t n => exact he n v hv
  | c w => simp only [Opd.eval, Option.some.injEq] at hv; subst hv; exact ⟨_, rfl, RV_noId _ hc⟩
  | g n =>
    simp only [Opd.eval, Option.some.injEq] at hv; subst hv
    simp only [Opd.ck, decide_eq_true_eq] at hc
    exact ⟨_, rfl, by simp only [RV]; exact ⟨trivial, Nat.lt_of_lt_of_le hc h.gH, by rw [(h.glob n hc).1]⟩⟩
  | f n => simp only [Opd.eval, Option.some.injEq] at hv; subst hv; exact ⟨_, rfl, by simp only [RV, RVL]; exact ⟨[], [], rfl, rfl, rfl⟩⟩

theorem opdsT (h : TR G ρ S T H A) (he : ER ρ H.next S T e a) : ∀ {l : List Opd}, ckL G.next l = true → ∀ {vs : List AVal}, evals e l = some vs → ∃ us, evals a l = some us ∧ RVL ρ H.next S T vs 2 us := by
  intro l
  induction l with
  | nil => intro _ vs hv; simp only [evals, Option.some.injEq] at hv; subst hv; exact ⟨[], rfl, by simp [RVL]⟩
  | cons x l ih =>
    intro hc vs hv
    simp only [ckL, Bool.and_eq_true] at hc
    simp only [evals] at hv
    split at hv
    · rename_i v hx
      split at hv
      · rename_i vs' hl
        cases hv
        obtain ⟨u, h1, h2⟩ := opdT h he hc.1 hx
        obtain ⟨us, h3, h4⟩ := ih hc.2 hl
        exact ⟨u :: us, by simp [evals, h1, h3], RVL_cons h2 h4⟩
      · cases hv
    · cases hv

/-- Parts, at both levels. -/
def RP (ρ : Nat → Nat) (N : Nat) (S T : Stab) : List (Nat × Nat × AVal) → List (Nat × Nat × AVal) → Prop
  | [], l' => l' = []
  | (o, n, v) :: l, l' => ∃ u r, l' = (o, n, u) :: r ∧ RV ρ N S T v 2 u ∧ RP ρ N S T l r
theorem partsT (h : TR G ρ S T H A) (he : ER ρ H.next S T e a) : ∀ {l : List (Nat × Nat × Opd)}, ckP G.next l = true → ∀ {vs : List (Nat × Nat × AVal)}, evalParts e l = some vs → ∃ us, evalParts a l = some us ∧ RP ρ H.next S T vs us := by
  intro l
  induction l with
  | nil => intro _ vs hv; simp only [evalParts, Option.some.injEq] at hv; subst hv; exact ⟨[], rfl, rfl⟩
  | cons x l ih =>
    obtain ⟨o, n, x⟩ := x
    intro hc vs hv
    simp only [ckP, Bool.and_eq_true] at hc
    simp only [evalParts] at hv
    split at hv
    · rename_i v hx
      split at hv
      · rename_i vs' hl
        cases hv
        obtain ⟨u, h1, h2⟩ := opdT h he hc.1 hx
        obtain ⟨us, h3, h4⟩ := ih hc.2 hl
        exact ⟨(o, n, u) :: us, by simp [evalParts, h1, h3], u, us, rfl, h2, h4⟩
      · cases hv
    · cases hv

theorem fillT : ∀ {ps ps' : List (Nat × Nat × AVal)} {z z' cs : List AVal}, RP ρ N S T ps ps' → RVL ρ N S T z 2 z' → fillA z ps = some cs → ∃ cs', fillA z' ps' = some cs' ∧ RVL ρ N S T cs 2 cs' := by
  intro ps
  induction ps with
  | nil => intro ps' z z' cs h hz hf; simp only [RP] at h; subst h; simp only [fillA, Option.some.injEq] at hf; subst hf; exact ⟨z', rfl, hz⟩
  | cons x ps ih =>
    obtain ⟨o, n, v⟩ := x
    intro ps' z z' cs h hz hf
    obtain ⟨u, r, rfl, h1, h2⟩ := h
    simp only [fillA] at hf ⊢
    split at hf
    · rename_i hc
      have hcl := RVL_len (RV_cells h1)
      have hzl := RVL_len hz
      rw [if_pos ⟨by rw [RV_tup h1]; exact hc.1, by rw [hcl]; exact hc.2.1, by rw [hzl]; exact hc.2.2⟩]
      exact ih h2 (RVL_putCells o hz (RV_cells h1)) hf
    · cases hf

theorem intT {k : Nat} {q : IntKind} {n : Int} {u : AVal} (h : RV ρ N S T (.i q n) k u) : u = .i q n := by simpa only [RV] using h
theorem strT {k : Nat} {v : List UInt8} {u : AVal} (h : RV ρ N S T (.s v) k u) : u = .s v := by simpa only [RV] using h
theorem boolT {k : Nat} {v : Bool} {u : AVal} (h : RV ρ N S T (.b v) k u) : u = .b v := by simpa only [RV] using h

theorem optT (h : TR G ρ S T H A) (he : ER ρ H.next S T e a) {x : Option Opd} (hc : ckO G.next x = true) {r : Option Nat} (hr : optI e x = some r) : optI a x = some r := by
  cases x with
  | none => exact hr
  | some x =>
    simp only [optI] at hr ⊢
    split at hr
    · rename_i q n hx
      obtain ⟨u, h1, h2⟩ := opdT h he hc hx
      rw [h1, intT h2]; exact hr
    · cases hr

theorem binT {op : BinOp} {v1 v2 w u1 u2 : AVal} {k : Nat} (h1 : RV ρ N S T v1 k u1) (h2 : RV ρ N S T v2 k u2) (h : binV op v1 v2 = some w) : binV op u1 u2 = some w ∧ noId w = true := by
  cases v1 <;> cases v2 <;> simp only [binV] at h <;> try (cases h; done)
  case i.i k1 a k2 b =>
    rw [intT h1, intT h2]
    refine ⟨h, ?_⟩
    cases op <;> (try simp only at h) <;> (try (split at h)) <;> (try (cases h; done)) <;> (try simp only [binI] at h) <;> (try (split at h)) <;> (try (cases h; done)) <;> cases h <;> rfl
  case s.s a b =>
    rw [strT h1, strT h2]
    refine ⟨h, ?_⟩
    cases op <;> simp only [binS] at h <;> (try (split at h)) <;> (try (cases h; done)) <;> cases h <;> rfl

theorem unT {op : UnOp} {v u w : AVal} {k : Nat} (h1 : RV ρ N S T v k u) (h : unV op v = some w) : unV op u = some w ∧ noId w = true := by
  cases v <;> simp only [unV] at h <;> try (cases h; done)
  case i k1 a => rw [intT h1]; refine ⟨h, ?_⟩; cases op <;> simp only at h <;> (try (cases h; done)) <;> cases h <;> rfl
  case b a => rw [boolT h1]; refine ⟨h, ?_⟩; cases op <;> simp only at h <;> (try (cases h; done)) <;> cases h; rfl

theorem RV_p {id off : Nat} (h : id < N) : RV ρ N S T (.p id off) 2 (.p (ρ id) off) := by simp [RV, h]
theorem RV_sl {id off len : Nat} {cap : Option Nat} (h : id < N) : RV ρ N S T (.sl id off len cap) 2 (.sl (ρ id) off len cap) := by simp [RV, h]
theorem RV_m {id : Nat} (h : id < N) : RV ρ N S T (.m id) 2 (.m (ρ id)) := by simp [RV, h]
theorem RV_ag {l l' : List AVal} {k : Nat} (h : RVL ρ N S T l k l') : RV ρ N S T (.ag l) k (.ag l') := by simp [RV, h]
theorem RV_tu {l l' : List AVal} {k : Nat} (h : RVL ρ N S T l k l') : RV ρ N S T (.tu l) k (.tu l') := by simp [RV, h]
theorem RV_i {q : IntKind} {n : Int} {k : Nat} : RV ρ N S T (.i q n) k (.i q n) := RV_noId _ rfl
theorem RV_b {v : Bool} {k : Nat} : RV ρ N S T (.b v) k (.b v) := RV_noId _ rfl

theorem nilT {n : Nat} {v u : AVal} {b : Bool} {k : Nat} (h : RV ρ N S T v k u) (hn : nilV n v = some b) : nilV n u = some b := by
  match n, hn with
  | 0, hn =>
    cases v <;> simp only [nilV] at hn <;> (try (cases hn; done)) <;> simp only [RV] at h
    case ns => subst h; exact hn
    case es => subst h; exact hn
    case sl => obtain ⟨_, _, rfl⟩ := h; exact hn
    case fs tmp full len l =>
      obtain ⟨_, ⟨rfl, _, _⟩ | ⟨h0, id, off, cap, c, esz, rfl, _⟩⟩ := h
      · simp at hn
      · rw [if_neg (by omega)] at hn; exact hn
  | 1, hn =>
    cases v <;> simp only [nilV] at hn <;> (try (cases hn; done)) <;> simp only [RV] at h
    case np => subst h; exact hn
    case p => obtain ⟨_, _, rfl⟩ := h; exact hn
    case fp => obtain ⟨_, _, _, _, _, rfl, _⟩ := h; exact hn
  | 2, hn =>
    cases v <;> simp only [nilV] at hn <;> (try (cases hn; done)) <;> simp only [RV] at h
    case nm => subst h; exact hn
    case m => obtain ⟨_, _, rfl⟩ := h; exact hn
  | 3, hn =>
    cases v <;> simp only [nilV] at hn <;> (try (cases hn; done)) <;> simp only [RV] at h
    case nf => subst h; exact hn
    case fn => obtain ⟨_, _, rfl, _⟩ := h; exact hn
  | 4, hn =>
    cases v <;> simp only [nilV] at hn <;> (try (cases hn; done)) <;> simp only [RV] at h
    case nif => subst h; exact hn
    case ifc => obtain ⟨_, rfl, _⟩ := h; exact hn
  | n + 5, hn => cases v <;> simp [nilV] at hn

theorem eqCellsT : ∀ {ks : List Nat} {x y x' y' : List AVal} {k : Nat} {r : Bool}, RVL ρ N S T x k x' → RVL ρ N S T y k y' → eqCells ks x y = some r → x' = x ∧ y' = y := by
  intro ks
  induction ks with
  | nil =>
    intro x y x' y' k r hx hy h
    cases x <;> cases y <;> simp [eqCells] at h
    simp only [RVL] at hx hy
    exact ⟨hx, hy⟩
  | cons q ks ih =>
    intro x y x' y' k r hx hy h
    obtain ⟨u, x1, v, y1, rfl, rfl⟩ := eqCells_step h
    simp only [RVL] at hx hy
    obtain ⟨u', x2, rfl, hu, hx⟩ := hx
    obtain ⟨v', y2, rfl, hv, hy⟩ := hy
    obtain ⟨r', hr⟩ := eqCells_tail h
    obtain ⟨e1, e2⟩ := ih hx hy hr
    have : u' = u ∧ v' = v := by
      match q, h with
      | 0, h =>
        cases u <;> cases v <;> simp only [eqCells] at h <;> try (cases h; done)
        exact ⟨boolT hu, boolT hv⟩
      | 1, h =>
        cases u <;> cases v <;> simp only [eqCells] at h <;> try (cases h; done)
        exact ⟨intT hu, intT hv⟩
      | 2, h =>
        cases u <;> cases v <;> simp only [eqCells] at h <;> try (cases h; done)
        exact ⟨strT hu, strT hv⟩
      | q + 3, h => unfold eqCells at h; cases h
    exact ⟨by rw [this.1, e1], by rw [this.2, e2]⟩

theorem offT {n : Nat} {v u w : AVal} (h : RV ρ N S T v 2 u) (hn : offV n v = some w) : ∃ w', offV n u = some w' ∧ RV ρ N S T w 2 w' := by
  cases v <;> simp only [offV] at hn <;> try (cases hn; done)
  case p id off =>
    simp only [RV] at h; obtain ⟨_, h2, rfl⟩ := h
    cases hn
    exact ⟨_, rfl, RV_p h2⟩
  case fp l =>
    simp only [RV] at h
    obtain ⟨h0, id, off, c, esz, rfl, h1, h2, h3⟩ := h
    cases hn
    refine ⟨_, rfl, ?_⟩
    simp only [RV]
    refine ⟨h0, id, off + n, c, esz, rfl, h1, ?_, ?_⟩
    · rcases Nat.lt_or_ge n l.length with hlt | hge
      · right
        rcases h2 with h2 | h2
        · rw [h2] at hlt; simp at hlt
        · simp; omega
      · left; exact List.drop_eq_nil_of_le hge
    · have := RVL_drop h3 n
      rw [List.drop_take, List.drop_drop] at this
      simpa using this

theorem fpT {n : Nat} {l : List AVal} {id off : Nat} {c : List AVal} {esz : Nat} {k : Nat} (hk : 1 ≤ k) (h1 : look true S T id = some (c, esz)) (h2 : l = [] ∨ off + l.length ≤ c.length) (h3 : RVL ρ N S T l 1 ((c.drop off).take l.length)) :
    RV ρ N S T (.fp (l.drop n)) k (.p id (off + n)) := by
  simp only [RV]
  refine ⟨hk, id, off + n, c, esz, rfl, h1, ?_, ?_⟩
  · rcases Nat.lt_or_ge n l.length with hlt | hge
    · right
      rcases h2 with h2 | h2
      · rw [h2] at hlt; simp at hlt
      · simp; omega
    · left; exact List.drop_eq_nil_of_le hge
  · have := RVL_drop h3 n
    rw [List.drop_take, List.drop_drop] at this
    simpa using this

theorem LeS1 : LeS 0 S T S T ∧ LeS 1 S T S T ∧ LeS 2 S T S T := ⟨LeS.refl _ _ _, LeS.refl _ _ _, LeS.refl _ _ _⟩

theorem look_up {tmp : Bool} {id : Nat} {x : List AVal × Nat} (h : look tmp S T id = some x) : look true S T id = some x := by
  unfold look at h ⊢
  split at h
  · exact h
  · cases tmp
    · simp at h
    · exact h
theorem RVL_up {tmp : Bool} {l l' : List AVal} {k : Nat} (h1 : 1 ≤ k) (hk : k ≤ 2) (h : RVL ρ N S T l (lv tmp) l') : RVL ρ N S T l k l' := by
  have : lv tmp ≤ 1 := by cases tmp <;> simp [lv]
  exact RVL_mono (fun e => absurd e (by omega)) (LeS.refl _ _ _) (by omega) hk l l' h

theorem iaddrT {esz : Nat} {v u i i' w : AVal} (h : RV ρ N S T v 2 u) (hi : RV ρ N S T i 2 i') (hn : iaddrV esz v i = some w) : ∃ w', iaddrV esz u i' = some w' ∧ RV ρ N S T w 2 w' := by
  cases v <;> cases i <;> simp only [iaddrV] at hn <;> try (cases hn; done)
  case sl.i id off len cap q n =>
    simp only [RV] at h; obtain ⟨_, h2, rfl⟩ := h
    rw [intT hi]
    split at hn
    · rename_i hc; cases hn
      exact ⟨_, by simp only [iaddrV]; rw [if_pos hc], RV_p h2⟩
    · cases hn
  case fs.i tmp full len l q n =>
    simp only [RV] at h
    rw [intT hi]
    split at hn
    · rename_i hc
      cases hn
      obtain ⟨_, ⟨h0, _⟩ | ⟨h0, id, off, cap, c, es, rfl, _, _, h4, h5, h6, h7⟩⟩ := h
      · omega
      · refine ⟨_, by simp only [iaddrV]; rw [if_pos hc], fpT (by omega) (look_up h4) (.inr (by omega)) ?_⟩
        rw [h5]; exact RVL_up (Nat.le_refl _) (by omega) h7
    · cases hn

theorem iaddrAT {esz len : Nat} {v u i i' w : AVal} (h : RV ρ N S T v 2 u) (hi : RV ρ N S T i 2 i') (hn : iaddrAV esz len v i = some w) : ∃ w', iaddrAV esz len u i' = some w' ∧ RV ρ N S T w 2 w' := by
  cases v <;> cases i <;> simp only [iaddrAV] at hn <;> try (cases hn; done)
  case p.i id off q n =>
    simp only [RV] at h; obtain ⟨_, h2, rfl⟩ := h
    rw [intT hi]
    split at hn
    · rename_i hc; cases hn
      exact ⟨_, by simp only [iaddrAV]; rw [if_pos hc], RV_p h2⟩
    · cases hn
  case fp.i l q n =>
    simp only [RV] at h
    rw [intT hi]
    obtain ⟨h0, id, off, c, es, rfl, h1, h2, h3⟩ := h
    split at hn
    · rename_i hc; cases hn
      exact ⟨_, by simp only [iaddrAV]; rw [if_pos hc], fpT (by omega) h1 h2 h3⟩
    · cases hn

theorem partT {n : Option Nat} {off : Nat} {v u w : AVal} (h : RV ρ N S T v 2 u) (hn : partV n off v = some w) : ∃ w', partV n off u = some w' ∧ RV ρ N S T w 2 w' := by
  cases v <;> simp only [partV] at hn <;> try (cases hn; done)
  rename_i l
  simp only [RV] at h
  obtain ⟨l', rfl, h⟩ := h
  cases n with
  | none => simp only at hn; obtain ⟨u, h1, h2⟩ := RVL_get h hn; exact ⟨u, h1, h2⟩
  | some n =>
    simp only at hn
    split at hn
    · rename_i hc
      cases hn
      have := RVL_len h
      exact ⟨_, by simp only [partV]; rw [if_pos (by omega)], RV_ag (RVL_take (RVL_drop h _) _)⟩
    · cases hn

theorem idxAT {n : Option Nat} {esz len : Nat} {v u i i' w : AVal} (h : RV ρ N S T v 2 u) (hi : RV ρ N S T i 2 i') (hn : idxAV n esz len v i = some w) : ∃ w', idxAV n esz len u i' = some w' ∧ RV ρ N S T w 2 w' := by
  cases i <;> simp only [idxAV] at hn <;> try (cases hn; done)
  rw [intT hi]
  split at hn
  · rename_i hc
    obtain ⟨w', h1, h2⟩ := partT h hn
    exact ⟨w', by simp only [idxAV]; rw [if_pos hc]; exact h1, h2⟩
  · cases hn

theorem extT {n : Nat} {v u w : AVal} (h : RV ρ N S T v 2 u) (hn : extV n v = some w) : ∃ w', extV n u = some w' ∧ RV ρ N S T w 2 w' := by
  cases v <;> simp only [extV] at hn <;> try (cases hn; done)
  simp only [RV] at h
  obtain ⟨l', rfl, h⟩ := h
  obtain ⟨u, h1, h2⟩ := RVL_get h hn
  exact ⟨u, h1, h2⟩

theorem mmT {mx : Bool} : ∀ {l l' : List AVal} {v u w : AVal}, RV ρ N S T v 2 u → RVL ρ N S T l 2 l' → mmV mx v l = some w → ∃ w', mmV mx u l' = some w' ∧ RV ρ N S T w 2 w' := by
  intro l
  induction l with
  | nil => intro l' v u w h hl hn; simp only [RVL] at hl; subst hl; simp only [mmV, Option.some.injEq] at hn; subst hn; exact ⟨u, rfl, h⟩
  | cons x l ih =>
    intro l' v u w h hl hn
    simp only [RVL] at hl
    obtain ⟨x', r, rfl, h1, h2⟩ := hl
    cases v <;> cases x <;> simp only [mmV] at hn <;> try (cases hn; done)
    rw [intT h, intT h1]
    split at hn
    · rename_i hc
      obtain ⟨w', h3, h4⟩ := ih RV_i h2 hn
      exact ⟨w', by simp only [mmV]; rw [if_pos hc]; exact h3, h4⟩
    · cases hn

/-! ### Looking into the heap -/
theorem cellsT (h : TR G ρ S T H A) {id : Nat} (hid : id < H.next) {c : List AVal} {esz : Nat} {ro : Bool} (hg : H.get id = some (.cells c esz ro)) : ∃ c', A.get (ρ id) = some (.cells c' esz ro) ∧ RVL ρ H.next S T c 2 c' := by
  obtain ⟨o', h1, c', rfl, h2⟩ := h.obj id _ hid hg
  exact ⟨c', h1, h2⟩

theorem rowT (h : TR G ρ S T H A) {id off n : Nat} (hid : id < H.next) {l : List AVal} (hl : rowAt H id off n = some l) : ∃ l', rowAt A (ρ id) off n = some l' ∧ RVL ρ H.next S T l 2 l' := by
  unfold rowAt at hl ⊢
  split at hl
  · rename_i c esz ro hg
    obtain ⟨c', h1, h2⟩ := cellsT h hid hg
    rw [h1]
    simp only
    split at hl
    · rename_i hc
      cases hl
      have := RVL_len h2
      rw [if_pos (by omega)]
      exact ⟨_, rfl, RVL_take (RVL_drop h2 _) _⟩
    · cases hl
  · cases hl

theorem rowS (h : TR G ρ S T H A) {id off n : Nat} {c : List AVal} {esz : Nat} (hl : look true S T id = some (c, esz)) (hn : off + n ≤ c.length) : rowAt A id off n = some ((c.drop off).take n) := by
  obtain ⟨_, ro, h1⟩ := h.stab id c esz hl
  unfold rowAt
  rw [h1]
  simp only
  rw [if_pos hn]

theorem loadT (h : TR G ρ S T H A) {n : Option Nat} {v u w : AVal} (hv : RV ρ H.next S T v 2 u) (hn : loadV H n v = some w) : ∃ w', loadV A n u = some w' ∧ RV ρ H.next S T w 2 w' := by
  cases v <;> simp only [loadV] at hn <;> try (cases hn; done)
  case p id off =>
    simp only [RV] at hv
    obtain ⟨_, hid, rfl⟩ := hv
    cases n with
    | none =>
      simp only at hn
      split at hn
      · rename_i c esz ro hg
        obtain ⟨c', h1, h2⟩ := cellsT h hid hg
        obtain ⟨w', h3, h4⟩ := RVL_get h2 hn
        exact ⟨w', by simp only [loadV, h1]; exact h3, h4⟩
      · cases hn
    | some n =>
      simp only [Option.map_eq_some_iff] at hn
      obtain ⟨l, hl, rfl⟩ := hn
      obtain ⟨l', h1, h2⟩ := rowT h hid hl
      exact ⟨.ag l', by simp only [loadV, h1]; rfl, RV_ag h2⟩
  case fp l =>
    simp only [RV] at hv
    obtain ⟨_, id, off, c, esz, rfl, h1, h2, h3⟩ := hv
    obtain ⟨_, ro, h4⟩ := h.stab id c esz h1
    have h3' : RVL ρ H.next S T l 2 ((c.drop off).take l.length) := RVL_mono (fun e => absurd e (by omega)) (LeS.refl _ _ _) (by omega) (Nat.le_refl _) _ _ h3
    cases n with
    | none =>
      simp only at hn
      obtain ⟨w', h5, h6⟩ := RVL_get h3' hn
      refine ⟨w', ?_, h6⟩
      simp only [loadV, h4]
      rw [List.getElem?_take] at h5
      split at h5
      · rw [List.getElem?_drop] at h5; simpa using h5
      · cases h5
    | some n =>
      simp only at hn
      split at hn
      · rename_i hc
        cases hn
        have h2' : off + l.length ≤ c.length := h2.resolve_left (fun e => by rw [e] at hc; simp at hc; omega)
        have h5 := RVL_take h3' n
        rw [List.take_take, Nat.min_eq_left hc.2] at h5
        exact ⟨_, by simp only [loadV, rowS h h1 (show off + n ≤ c.length by omega)]; rfl, RV_ag h5⟩
      · cases hn

theorem REs_len : ∀ {es es' : List (AVal × AVal)}, REs ρ N S T es es' → es'.length = es.length := by
  intro es
  induction es with
  | nil => intro es' h; simp only [REs] at h; subst h; rfl
  | cons x es ih => obtain ⟨a, b⟩ := x; intro es' h; obtain ⟨_, _, r, rfl, _, _, h4⟩ := h; simp [ih h4]

theorem lenT (h : TR G ρ S T H A) {k n : Nat} {v u : AVal} (hv : RV ρ H.next S T v 2 u) (hn : lenV H k v = some n) : lenV A k u = some n := by
  match k, hn with
  | 0, hn =>
    cases v <;> simp only [lenV] at hn <;> (try (cases hn; done)) <;> simp only [RV] at hv
    case ns => subst hv; exact hn
    case es => subst hv; exact hn
    case sl => obtain ⟨_, _, rfl⟩ := hv; exact hn
    case fs tmp full len l => obtain ⟨_, ⟨rfl, _, rfl | ⟨_, rfl⟩ | ⟨_, _, _, rfl, _⟩⟩ | ⟨_, _, _, _, _, _, rfl, _⟩⟩ := hv <;> exact hn
  | 1, hn =>
    cases v <;> simp only [lenV] at hn <;> (try (cases hn; done)) <;> simp only [RV] at hv
    subst hv; exact hn
  | 2, hn =>
    cases v <;> simp only [lenV] at hn <;> (try (cases hn; done)) <;> simp only [RV] at hv
    case nm => subst hv; exact hn
    case m =>
      obtain ⟨_, hid, rfl⟩ := hv
      split at hn
      · rename_i es hg
        obtain ⟨o', h1, es', rfl, h2⟩ := h.obj _ _ hid hg
        simp only [lenV, h1, REs_len h2]; exact hn
      · cases hn
  | k + 3, hn => cases v <;> simp [lenV] at hn

end
end Go.RI

/- RI, part TD: operations that write, make, slice, append, at both levels. Conditions: none. -/
namespace Go.RI
open Go
set_option linter.unusedSimpArgs false
set_option linter.unusedVariables false

section
variable {G : AHeap} {ρ : Nat → Nat} {S T : Stab} {H A : AHeap} {e a : Env}

/-- What a run comes to. -/
def SimT (G : AHeap) (ρ : Nat → Nat) (S T : Stab) (H A : AHeap) (run : Option (Option AVal × AHeap)) (v : Option AVal) (H' : AHeap) : Prop :=
  ∃ ρ' u A', run = some (u, A') ∧ TR G ρ' S T H' A' ∧ Mono ρ S H A ρ' S H' A' ∧ match v, u with
    | some v, some u => RV ρ' H'.next S T v 2 u
    | none, none => True
    | _, _ => False

theorem simT_val (h : TR G ρ S T H A) {run : Option (Option AVal × AHeap)} {v u : AVal} (hr : run = some (some u, A)) (hv : RV ρ H.next S T v 2 u) : SimT G ρ S T H A run (some v) H :=
  ⟨ρ, some u, A, hr, h, Mono.refl _ _ _ _, hv⟩

theorem RO_cells {N : Nat} {c c' : List AVal} {esz : Nat} {ro : Bool} (h : RVL ρ N S T c 2 c') : RO ρ N S T (.cells c esz ro) (.cells c' esz ro) := ⟨c', rfl, h⟩

theorem pushT (h : TR G ρ S T H A) {c c' : List AVal} {esz : Nat} (hc : RVL ρ H.next S T c 2 c') : TR G (updN ρ H.next A.next) S T (H.push (.cells c esz false)) (A.push (.cells c' esz false)) ∧ Mono ρ S H A (updN ρ H.next A.next) S (H.push (.cells c esz false)) (A.push (.cells c' esz false)) :=
  h.push (o := some (.cells c esz false)) (o' := some (.cells c' esz false)) rfl rfl (fun i => AHeap.get_push H i _) (fun i => AHeap.get_push A i _) (fun x hx => by cases hx; exact ⟨_, rfl, RO_cells hc⟩)

theorem simT_push (h : TR G ρ S T H A) {c c' : List AVal} {esz : Nat} (hc : RVL ρ H.next S T c 2 c') {run : Option (Option AVal × AHeap)} {v u : AVal} (hr : run = some (some u, A.push (.cells c' esz false)))
    (hv : RV (updN ρ H.next A.next) (H.next + 1) S T v 2 u) : SimT G ρ S T H A run (some v) (H.push (.cells c esz false)) := by
  obtain ⟨h1, h2⟩ := pushT (esz := esz) h hc
  exact ⟨_, some u, _, hr, h1, h2, hv⟩

theorem newP : RV (updN ρ H.next A.next) (H.next + 1) S T (.p H.next 0) 2 (.p A.next 0) := by
  have := RV_p (ρ := updN ρ H.next A.next) (N := H.next + 1) (S := S) (T := T) (id := H.next) (off := 0) (by omega)
  rwa [updN_same] at this
theorem newSl {len : Nat} {cap : Option Nat} : RV (updN ρ H.next A.next) (H.next + 1) S T (.sl H.next 0 len cap) 2 (.sl A.next 0 len cap) := by
  have := RV_sl (ρ := updN ρ H.next A.next) (N := H.next + 1) (S := S) (T := T) (id := H.next) (off := 0) (len := len) (cap := cap) (by omega)
  rwa [updN_same] at this

theorem storeT (h : TR G ρ S T H A) {n : Nat} {p p' v v' : AVal} (hp : RV ρ H.next S T p 2 p') (hv : RV ρ H.next S T v 2 v') {H' : AHeap} {loA : Nat} {lo : Nat} (hg : G.next ≤ lo) (hlo2 : ∀ i, i < H.next → lo ≤ i → loA ≤ ρ i) (hs : storeV lo H n p v = some H') :
    ∃ A', storeV loA A n p' v' = some A' ∧ TR G ρ S T H' A' ∧ Mono ρ S H A ρ S H' A' := by
  cases p <;> simp only [storeV] at hs <;> try (cases hs; done)
  rename_i id off
  simp only [RV] at hp
  obtain ⟨_, hid, rfl⟩ := hp
  split at hs
  · rename_i hle
    split at hs
    · rename_i c esz ro hgt
      split at hs
      · rename_i hc
        obtain ⟨rfl, h1, h2, h3⟩ := hc
        cases hs
        obtain ⟨c', h4, h5⟩ := cellsT h hid hgt
        have hl := RVL_len h5
        have hl2 := RVL_len (RV_cells hv)
        obtain ⟨g1, g2⟩ := h.set hid (Nat.le_trans hg hle) hgt rfl (o := some (.cells (putCells c off v.cells) esz false)) (o' := some (.cells (putCells c' off v'.cells) esz false))
          (fun x hx => by cases hx; exact ⟨_, rfl, RO_cells (RVL_putCells off h5 (RV_cells hv))⟩)
        refine ⟨_, ?_, g1, g2⟩
        simp only [storeV]
        rw [if_pos (hlo2 id hid hle), h4]
        simp only
        rw [if_pos ⟨trivial, by rw [RV_tup hv]; exact h1, by rw [hl2]; exact h2, by rw [hl]; exact h3⟩]
      · cases hs
    · cases hs
  · cases hs

theorem list_mid {α : Type} (L : List α) (n m k : Nat) (h : m + k ≤ n) : ((L.take n).drop m).take k = (L.drop m).take k := by
  rw [List.drop_take, List.take_take, Nat.min_eq_left (by omega)]

/-- A part of a row that nobody writes. -/
theorem fsT {tmp full : Bool} {N len : Nat} {l : List AVal} {id off : Nat} {c : List AVal} {esz : Nat} (hk : tmp = true → 1 ≤ 2) (h4 : look tmp S T id = some (c, esz)) (h5 : l.length = len * esz) (h6 : off + len * esz ≤ c.length)
    (h7 : RVL ρ N S T l (lv tmp) ((c.drop off).take (len * esz))) {lo hi off' : Nat} {cap' : Option Nat} (h8 : lo ≤ hi) (h9 : hi ≤ len) (hoff : lo < hi → off' = off + lo * esz) (hf : full = true → cap' = some (hi - lo)) (hc : ∀ m, cap' = some m → hi - lo ≤ m) :
    RV ρ N S T (.fs tmp full (hi - lo) ((l.drop (lo * esz)).take ((hi - lo) * esz))) 2 (.sl id off' (hi - lo) cap') := by
  simp only [RV]
  refine ⟨fun _ => by omega, ?_⟩
  rcases Nat.eq_or_lt_of_le h8 with he | hlt
  · left
    subst he
    have hz : lo - lo = 0 := by omega
    rw [hz]
    exact ⟨rfl, by simp, .inr <| .inr ⟨id, off', cap', rfl, fun e => by rw [hf e, hz]⟩⟩
  · right
    have e1 : lo * esz + (hi - lo) * esz = hi * esz := by rw [← Nat.add_mul]; congr 1; omega
    have e2 : hi * esz ≤ len * esz := Nat.mul_le_mul_right _ h9
    refine ⟨by omega, id, off', cap', c, esz, rfl, hf, hc, h4, ?_, ?_, ?_⟩
    · simp; omega
    · rw [hoff hlt]; omega
    · have := RVL_take (RVL_drop h7 (lo * esz)) ((hi - lo) * esz)
      rw [list_mid _ _ _ _ (by omega), List.drop_drop] at this
      rw [hoff hlt]; exact this

theorem slT (h : TR G ρ S T H A) {esz : Nat} {v u : AVal} (hv : RV ρ H.next S T v 2 u) {l hh m : Option Nat} {w : AVal} {H' : AHeap} (hs : slV esz H v l hh m = some (w, H')) :
    ∃ ρ' w' A', slV esz A u l hh m = some (w', A') ∧ TR G ρ' S T H' A' ∧ Mono ρ S H A ρ' S H' A' ∧ RV ρ' H'.next S T w 2 w' ∧ (H'.next = H.next → (isFs v = true → m.isSome ∨ l.getD 0 = 0 ∨ isFs0 w = false) → A' = A ∧ ρ' = ρ ∧ isFs u = false) := by
  cases v <;> simp only [slV] at hs <;> try (cases hs; done)
  case ns =>
    simp only [RV] at hv
    subst hv
    split at hs
    · rename_i hc; cases hs
      exact ⟨ρ, .ns, A, by simp only [slV]; rw [if_pos hc], h, Mono.refl _ _ _ _, by simp only [RV], fun _ _ => ⟨rfl, rfl, rfl⟩⟩
    · cases hs
  case es ad =>
    simp only [RV] at hv
    subst hv
    split at hs
    · rename_i hc; cases hs
      exact ⟨ρ, .es ad, A, by simp only [slV]; rw [if_pos hc], h, Mono.refl _ _ _ _, by simp only [RV], fun _ _ => ⟨rfl, rfl, rfl⟩⟩
    · cases hs
  case sl id off len cap =>
    simp only [RV] at hv
    obtain ⟨_, hid, rfl⟩ := hv
    cases cap with
    | some c =>
      simp only at hs
      split at hs
      · rename_i hc; cases hs
        exact ⟨ρ, _, A, by simp only [slV]; rw [if_pos hc], h, Mono.refl _ _ _ _, RV_sl hid, fun _ _ => ⟨rfl, rfl, rfl⟩⟩
      · cases hs
    | none =>
      simp only at hs
      cases m with
      | some m' =>
        simp only at hs
        split at hs
        · rename_i hc; cases hs
          exact ⟨ρ, _, A, by simp only [slV]; rw [if_pos hc], h, Mono.refl _ _ _ _, RV_sl hid, fun _ _ => ⟨rfl, rfl, rfl⟩⟩
        · cases hs
      | none =>
        simp only at hs
        split at hs
        · rename_i hc
          split at hs
          · rename_i h0; cases hs
            exact ⟨ρ, _, A, by simp only [slV]; rw [if_pos hc, if_pos h0], h, Mono.refl _ _ _ _, RV_sl hid, fun _ _ => ⟨rfl, rfl, rfl⟩⟩
          · rename_i h0
            split at hs
            · rename_i hlt
              split at hs
              · rename_i cs esz' ro hg
                split at hs
                · rename_i he; cases hs
                  obtain ⟨c', h1, _⟩ := cellsT h hid hg
                  exact ⟨ρ, _, A, by simp only [slV]; rw [if_pos hc, if_neg h0, if_pos hlt, h1]; simp only; rw [if_pos he], h, Mono.refl _ _ _ _, RV_sl hid, fun _ _ => ⟨rfl, rfl, rfl⟩⟩
                · cases hs
              · cases hs
            · rename_i hlt
              cases hs
              obtain ⟨g1, g2⟩ := h.push (H' := { H with next := H.next + 1, tbl := H.tbl.put none (H.next + 1) H.next }) (A' := { A with next := A.next + 1, tbl := A.tbl.put none (A.next + 1) A.next }) (o := none) (o' := none) rfl rfl
                (fun i => Trie.get_put _ _ _ _ _ (Nat.lt_succ_self _)) (fun i => Trie.get_put _ _ _ _ _ (Nat.lt_succ_self _)) (fun x hx => by cases hx)
              exact ⟨_, _, _, by simp only [slV]; rw [if_pos hc, if_neg h0, if_neg hlt], g1, g2, newSl, fun hn => by simp at hn⟩
        · cases hs
  case fs tmp full len cs =>
    split at hs
    · rename_i hlen
      simp only [RV] at hv
      obtain ⟨hk, h0 | ⟨h0, id, off, cap, c, es, rfl, h1, h2, h4, h5, h6, h7⟩⟩ := hv
      · -- nothing in it
        obtain ⟨rfl, rfl, hu⟩ := h0
        have fin : ∀ (fl : Bool), hh.getD 0 = 0 → l.getD 0 = 0 → m.getD 0 = 0 → (m.isSome = true → hh.isSome = true) → w = .fs tmp fl (hh.getD 0 - l.getD 0) ((([] : List AVal).drop (l.getD 0 * esz)).take ((hh.getD 0 - l.getD 0) * esz)) → (fl = true → full = true ∨ m.isSome = true) → H' = H →
            ∃ ρ' w' A', slV esz A u l hh m = some (w', A') ∧ TR G ρ' S T H' A' ∧ Mono ρ S H A ρ' S H' A' ∧ RV ρ' H'.next S T w 2 w' ∧ (H'.next = H.next → (isFs (.fs tmp full 0 []) = true → m.isSome ∨ l.getD 0 = 0 ∨ isFs0 w = false) → A' = A ∧ ρ' = ρ ∧ isFs u = false) := by
          rintro fl e1 e2 e3 e4 rfl e5 rfl
          rw [e1, e2]
          simp only [Nat.sub_zero, Nat.zero_mul, List.drop_nil, List.take_nil]
          rcases hu with rfl | ⟨ad, rfl⟩ | ⟨id, off, cap, rfl, hcap⟩
          · exact ⟨ρ, .ns, A, by simp only [slV]; rw [if_pos ⟨e2, e1, e3, e4⟩], h, Mono.refl _ _ _ _, by simp [RV], fun _ _ => ⟨rfl, rfl, rfl⟩⟩
          · exact ⟨ρ, .es ad, A, by simp only [slV]; rw [if_pos ⟨e2, e1, e3, e4⟩], h, Mono.refl _ _ _ _, by simp [RV], fun _ _ => ⟨rfl, rfl, rfl⟩⟩
          · cases cap with
            | some k =>
              cases m with
              | none =>
                refine ⟨ρ, .sl id (if k = 0 then off else off + 0 * esz) 0 (some k), A, ?_, h, Mono.refl _ _ _ _, ?_, fun _ _ => ⟨rfl, rfl, rfl⟩⟩
                · simp only [slV, Option.getD_none]
                  rw [if_pos ⟨Nat.le_refl _, by omega, by omega, fun h => by simp at h⟩, e1, e2]; simp
                · simp only [RV]
                  refine ⟨fun _ => by omega, .inl ⟨trivial, trivial, .inr <| .inr ⟨id, _, some k, rfl, fun e => ?_⟩⟩⟩
                  rcases e5 e with e6 | e6
                  · exact hcap e6
                  · simp at e6
              | some m' =>
                simp only [Option.getD_some] at e3
                subst e3
                refine ⟨ρ, .sl id off 0 (some 0), A, ?_, h, Mono.refl _ _ _ _, ?_, fun _ _ => ⟨rfl, rfl, rfl⟩⟩
                · simp only [slV, Option.getD_some]
                  rw [if_pos ⟨Nat.zero_le _, by omega, by omega, e4⟩, e1, e2]; simp
                · simp only [RV]
                  exact ⟨fun _ => by omega, .inl ⟨trivial, trivial, .inr <| .inr ⟨id, off, some 0, rfl, fun _ => rfl⟩⟩⟩
            | none =>
              cases m with
              | none =>
                refine ⟨ρ, .sl id off 0 none, A, ?_, h, Mono.refl _ _ _ _, ?_, fun _ _ => ⟨rfl, rfl, rfl⟩⟩
                · simp only [slV]
                  rw [if_pos ⟨by omega, by omega⟩, if_pos e2, e1]
                · simp only [RV]
                  refine ⟨fun _ => by omega, .inl ⟨trivial, trivial, .inr <| .inr ⟨id, _, none, rfl, fun e => ?_⟩⟩⟩
                  rcases e5 e with e6 | e6
                  · exact hcap e6
                  · simp at e6
              | some m' =>
                simp only [Option.getD_some] at e3
                subst e3
                refine ⟨ρ, .sl id off 0 (some 0), A, ?_, h, Mono.refl _ _ _ _, ?_, fun _ _ => ⟨rfl, rfl, rfl⟩⟩
                · simp only [slV]
                  rw [if_pos ⟨Nat.le_refl _, by omega, by omega, e4 rfl⟩, e1, e2]; simp
                · simp only [RV]
                  exact ⟨fun _ => by omega, .inl ⟨trivial, trivial, .inr <| .inr ⟨id, off, some 0, rfl, fun _ => rfl⟩⟩⟩
        cases m with
        | some m' =>
          simp only at hs
          split at hs
          · rename_i hc; cases hs
            exact fin _ (by omega) (by omega) (by simp only [Option.getD_some]; omega) (fun _ => hc.2.2.2) rfl (fun _ => .inr rfl) rfl
          · cases hs
        | none =>
          simp only at hs
          split at hs
          · rename_i hc; cases hs
            exact fin _ (by omega) (by omega) rfl (fun h => by simp at h) rfl (fun e => by simp only [Bool.and_eq_true] at e; exact .inl e.1) rfl
          · cases hs
      · -- there is something
        have hes : es = esz := by
          rw [h5] at hlen
          exact Nat.eq_of_mul_eq_mul_left h0 hlen
        subst hes
        have hrow : ∃ ro, A.get id = some (.cells c es ro) := (h.stab id c es (look_up h4)).2
        cases m with
        | some m' =>
          simp only at hs
          split at hs
          · rename_i hc
            cases hs
            obtain ⟨c1, c2, c3, c4⟩ := hc
            cases cap with
            | some k =>
              have hk2 := h2 k rfl
              refine ⟨ρ, _, A, by simp only [slV, Option.getD_some]; rw [if_pos ⟨by omega, c2, c3, fun _ => c4⟩], h, Mono.refl _ _ _ _, ?_, fun _ _ => ⟨rfl, rfl, rfl⟩⟩
              exact fsT (fun _ => by omega) h4 h5 h6 h7 c3 (by omega) (fun hlt => by rw [if_neg (by omega)]) (fun e => by simp only [decide_eq_true_eq] at e; rw [e]) (fun m hm => by cases hm; omega)
            | none =>
              refine ⟨ρ, _, A, by simp only [slV]; rw [if_pos ⟨c1, c2, c3, c4⟩], h, Mono.refl _ _ _ _, ?_, fun _ _ => ⟨rfl, rfl, rfl⟩⟩
              exact fsT (fun _ => by omega) h4 h5 h6 h7 c3 (by omega) (fun hlt => by rw [if_neg (by omega)]) (fun e => by simp only [decide_eq_true_eq] at e; rw [e]) (fun m hm => by cases hm; omega)
          · cases hs
        | none =>
          simp only at hs
          split at hs
          · rename_i hc
            cases hs
            obtain ⟨c1, c2⟩ := hc
            cases cap with
            | some k =>
              have hk2 := h2 k rfl
              refine ⟨ρ, _, A, by simp only [slV, Option.getD_none]; rw [if_pos ⟨Nat.le_refl _, by omega, c2, fun h => by simp at h⟩], h, Mono.refl _ _ _ _, ?_, fun _ _ => ⟨rfl, rfl, rfl⟩⟩
              exact fsT (fun _ => by omega) h4 h5 h6 h7 c2 c1 (fun hlt => by rw [if_neg (by omega)]) (fun e => by
                simp only [Bool.and_eq_true, decide_eq_true_eq] at e
                have := h1 e.1
                cases this
                rw [e.2]) (fun m hm => by cases hm; omega)
            | none =>
              have hfull : full = false := by
                cases full
                · rfl
                · have := h1 rfl; cases this
              subst hfull
              obtain ⟨ro, hA⟩ := hrow
              by_cases hl0 : l.getD 0 = 0
              · refine ⟨ρ, _, A, by simp only [slV]; rw [if_pos ⟨c1, c2⟩, if_pos hl0], h, Mono.refl _ _ _ _, ?_, fun _ _ => ⟨rfl, rfl, rfl⟩⟩
                have := fsT (ρ := ρ) (N := H.next) (full := false) (off' := off) (cap' := none) (fun _ => by omega) h4 h5 h6 h7 c2 c1 (fun _ => by rw [hl0]; simp) (fun e => by cases e) (fun m hm => by cases hm)
                rw [hl0] at this ⊢
                simpa using this
              · by_cases hlt : l.getD 0 < hh.getD len
                · refine ⟨ρ, _, A, by simp only [slV]; rw [if_pos ⟨c1, c2⟩, if_neg hl0, if_pos hlt, hA]; simp only; rw [if_pos trivial], h, Mono.refl _ _ _ _, ?_, fun _ _ => ⟨rfl, rfl, rfl⟩⟩
                  exact fsT (fun _ => by omega) h4 h5 h6 h7 c2 c1 (fun _ => rfl) (fun e => by simp at e) (fun m hm => by cases hm)
                · obtain ⟨g1, g2⟩ := h.ghost (A' := { A with next := A.next + 1, tbl := A.tbl.put none (A.next + 1) A.next }) rfl (fun i => Trie.get_put _ _ _ _ _ (Nat.lt_succ_self _))
                  have hz : hh.getD len - l.getD 0 = 0 := by omega
                  refine ⟨ρ, _, _, by simp only [slV]; rw [if_pos ⟨c1, c2⟩, if_neg hl0, if_neg hlt], g1, g2, ?_, fun _ hq => ?_⟩
                  · simp only [RV]
                    rw [hz]
                    exact ⟨fun _ => by omega, .inl ⟨rfl, by simp, .inr <| .inr ⟨_, _, _, rfl, fun e => by simp at e⟩⟩⟩
                  · exfalso
                    rcases hq rfl with hq | hq | hq
                    · simp at hq
                    · exact hl0 hq
                    · rw [hz] at hq; simp [isFs0] at hq
          · cases hs
    · cases hs

theorem RVL_bytes {N : Nat} (v : List UInt8) : RVL ρ N S T (v.map fun b => AVal.i .u8 b.toNat) 2 (v.map fun b => AVal.i .u8 b.toNat) := by
  induction v with
  | nil => simp [RVL]
  | cons b v ih => exact RVL_cons RV_i ih

theorem moreT (h : TR G ρ S T H A) {esz n : Nat} {y y' : AVal} {ys : List AVal} (hy : RV ρ H.next S T y 2 y') (hm : moreV H esz y = some (n, ys)) : ∃ ys', moreV A esz y' = some (n, ys') ∧ RVL ρ H.next S T ys 2 ys' := by
  cases y <;> simp only [moreV] at hm <;> try (cases hm; done)
  case s v => cases hm; rw [strT hy]; exact ⟨_, rfl, RVL_bytes v⟩
  case ns => cases hm; simp only [RV] at hy; subst hy; exact ⟨[], rfl, by simp [RVL]⟩
  case es => cases hm; simp only [RV] at hy; subst hy; exact ⟨[], rfl, by simp [RVL]⟩
  case sl id off len cap =>
    simp only [RV] at hy
    obtain ⟨_, hid, rfl⟩ := hy
    split at hm
    · rename_i h0; cases hm; exact ⟨[], by simp [moreV, h0], by simp [RVL]⟩
    · rename_i h0
      rw [Option.map_eq_some_iff] at hm
      obtain ⟨l, hl, he⟩ := hm
      cases he
      obtain ⟨l', h1, h2⟩ := rowT h hid hl
      exact ⟨l', by simp [moreV, h0, h1], h2⟩
  case fs tmp full len l =>
    simp only [RV] at hy
    split at hm
    · rename_i h0
      cases hm
      obtain ⟨_, ⟨_, _, rfl | ⟨_, rfl⟩ | ⟨_, _, _, rfl, _⟩⟩ | ⟨h1, _⟩⟩ := hy
      · exact ⟨[], rfl, by simp [RVL]⟩
      · exact ⟨[], rfl, by simp [RVL]⟩
      · exact ⟨[], by simp [moreV], by simp [RVL]⟩
      · omega
    · rename_i h0
      split at hm
      · rename_i hl
        cases hm
        obtain ⟨_, ⟨h1, _⟩ | ⟨h1, id, off, cap, c, es, rfl, _, _, h4, h5, h6, h7⟩⟩ := hy
        · omega
        · have hes : es = esz := by rw [h5] at hl; exact Nat.eq_of_mul_eq_mul_left h1 hl
          subst hes
          exact ⟨_, by simp [moreV, h0, rowS h (look_up h4) h6], RVL_up (by omega) (Nat.le_refl _) h7⟩
      · cases hm

end
end Go.RI

/- RI, part TE: append, maps, copy, and all operations that are no call, at both levels. Conditions: none. -/
namespace Go.RI
open Go
set_option linter.unusedSimpArgs false
set_option linter.unusedVariables false

section
variable {G : AHeap} {ρ : Nat → Nat} {S T : Stab} {H A : AHeap} {e a : Env} {lo loA : Nat}

/-- Names that may be written stand for such. -/
def LoT (ρ : Nat → Nat) (H : AHeap) (lo loA : Nat) : Prop := ∀ i, i < H.next → lo ≤ i → loA ≤ ρ i

theorem appBT (h : TR G ρ S T H A) (hg : G.next ≤ lo) (hlo : LoT ρ H lo loA) {esz bytes n : Nat} {ys ys' : List AVal} {x x' v : AVal} (hx : RV ρ H.next S T x 2 x') (hys : RVL ρ H.next S T ys 2 ys') {H' : AHeap} (hs : appB lo H esz bytes n ys x = some (v, H')) :
    ∃ ρ' v' A', appB loA A esz bytes n ys' x' = some (v', A') ∧ TR G ρ' S T H' A' ∧ Mono ρ S H A ρ' S H' A' ∧ RV ρ' H'.next S T v 2 v' := by
  have hyl := RVL_len hys
  have same : appB loA A esz bytes n ys' x' = appB loA A esz bytes n ys' x' := rfl
  have push : ∀ {c c' : List AVal} {k : Nat}, RVL ρ H.next S T c 2 c' → ∀ {r : Option (AVal × AHeap)}, r = some (.sl A.next 0 k none, A.push (.cells c' esz false)) →
      ∃ ρ' v' A', r = some (v', A') ∧ TR G ρ' S T (H.push (.cells c esz false)) A' ∧ Mono ρ S H A ρ' S (H.push (.cells c esz false)) A' ∧ RV ρ' (H.push (.cells c esz false)).next S T (.sl H.next 0 k none) 2 v' := by
    intro c c' k hcc r hr
    obtain ⟨h1, h2⟩ := pushT (esz := esz) h hcc
    exact ⟨_, _, _, hr, h1, h2, newSl⟩
  have back : ∀ {r : Option (AVal × AHeap)} {v : AVal} {H' : AHeap}, (∃ ρ' v' A', r = some (v', A') ∧ TR G ρ' S T H' A' ∧ Mono ρ S H A ρ' S H' A' ∧ RV ρ' H'.next S T v 2 v') → appB loA A esz bytes n ys' x' = r →
      ∃ ρ' v' A', appB loA A esz bytes n ys' x' = some (v', A') ∧ TR G ρ' S T H' A' ∧ Mono ρ S H A ρ' S H' A' ∧ RV ρ' H'.next S T v 2 v' := by
    rintro r v H' ⟨ρ', v', A', h1, h2⟩ h3
    exact ⟨ρ', v', A', h3.trans h1, h2⟩
  cases x <;> simp only [appB] at hs <;> try (cases hs; done)
  case ns =>
    simp only [RV] at hx
    subst hx
    split at hs
    · rename_i h0; cases hs
      exact back ⟨ρ, .ns, A, rfl, h, Mono.refl _ _ _ _, by simp only [RV]⟩ (by simp only [appB]; rw [if_pos h0])
    · rename_i h0
      split at hs
      · rename_i hb; cases hs
        exact back (push hys rfl) (by simp only [appB]; rw [if_neg h0, if_pos hb])
      · cases hs
  case es ad =>
    simp only [RV] at hx
    subst hx
    split at hs
    · rename_i h0; cases hs
      exact back ⟨ρ, .es ad, A, rfl, h, Mono.refl _ _ _ _, by simp only [RV]⟩ (by simp only [appB]; rw [if_pos h0])
    · rename_i h0
      split at hs
      · rename_i hb; cases hs
        exact back (push hys rfl) (by simp only [appB]; rw [if_neg h0, if_pos hb])
      · cases hs
  case sl id off len cap =>
    have hx0 := hx
    simp only [RV] at hx
    obtain ⟨_, hid, rfl⟩ := hx
    split at hs
    · rename_i h0
      cases cap with
      | some c =>
        simp only at hs
        split at hs
        · rename_i hlc; cases hs
          exact back ⟨ρ, _, A, rfl, h, Mono.refl _ _ _ _, hx0⟩ (by simp only [appB]; rw [if_pos h0, if_pos hlc])
        · cases hs
      | none =>
        simp only at hs
        cases hs
        exact back ⟨ρ, _, A, rfl, h, Mono.refl _ _ _ _, hx0⟩ (by simp only [appB]; rw [if_pos h0])
    · rename_i h0
      cases cap with
      | some c =>
        simp only at hs
        split at hs
        · rename_i hfit
          split at hs
          · rename_i hle
            split at hs
            · rename_i cs esz' ro hgt
              split at hs
              · rename_i hcc
                obtain ⟨rfl, hoff⟩ := hcc
                cases hs
                obtain ⟨cs', h4, h5⟩ := cellsT h hid hgt
                have hl := RVL_len h5
                obtain ⟨g1, g2⟩ := h.set hid (Nat.le_trans hg hle) hgt rfl (o := some (.cells (putCells cs (off + len * esz) ys) esz' false)) (o' := some (.cells (putCells cs' (off + len * esz) ys') esz' false))
                  (fun x hx => by cases hx; exact ⟨_, rfl, RO_cells (RVL_putCells _ h5 hys)⟩)
                exact back ⟨ρ, _, _, rfl, g1, g2, RV_sl hid⟩ (same.trans (by
                  simp only [appB]
                  rw [if_neg h0, if_pos hfit, if_pos (hlo id hid hle), h4]
                  simp only
                  rw [if_pos ⟨trivial, by rw [hl]; exact hoff⟩]))
              · cases hs
            · cases hs
          · cases hs
        · rename_i hfit
          split at hs
          · rename_i hb
            split at hs
            · rename_i hl0; cases hs
              exact back (push hys rfl) (by simp only [appB]; rw [if_neg h0, if_neg hfit, if_pos hb, if_pos hl0])
            · rename_i hl0
              split at hs
              · rename_i xs hxs
                cases hs
                obtain ⟨xs', h1, h2⟩ := rowT h hid hxs
                exact back (push (RVL_append h2 hys) rfl) (by simp only [appB]; rw [if_neg h0, if_neg hfit, if_pos hb, if_neg hl0, h1])
              · cases hs
          · cases hs
      | none =>
        simp only at hs
        split at hs
        · rename_i hcc
          split at hs
          · rename_i cs esz' ro hgt
            split at hs
            · rename_i hc3
              obtain ⟨rfl, rfl, hoff⟩ := hc3
              cases hs
              obtain ⟨cs', h4, h5⟩ := cellsT h hid hgt
              have hl := RVL_len h5
              obtain ⟨g1, g2⟩ := h.set hid (Nat.le_trans hg hcc.1) hgt rfl (o := none) (o' := none) (fun x hx => by cases hx)
              have hnew : RVL ρ (H.put id none).next S T ((cs.drop off).take (len * esz') ++ ys) 2 ((cs'.drop off).take (len * esz') ++ ys') := RVL_append (RVL_take (RVL_drop h5 _) _) hys
              obtain ⟨k1, k2⟩ := pushT (esz := esz') g1 hnew
              exact back ⟨_, _, _, rfl, k1, g2.trans k2, newSl⟩ (same.trans (by
                simp only [appB]
                rw [if_neg h0, if_pos ⟨hlo id hid hcc.1, hcc.2⟩, h4]
                simp only
                rw [if_pos ⟨trivial, trivial, by rw [hl]; exact hoff⟩]
                rfl))
            · cases hs
          · cases hs
        · cases hs
  case fs tmp full len l =>
    have hx0 := hx
    simp only [RV] at hx
    split at hs
    · rename_i h0
      cases hs
      obtain ⟨hk, ⟨_, _, rfl | ⟨ad, rfl⟩ | ⟨id, off, cap, rfl, hcap⟩⟩ | ⟨h1, id, off, cap, c, es, rfl, _, hcap, _⟩⟩ := hx
      · exact back ⟨ρ, _, A, rfl, h, Mono.refl _ _ _ _, hx0⟩ (by simp only [appB]; rw [if_pos h0])
      · exact back ⟨ρ, _, A, rfl, h, Mono.refl _ _ _ _, hx0⟩ (by simp only [appB]; rw [if_pos h0])
      · refine back ⟨ρ, _, A, rfl, h, Mono.refl _ _ _ _, hx0⟩ (same.trans ?_)
        simp only [appB]; rw [if_pos h0]
        cases cap <;> simp
      · refine back ⟨ρ, _, A, rfl, h, Mono.refl _ _ _ _, hx0⟩ (same.trans ?_)
        simp only [appB]; rw [if_pos h0]
        cases cap with
        | none => rfl
        | some k => simp only; rw [if_pos (hcap k rfl)]
    · rename_i h0
      split at hs
      · rename_i hc3
        obtain ⟨rfl, hll, hb⟩ := hc3
        cases hs
        obtain ⟨hk, ⟨rfl, rfl, rfl | ⟨ad, rfl⟩ | ⟨id, off, cap, rfl, hcap⟩⟩ | ⟨h1, id, off, cap, c, es, rfl, hfull, hcap, h4, h5, h6, h7⟩⟩ := hx
        · have := push (k := 0 + n) (c := [] ++ ys) (c' := [] ++ ys') (by simpa using hys) rfl
          refine back this (same.trans ?_)
          simp only [appB]
          rw [if_neg h0, if_pos (by simpa using hb)]
          simp
        · have := push (k := 0 + n) (c := [] ++ ys) (c' := [] ++ ys') (by simpa using hys) rfl
          refine back this (same.trans ?_)
          simp only [appB]
          rw [if_neg h0, if_pos (by simpa using hb)]
          simp
        · have hcap0 := hcap rfl
          subst hcap0
          have := push (k := 0 + n) (c := [] ++ ys) (c' := [] ++ ys') (by simpa using hys) rfl
          refine back this (same.trans ?_)
          simp only [appB]
          rw [if_neg h0, if_neg (by omega), if_pos hb, if_pos trivial]
          simp
        · have hcap1 := hfull rfl
          subst hcap1
          have hes : es = esz := by rw [h5] at hll; exact Nat.eq_of_mul_eq_mul_left h1 hll
          subst hes
          have := push (k := len + n) (RVL_append (RVL_up (by omega) (Nat.le_refl _) h7) hys) rfl
          refine back this (same.trans ?_)
          simp only [appB]
          rw [if_neg h0, if_neg (by omega), if_pos hb, if_neg (by omega), rowS h (look_up h4) h6]
      · cases hs

/-! ### Maps -/
theorem appT (h : TR G ρ S T H A) (hg : G.next ≤ lo) (hlo : LoT ρ H lo loA) {esz bytes : Nat} {x x' y y' v : AVal} (hx : RV ρ H.next S T x 2 x') (hy : RV ρ H.next S T y 2 y') {H' : AHeap} (hs : appV lo H esz bytes x y = some (v, H')) :
    ∃ ρ' v' A', appV loA A esz bytes x' y' = some (v', A') ∧ TR G ρ' S T H' A' ∧ Mono ρ S H A ρ' S H' A' ∧ RV ρ' H'.next S T v 2 v' := by
  have hs0 := hs
  unfold appV at hs
  split at hs
  · cases hs
  rename_i n ys hmore
  obtain ⟨ys', hm', hys⟩ := moreT h hy hmore
  have hyl := RVL_len hys
  split at hs
  case isFalse => cases hs
  rename_i hc
  have hc' : ys'.length = n * esz ∧ 0 < esz ∧ 0 < bytes := ⟨by rw [hyl]; exact hc.1, hc.2⟩
  rw [appV_eq hm' hc']
  rw [appV_eq hmore hc] at hs0
  exact appBT h hg hlo hx hys hs0

theorem appzT (h : TR G ρ S T H A) (hg : G.next ≤ lo) (hlo : LoT ρ H lo loA) {esz bytes : Nat} {z : List AVal} {k : Int} {x x' v : AVal} (hz : RVL ρ H.next S T z 2 z) (hx : RV ρ H.next S T x 2 x') {H' : AHeap} (hs : appzV lo H esz bytes z x k = some (v, H')) :
    ∃ ρ' v' A', appzV loA A esz bytes z x' k = some (v', A') ∧ TR G ρ' S T H' A' ∧ Mono ρ S H A ρ' S H' A' ∧ RV ρ' H'.next S T v 2 v' := by
  unfold appzV at hs ⊢
  split at hs
  · rename_i hc
    rw [if_pos hc]
    exact appBT h hg hlo hx (RVL_rep hz _) hs
  · cases hs

theorem keyCT {N : Nat} {ag : Bool} {k k' : AVal} {kc : List AVal} (hk : RV ρ N S T k 2 k') (h : keyC ag k = some kc) : ∃ kc', keyC ag k' = some kc' ∧ RVL ρ N S T kc 2 kc' := by
  cases ag
  · have := keyC_false h; subst this
    refine ⟨[k'], ?_, RVL_one hk⟩
    cases k <;> simp only [keyC, Bool.false_eq_true, if_false] at h <;> (try (cases h; done)) <;> simp only [RV] at hk
    case fs => obtain ⟨_, ⟨_, _, rfl | ⟨_, rfl⟩ | ⟨_, _, _, rfl, _⟩⟩ | ⟨_, _, _, _, _, _, rfl, _⟩⟩ := hk <;> rfl
    case fp => obtain ⟨_, _, _, _, _, rfl, _⟩ := hk; rfl
    case p => obtain ⟨_, _, rfl⟩ := hk; rfl
    case sl => obtain ⟨_, _, rfl⟩ := hk; rfl
    case m => obtain ⟨_, _, rfl⟩ := hk; rfl
    case fn => obtain ⟨_, _, rfl, _⟩ := hk; rfl
    case ifc => obtain ⟨_, rfl, _⟩ := hk; rfl
    all_goals subst hk; rfl
  · have := keyC_true h; subst this
    simp only [RV] at hk
    obtain ⟨l', rfl, h2⟩ := hk
    exact ⟨l', rfl, h2⟩

theorem findT {N : Nat} {ag : Bool} {ks : List Nat} {kc : List AVal} : ∀ {es es' : List (AVal × AVal)} {i : Nat} {r : Option (Nat × AVal)}, REs ρ N S T es es' → findA ag ks kc es i = some r →
    ∃ r', findA ag ks kc es' i = some r' ∧ match r, r' with | some (j, v), some (j', v') => j' = j ∧ RV ρ N S T v 2 v' | none, none => True | _, _ => False := by
  intro es
  induction es with
  | nil => intro es' i r h hf; simp only [REs] at h; subst h; simp only [findA, Option.some.injEq] at hf; subst hf; exact ⟨none, rfl, trivial⟩
  | cons x es ih =>
    obtain ⟨k, v⟩ := x
    intro es' i r h hf
    obtain ⟨k', v', es2, rfl, h1, h2, h3⟩ := h
    simp only [findA] at hf ⊢
    split at hf
    · rename_i c hc
      obtain ⟨c', hc', hcc⟩ := keyCT h1 hc
      rw [hc']
      simp only
      have hkc : ∀ b, eqCells ks kc c = some b → c' = c := by
        intro b hb
        have : ∀ {ks : List Nat} {x y y' : List AVal} {b : Bool}, eqCells ks x y = some b → RVL ρ N S T y 2 y' → y' = y := by
          intro ks
          induction ks with
          | nil => intro x y y' b h g; cases x <;> cases y <;> simp [eqCells] at h; simpa [RVL] using g
          | cons q ks ih =>
            intro x y y' b h g
            obtain ⟨u, x1, w, y1, rfl, rfl⟩ := eqCells_step h
            simp only [RVL] at g
            obtain ⟨w', y2, rfl, hw, g⟩ := g
            obtain ⟨r', hr⟩ := eqCells_tail h
            have e2 := ih hr g
            have : w' = w := by
              match q, h with
              | 0, h => cases u <;> cases w <;> simp only [eqCells] at h <;> (try (cases h; done)); exact boolT hw
              | 1, h => cases u <;> cases w <;> simp only [eqCells] at h <;> (try (cases h; done)); exact intT hw
              | 2, h => cases u <;> cases w <;> simp only [eqCells] at h <;> (try (cases h; done)); exact strT hw
              | q + 3, h => unfold eqCells at h; cases h
            rw [this, e2]
        exact this hb hcc
      split at hf
      · rename_i he
        simp only [Option.some.injEq] at hf; subst hf
        rw [hkc _ he, he]
        exact ⟨some (i, v'), rfl, rfl, h2⟩
      · rename_i he
        rw [hkc _ he, he]
        exact ih h3 hf
      · cases hf
    · cases hf

theorem mapEsT (h : TR G ρ S T H A) {m m' : AVal} (hm : RV ρ H.next S T m 2 m') {es : List (AVal × AVal)} (he : mapEs H m = some es) : ∃ es', mapEs A m' = some es' ∧ REs ρ H.next S T es es' := by
  cases m <;> simp only [mapEs] at he <;> (try (cases he; done)) <;> simp only [RV] at hm
  case nm => cases he; subst hm; exact ⟨[], rfl, by simp [REs]⟩
  case m =>
    obtain ⟨_, hid, rfl⟩ := hm
    split at he
    · rename_i es' hg
      cases he
      obtain ⟨o', h1, es2, rfl, h2⟩ := h.obj _ _ hid hg
      exact ⟨es2, by simp only [mapEs, h1], h2⟩
    · cases he

theorem lookT (h : TR G ρ S T H A) {ag : Bool} {ks : List Nat} {z : AVal} (hz : noId z = true) {okf : Bool} {m m' k k' v : AVal} (hm : RV ρ H.next S T m 2 m') (hk : RV ρ H.next S T k 2 k') (hv : lookV H ag ks z okf m k = some v) :
    ∃ v', lookV A ag ks z okf m' k' = some v' ∧ RV ρ H.next S T v 2 v' := by
  unfold lookV at hv
  split at hv
  · rename_i es hes
    obtain ⟨es', h1, h2⟩ := mapEsT h hm hes
    split at hv
    · rename_i kc hkc
      obtain ⟨kc', h3, h4⟩ := keyCT hk hkc
      split at hv
      · rename_i hsh
        have hkk : kc' = kc := (eqCellsT h4 h4 hsh).1
        subst hkk
        have base : lookV A ag ks z okf m' k' = (match findA ag ks kc' es' 0 with
            | some (some (_, v)) => some (if okf then .tu [v, .b true] else v)
            | some none => some (if okf then .tu [z, .b false] else z)
            | none => none) := by
          unfold lookV
          rw [h1, h3]
          simp only
          rw [if_pos hsh]
          rcases findA ag ks kc' es' 0 with _ | _ | ⟨_, _⟩ <;> rfl
        rw [base]
        split at hv
        · rename_i j w hf
          obtain ⟨r', h5, h6⟩ := findT h2 hf
          rw [h5]
          cases r' with
          | none => exact h6.elim
          | some p =>
            obtain ⟨j', w'⟩ := p
            obtain ⟨_, h6⟩ := h6
            simp only [Option.some.injEq] at hv; subst hv
            cases okf
            · exact ⟨w', rfl, h6⟩
            · exact ⟨_, rfl, RV_tu (RVL_cons h6 (RVL_one RV_b))⟩
        · rename_i hf
          obtain ⟨r', h5, h6⟩ := findT h2 hf
          rw [h5]
          cases r' with
          | some p => exact h6.elim
          | none =>
            simp only [Option.some.injEq] at hv; subst hv
            cases okf
            · exact ⟨z, rfl, RV_noId _ hz⟩
            · exact ⟨_, rfl, RV_tu (RVL_cons (RV_noId _ hz) (RVL_one RV_b))⟩
        · cases hv
      · cases hv
    · cases hv
  · cases hv

theorem REs_set {N : Nat} : ∀ {es es' : List (AVal × AVal)} {i : Nat} {k k' v v' : AVal}, REs ρ N S T es es' → RV ρ N S T k 2 k' → RV ρ N S T v 2 v' → REs ρ N S T (es.set i (k, v)) (es'.set i (k', v')) := by
  intro es
  induction es with
  | nil => intro es' i k k' v v' h _ _; simp only [REs] at h; subst h; simp [REs]
  | cons x es ih =>
    obtain ⟨p, q⟩ := x
    intro es' i k k' v v' h hk hv
    obtain ⟨p', q', r, rfl, h1, h2, h3⟩ := h
    cases i with
    | zero => exact ⟨k', v', r, rfl, hk, hv, h3⟩
    | succ i => exact ⟨p', q', _, rfl, h1, h2, ih h3 hk hv⟩
theorem REs_app {N : Nat} : ∀ {es es' : List (AVal × AVal)} {k k' v v' : AVal}, REs ρ N S T es es' → RV ρ N S T k 2 k' → RV ρ N S T v 2 v' → REs ρ N S T (es ++ [(k, v)]) (es' ++ [(k', v')]) := by
  intro es
  induction es with
  | nil => intro es' k k' v v' h hk hv; simp only [REs] at h; subst h; exact ⟨k', v', [], rfl, hk, hv, rfl⟩
  | cons x es ih =>
    obtain ⟨p, q⟩ := x
    intro es' k k' v v' h hk hv
    obtain ⟨p', q', r, rfl, h1, h2, h3⟩ := h
    exact ⟨p', q', _, rfl, h1, h2, ih h3 hk hv⟩

theorem mapupT (h : TR G ρ S T H A) (hg : G.next ≤ lo) (hlo : LoT ρ H lo loA) {ag : Bool} {ks : List Nat} {m m' k k' v v' : AVal} (hm : RV ρ H.next S T m 2 m') (hk : RV ρ H.next S T k 2 k') (hv : RV ρ H.next S T v 2 v') {H' : AHeap} (hs : mapupV lo H ag ks k v m = some H') :
    ∃ A', mapupV loA A ag ks k' v' m' = some A' ∧ TR G ρ S T H' A' ∧ Mono ρ S H A ρ S H' A' := by
  cases m <;> simp only [mapupV] at hs <;> try (cases hs; done)
  rename_i id
  simp only [RV] at hm
  obtain ⟨_, hid, rfl⟩ := hm
  split at hs
  · rename_i hc
    split at hs
    · rename_i es hgt
      obtain ⟨o', h1, es', rfl, h2⟩ := h.obj _ _ hid hgt
      split at hs
      · rename_i kc hkc
        obtain ⟨kc', h3, h4⟩ := keyCT hk hkc
        split at hs
        · rename_i hsh
          have hkk : kc' = kc := (eqCellsT h4 h4 hsh).1
          subst hkk
          have base : mapupV loA A ag ks k' v' (.m (ρ id)) = (match findA ag ks kc' es' 0 with
              | some (some (i, _)) => some (A.put (ρ id) (some (.map (es'.set i (k', v')))))
              | some none => some (A.put (ρ id) (some (.map (es' ++ [(k', v')]))))
              | none => none) := by
            simp only [mapupV]
            rw [if_pos ⟨hlo id hid hc.1, by rw [RV_tup hv]; exact hc.2⟩, h1]
            simp only
            rw [h3]
            simp only
            rw [if_pos hsh]
            rcases findA ag ks kc' es' 0 with _ | _ | ⟨_, _⟩ <;> rfl
          rw [base]
          split at hs
          · rename_i i w hf
            cases hs
            obtain ⟨r', h5, h6⟩ := findT h2 hf
            rw [h5]
            cases r' with
            | none => exact h6.elim
            | some p =>
              obtain ⟨j', w'⟩ := p
              obtain ⟨rfl, _⟩ := h6
              obtain ⟨g1, g2⟩ := h.set hid (Nat.le_trans hg hc.1) hgt rfl (o := some (.map (es.set j' (k, v)))) (o' := some (.map (es'.set j' (k', v')))) (fun x hx => by cases hx; exact ⟨_, rfl, _, rfl, REs_set h2 hk hv⟩)
              exact ⟨_, rfl, g1, g2⟩
          · rename_i hf
            cases hs
            obtain ⟨r', h5, h6⟩ := findT h2 hf
            rw [h5]
            cases r' with
            | some p => exact h6.elim
            | none =>
              obtain ⟨g1, g2⟩ := h.set hid (Nat.le_trans hg hc.1) hgt rfl (o := some (.map (es ++ [(k, v)]))) (o' := some (.map (es' ++ [(k', v')]))) (fun x hx => by cases hx; exact ⟨_, rfl, _, rfl, REs_app h2 hk hv⟩)
              exact ⟨_, rfl, g1, g2⟩
          · cases hs
        · cases hs
      · cases hs
    · cases hs
  · cases hs

/-! ### copy -/
theorem srcLenT {N : Nat} {y y' : AVal} {n : Nat} (hy : RV ρ N S T y 2 y') (h : srcLen y = some n) : srcLen y' = some n := by
  cases y <;> simp only [srcLen] at h <;> (try (cases h; done)) <;> simp only [RV] at hy
  case s => subst hy; exact h
  case ns => subst hy; exact h
  case es => subst hy; exact h
  case sl => obtain ⟨_, _, rfl⟩ := hy; exact h
  case fs => cases h; obtain ⟨_, ⟨rfl, _, rfl | ⟨_, rfl⟩ | ⟨_, _, _, rfl, _⟩⟩ | ⟨_, _, _, _, _, _, rfl, _⟩⟩ := hy <;> rfl

theorem srcCellsT (h : TR G ρ S T H A) {esz n m : Nat} {y y' : AVal} {ys : List AVal} (hy : RV ρ H.next S T y 2 y') (hm : srcLen y = some m) (hn : n ≤ m) (hn0 : 0 < n) (hs : srcCells H esz n y = some ys) : ∃ ys', srcCells A esz n y' = some ys' ∧ RVL ρ H.next S T ys 2 ys' := by
  cases y <;> simp only [srcCells] at hs <;> try (cases hs; done)
  case s v => cases hs; rw [strT hy]; exact ⟨_, rfl, RVL_bytes _⟩
  case sl id off len cap =>
    simp only [RV] at hy
    obtain ⟨_, hid, rfl⟩ := hy
    exact rowT h hid hs
  case fs tmp full len l =>
    simp only [RV] at hy
    simp only [srcLen, Option.some.injEq] at hm
    subst hm
    split at hs
    · rename_i hl
      cases hs
      obtain ⟨_, ⟨h1, _⟩ | ⟨h1, id, off, cap, c, es, rfl, _, _, h4, h5, h6, h7⟩⟩ := hy
      · omega
      · have hes : es = esz := by rw [h5] at hl; exact Nat.eq_of_mul_eq_mul_left h1 hl
        subst hes
        have hle : n * es ≤ len * es := Nat.mul_le_mul_right _ hn
        refine ⟨_, by simp only [srcCells]; exact rowS h (look_up h4) (by omega), ?_⟩
        have := RVL_take (RVL_up (k := 2) (by omega) (Nat.le_refl _) h7) (n * es)
        rw [List.take_take, Nat.min_eq_left hle] at this
        exact this
    · cases hs

theorem cpyT (h : TR G ρ S T H A) (hg : G.next ≤ lo) (hlo : LoT ρ H lo loA) {esz : Nat} {x x' y y' v : AVal} (hx : RV ρ H.next S T x 2 x') (hy : RV ρ H.next S T y 2 y') {H' : AHeap} (hs : cpyV lo H esz x y = some (v, H')) :
    ∃ A', cpyV loA A esz x' y' = some (v, A') ∧ TR G ρ S T H' A' ∧ Mono ρ S H A ρ S H' A' ∧ noId v = true := by
  unfold cpyV at hs
  split at hs
  · cases hs
  · rename_i m hm
    have hm' := srcLenT hy hm
    cases x <;> simp only at hs <;> try (cases hs; done)
    case ns =>
      cases hs
      simp only [RV] at hx
      subst hx
      exact ⟨A, by unfold cpyV; rw [hm'], h, Mono.refl _ _ _ _, rfl⟩
    case es ad =>
      cases hs
      simp only [RV] at hx
      subst hx
      exact ⟨A, by unfold cpyV; rw [hm'], h, Mono.refl _ _ _ _, rfl⟩
    case sl id off len cap =>
      simp only [RV] at hx
      obtain ⟨_, hid, rfl⟩ := hx
      split at hs
      · rename_i h0
        cases hs
        exact ⟨A, by unfold cpyV; rw [hm']; simp only; rw [if_pos h0], h, Mono.refl _ _ _ _, rfl⟩
      · rename_i h0
        split at hs
        · cases hs
        · rename_i ys hys
          obtain ⟨ys', h1, h2⟩ := srcCellsT h hy hm (Nat.min_le_left _ _) (Nat.pos_of_ne_zero h0) hys
          have hyl := RVL_len h2
          split at hs
          · rename_i hle
            split at hs
            · rename_i cs esz' ro hgt
              split at hs
              · rename_i hc
                obtain ⟨rfl, c1, c2⟩ := hc
                cases hs
                obtain ⟨cs', h4, h5⟩ := cellsT h hid hgt
                have hl := RVL_len h5
                obtain ⟨g1, g2⟩ := h.set hid (Nat.le_trans hg hle) hgt rfl (o := some (.cells (putCells cs off ys) esz' false)) (o' := some (.cells (putCells cs' off ys') esz' false)) (fun x hx => by cases hx; exact ⟨_, rfl, RO_cells (RVL_putCells off h5 h2)⟩)
                refine ⟨_, ?_, g1, g2, rfl⟩
                unfold cpyV
                rw [hm']
                simp only
                rw [if_neg h0, h1]
                simp only
                rw [if_pos (hlo id hid hle), h4]
                simp only
                rw [if_pos ⟨trivial, by rw [hyl]; exact c1, by rw [hl]; exact c2⟩]
              · cases hs
            · cases hs
          · cases hs
end
end Go.RI

/- RI, part TF: all operations that are no call, at both levels. Conditions: none. -/
namespace Go.RI
open Go
set_option linter.unusedSimpArgs false
set_option linter.unusedVariables false

section
variable {G : AHeap} {ρ : Nat → Nat} {S T : Stab} {H A : AHeap} {e a : Env} {lo loA : Nat}

theorem slT_sim (h : TR G ρ S T H A) (he : ER ρ H.next S T e a) {esz : Nat} {x : Opd} {l hh m : Option Opd} (hc : (IOp.sl esz x l hh m).ck G.next = true) {v : Option AVal} {H' : AHeap} (hs : aop lo (.sl esz x l hh m) e H = some (v, H')) : SimT G ρ S T H A (aop loA (.sl esz x l hh m) a A) v H' := by
  simp only [IOp.ck, Bool.and_eq_true] at hc
  simp only [aop] at hs ⊢
  split at hs
  · rename_i u l1 h1 m1 hu hl1 hh1 hm1
    rw [Option.map_eq_some_iff] at hs
    obtain ⟨⟨z, H1⟩, hz, hee⟩ := hs
    cases hee
    obtain ⟨u', e1, e2⟩ := opdT h he hc.1 hu
    rw [e1, optT h he hc.2.1 hl1, optT h he hc.2.2.1 hh1, optT h he hc.2.2.2 hm1]
    obtain ⟨ρ', w', A', k1, k2, k3, k4, _⟩ := slT h e2 hz
    exact ⟨ρ', some w', A', by simp [k1], k2, k3, k4⟩
  · cases hs

theorem dynS_T {N : Nat} {v u : AVal} {l hh m : Option Nat} (hv : RV ρ N S T v 2 u) (hd : dynS v l hh m = true) : dynS u l hh m = true := by
  unfold dynS at hd
  split at hd
  · simp only [RV] at hv
    obtain ⟨_, _, rfl⟩ := hv
    exact hd
  · cases hd

theorem slqT_sim (h : TR G ρ S T H A) (he : ER ρ H.next S T e a) {esz : Nat} {x : Opd} {l hh m : Option Opd} (hc : (IOp.slq esz x l hh m).ck G.next = true) {v : Option AVal} {H' : AHeap} (hs : aop lo (.slq esz x l hh m) e H = some (v, H')) : SimT G ρ S T H A (aop loA (.slq esz x l hh m) a A) v H' := by
  simp only [IOp.ck, Bool.and_eq_true] at hc
  simp only [aop] at hs ⊢
  split at hs
  · rename_i u l1 h1 m1 hu hl1 hh1 hm1
    split at hs
    · rename_i z H1 hz
      split at hs
      · rename_i hn
        cases hs
        obtain ⟨u', e1, e2⟩ := opdT h he hc.1 hu
        rw [e1, optT h he hc.2.1 hl1, optT h he hc.2.2.1 hh1, optT h he hc.2.2.2 hm1]
        obtain ⟨ρ', w', A', k1, k2, k3, k4, k5⟩ := slT h e2 hz
        obtain ⟨e3, e4, e5⟩ := k5 hn.1 hn.2
        subst e3; subst e4
        simp only [k1]
        refine ⟨ρ', some w', A', by simp [e5], h, Mono.refl _ _ _ _, ?_⟩
        rw [hn.1] at k4
        exact k4
      · split at hs
        · rename_i hdy
          cases hs
          obtain ⟨u', e1, e2⟩ := opdT h he hc.1 hu
          rw [e1, optT h he hc.2.1 hl1, optT h he hc.2.2.1 hh1, optT h he hc.2.2.2 hm1]
          obtain ⟨ρ', w', A', k1, k2, k3, k4, _⟩ := slT h e2 hz
          have hdy' := dynS_T e2 hdy
          obtain ⟨g1, _⟩ := dynS_slV hdy' k1
          simp only [k1]
          refine ⟨ρ', some w', A', ?_, k2, k3, k4⟩
          have hnx : ¬ (A'.next = A.next) := by
            have : A' = ghostH A := congrArg Prod.snd g1
            rw [this]; intro h; have : A.next + 1 = A.next := h; omega
          rw [if_neg (fun h => hnx h.1), if_pos hdy']
        · cases hs
    · cases hs
  · cases hs

theorem aopT (h : TR G ρ S T H A) (hg : G.next ≤ lo) (hlo : LoT ρ H lo loA) (he : ER ρ H.next S T e a) {o : IOp} (hc : o.ck G.next = true) {v : Option AVal} {H' : AHeap} (hs : aop lo o e H = some (v, H')) : SimT G ρ S T H A (aop loA o a A) v H' := by
  cases o
  case sl esz x l hh m => exact slT_sim h he hc hs
  case slq esz x l hh m => exact slqT_sim h he hc hs
  all_goals simp only [IOp.ck, Bool.and_eq_true] at hc
  case bad => simp [aop] at hs
  case call f l => simp [aop] at hs
  case callv x l => simp [aop] at hs
  case inv x tbl l => simp [aop] at hs
  case mov x =>
    simp only [aop, Option.map_eq_some_iff] at hs ⊢
    obtain ⟨u, hu, hee⟩ := hs; cases hee
    obtain ⟨u', e1, e2⟩ := opdT h he hc hu
    exact simT_val h (by simp [e1]) e2
  case pick c x y =>
    simp only [aop] at hs ⊢
    split at hs
    · rename_i hcv
      simp only [Option.map_eq_some_iff] at hs
      obtain ⟨u, hu, hee⟩ := hs; cases hee
      obtain ⟨c', e1, e2⟩ := opdT h he hc.1 hcv
      obtain ⟨u', e3, e4⟩ := opdT h he hc.2.1 hu
      rw [e1, boolT e2]
      exact simT_val h (by simp [e3]) e4
    · rename_i hcv
      simp only [Option.map_eq_some_iff] at hs
      obtain ⟨u, hu, hee⟩ := hs; cases hee
      obtain ⟨c', e1, e2⟩ := opdT h he hc.1 hcv
      obtain ⟨u', e3, e4⟩ := opdT h he hc.2.2 hu
      rw [e1, boolT e2]
      exact simT_val h (by simp [e3]) e4
    · cases hs
  case bin op x y =>
    simp only [aop] at hs ⊢
    split at hs
    · rename_i u1 u2 h1 h2
      simp only [Option.map_eq_some_iff] at hs
      obtain ⟨w, hw, hee⟩ := hs; cases hee
      obtain ⟨x', e1, e2⟩ := opdT h he hc.1 h1
      obtain ⟨y', e3, e4⟩ := opdT h he hc.2 h2
      obtain ⟨e5, e6⟩ := binT e2 e4 hw
      rw [e1, e3]
      exact simT_val h (by simp [e5]) (RV_noId _ e6)
    · cases hs
  case eqB neg x y =>
    simp only [aop] at hs ⊢
    split at hs
    · rename_i u1 u2 h1 h2
      cases hs
      obtain ⟨x', e1, e2⟩ := opdT h he hc.1 h1
      obtain ⟨y', e3, e4⟩ := opdT h he hc.2 h2
      rw [e1, e3, boolT e2, boolT e4]
      exact simT_val h rfl RV_b
    · cases hs
  case eqNil k neg x y =>
    simp only [aop] at hs ⊢
    split at hs
    · rename_i u1 u2 h1 h2
      simp only [Option.map_map, Option.map_eq_some_iff] at hs
      obtain ⟨w, hw, hee⟩ := hs; cases hee
      obtain ⟨x', e1, e2⟩ := opdT h he hc.1 h1
      obtain ⟨y', e3, e4⟩ := opdT h he hc.2 h2
      have : eqNilV k x' y' = some w := by
        unfold eqNilV at hw ⊢
        split at hw
        · rename_i hn1 hn2; rw [nilT e2 hn1, nilT e4 hn2]; exact hw
        · rename_i hn1 hn2; rw [nilT e2 hn1, nilT e4 hn2]; exact hw
        · cases hw
      rw [e1, e3]
      exact simT_val h (by simp [this]) RV_b
    · cases hs
  case eqAg ks neg x y =>
    simp only [aop] at hs ⊢
    split at hs
    · rename_i u1 u2 h1 h2
      simp only [Option.map_map, Option.map_eq_some_iff] at hs
      obtain ⟨w, hw, hee⟩ := hs; cases hee
      obtain ⟨x', e1, e2⟩ := opdT h he hc.1 h1
      obtain ⟨y', e3, e4⟩ := opdT h he hc.2 h2
      simp only [RV] at e2 e4
      obtain ⟨l1, rfl, e2⟩ := e2
      obtain ⟨l2, rfl, e4⟩ := e4
      obtain ⟨k1, k2⟩ := eqCellsT e2 e4 hw
      subst k1; subst k2
      rw [e1, e3]
      exact simT_val h (by simp [hw]) RV_b
    · cases hs
  case un op x =>
    simp only [aop, Option.map_eq_some_iff, Option.bind_eq_some_iff] at hs ⊢
    obtain ⟨w, ⟨u, hu, hw⟩, hee⟩ := hs; cases hee
    obtain ⟨x', e1, e2⟩ := opdT h he hc hu
    obtain ⟨e5, e6⟩ := unT e2 hw
    exact simT_val h (by simp [e1, e5]) (RV_noId _ e6)
  case conv k x =>
    simp only [aop] at hs ⊢
    split at hs
    · rename_i q n hu
      cases hs
      obtain ⟨x', e1, e2⟩ := opdT h he hc hu
      rw [e1, intT e2]
      exact simT_val h rfl RV_i
    · cases hs
  case same x =>
    simp only [aop] at hs ⊢
    split at hs
    · rename_i v hu
      cases hs
      obtain ⟨x', e1, e2⟩ := opdT h he hc hu
      rw [e1, strT e2]
      exact simT_val h rfl (RV_noId _ rfl)
    · cases hs
  case alloc z =>
    simp only [aop] at hs ⊢
    cases hs
    exact simT_push h (RV_noId.RVL_noId z hc) rfl newP
  case box x =>
    simp only [aop] at hs ⊢
    split at hs
    · rename_i v hu
      split at hs
      · rename_i ht
        cases hs
        obtain ⟨x', e1, e2⟩ := opdT h he hc hu
        rw [e1]
        simp only
        rw [if_pos (by rw [RV_tup e2]; exact ht)]
        exact simT_push h (RV_cells e2) rfl newP
      · cases hs
    · cases hs
  case build z ps =>
    simp only [aop] at hs ⊢
    split at hs
    · rename_i vs hps
      simp only [Option.map_map, Option.map_eq_some_iff] at hs
      obtain ⟨cs, hcs, hee⟩ := hs; cases hee
      obtain ⟨us, e1, e2⟩ := partsT h he hc.2 hps
      obtain ⟨cs', e3, e4⟩ := fillT e2 (RV_noId.RVL_noId z hc.1) hcs
      rw [e1]
      exact simT_val h (by simp [e3]) (RV_ag e4)
    · cases hs
  case bsl esz len z ps =>
    simp only [aop] at hs ⊢
    split at hs
    · rename_i vs hps
      split at hs
      · rename_i cs hcs
        cases hs
        obtain ⟨us, e1, e2⟩ := partsT h he hc.2 hps
        obtain ⟨cs', e3, e4⟩ := fillT e2 (RV_noId.RVL_noId z hc.1) hcs
        rw [e1]
        simp only [e3]
        exact simT_push h e4 rfl newSl
      · cases hs
    · cases hs
  case load n x =>
    simp only [aop, Option.map_eq_some_iff, Option.bind_eq_some_iff] at hs ⊢
    obtain ⟨w, ⟨u, hu, hw⟩, hee⟩ := hs; cases hee
    obtain ⟨x', e1, e2⟩ := opdT h he hc hu
    obtain ⟨w', e3, e4⟩ := loadT h e2 hw
    exact simT_val h (by simp [e1, e3]) e4
  case store n x y =>
    simp only [aop] at hs ⊢
    split at hs
    · rename_i u1 u2 h1 h2
      simp only [Option.map_eq_some_iff] at hs
      obtain ⟨H1, hw, hee⟩ := hs; cases hee
      obtain ⟨x', e1, e2⟩ := opdT h he hc.1 h1
      obtain ⟨y', e3, e4⟩ := opdT h he hc.2 h2
      obtain ⟨A2, k4, k5, k6⟩ := storeT h e2 e4 (loA := loA) (lo := lo) hg hlo hw
      rw [e1, e3]
      exact ⟨ρ, none, A2, by simp [k4], k5, k6, trivial⟩
    · cases hs
  case nck x =>
    simp only [aop] at hs ⊢
    split at hs
    · rename_i id off hu
      cases hs
      obtain ⟨x', e1, e2⟩ := opdT h he hc hu
      have e2' := e2
      simp only [RV] at e2
      obtain ⟨_, _, rfl⟩ := e2
      rw [e1]
      exact simT_val h rfl e2'
    · rename_i f p q hu
      cases hs
      obtain ⟨x', e1, e2⟩ := opdT h he hc hu
      have e2' := e2
      simp only [RV] at e2
      obtain ⟨_, _, rfl, _⟩ := e2
      rw [e1]
      exact simT_val h rfl e2'
    · rename_i t u hu
      cases hs
      obtain ⟨x', e1, e2⟩ := opdT h he hc hu
      have e2' := e2
      simp only [RV] at e2
      obtain ⟨_, rfl, _⟩ := e2
      rw [e1]
      exact simT_val h rfl e2'
    · rename_i l hu
      cases hs
      obtain ⟨x', e1, e2⟩ := opdT h he hc hu
      have e2' := e2
      simp only [RV] at e2
      obtain ⟨_, _, _, _, _, rfl, _⟩ := e2
      rw [e1]
      exact simT_val h rfl e2'
    · cases hs
  case off x k =>
    simp only [aop, Option.map_eq_some_iff, Option.bind_eq_some_iff] at hs ⊢
    obtain ⟨w, ⟨u, hu, hw⟩, hee⟩ := hs; cases hee
    obtain ⟨x', e1, e2⟩ := opdT h he hc hu
    obtain ⟨w', e3, e4⟩ := offT e2 hw
    exact simT_val h (by simp [e1, e3]) e4
  case part n x k =>
    simp only [aop, Option.map_eq_some_iff, Option.bind_eq_some_iff] at hs ⊢
    obtain ⟨w, ⟨u, hu, hw⟩, hee⟩ := hs; cases hee
    obtain ⟨x', e1, e2⟩ := opdT h he hc hu
    obtain ⟨w', e3, e4⟩ := partT e2 hw
    exact simT_val h (by simp [e1, e3]) e4
  case iaddr esz x y =>
    simp only [aop] at hs ⊢
    split at hs
    · rename_i u1 u2 h1 h2
      simp only [Option.map_eq_some_iff] at hs
      obtain ⟨w, hw, hee⟩ := hs; cases hee
      obtain ⟨x', e1, e2⟩ := opdT h he hc.1 h1
      obtain ⟨y', e3, e4⟩ := opdT h he hc.2 h2
      obtain ⟨w', e5, e6⟩ := iaddrT e2 e4 hw
      rw [e1, e3]
      exact simT_val h (by simp [e5]) e6
    · cases hs
  case iaddrA esz len x y =>
    simp only [aop] at hs ⊢
    split at hs
    · rename_i u1 u2 h1 h2
      simp only [Option.map_eq_some_iff] at hs
      obtain ⟨w, hw, hee⟩ := hs; cases hee
      obtain ⟨x', e1, e2⟩ := opdT h he hc.1 h1
      obtain ⟨y', e3, e4⟩ := opdT h he hc.2 h2
      obtain ⟨w', e5, e6⟩ := iaddrAT e2 e4 hw
      rw [e1, e3]
      exact simT_val h (by simp [e5]) e6
    · cases hs
  case idxS x y =>
    simp only [aop] at hs ⊢
    split at hs
    · rename_i u1 u2 h1 h2
      simp only [Option.map_eq_some_iff] at hs
      obtain ⟨w, hw, hee⟩ := hs; cases hee
      obtain ⟨x', e1, e2⟩ := opdT h he hc.1 h1
      obtain ⟨y', e3, e4⟩ := opdT h he hc.2 h2
      cases u1 <;> cases u2 <;> simp only [idxSV] at hw <;> try (cases hw; done)
      rw [e1, e3, strT e2, intT e4]
      have hw2 := hw
      split at hw
      · rw [Option.map_eq_some_iff] at hw
        obtain ⟨c, _, rfl⟩ := hw
        exact simT_val h (by simp only [idxSV, hw2]; rfl) RV_i
      · cases hw
    · cases hs
  case idxA n esz len x y =>
    simp only [aop] at hs ⊢
    split at hs
    · rename_i u1 u2 h1 h2
      simp only [Option.map_eq_some_iff] at hs
      obtain ⟨w, hw, hee⟩ := hs; cases hee
      obtain ⟨x', e1, e2⟩ := opdT h he hc.1 h1
      obtain ⟨y', e3, e4⟩ := opdT h he hc.2 h2
      obtain ⟨w', e5, e6⟩ := idxAT e2 e4 hw
      rw [e1, e3]
      exact simT_val h (by simp [e5]) e6
    · cases hs
  case ext x k =>
    simp only [aop, Option.map_eq_some_iff, Option.bind_eq_some_iff] at hs ⊢
    obtain ⟨w, ⟨u, hu, hw⟩, hee⟩ := hs; cases hee
    obtain ⟨x', e1, e2⟩ := opdT h he hc hu
    obtain ⟨w', e3, e4⟩ := extT e2 hw
    exact simT_val h (by simp [e1, e3]) e4
  case mkf f p q =>
    simp only [aop] at hs ⊢
    split at hs
    · rename_i u1 u2 h1 h2
      cases hs
      obtain ⟨x', e1, e2⟩ := opdsT h he hc.1 h1
      obtain ⟨y', e3, e4⟩ := opdsT h he hc.2 h2
      rw [e1, e3]
      exact simT_val h rfl (by simp only [RV]; exact ⟨_, _, rfl, e2, e4⟩)
    · cases hs
  case mksl esz bytes z x y =>
    simp only [aop] at hs ⊢
    split at hs
    · rename_i q1 n q2 m h1 h2
      split at hs
      · rename_i hcc
        cases hs
        obtain ⟨x', e1, e2⟩ := opdT h he hc.2.1 h1
        obtain ⟨y', e3, e4⟩ := opdT h he hc.2.2 h2
        rw [e1, e3, intT e2, intT e4]
        simp only
        rw [if_pos hcc]
        exact simT_push h (RVL_rep (RV_noId.RVL_noId z hc.1) _) rfl newSl
      · cases hs
    · cases hs
  case slS x l hh =>
    simp only [aop] at hs ⊢
    split at hs
    · rename_i u l1 h1 hu hl1 hh1
      simp only [Option.map_eq_some_iff] at hs
      obtain ⟨w, hw, hee⟩ := hs; cases hee
      obtain ⟨u', e1, e2⟩ := opdT h he hc.1 hu
      rw [e1, strT e2, optT h he hc.2.1 hl1, optT h he hc.2.2 hh1]
      have hw2 := hw
      simp only [slSV] at hw
      split at hw
      · cases hw; exact simT_val h (by simp [hw2]) (RV_noId _ rfl)
      · cases hw
    · cases hs
  case lenk k x =>
    simp only [aop, Option.map_map, Option.map_eq_some_iff, Option.bind_eq_some_iff] at hs ⊢
    obtain ⟨n, ⟨u, hu, hn⟩, hee⟩ := hs; cases hee
    obtain ⟨x', e1, e2⟩ := opdT h he hc hu
    have := lenT h e2 hn
    exact simT_val h (by simp [e1, this]) RV_i
  case app esz bytes x y =>
    simp only [aop] at hs ⊢
    split at hs
    · rename_i u1 u2 h1 h2
      rw [Option.map_eq_some_iff] at hs
      obtain ⟨⟨w, H1⟩, hw, hee⟩ := hs; cases hee
      obtain ⟨x', e1, e2⟩ := opdT h he hc.1 h1
      obtain ⟨y', e3, e4⟩ := opdT h he hc.2 h2
      rw [e1, e3]
      obtain ⟨ρ', w', A', k1, k2, k3, k4⟩ := appT h hg hlo e2 e4 hw
      exact ⟨ρ', some w', A', by simp [k1], k2, k3, k4⟩
    · cases hs
  case appz esz bytes z x y =>
    simp only [aop] at hs ⊢
    split at hs
    · rename_i u1 q k h1 h2
      rw [Option.map_eq_some_iff] at hs
      obtain ⟨⟨w, H1⟩, hw, hee⟩ := hs; cases hee
      obtain ⟨x', e1, e2⟩ := opdT h he hc.2.1 h1
      obtain ⟨y', e3, e4⟩ := opdT h he hc.2.2 h2
      rw [e1, e3, intT e4]
      obtain ⟨ρ', w', A', k1, k2, k3, k4⟩ := appzT h hg hlo (RV_noId.RVL_noId z hc.1) e2 hw
      exact ⟨ρ', some w', A', by simp [k1], k2, k3, k4⟩
    · cases hs
  case mm mx x l =>
    simp only [aop] at hs ⊢
    split at hs
    · rename_i u us hu hus
      simp only [Option.map_eq_some_iff] at hs
      obtain ⟨w, hw, hee⟩ := hs; cases hee
      obtain ⟨x', e1, e2⟩ := opdT h he hc.1 hu
      obtain ⟨y', e3, e4⟩ := opdsT h he hc.2 hus
      obtain ⟨w', e5, e6⟩ := mmT e2 e4 hw
      rw [e1, e3]
      exact simT_val h (by simp [e5]) e6
    · cases hs
  case iface t x =>
    simp only [aop, Option.map_map, Option.map_eq_some_iff] at hs ⊢
    obtain ⟨u, hu, hee⟩ := hs; cases hee
    obtain ⟨x', e1, e2⟩ := opdT h he hc hu
    exact simT_val (u := .ifc t x') h (by simp [e1]) (by simp only [RV]; exact ⟨x', rfl, e2⟩)
  case s2b x =>
    simp only [aop] at hs ⊢
    split at hs
    · rename_i v hu
      cases hs
      obtain ⟨x', e1, e2⟩ := opdT h he hc hu
      rw [e1, strT e2]
      exact simT_push h (RVL_bytes v) rfl newSl
    · cases hs
  case mkmap =>
    simp only [aop] at hs ⊢
    cases hs
    obtain ⟨g1, g2⟩ := h.push (H' := H.push (.map [])) (A' := A.push (.map [])) (o := some (.map [])) (o' := some (.map [])) rfl rfl (fun i => AHeap.get_push H i _) (fun i => AHeap.get_push A i _) (fun x hx => by cases hx; exact ⟨_, rfl, [], rfl, rfl⟩)
    refine ⟨_, some (.m A.next), _, rfl, g1, g2, ?_⟩
    have := RV_m (ρ := updN ρ H.next A.next) (N := H.next + 1) (S := S) (T := T) (id := H.next) (by omega)
    rwa [updN_same] at this
  case mapup ag ks x k v =>
    simp only [aop] at hs ⊢
    split at hs
    · rename_i m kk u hm hk hu
      rw [Option.map_eq_some_iff] at hs
      obtain ⟨H1, hw, hee⟩ := hs; cases hee
      obtain ⟨x', e1, e2⟩ := opdT h he hc.1 hm
      obtain ⟨y', e3, e4⟩ := opdT h he hc.2.1 hk
      obtain ⟨z', e5, e6⟩ := opdT h he hc.2.2 hu
      obtain ⟨A', k1, k2, k3⟩ := mapupT h hg hlo e2 e4 e6 hw
      rw [e1, e3, e5]
      exact ⟨ρ, none, A', by simp [k1], k2, k3, trivial⟩
    · cases hs
  case look ag ks z okf x k =>
    simp only [aop] at hs ⊢
    split at hs
    · rename_i m kk hm hk
      simp only [Option.map_eq_some_iff] at hs
      obtain ⟨w, hw, hee⟩ := hs; cases hee
      obtain ⟨x', e1, e2⟩ := opdT h he hc.2.1 hm
      obtain ⟨y', e3, e4⟩ := opdT h he hc.2.2 hk
      obtain ⟨w', e5, e6⟩ := lookT h hc.1 e2 e4 hw
      rw [e1, e3]
      exact simT_val h (by simp [e5]) e6
    · cases hs
  case cpy esz x y =>
    simp only [aop] at hs ⊢
    split at hs
    · rename_i u1 u2 h1 h2
      rw [Option.map_eq_some_iff] at hs
      obtain ⟨⟨w, H1⟩, hw, hee⟩ := hs; cases hee
      obtain ⟨x', e1, e2⟩ := opdT h he hc.1 h1
      obtain ⟨y', e3, e4⟩ := opdT h he hc.2 h2
      rw [e1, e3]
      obtain ⟨A', k1, k2, k3, k4⟩ := cpyT h hg hlo e2 e4 hw
      exact ⟨ρ, some w, A', by simp [k1], k2, k3, RV_noId _ k4⟩
    · cases hs

end
end Go.RI

