/- RI, part Y: the code turned, and the whole of it simulated. Conditions: none. -/
import Derived.Laws.Externs
import Derived.LoopNIn
import Derived.Test.YteoliiakbmomeaaRiX
namespace Go.RI
open Go

/-- For each region: the order it is taken in, and the slots that are dropped behind it. -/
abbrev Hint := List Nat × List Nat

def trCode (P : Program) (nt : Nat) : Code → List Hint → Option (ICode × List Hint)
  | .skip, h => match h with
    | [] => none
    | (_, []) :: h => some (.skip, h)
    | (_, kill) :: h => some (.region [] kill, h)
  | .region _ ops draw, h => match h with
    | [] => none
    | (order, kill) :: h => match (if draw then trDraw P nt ops order else trItems P nt ops ops.toList) with
      | some xs => some (.region xs kill, h)
      | none => none
  | .seq a b, h => match trCode P nt a h with
    | some (a, h) => match trCode P nt b h with
      | some (b, h) => some (.seq a b, h)
      | none => none
    | none => none
  | .cond c a b, h => match trOpd P c, trCode P nt a h with
    | some c, some (a, h) => match trCode P nt b h with
      | some (b, h) => some (.cond c a b, h)
      | none => none
    | _, _ => none
  | .block id b, h => match trCode P nt b h with
    | some (b, h) => some (.block id b, h)
    | none => none
  | .loop b, h => match trCode P nt b h with
    | some (b, h) => some (.loop b, h)
    | none => none
  | .exit id, h => some (.exit id, h)
  | .ret, h => some (.ret, h)
  | .scope b, h => match trCode P nt b h with
    | some (b, h) => some (.seq .skip b, h)
    | none => none
  | .label _, h => some (.skip, h)
  | _, _ => none

/-- 'mode': 0, or 1. -/
def trFunc (P : Program) (hs : List Hint) (mode : Nat) (fn : Func) : Option IFunc :=
  match fn.body with
  | none => none
  | some c => match trCode P fn.ntmps c hs, trRes P fn.results.toList with
    | some (ic, _), some rs =>
      if decide (fn.params.size + fn.nfree ≤ fn.ntmps) && !(fn.name == "runtime.NumGoroutine") && decide (mode ≤ 1) then some { body := ic, nt := fn.ntmps, np := fn.params.size + fn.nfree, res := rs, mode := mode } else none
    | _, _ => none

/-- The table says what the program's functions are. -/
def TrOK (P : Program) (f : FuncId) (ifn : IFunc) : Prop := ∃ fn hs mode, P.funcs[f]? = some fn ∧ trFunc P hs mode fn = some ifn
/-- It is internal/bytealg.IndexByteString, for which the model stands in. -/
def ExtOK (P : Program) (f : FuncId) (ifn : IFunc) : Prop := ifn.mode = 4 ∧ ifn.body = .skip ∧ ∃ fn, P.funcs[f]? = some fn ∧ (fn.name == "runtime.NumGoroutine") = false ∧ fn.body.isNone = true ∧ Extern.findNext fn = none ∧ Extern.find fn = some Extern.BytealgIndexByte.indexByte

section
variable {ds : List Deferred} {P : Program} {G : AHeap}

theorem draw_or {nt lo : Nat} {ρ : Ren} {D : Nat → Prop} {e : Env} {a : Act} {H : AHeap} {w : World} (hm : P.follows .mixedOrders = true) {call : CallI} (hc : CallOK P G lo call) (hlo : G.next ≤ lo) {ops : Array Oper} {draw : Bool} {order : List Nat} {xs : List Item}
    (hx : (if draw then trDraw P nt ops order else trItems P nt ops ops.toList) = some xs) {id : Nat} {Q : Exit → Act → World → Prop} {R : Option Nat} {m : Nat}
    (r : Rel P G ds ρ D nt e a H w) {e' : Env} {H' : AHeap} (hs : itemsI call lo xs e H = some (e', H'))
    (h : ∀ ρ' D' a' w', Step lo ρ D H w ρ' D' H' w' → HRel G ρ' D' H' w' → ARel ds ρ' D' nt e' a' → Q .normal a' w') : (Code.region id ops draw).wpIn (FR R) m P Q a w := by
  cases draw with
  | true => exact draw_sim hm hc hlo hx r hs h
  | false =>
    refine wpIn_region ?_
    have := items_sim (R := R) (m := m) hc hlo (ops := ops) (Q := Q) ops.toList 0 xs (fun j o hj => by simpa using hj) hx ρ D e a H w e' H' r hs h
    simpa [List.range_eq_range'] using this

/-- What the fuel is good for. -/
def ExecOK (P : Program) (IP : FuncId → Option IFunc) (G : AHeap) (f : Nat) : Prop :=
  ∀ (R : Option Nat) (m : Nat) (ds : List Deferred) (nt lo : Nat), G.next ≤ lo → ∀ (c : Code) (hs : List Hint) (ic : ICode) (hs' : List Hint), trCode P nt c hs = some (ic, hs') → ∀ (ρ : Ren) (D : Nat → Prop) (e : Env) (a : Act) (H : AHeap) (w : World), Rel P G ds ρ D nt e a H w →
    ∀ (x : AExit) (e' : Env) (H' : AHeap), exec IP G f lo ic e H = some (x, e', H') → ∀ (Q : Exit → Act → World → Prop),
    (∀ ρ' D' a' w', Step lo ρ D H w ρ' D' H' w' → HRel G ρ' D' H' w' → ARel ds ρ' D' nt e' a' → Q x.conc a' w') → c.wpIn (FR R) m P Q a w

def RoundsOK (P : Program) (IP : FuncId → Option IFunc) (G : AHeap) (f : Nat) : Prop :=
  ∀ (R : Option Nat) (m : Nat) (ds : List Deferred) (nt lo : Nat), G.next ≤ lo → ∀ (c : Code) (hs : List Hint) (ic : ICode) (hs' : List Hint), trCode P nt c hs = some (ic, hs') → ∀ (ρ : Ren) (D : Nat → Prop) (e : Env) (a : Act) (H : AHeap) (w : World), Rel P G ds ρ D nt e a H w →
    ∀ (x : AExit) (e' : Env) (H' : AHeap), exec IP G f lo (.loop ic) e H = some (x, e', H') → ∀ (Q : Exit → Act → World → Prop),
    (∀ ρ' D' a' w', Step lo ρ D H w ρ' D' H' w' → HRel G ρ' D' H' w' → ARel ds ρ' D' nt e' a' → Q x.conc a' w') → Code.roundsIn (FR R) m P c Q f a w

/-- A function that is no turned one, but is shown to be what the interpreter has. -/
def CusOK (P : Program) (IP : FuncId → Option IFunc) (f : FuncId) (ifn : IFunc) : Prop := HasBody P f ∧ ifn.mode ≤ 1 ∧ ∀ (G : AHeap) (F : Nat), P.follows .mixedOrders = true → G.next = P.globals.size → GOk G → ExecOK P IP G F →
  (∀ lo, G.next ≤ lo → CallOK P G lo (callI (exec IP G F) IP G lo)) → ∀ (lo : Nat), G.next ≤ lo → ∀ (args : List AVal) (H : AHeap) (r : AVal) (H' : AHeap), bodyI (exec IP G (F + 1)) ifn lo args H = some (r, H') → ∀ (ρ : Ren) (D : Nat → Prop) (w : World), HRel G ρ D H w → okL ρ D args →
    Calls P f (renL ρ args).toArray w (fun e w' => ∃ ρ' D', e = .returned (ren ρ' r) ∧ Step lo ρ D H w ρ' D' H' w' ∧ HRel G ρ' D' H' w' ∧ ok ρ' D' r)
def TabOK (P : Program) (IP : FuncId → Option IFunc) : Prop := ∀ f ifn, IP f = some ifn → TrOK P f ifn ∨ ExtOK P f ifn ∨ CusOK P IP f ifn

theorem renL_len (ρ : Ren) (l : List AVal) : (renL ρ l).length = l.length := renL_length ρ l

theorem initEnv_get : ∀ (args : List AVal) (k t : Nat) (v : AVal), (initEnv k args).get t = some v → k ≤ t ∧ args[t - k]? = some v := by
  intro args
  induction args with
  | nil => intro k t v h; simp [initEnv, Env.get] at h
  | cons u args ih =>
    intro k t v h
    simp only [initEnv, Env.get] at h
    split at h
    · rename_i hk
      subst hk
      simp only [Option.some.injEq] at h; subst h
      exact ⟨Nat.le_refl _, by simp⟩
    · rename_i hk
      obtain ⟨h1, h2⟩ := ih (k + 1) t v h
      refine ⟨by omega, ?_⟩
      have : t - k = (t - (k + 1)) + 1 := by omega
      rw [this, List.getElem?_cons_succ]; exact h2

theorem init_rel {ρ : Ren} {D : Nat → Prop} {args : List AVal} {nt : Nat} (hn : args.length ≤ nt) (ha : okL ρ D args) :
    ARel [] ρ D nt (initEnv 0 args) { tmps := (renL ρ args).toArray ++ Array.replicate (nt - (renL ρ args).toArray.size) undef, defers := [] } where
  size := by simp [renL_length]; omega
  defers := rfl
  get := fun t v hv => by
    obtain ⟨_, h2⟩ := initEnv_get args 0 t v hv
    rw [Nat.sub_zero] at h2
    have hlt : t < args.length := by
      rcases Nat.lt_or_ge t args.length with h | h
      · exact h
      · rw [List.getElem?_eq_none h] at h2; cases h2
    refine ⟨by omega, ?_, okL_get ha h2⟩
    rw [Array.getD_eq_getD_getElem?, Array.getElem?_append_left (by simp [renL_length]; exact hlt)]
    simp only [List.getElem?_toArray, renL_get, h2, Option.map_some, Option.getD_some]

/-- The byte's place is the machine's. -/
theorem idxL_first (c : UInt8) (x : List UInt8) : firstIdx ⟨x.toArray⟩ c = idxL c x 0 := by
  have key : ∀ (l : List UInt8) (p : List UInt8) (hp : x = p ++ l), (match (List.range' p.length l.length).find? fun i => (ByteArray.mk x.toArray)[i]! == c with | some i => (i : Int) | none => -1) = idxL c l p.length := by
    intro l
    induction l with
    | nil => intro p hp; rfl
    | cons b l ih =>
      intro p hp
      have hb : (ByteArray.mk x.toArray)[p.length]! = b := by
        subst hp
        have : p.length < (ByteArray.mk (p ++ b :: l).toArray).size := by simp [ByteArray.size]
        rw [getElem!_pos (ByteArray.mk (p ++ b :: l).toArray) p.length this]
        simp [ByteArray.getElem_eq_getElem_data]
      simp only [List.length_cons, List.range'_succ, List.find?_cons, hb, idxL]
      cases hbc : b == c
      · have := ih (p ++ [b]) (by rw [hp]; simp)
        simp only [List.length_append, List.length_cons, List.length_nil, Nat.zero_add] at this
        simp only [Bool.false_eq_true, if_false]
        rw [this]
        rfl
      · simp
  have := key x [] rfl
  simp only [List.length_nil] at this
  unfold firstIdx
  rw [List.range_eq_range']
  have hs : (ByteArray.mk x.toArray).size = x.length := by simp [ByteArray.size]
  rw [hs]
  exact this

theorem tr_mode {hs : List Hint} {mode : Nat} {fn : Func} {ifn : IFunc} (h : trFunc P hs mode fn = some ifn) : ifn.mode = 0 ∨ ifn.mode = 1 := by
  unfold trFunc at h
  split at h
  · cases h
  · split at h
    · split at h
      · rename_i hc
        cases h
        simp only [Bool.and_eq_true, decide_eq_true_eq] at hc
        have := hc.2
        simp only
        omega
      · cases h
    · cases h

/-- A body run is a call. -/
theorem body_sim {IP : FuncId → Option IFunc} (hg : G.next = P.globals.size) (hgo : GOk G) {f : Nat} (hex : ExecOK P IP G f) {lo : Nat} (hlo : G.next ≤ lo) {g : FuncId} {ifn : IFunc} (htr0 : TrOK P g ifn)
    {args : List AVal} {H : AHeap} {r : AVal} {H' : AHeap} (hb : bodyI (exec IP G f) ifn lo args H = some (r, H')) {ρ : Ren} {D : Nat → Prop} {w : World} (hrel : HRel G ρ D H w) (ha : okL ρ D args) :
    Calls P g (renL ρ args).toArray w (fun e w' => ∃ ρ' D', e = .returned (ren ρ' r) ∧ Step lo ρ D H w ρ' D' H' w' ∧ HRel G ρ' D' H' w' ∧ ok ρ' D' r) := by
  obtain ⟨fn, hs, mode, hf, htr⟩ := htr0
  unfold trFunc at htr
  split at htr
  · cases htr
  · rename_i c hbody
    split at htr
    · rename_i ic hs' rs hcode hres
      split at htr
      · rename_i hchk
        cases htr
        simp only [Bool.and_eq_true, decide_eq_true_eq] at hchk
        unfold bodyI at hb
        simp only at hb
        split at hb
        · rename_i hlen
          have hle : args.length ≤ fn.ntmps := by rw [hlen]; exact hchk.1.1
          have har := init_rel (ρ := ρ) (D := D) hle ha
          refine calls_of_wp hf hbody ?_
          have fin : ∀ (x : AExit) (e1 : Env) (H1 : AHeap), exec IP G f lo ic (initEnv 0 args) H = some (x, e1, H1) → (x = .normal ∨ x = .ret) → (∃ vs, resI e1 H1 rs = some vs ∧ r = tupI vs ∧ H' = H1) →
              c.wp P (bodyPost P fn (fun e w' => ∃ ρ' D', e = .returned (ren ρ' r) ∧ Step lo ρ D H w ρ' D' H' w' ∧ HRel G ρ' D' H' w' ∧ ok ρ' D' r))
                { tmps := (renL ρ args).toArray ++ Array.replicate (fn.ntmps - (renL ρ args).toArray.size) undef, defers := [] } w := by
            rintro x e1 H1 h1 h2 ⟨vs, hvs, rfl, rfl⟩
            · refine (wpIn_wide (n := 0)).1 (hex none 0 [] fn.ntmps lo hlo c hs ic hs' hcode ρ D _ _ H w ⟨hg, hgo, hrel, har⟩ x e1 _ h1 _ ?_)
              intro ρ' D' a' w' g1 g2 g3
              obtain ⟨h5, h6⟩ := results_sim (nt := fn.ntmps) ⟨hg, hgo, g2, g3⟩ hres hvs
              rcases h2 with rfl | rfl <;> exact ⟨g3.defers, _, h6, ρ', D', rfl, g1, g2, h5⟩
          split at hb
          · cases hb
          · rename_i x e1 H1 hnex hx
            split at hb
            · rename_i vs hvs
              cases hb
              refine fin x e1 _ hx ?_ ⟨vs, hvs, rfl, rfl⟩
              cases x with
              | normal => exact .inl rfl
              | ret => exact .inr rfl
              | exit id => exact (hnex id rfl).elim
            · cases hb
          · cases hb
        · cases hb
      · cases htr
    · cases htr

theorem Step.any {lo : Nat} {ρ ρ' : Ren} {D D' : Nat → Prop} {H H' : AHeap} {w w' : World} (s : Step H.next ρ D H w ρ' D' H' w') : Step lo ρ D H w ρ' D' H' w' :=
  { s with low := fun id _ hlt => s.low id hlt hlt }

theorem calls_sim (hmo : P.follows .mixedOrders = true) {IP : FuncId → Option IFunc} (htab : TabOK P IP) (hg : G.next = P.globals.size) (hgo : GOk G) {f : Nat} (hex : ExecOK P IP G f) (hprev : ∀ F, f = F + 1 → ExecOK P IP G F ∧ ∀ lo, G.next ≤ lo → CallOK P G lo (callI (exec IP G F) IP G lo)) {lo : Nat} (hlo : G.next ≤ lo) : CallOK P G lo (callI (exec IP G f) IP G lo) where
  body := fun g args H r h => by
    simp only [callI, callB] at h
    split at h
    · cases h
    · rename_i ifn hi
      rcases htab g ifn hi with ⟨fn, hs, mode, hf, htr⟩ | ⟨hm, hb, fn, hf, h1, h2, h3, h4⟩ | ⟨hbody, _⟩
      rotate_left
      rotate_left
      · exact .inl hbody
      · left
        unfold trFunc at htr
        split at htr
        · cases htr
        · rename_i c hbody
          split at htr
          · split at htr
            · rename_i hchk
              simp only [Bool.and_eq_true, Bool.not_eq_true'] at hchk
              exact ⟨fn, hf, by rw [hbody]; rfl, hchk.1.2⟩
            · cases htr
          · cases htr
      · right
        rw [hm] at h
        simp only [hb, cloneB, isSkip] at h
        rw [Option.map_eq_some_iff] at h
        obtain ⟨v, hv, rfl⟩ := h
        unfold idxB at hv
        split at hv
        · rename_i x c
          cases hv
          refine ⟨_, rfl, fun ρ w => ?_⟩
          rw [run_callFunc_extern hf h1 h2 h3 h4]
          have : (renL ρ [AVal.s x, AVal.i .u8 c]).toArray = #[.string ⟨x.toArray⟩, .int .u8 c] := rfl
          rw [this, run_indexByte_string, idxL_first]
          rfl
        · cases hv
  calls := fun g args H r H' h hb ρ D w hrel ha => by
    simp only [callI, callB] at h
    split at h
    · cases h
    · rename_i ifn hi
      have hcus : CusOK P IP g ifn → Calls P g (renL ρ args).toArray w (fun e w' => ∃ ρ' D', e = .returned (ren ρ' r) ∧ Step lo ρ D H w ρ' D' H' w' ∧ HRel G ρ' D' H' w' ∧ ok ρ' D' r ∧ ((callI (exec IP G f) IP G lo).pure g = true → Ext H H')) := by
        rintro ⟨_, hmode, hc⟩
        rcases f with _ | F
        · exfalso
          have hnone : ∀ lo, bodyI (exec IP G 0) ifn lo args H = none := fun lo => by
            unfold bodyI
            simp [exec]
          rcases (show ifn.mode = 0 ∨ ifn.mode = 1 by omega) with hm | hm <;> rw [hm] at h <;> simp only [hnone] at h <;> cases h
        · obtain ⟨e1, e2⟩ := hprev F rfl
          rcases (show ifn.mode = 0 ∨ ifn.mode = 1 by omega) with hm | hm
          · rw [hm] at h
            refine (hc G F hmo hg hgo e1 e2 lo hlo args H r H' h ρ D w hrel ha).mono ?_
            rintro e w' ⟨ρ', D', h1, h2, h3, h4⟩
            exact ⟨ρ', D', h1, h2, h3, h4, fun hp => by simp [callI, pureB, hi, hm] at hp⟩
          · rw [hm] at h
            refine (hc G F hmo hg hgo e1 e2 H.next hrel.gnext args H r H' h ρ D w hrel ha).mono ?_
            rintro e w' ⟨ρ', D', h1, h2, h3, h4⟩
            exact ⟨ρ', D', h1, h2.any, h3, h4, fun _ => ⟨h2.next, fun id hlt => h2.low id hlt hlt⟩⟩
      rcases htab g ifn hi with htr0 | ⟨_, _, fn, hf, _, h2, _⟩ | hcus'
      rotate_left
      · obtain ⟨fn', hf', hb', _⟩ := hb
        rw [hf] at hf'; cases hf'
        cases hbb : fn.body <;> simp [hbb] at h2 hb'
      · exact hcus hcus'
      obtain ⟨fn, hs, mode, hf, htr⟩ := htr0
      have htr0 : TrOK P g ifn := ⟨fn, hs, mode, hf, htr⟩
      rcases tr_mode htr with hm | hm
      · rw [hm] at h
        refine (body_sim hg hgo hex hlo htr0 h hrel ha).mono ?_
        rintro e w' ⟨ρ', D', h1, h2, h3, h4⟩
        exact ⟨ρ', D', h1, h2, h3, h4, fun hp => by simp [callI, pureB, hi, hm] at hp⟩
      · rw [hm] at h
        refine (body_sim hg hgo hex hrel.gnext htr0 h hrel ha).mono ?_
        rintro e w' ⟨ρ', D', h1, h2, h3, h4⟩
        exact ⟨ρ', D', h1, h2.any, h3, h4, fun _ => ⟨h2.next, fun id hlt => h2.low id hlt hlt⟩⟩

end
end Go.RI
