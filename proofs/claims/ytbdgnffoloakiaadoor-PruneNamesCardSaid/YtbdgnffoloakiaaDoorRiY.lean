/- RI, part Y: the code turned, and the whole of it simulated. Conditions: none. -/
import Derived.Test.YtbdgnffoloakiaaDoorRiX
namespace Go.RI
open Go

/-- For each region: the order it is taken in, and the slots that are dropped behind it. -/
abbrev Hint := List Nat × List Nat

def trCode (P : Program) (nt : Nat) : Code → List Hint → Option (ICode × List Hint)
  | .skip, h => match h with
    | [] => none
    | (_, []) :: h => some (.skip, h)
    | (_, kill) :: h => some (.region [] kill, h)
  | .region _ ops draw, h => match h with
    | [] => none
    | (order, kill) :: h => match (if draw then trDraw P nt ops order else trItems P nt ops ops.toList) with
      | some xs => some (.region xs kill, h)
      | none => none
  | .seq a b, h => match trCode P nt a h with
    | some (a, h) => match trCode P nt b h with
      | some (b, h) => some (.seq a b, h)
      | none => none
    | none => none
  | .cond c a b, h => match trOpd P c, trCode P nt a h with
    | some c, some (a, h) => match trCode P nt b h with
      | some (b, h) => some (.cond c a b, h)
      | none => none
    | _, _ => none
  | .block id b, h => match trCode P nt b h with
    | some (b, h) => some (.block id b, h)
    | none => none
  | .loop b, h => match trCode P nt b h with
    | some (b, h) => some (.loop b, h)
    | none => none
  | .exit id, h => some (.exit id, h)
  | .ret, h => some (.ret, h)
  | .scope b, h => match trCode P nt b h with
    | some (b, h) => some (.seq .skip b, h)
    | none => none
  | .label _, h => some (.skip, h)
  | _, _ => none

/-- 'mode': 0, or 1. -/
def trFunc (P : Program) (hs : List Hint) (mode : Nat) (fn : Func) : Option IFunc :=
  match fn.body with
  | none => none
  | some c => match trCode P fn.ntmps c hs, trRes P fn.results.toList with
    | some (ic, _), some rs =>
      if decide (fn.params.size + fn.nfree ≤ fn.ntmps) && !(fn.name == "runtime.NumGoroutine") && decide (mode ≤ 1) then some { body := ic, nt := fn.ntmps, np := fn.params.size + fn.nfree, res := rs, mode := mode } else none
    | _, _ => none

/-- The table says what the program's functions are. -/
def TabOK (P : Program) (IP : FuncId → Option IFunc) : Prop := ∀ f ifn, IP f = some ifn → ∃ fn hs mode, P.funcs[f]? = some fn ∧ trFunc P hs mode fn = some ifn

section
variable {P : Program} {G : AHeap}

theorem draw_or {nt lo : Nat} {ρ : Ren} {D : Nat → Prop} {e : Env} {a : Act} {H : AHeap} {w : World} (hm : P.follows .mixedOrders = true) {call : CallI} (hc : CallOK P G lo call) (hlo : G.next ≤ lo) {ops : Array Oper} {draw : Bool} {order : List Nat} {xs : List Item}
    (hx : (if draw then trDraw P nt ops order else trItems P nt ops ops.toList) = some xs) {id : Nat} {Q : Exit → Act → World → Prop}
    (r : Rel P G ρ D nt e a H w) {e' : Env} {H' : AHeap} (hs : itemsI call lo xs e H = some (e', H'))
    (h : ∀ ρ' D' a' w', Step lo ρ D H w ρ' D' H' w' → HRel G ρ' D' H' w' → ARel ρ' D' nt e' a' → Q .normal a' w') : (Code.region id ops draw).wp P Q a w := by
  cases draw with
  | true => exact draw_sim hm hc hlo hx r hs h
  | false =>
    refine wp_region ?_
    have := items_sim hc hlo (ops := ops) (Q := Q) ops.toList 0 xs (fun j o hj => by simpa using hj) hx ρ D e a H w e' H' r hs h
    simpa [List.range_eq_range'] using this

/-- What the fuel is good for. -/
def ExecOK (P : Program) (IP : FuncId → Option IFunc) (G : AHeap) (f : Nat) : Prop :=
  ∀ (nt lo : Nat), G.next ≤ lo → ∀ (c : Code) (hs : List Hint) (ic : ICode) (hs' : List Hint), trCode P nt c hs = some (ic, hs') → ∀ (ρ : Ren) (D : Nat → Prop) (e : Env) (a : Act) (H : AHeap) (w : World), Rel P G ρ D nt e a H w →
    ∀ (x : AExit) (e' : Env) (H' : AHeap), exec IP G f lo ic e H = some (x, e', H') → ∀ (Q : Exit → Act → World → Prop),
    (∀ ρ' D' a' w', Step lo ρ D H w ρ' D' H' w' → HRel G ρ' D' H' w' → ARel ρ' D' nt e' a' → Q x.conc a' w') → c.wp P Q a w

def RoundsOK (P : Program) (IP : FuncId → Option IFunc) (G : AHeap) (f : Nat) : Prop :=
  ∀ (nt lo : Nat), G.next ≤ lo → ∀ (c : Code) (hs : List Hint) (ic : ICode) (hs' : List Hint), trCode P nt c hs = some (ic, hs') → ∀ (ρ : Ren) (D : Nat → Prop) (e : Env) (a : Act) (H : AHeap) (w : World), Rel P G ρ D nt e a H w →
    ∀ (x : AExit) (e' : Env) (H' : AHeap), exec IP G f lo (.loop ic) e H = some (x, e', H') → ∀ (Q : Exit → Act → World → Prop),
    (∀ ρ' D' a' w', Step lo ρ D H w ρ' D' H' w' → HRel G ρ' D' H' w' → ARel ρ' D' nt e' a' → Q x.conc a' w') → Code.rounds P c Q f a w

theorem renL_len (ρ : Ren) (l : List AVal) : (renL ρ l).length = l.length := renL_length ρ l

theorem initEnv_get : ∀ (args : List AVal) (k t : Nat) (v : AVal), (initEnv k args).get t = some v → k ≤ t ∧ args[t - k]? = some v := by
  intro args
  induction args with
  | nil => intro k t v h; simp [initEnv, Env.get] at h
  | cons u args ih =>
    intro k t v h
    simp only [initEnv, Env.get] at h
    split at h
    · rename_i hk
      subst hk
      simp only [Option.some.injEq] at h; subst h
      exact ⟨Nat.le_refl _, by simp⟩
    · rename_i hk
      obtain ⟨h1, h2⟩ := ih (k + 1) t v h
      refine ⟨by omega, ?_⟩
      have : t - k = (t - (k + 1)) + 1 := by omega
      rw [this, List.getElem?_cons_succ]; exact h2

theorem init_rel {ρ : Ren} {D : Nat → Prop} {args : List AVal} {nt : Nat} (hn : args.length ≤ nt) (ha : okL ρ D args) :
    ARel ρ D nt (initEnv 0 args) { tmps := (renL ρ args).toArray ++ Array.replicate (nt - (renL ρ args).toArray.size) undef, defers := [] } where
  size := by simp [renL_length]; omega
  defers := rfl
  get := fun t v hv => by
    obtain ⟨_, h2⟩ := initEnv_get args 0 t v hv
    rw [Nat.sub_zero] at h2
    have hlt : t < args.length := by
      rcases Nat.lt_or_ge t args.length with h | h
      · exact h
      · rw [List.getElem?_eq_none h] at h2; cases h2
    refine ⟨by omega, ?_, okL_get ha h2⟩
    rw [Array.getD_eq_getD_getElem?, Array.getElem?_append_left (by simp [renL_length]; exact hlt)]
    simp only [List.getElem?_toArray, renL_get, h2, Option.map_some, Option.getD_some]

theorem tr_mode {hs : List Hint} {mode : Nat} {fn : Func} {ifn : IFunc} (h : trFunc P hs mode fn = some ifn) : ifn.mode = 0 ∨ ifn.mode = 1 := by
  unfold trFunc at h
  split at h
  · cases h
  · split at h
    · split at h
      · rename_i hc
        cases h
        simp only [Bool.and_eq_true, decide_eq_true_eq] at hc
        have := hc.2
        simp only
        omega
      · cases h
    · cases h

/-- A body run is a call. -/
theorem body_sim {IP : FuncId → Option IFunc} (htab : TabOK P IP) (hg : G.next = P.globals.size) (hgo : GOk G) {f : Nat} (hex : ExecOK P IP G f) {lo : Nat} (hlo : G.next ≤ lo) {g : FuncId} {ifn : IFunc} (hi : IP g = some ifn)
    {args : List AVal} {H : AHeap} {r : AVal} {H' : AHeap} (hb : bodyI (exec IP G f) ifn lo args H = some (r, H')) {ρ : Ren} {D : Nat → Prop} {w : World} (hrel : HRel G ρ D H w) (ha : okL ρ D args) :
    Calls P g (renL ρ args).toArray w (fun e w' => ∃ ρ' D', e = .returned (ren ρ' r) ∧ Step lo ρ D H w ρ' D' H' w' ∧ HRel G ρ' D' H' w' ∧ ok ρ' D' r) := by
  obtain ⟨fn, hs, mode, hf, htr⟩ := htab g ifn hi
  unfold trFunc at htr
  split at htr
  · cases htr
  · rename_i c hbody
    split at htr
    · rename_i ic hs' rs hcode hres
      split at htr
      · rename_i hchk
        cases htr
        simp only [Bool.and_eq_true, decide_eq_true_eq] at hchk
        unfold bodyI at hb
        simp only at hb
        split at hb
        · rename_i hlen
          have hle : args.length ≤ fn.ntmps := by rw [hlen]; exact hchk.1.1
          have har := init_rel (ρ := ρ) (D := D) hle ha
          refine calls_of_wp hf hbody ?_
          have fin : ∀ (x : AExit) (e1 : Env) (H1 : AHeap), exec IP G f lo ic (initEnv 0 args) H = some (x, e1, H1) → (x = .normal ∨ x = .ret) → (∃ vs, resI e1 H1 rs = some vs ∧ r = tupI vs ∧ H' = H1) →
              c.wp P (bodyPost P fn (fun e w' => ∃ ρ' D', e = .returned (ren ρ' r) ∧ Step lo ρ D H w ρ' D' H' w' ∧ HRel G ρ' D' H' w' ∧ ok ρ' D' r))
                { tmps := (renL ρ args).toArray ++ Array.replicate (fn.ntmps - (renL ρ args).toArray.size) undef, defers := [] } w := by
            rintro x e1 H1 h1 h2 ⟨vs, hvs, rfl, rfl⟩
            · refine hex fn.ntmps lo hlo c hs ic hs' hcode ρ D _ _ H w ⟨hg, hgo, hrel, har⟩ x e1 _ h1 _ ?_
              intro ρ' D' a' w' g1 g2 g3
              obtain ⟨h5, h6⟩ := results_sim (nt := fn.ntmps) ⟨hg, hgo, g2, g3⟩ hres hvs
              rcases h2 with rfl | rfl <;> exact ⟨g3.defers, _, h6, ρ', D', rfl, g1, g2, h5⟩
          split at hb
          · cases hb
          · rename_i x e1 H1 hnex hx
            split at hb
            · rename_i vs hvs
              cases hb
              refine fin x e1 _ hx ?_ ⟨vs, hvs, rfl, rfl⟩
              cases x with
              | normal => exact .inl rfl
              | ret => exact .inr rfl
              | exit id => exact (hnex id rfl).elim
            · cases hb
          · cases hb
        · cases hb
      · cases htr
    · cases htr

theorem Step.any {lo : Nat} {ρ ρ' : Ren} {D D' : Nat → Prop} {H H' : AHeap} {w w' : World} (s : Step H.next ρ D H w ρ' D' H' w') : Step lo ρ D H w ρ' D' H' w' :=
  { s with low := fun id _ hlt => s.low id hlt hlt }

theorem calls_sim {IP : FuncId → Option IFunc} (htab : TabOK P IP) (hg : G.next = P.globals.size) (hgo : GOk G) {f : Nat} (hex : ExecOK P IP G f) {lo : Nat} (hlo : G.next ≤ lo) : CallOK P G lo (callI (exec IP G f) IP G lo) where
  body := fun g args H r h => by
    simp only [callI, callB] at h
    split at h
    · cases h
    · rename_i ifn hi
      obtain ⟨fn, hs, mode, hf, htr⟩ := htab g ifn hi
      unfold trFunc at htr
      split at htr
      · cases htr
      · rename_i c hbody
        split at htr
        · split at htr
          · rename_i hchk
            simp only [Bool.and_eq_true, Bool.not_eq_true'] at hchk
            exact ⟨fn, hf, by rw [hbody]; rfl, hchk.1.2⟩
          · cases htr
        · cases htr
  calls := fun g args H r H' h ρ D w hrel ha => by
    simp only [callI, callB] at h
    split at h
    · cases h
    · rename_i ifn hi
      obtain ⟨fn, hs, mode, hf, htr⟩ := htab g ifn hi
      rcases tr_mode htr with hm | hm
      · rw [hm] at h
        refine (body_sim htab hg hgo hex hlo hi h hrel ha).mono ?_
        rintro e w' ⟨ρ', D', h1, h2, h3, h4⟩
        exact ⟨ρ', D', h1, h2, h3, h4, fun hp => by simp [callI, pureB, hi, hm] at hp⟩
      · rw [hm] at h
        refine (body_sim htab hg hgo hex hrel.gnext hi h hrel ha).mono ?_
        rintro e w' ⟨ρ', D', h1, h2, h3, h4⟩
        exact ⟨ρ', D', h1, h2.any, h3, h4, fun _ => ⟨h2.next, fun id hlt => h2.low id hlt hlt⟩⟩

end
end Go.RI
