import Derived.Test.YtghhbelpkckmaaaDoorM02
import Derived.Laws.Externs
import Derived.Scope
set_option linter.unusedVariables false
set_option linter.unusedSimpArgs false
set_option linter.unusedSectionVars false
/- RI, part X: a region that leaves its order open, simulated; results; the code turned. Conditions: none. -/
namespace Go.RI
open Go

section
variable {P : Program} {G : AHeap} {lo nt : Nat} {ρ : Ren} {D : Nat → Prop} {e : Env} {a : Act} {H : AHeap} {w : World}

theorem getD_replicate (n i : Nat) : (Array.replicate n false).getD i false = false := by
  simp only [Array.getD]
  split <;> simp

theorem inv_init {call : CallI} {ops : Array Oper} {order : List Nat} {xs : List Item} {E : Nat → Env} {Hh : Nat → AHeap} {ρ0 : Ren} {D0 : Nat → Prop} {w0 : World} (c : Ctx P G lo nt call ops order xs E Hh ρ0 D0)
    (hrel : HRel G ρ0 D0 (Hh 0) w0) (hst : Step lo ρ0 D0 (Hh 0) w ρ0 D0 (Hh 0) w0) (har : ARel ρ0 D0 nt (E 0) a) : ∃ T, Inv G lo nt ops order xs E Hh ρ0 D0 w (Array.replicate ops.size false) a w0 T ρ0 D0 := by
  obtain ⟨T, _, t2, t3, t4⟩ := next_act (xs := xs) xs.length 0 (by omega)
  have ext : ∀ k, k ≤ T → Ext (Hh 0) (Hh k) ∧ Wf (Hh k) := fun k h2 => ext_stay' c (Nat.zero_le _) (by omega) hrel.wf fun j y h3 h4 hy => t3 j y h3 (by omega) hy
  have ext2 : ∀ k k', k ≤ k' → k' ≤ T → Ext (Hh k) (Hh k') := fun k k' h2 h3 => (ext_stay' c h2 (by omega) (ext k (by omega)).2 fun j y h4 h5 hy => t3 j y (by omega) (by omega) hy).1
  obtain ⟨e1, e2⟩ := ext T (Nat.le_refl _)
  refine ⟨T, {
    size := by simp
    closed := fun j o e _ h => by rw [getD_replicate] at h; cases h
    TN := t2
    act := fun h => by
      obtain ⟨y, hy, hya⟩ := t4 h
      have hol : T < order.length := by rw [← c.plan.len]; exact h
      exact ⟨y, order[T], hy, hya, List.getElem?_eq_getElem hol, getD_replicate _ _⟩
    done := fun q y j h1 h2 h3 _ => by rw [t3 q y (Nat.zero_le _) h1 h2] at h3; cases h3
    hrel := heapExt_sim hrel e1 e2
    step := hst.ext hrel.lt e1
    tsize := har.size
    defers := har.defers
    sa := fun t x i s v _ _ _ h => by rw [getD_replicate] at h; cases h
    sb := fun s v _ h => har.get s v h
    wfs := fun t ht => (ext t ht).2
    mono := fun t t' h1 h2 => (ext2 t t' h1 h2).next
    f1 := fun p x i v h1 h2 _ _ h5 _ h7 => by
      obtain ⟨_, _, h9⟩ := looks_ext (ext p (by omega)).2 (ext2 p T (by omega) (Nat.le_refl _)) h5 h7
      exact h9
    f2 := ?_ }⟩
  intro p y j h1 h2 _ _ h5 h6
  have hact : y.op.act = false := makes_act h5
  have hpush : (Hh (p + 1)).next = (Hh p).next + 1 := by
    obtain ⟨hi, _⟩ := c.run p y h2
    simp only [itemI, h6] at hi
    split at hi
    · rename_i v2 H2 hop
      rw [opI_plain hact] at hop
      obtain ⟨cc, es, uu, _, he⟩ := makes_push h5 hop
      rw [← (Prod.mk.inj (Option.some.inj hi)).2, he]; rfl
    · rename_i H2 hop
      rw [opI_plain hact] at hop
      obtain ⟨cc, es, uu, hu, _⟩ := makes_push h5 hop
      cases hu
    · cases hi
  have h9 := (ext p (by omega)).1.next
  refine ⟨fun hd => by have := hrel.lt _ hd; omega, ?_⟩
  exact (ext2 (p + 1) T (by omega) (Nat.le_refl _)).get _ (by omega)

theorem draw_sim (hm : P.follows .mixedOrders = true) {call : CallI} (hc : CallOK P G lo call) (hlo : G.next ≤ lo) {ops : Array Oper} {order : List Nat} {xs : List Item} (hx : trDraw P nt ops order = some xs) {id : Nat} {Q : Exit → Act → World → Prop}
    (r : Rel P G ρ D nt e a H w) {e' : Env} {H' : AHeap} (hs : itemsI call lo xs e H = some (e', H'))
    (h : ∀ ρ' D' a' w', Step lo ρ D H w ρ' D' H' w' → HRel G ρ' D' H' w' → ARel ρ' D' nt e' a' → Q .normal a' w') : (Code.region id ops true).wp P Q a w := by
  obtain ⟨E, Hh, h0, h1, h2, h3, h4⟩ := trace_of xs e H e' H' hs
  have hd : Drew w { w with drawn := w.drawn + 1 } := by constructor <;> rfl
  obtain ⟨s1, s2⟩ := drew_sim (lo := lo) r.heap hd
  have c : Ctx P G lo nt call ops order xs E Hh ρ D := ⟨draw_plan hx, h4, hc, hlo, r.gsize, r.gok, fun id hid => by rw [h1]; exact r.heap.lt id hid, by rw [h1]; exact r.heap.gnext⟩
  obtain ⟨T, iv⟩ := inv_init (w := w) (a := a) c (w0 := { w with drawn := w.drawn + 1 }) (by rw [h1]; exact s2) (by rw [h1]; exact s1) (by rw [h0]; exact r.slots)
  refine wp_region_any hm ?_
  refine draw_inv c (Q := Q) (w0 := w) ?_ ops.size _ a _ ?_ ⟨T, ρ, D, iv⟩
  · intro ρ' D' a' w' g1 g2 g3
    rw [h1, h3] at g1
    rw [h3] at g2
    rw [h2] at g3
    exact h ρ' D' a' w' g1 g2 g3
  · unfold left
    exact Nat.le_trans (List.length_filter_le _ _) (by simp)

/-! ### Results -/
def trRes (P : Program) : List ResultVar → Option (List IRes)
  | [] => some []
  | .tmp t :: l => (trRes P l).map (.t t :: ·)
  | .cell a t :: l => match P.underlying t, P.info? t, trRes P l with
    | some d, some i, some rs => some (.c a (aggSz d i) :: rs)
    | _, _, _ => none

theorem loadVar_sim (r : Rel P G ρ D nt e a H w) {t : TypeId} {d : TypeDesc} {i : TypeInfo} (hd : P.underlying t = some d) (hi : P.info? t = some i)
    {p v : AVal} {x : Value} (hx : x = ren ρ p) (hp : ok ρ D p) (hl : loadV H (aggSz d i) p = some v) : ok ρ D v ∧ ∃ ad, (asAddr x).run P w = .ok ad w ∧ (loadVar t ad).run P w = .ok (ren ρ v) w := by
  subst hx
  cases p <;> simp only [loadV] at hl <;> (try (cases hl; done)) <;> (try (simp [ok] at hp; done))
  case p id off =>
    simp only [ok] at hp
    unfold aggSz at hl
    cases hagg : isAggD d with
    | true =>
      rw [hagg] at hl
      simp only [if_true] at hl
      rw [Option.map_eq_some_iff] at hl
      obtain ⟨l, hl, rfl⟩ := hl
      obtain ⟨_, h2, h3, h4⟩ := rowAt_sim (P := P) r.heap hp hl
      refine ⟨by simp only [ok]; exact ⟨h2, h3⟩, ⟨(ρ id).blk, (ρ id).base + off, none⟩, ?_, ?_⟩
      · simp [ren, asAddr]
      · simp [loadVar, run_isAgg' hd, hagg, run_sizeOf' hi, h4, ren]
    | false =>
      rw [hagg] at hl
      simp only [Bool.false_eq_true, if_false] at hl
      split at hl
      · rename_i c esz ro hg
        have hc := r.heap.cells id c esz ro hp hg
        obtain ⟨C, e, fz, hb, hsz, hget, _⟩ := hc.at_
        have hcell : w.cell? ⟨(ρ id).blk, (ρ id).base + off, none⟩ = some (ren ρ v) := by rw [cell?_at hb]; exact hget _ _ hl
        refine ⟨okL_get hc.ok hl, ⟨(ρ id).blk, (ρ id).base + off, none⟩, ?_, ?_⟩
        · simp [ren, asAddr]
        · simp [loadVar, run_isAgg' hd, hagg, hcell]
      · cases hl

theorem resM_sim (r : Rel P G ρ D nt e a H w) : ∀ (l : List ResultVar) (rs : List IRes) (vs : List AVal), trRes P l = some rs → resI e H rs = some vs → okL ρ D vs ∧
    (l.mapM fun x => match x with | ResultVar.tmp t => (pure (a.tmps.getD t undef) : Sem Value) | ResultVar.cell ad t => (do loadVar t (← asAddr (a.tmps.getD ad undef)))).run P w = .ok (renL ρ vs) w := by
  intro l
  induction l with
  | nil =>
    intro rs vs h1 h2
    simp only [trRes, Option.some.injEq] at h1; subst h1
    simp only [resI, Option.some.injEq] at h2; subst h2
    exact ⟨trivial, by simp [renL]⟩
  | cons x l ih =>
    intro rs vs h1 h2
    cases x with
    | tmp t =>
      simp only [trRes, Option.map_eq_some_iff] at h1
      obtain ⟨rs', h1, rfl⟩ := h1
      simp only [resI] at h2
      split at h2
      · rename_i v vs' hv hvs
        cases h2
        obtain ⟨_, g1, g2⟩ := r.slots.get _ _ hv
        obtain ⟨h3, h4⟩ := ih rs' vs' h1 hvs
        refine ⟨⟨g2, h3⟩, ?_⟩
        simp only [List.mapM_cons, Sem.run_bind, Sem.run_pure, Result.andThen_ok, h4, g1, renL]
      · cases h2
    | cell ad t =>
      simp only [trRes] at h1
      split at h1
      · rename_i d i rs' hd hi h1'
        cases h1
        simp only [resI] at h2
        split at h2
        · rename_i p hp
          split at h2
          · rename_i v vs' hv hvs
            cases h2
            obtain ⟨_, g1, g2⟩ := r.slots.get _ _ hp
            obtain ⟨h3, h4⟩ := ih rs' vs' h1' hvs
            obtain ⟨h5, ad', h6, h7⟩ := loadVar_sim r hd hi g1 g2 hv
            refine ⟨⟨h5, h3⟩, ?_⟩
            simp only [List.mapM_cons, Sem.run_bind, Sem.run_pure, Result.andThen_ok, h4, h6, h7, renL]
          · cases h2
        · cases h2
      · cases h1

theorem results_sim (r : Rel P G ρ D nt e a H w) {fn : Func} {rs : List IRes} {vs : List AVal} (h1 : trRes P fn.results.toList = some rs) (h2 : resI e H rs = some vs) :
    ok ρ D (tupI vs) ∧ (results fn a.tmps).run P w = .ok (ren ρ (tupI vs)) w := by
  obtain ⟨h3, h4⟩ := resM_sim r _ _ _ h1 h2
  constructor
  · unfold tupI
    split
    · exact h3.1
    · simp only [ok]; exact h3
  · unfold results
    rw [Array.mapM_eq_mapM_toList]
    simp only [Sem.run_bind, Sem.run_map, Sem.run_pure]
    refine (congrArg (fun z : Result (List Value) => (z.andThen fun l w' => Result.ok l.toArray w').andThen fun b w' => Result.ok (if h : b.size = 1 then b[0] else Value.tuple b) w') h4).trans ?_
    simp only [Result.andThen_ok]
    cases vs with
    | nil => simp [renL, tupI, ren]
    | cons v vs => cases vs with
      | nil => simp [renL, tupI]
      | cons v' vs => simp [renL, tupI, ren]

end
end Go.RI

/- RI, part Y: the code turned, and the whole of it simulated. Conditions: none. -/
namespace Go.RI
open Go

/-- For each region: the order it is taken in, and the slots that are dropped behind it. -/
abbrev Hint := List Nat × List Nat

def trCode (P : Program) (nt : Nat) : Code → List Hint → Option (ICode × List Hint)
  | .skip, h => match h with
    | [] => none
    | (_, []) :: h => some (.skip, h)
    | (_, kill) :: h => some (.region [] kill, h)
  | .region _ ops draw, h => match h with
    | [] => none
    | (order, kill) :: h => match (if draw then trDraw P nt ops order else trItems P nt ops ops.toList) with
      | some xs => some (.region xs kill, h)
      | none => none
  | .seq a b, h => match trCode P nt a h with
    | some (a, h) => match trCode P nt b h with
      | some (b, h) => some (.seq a b, h)
      | none => none
    | none => none
  | .cond c a b, h => match trOpd P c, trCode P nt a h with
    | some c, some (a, h) => match trCode P nt b h with
      | some (b, h) => some (.cond c a b, h)
      | none => none
    | _, _ => none
  | .block id b, h => match trCode P nt b h with
    | some (b, h) => some (.block id b, h)
    | none => none
  | .loop b, h => match trCode P nt b h with
    | some (b, h) => some (.loop b, h)
    | none => none
  | .exit id, h => some (.exit id, h)
  | .ret, h => some (.ret, h)
  | .scope b, h => match trCode P nt b h with
    | some (b, h) => some (.seq .skip b, h)
    | none => none
  | .label _, h => some (.skip, h)
  | _, _ => none

/-- 'mode': 0, or 1. -/
def trFunc (P : Program) (hs : List Hint) (mode : Nat) (fn : Func) : Option IFunc :=
  match fn.body with
  | none => none
  | some c => match trCode P fn.ntmps c hs, trRes P fn.results.toList with
    | some (ic, _), some rs =>
      if decide (fn.params.size + fn.nfree ≤ fn.ntmps) && !(fn.name == "runtime.NumGoroutine") && decide (mode ≤ 1) then some { body := ic, nt := fn.ntmps, np := fn.params.size + fn.nfree, res := rs, mode := mode } else none
    | _, _ => none

/-- The table says what the program's functions are. -/
def TrOK (P : Program) (f : FuncId) (ifn : IFunc) : Prop := ∃ fn hs mode, P.funcs[f]? = some fn ∧ trFunc P hs mode fn = some ifn
/-- It is internal/bytealg.IndexByteString, for which the model stands in. -/
def ExtOK (P : Program) (f : FuncId) (ifn : IFunc) : Prop := ifn.mode = 4 ∧ ifn.body = .skip ∧ ∃ fn, P.funcs[f]? = some fn ∧ (fn.name == "runtime.NumGoroutine") = false ∧ fn.body.isNone = true ∧ Extern.findNext fn = none ∧ Extern.find fn = some Extern.BytealgIndexByte.indexByte
def TabOK (P : Program) (IP : FuncId → Option IFunc) : Prop := ∀ f ifn, IP f = some ifn → TrOK P f ifn ∨ ExtOK P f ifn

section
variable {P : Program} {G : AHeap}

theorem draw_or {nt lo : Nat} {ρ : Ren} {D : Nat → Prop} {e : Env} {a : Act} {H : AHeap} {w : World} (hm : P.follows .mixedOrders = true) {call : CallI} (hc : CallOK P G lo call) (hlo : G.next ≤ lo) {ops : Array Oper} {draw : Bool} {order : List Nat} {xs : List Item}
    (hx : (if draw then trDraw P nt ops order else trItems P nt ops ops.toList) = some xs) {id : Nat} {Q : Exit → Act → World → Prop}
    (r : Rel P G ρ D nt e a H w) {e' : Env} {H' : AHeap} (hs : itemsI call lo xs e H = some (e', H'))
    (h : ∀ ρ' D' a' w', Step lo ρ D H w ρ' D' H' w' → HRel G ρ' D' H' w' → ARel ρ' D' nt e' a' → Q .normal a' w') : (Code.region id ops draw).wp P Q a w := by
  cases draw with
  | true => exact draw_sim hm hc hlo hx r hs h
  | false =>
    refine wp_region ?_
    have := items_sim hc hlo (ops := ops) (Q := Q) ops.toList 0 xs (fun j o hj => by simpa using hj) hx ρ D e a H w e' H' r hs h
    simpa [List.range_eq_range'] using this

/-- What the fuel is good for. -/
def ExecOK (P : Program) (IP : FuncId → Option IFunc) (G : AHeap) (f : Nat) : Prop :=
  ∀ (nt lo : Nat), G.next ≤ lo → ∀ (c : Code) (hs : List Hint) (ic : ICode) (hs' : List Hint), trCode P nt c hs = some (ic, hs') → ∀ (ρ : Ren) (D : Nat → Prop) (e : Env) (a : Act) (H : AHeap) (w : World), Rel P G ρ D nt e a H w →
    ∀ (x : AExit) (e' : Env) (H' : AHeap), exec IP G f lo ic e H = some (x, e', H') → ∀ (Q : Exit → Act → World → Prop),
    (∀ ρ' D' a' w', Step lo ρ D H w ρ' D' H' w' → HRel G ρ' D' H' w' → ARel ρ' D' nt e' a' → Q x.conc a' w') → c.wp P Q a w

def RoundsOK (P : Program) (IP : FuncId → Option IFunc) (G : AHeap) (f : Nat) : Prop :=
  ∀ (nt lo : Nat), G.next ≤ lo → ∀ (c : Code) (hs : List Hint) (ic : ICode) (hs' : List Hint), trCode P nt c hs = some (ic, hs') → ∀ (ρ : Ren) (D : Nat → Prop) (e : Env) (a : Act) (H : AHeap) (w : World), Rel P G ρ D nt e a H w →
    ∀ (x : AExit) (e' : Env) (H' : AHeap), exec IP G f lo (.loop ic) e H = some (x, e', H') → ∀ (Q : Exit → Act → World → Prop),
    (∀ ρ' D' a' w', Step lo ρ D H w ρ' D' H' w' → HRel G ρ' D' H' w' → ARel ρ' D' nt e' a' → Q x.conc a' w') → Code.rounds P c Q f a w

theorem renL_len (ρ : Ren) (l : List AVal) : (renL ρ l).length = l.length := renL_length ρ l

theorem initEnv_get : ∀ (args : List AVal) (k t : Nat) (v : AVal), (initEnv k args).get t = some v → k ≤ t ∧ args[t - k]? = some v := by
  intro args
  induction args with
  | nil => intro k t v h; simp [initEnv, Env.get] at h
  | cons u args ih =>
    intro k t v h
    simp only [initEnv, Env.get] at h
    split at h
    · rename_i hk
      subst hk
      simp only [Option.some.injEq] at h; subst h
      exact ⟨Nat.le_refl _, by simp⟩
    · rename_i hk
      obtain ⟨h1, h2⟩ := ih (k + 1) t v h
      refine ⟨by omega, ?_⟩
      have : t - k = (t - (k + 1)) + 1 := by omega
      rw [this, List.getElem?_cons_succ]; exact h2

theorem init_rel {ρ : Ren} {D : Nat → Prop} {args : List AVal} {nt : Nat} (hn : args.length ≤ nt) (ha : okL ρ D args) :
    ARel ρ D nt (initEnv 0 args) { tmps := (renL ρ args).toArray ++ Array.replicate (nt - (renL ρ args).toArray.size) undef, defers := [] } where
  size := by simp [renL_length]; omega
  defers := rfl
  get := fun t v hv => by
    obtain ⟨_, h2⟩ := initEnv_get args 0 t v hv
    rw [Nat.sub_zero] at h2
    have hlt : t < args.length := by
      rcases Nat.lt_or_ge t args.length with h | h
      · exact h
      · rw [List.getElem?_eq_none h] at h2; cases h2
    refine ⟨by omega, ?_, okL_get ha h2⟩
    rw [Array.getD_eq_getD_getElem?, Array.getElem?_append_left (by simp [renL_length]; exact hlt)]
    simp only [List.getElem?_toArray, renL_get, h2, Option.map_some, Option.getD_some]

/-- The byte's place is the machine's. -/
theorem idxL_first (c : UInt8) (x : List UInt8) : firstIdx ⟨x.toArray⟩ c = idxL c x 0 := by
  have key : ∀ (l : List UInt8) (p : List UInt8) (hp : x = p ++ l), (match (List.range' p.length l.length).find? fun i => (ByteArray.mk x.toArray)[i]! == c with | some i => (i : Int) | none => -1) = idxL c l p.length := by
    intro l
    induction l with
    | nil => intro p hp; rfl
    | cons b l ih =>
      intro p hp
      have hb : (ByteArray.mk x.toArray)[p.length]! = b := by
        subst hp
        have : p.length < (ByteArray.mk (p ++ b :: l).toArray).size := by simp [ByteArray.size]
        rw [getElem!_pos (ByteArray.mk (p ++ b :: l).toArray) p.length this]
        simp [ByteArray.getElem_eq_getElem_data]
      simp only [List.length_cons, List.range'_succ, List.find?_cons, hb, idxL]
      cases hbc : b == c
      · have := ih (p ++ [b]) (by rw [hp]; simp)
        simp only [List.length_append, List.length_cons, List.length_nil, Nat.zero_add] at this
        simp only [Bool.false_eq_true, if_false]
        rw [this]
        rfl
      · simp
  have := key x [] rfl
  simp only [List.length_nil] at this
  unfold firstIdx
  rw [List.range_eq_range']
  have hs : (ByteArray.mk x.toArray).size = x.length := by simp [ByteArray.size]
  rw [hs]
  exact this

theorem tr_mode {hs : List Hint} {mode : Nat} {fn : Func} {ifn : IFunc} (h : trFunc P hs mode fn = some ifn) : ifn.mode = 0 ∨ ifn.mode = 1 := by
  unfold trFunc at h
  split at h
  · cases h
  · split at h
    · split at h
      · rename_i hc
        cases h
        simp only [Bool.and_eq_true, decide_eq_true_eq] at hc
        have := hc.2
        simp only
        omega
      · cases h
    · cases h

/-- A body run is a call. -/
theorem body_sim {IP : FuncId → Option IFunc} (hg : G.next = P.globals.size) (hgo : GOk G) {f : Nat} (hex : ExecOK P IP G f) {lo : Nat} (hlo : G.next ≤ lo) {g : FuncId} {ifn : IFunc} (htr0 : TrOK P g ifn)
    {args : List AVal} {H : AHeap} {r : AVal} {H' : AHeap} (hb : bodyI (exec IP G f) ifn lo args H = some (r, H')) {ρ : Ren} {D : Nat → Prop} {w : World} (hrel : HRel G ρ D H w) (ha : okL ρ D args) :
    Calls P g (renL ρ args).toArray w (fun e w' => ∃ ρ' D', e = .returned (ren ρ' r) ∧ Step lo ρ D H w ρ' D' H' w' ∧ HRel G ρ' D' H' w' ∧ ok ρ' D' r) := by
  obtain ⟨fn, hs, mode, hf, htr⟩ := htr0
  unfold trFunc at htr
  split at htr
  · cases htr
  · rename_i c hbody
    split at htr
    · rename_i ic hs' rs hcode hres
      split at htr
      · rename_i hchk
        cases htr
        simp only [Bool.and_eq_true, decide_eq_true_eq] at hchk
        unfold bodyI at hb
        simp only at hb
        split at hb
        · rename_i hlen
          have hle : args.length ≤ fn.ntmps := by rw [hlen]; exact hchk.1.1
          have har := init_rel (ρ := ρ) (D := D) hle ha
          refine calls_of_wp hf hbody ?_
          have fin : ∀ (x : AExit) (e1 : Env) (H1 : AHeap), exec IP G f lo ic (initEnv 0 args) H = some (x, e1, H1) → (x = .normal ∨ x = .ret) → (∃ vs, resI e1 H1 rs = some vs ∧ r = tupI vs ∧ H' = H1) →
              c.wp P (bodyPost P fn (fun e w' => ∃ ρ' D', e = .returned (ren ρ' r) ∧ Step lo ρ D H w ρ' D' H' w' ∧ HRel G ρ' D' H' w' ∧ ok ρ' D' r))
                { tmps := (renL ρ args).toArray ++ Array.replicate (fn.ntmps - (renL ρ args).toArray.size) undef, defers := [] } w := by
            rintro x e1 H1 h1 h2 ⟨vs, hvs, rfl, rfl⟩
            · refine hex fn.ntmps lo hlo c hs ic hs' hcode ρ D _ _ H w ⟨hg, hgo, hrel, har⟩ x e1 _ h1 _ ?_
              intro ρ' D' a' w' g1 g2 g3
              obtain ⟨h5, h6⟩ := results_sim (nt := fn.ntmps) ⟨hg, hgo, g2, g3⟩ hres hvs
              rcases h2 with rfl | rfl <;> exact ⟨g3.defers, _, h6, ρ', D', rfl, g1, g2, h5⟩
          split at hb
          · cases hb
          · rename_i x e1 H1 hnex hx
            split at hb
            · rename_i vs hvs
              cases hb
              refine fin x e1 _ hx ?_ ⟨vs, hvs, rfl, rfl⟩
              cases x with
              | normal => exact .inl rfl
              | ret => exact .inr rfl
              | exit id => exact (hnex id rfl).elim
            · cases hb
          · cases hb
        · cases hb
      · cases htr
    · cases htr

theorem Step.any {lo : Nat} {ρ ρ' : Ren} {D D' : Nat → Prop} {H H' : AHeap} {w w' : World} (s : Step H.next ρ D H w ρ' D' H' w') : Step lo ρ D H w ρ' D' H' w' :=
  { s with low := fun id _ hlt => s.low id hlt hlt }

theorem calls_sim {IP : FuncId → Option IFunc} (htab : TabOK P IP) (hg : G.next = P.globals.size) (hgo : GOk G) {f : Nat} (hex : ExecOK P IP G f) {lo : Nat} (hlo : G.next ≤ lo) : CallOK P G lo (callI (exec IP G f) IP G lo) where
  body := fun g args H r h => by
    simp only [callI, callB] at h
    split at h
    · cases h
    · rename_i ifn hi
      rcases htab g ifn hi with ⟨fn, hs, mode, hf, htr⟩ | ⟨hm, hb, fn, hf, h1, h2, h3, h4⟩
      · left
        unfold trFunc at htr
        split at htr
        · cases htr
        · rename_i c hbody
          split at htr
          · split at htr
            · rename_i hchk
              simp only [Bool.and_eq_true, Bool.not_eq_true'] at hchk
              exact ⟨fn, hf, by rw [hbody]; rfl, hchk.1.2⟩
            · cases htr
          · cases htr
      · right
        rw [hm] at h
        simp only [hb, cloneB, isSkip] at h
        rw [Option.map_eq_some_iff] at h
        obtain ⟨v, hv, rfl⟩ := h
        unfold idxB at hv
        split at hv
        · rename_i x c
          cases hv
          refine ⟨_, rfl, fun ρ w => ?_⟩
          rw [run_callFunc_extern hf h1 h2 h3 h4]
          have : (renL ρ [AVal.s x, AVal.i .u8 c]).toArray = #[.string ⟨x.toArray⟩, .int .u8 c] := rfl
          rw [this, run_indexByte_string, idxL_first]
          rfl
        · cases hv
  calls := fun g args H r H' h hb ρ D w hrel ha => by
    simp only [callI, callB] at h
    split at h
    · cases h
    · rename_i ifn hi
      have htr0 : TrOK P g ifn := by
        rcases htab g ifn hi with htr0 | ⟨_, _, fn, hf, _, h2, _⟩
        · exact htr0
        · obtain ⟨fn', hf', hb', _⟩ := hb
          rw [hf] at hf'; cases hf'
          cases hbb : fn.body <;> simp [hbb] at h2 hb'
      obtain ⟨fn, hs, mode, hf, htr⟩ := htr0
      have htr0 : TrOK P g ifn := ⟨fn, hs, mode, hf, htr⟩
      rcases tr_mode htr with hm | hm
      · rw [hm] at h
        refine (body_sim hg hgo hex hlo htr0 h hrel ha).mono ?_
        rintro e w' ⟨ρ', D', h1, h2, h3, h4⟩
        exact ⟨ρ', D', h1, h2, h3, h4, fun hp => by simp [callI, pureB, hi, hm] at hp⟩
      · rw [hm] at h
        refine (body_sim hg hgo hex hrel.gnext htr0 h hrel ha).mono ?_
        rintro e w' ⟨ρ', D', h1, h2, h3, h4⟩
        exact ⟨ρ', D', h1, h2.any, h3, h4, fun _ => ⟨h2.next, fun id hlt => h2.low id hlt hlt⟩⟩

end
end Go.RI

/- RI, part Z: the interpreter is the machine, with whatever fuel. Conditions: none. -/
namespace Go.RI
open Go

section
variable {P : Program} {G : AHeap}

theorem exec_sim (hm : P.follows .mixedOrders = true) {IP : FuncId → Option IFunc} (htab : TabOK P IP) (hg : G.next = P.globals.size) (hgo : GOk G) : ∀ f, ExecOK P IP G f ∧ RoundsOK P IP G f := by
  intro f
  induction f with
  | zero =>
    refine ⟨?_, ?_⟩
    · intro nt lo hlo c hs ic hs' hc ρ D e a H w r x e' H' h; simp [exec] at h
    · intro nt lo hlo c hs ic hs' hc ρ D e a H w r x e' H' h; simp [exec] at h
  | succ f ih =>
    obtain ⟨ihe, ihr⟩ := ih
    refine ⟨?_, ?_⟩
    · intro nt lo hlo c hs ic hs' hc ρ D e a H w r x e' H' h Q hQ
      cases c <;> simp only [trCode] at hc
      case skip =>
        split at hc
        · cases hc
        · cases hc
          simp only [exec] at h
          cases h
          exact wp_skip (hQ ρ D a w (Step.refl lo ρ D H w r.heap.lt) r.heap r.slots)
        · rename_i kill hs2 _
          cases hc
          simp only [exec, itemsI] at h
          cases h
          exact wp_skip (hQ ρ D a w (Step.refl lo ρ D H w r.heap.lt) r.heap (r.slots.kill _))
      case region id ops draw =>
        split at hc
        · cases hc
        · rename_i order kill hs2
          split at hc
          · rename_i xs hxs
            cases hc
            simp only [exec] at h
            split at h
            · rename_i e1 H1 hit
              cases h
              exact draw_or hm (calls_sim htab hg hgo ihe hlo) hlo hxs r hit fun ρ' D' a' w' g1 g2 g3 => hQ ρ' D' a' w' g1 g2 (g3.kill kill)
            · cases h
          · cases hc
      case seq ca cb =>
        split at hc
        · rename_i ia hs1 h1
          split at hc
          · rename_i ib hs2 h2
            cases hc
            simp only [exec] at h
            refine wp_seq ?_
            split at h
            · rename_i e1 H1 hx
              refine ihe nt lo hlo ca hs ia hs1 h1 ρ D e a H w r .normal e1 H1 hx _ fun ρ' D' a' w' g1 g2 g3 => ?_
              refine ihe nt lo hlo cb hs1 ib hs' h2 ρ' D' e1 a' H1 w' ⟨hg, hgo, g2, g3⟩ x e' H' h Q fun ρ2 D2 a2 w2 k1 k2 k3 => hQ ρ2 D2 a2 w2 (g1.trans k1) k2 k3
            · rename_i hne
              refine ihe nt lo hlo ca hs ia hs1 h1 ρ D e a H w r x e' H' h _ fun ρ' D' a' w' g1 g2 g3 => ?_
              have := hQ ρ' D' a' w' g1 g2 g3
              cases x with
              | normal => exact (hne _ _ h).elim
              | exit id => exact this
              | ret => exact this
          · cases hc
        · cases hc
      case cond co ca cb =>
        split at hc
        · rename_i ic' ia hs1 h0 h1
          split at hc
          · rename_i ib hs2 h2
            cases hc
            simp only [exec] at h
            split at h
            · rename_i hv
              obtain ⟨g1, _⟩ := opd_sim r h0 hv
              exact wp_cond_true (by rw [g1]; rfl) (ihe nt lo hlo ca hs ia hs1 h1 ρ D e a H w r x e' H' h Q hQ)
            · rename_i hv
              obtain ⟨g1, _⟩ := opd_sim r h0 hv
              exact wp_cond_false (by rw [g1]; rfl) (ihe nt lo hlo cb hs1 ib hs' h2 ρ D e a H w r x e' H' h Q hQ)
            · cases h
          · cases hc
        · cases hc
      case block id cb =>
        split at hc
        · rename_i ib hs1 h1
          cases hc
          simp only [exec] at h
          refine wp_block ?_
          split at h
          · rename_i id' e1 H1 hx
            refine ihe nt lo hlo cb hs ib hs' h1 ρ D e a H w r (.exit id') e1 H1 hx _ fun ρ' D' a' w' g1 g2 g3 => ?_
            show (if id' = id then Q .normal a' w' else Q (.exit id') a' w')
            split at h
            · rename_i hid
              cases h
              rw [if_pos hid]
              exact hQ ρ' D' a' w' g1 g2 g3
            · rename_i hid
              cases h
              rw [if_neg hid]
              exact hQ ρ' D' a' w' g1 g2 g3
          · rename_i hne
            refine ihe nt lo hlo cb hs ib hs' h1 ρ D e a H w r x e' H' h _ fun ρ' D' a' w' g1 g2 g3 => ?_
            have := hQ ρ' D' a' w' g1 g2 g3
            cases x with
            | normal => exact this
            | exit id' => exact (hne _ _ _ h).elim
            | ret => exact this
        · cases hc
      case loop cb =>
        split at hc
        · rename_i ib hs1 h1
          cases hc
          refine wp_loop_rounds (f + 1) ?_
          show cb.wp P (Exit.then (Code.rounds P cb Q f) Q) a w
          simp only [exec] at h
          split at h
          · rename_i e1 H1 hx
            refine ihe nt lo hlo cb hs ib hs' h1 ρ D e a H w r .normal e1 H1 hx _ fun ρ' D' a' w' g1 g2 g3 => ?_
            refine ihr nt lo hlo cb hs ib hs' h1 ρ' D' e1 a' H1 w' ⟨hg, hgo, g2, g3⟩ x e' H' h Q fun ρ2 D2 a2 w2 k1 k2 k3 => hQ ρ2 D2 a2 w2 (g1.trans k1) k2 k3
          · rename_i hne
            refine ihe nt lo hlo cb hs ib hs' h1 ρ D e a H w r x e' H' h _ fun ρ' D' a' w' g1 g2 g3 => ?_
            have := hQ ρ' D' a' w' g1 g2 g3
            cases x with
            | normal => exact (hne _ _ h).elim
            | exit id => exact this
            | ret => exact this
        · cases hc
      case exit id =>
        cases hc
        simp only [exec] at h
        cases h
        exact wp_exit (hQ ρ D a w (Step.refl lo ρ D H w r.heap.lt) r.heap r.slots)
      case ret =>
        cases hc
        simp only [exec] at h
        cases h
        exact wp_ret (hQ ρ D a w (Step.refl lo ρ D H w r.heap.lt) r.heap r.slots)
      case scope cb =>
        split at hc
        · rename_i ib hs1 h1
          cases hc
          simp only [exec] at h
          have h' : exec IP G f lo ib e H = some (x, e', H') := by
            cases f with
            | zero => simp [exec] at h
            | succ f => simpa [exec] using h
          refine wp_scope_straight (ihe nt lo hlo cb hs ib hs' h1 ρ D e a H w r x e' H' h' _ fun ρ' D' a' w' g1 g2 g3 => ?_)
          have := hQ ρ' D' a' w' g1 g2 g3
          cases x <;> exact this
        · cases hc
      case label l =>
        cases hc
        simp only [exec] at h
        cases h
        exact wp_label (hQ ρ D a w (Step.refl lo ρ D H w r.heap.lt) r.heap r.slots)
      all_goals cases hc
    · intro nt lo hlo cb hs ib hs' h1 ρ D e a H w r x e' H' h Q hQ
      show cb.wp P (Exit.then (Code.rounds P cb Q f) Q) a w
      simp only [exec] at h
      split at h
      · rename_i e1 H1 hx
        refine ihe nt lo hlo cb hs ib hs' h1 ρ D e a H w r .normal e1 H1 hx _ fun ρ' D' a' w' g1 g2 g3 => ?_
        refine ihr nt lo hlo cb hs ib hs' h1 ρ' D' e1 a' H1 w' ⟨hg, hgo, g2, g3⟩ x e' H' h Q fun ρ2 D2 a2 w2 k1 k2 k3 => hQ ρ2 D2 a2 w2 (g1.trans k1) k2 k3
      · rename_i hne
        refine ihe nt lo hlo cb hs ib hs' h1 ρ D e a H w r x e' H' h _ fun ρ' D' a' w' g1 g2 g3 => ?_
        have := hQ ρ' D' a' w' g1 g2 g3
        cases x with
        | normal => exact (hne _ _ h).elim
        | exit id => exact this
        | ret => exact this

/-- The interpreter's call is the machine's. -/
theorem acall_sim (hm : P.follows .mixedOrders = true) {IP : FuncId → Option IFunc} (htab : TabOK P IP) (hg : G.next = P.globals.size) (hgo : GOk G) (f : Nat) {lo : Nat} (hlo : G.next ≤ lo) : CallOK P G lo (acall IP G f lo) :=
  calls_sim htab hg hgo (exec_sim hm htab hg hgo f).1 hlo

end
end Go.RI

/- RI: more fuel does no harm; a calculus over the interpreter that names no fuel. Conditions: none. -/
namespace Go.RI
open Go
set_option linter.unusedSimpArgs false

/-! ### More fuel -/
structure LeC (c c' : CallI) : Prop where
  le : ∀ f args H r, c f args H = some r → c' f args H = some r
  pu : c.pure = c'.pure
theorem LeC.skip {c c' : CallI} (h : LeC c c') (o : IOp) : skipI c o = skipI c' o := by cases o <;> simp [skipI, h.pu]
abbrev ExI := Nat → ICode → Env → AHeap → Option (AExit × Env × AHeap)
def LeX (x x' : ExI) : Prop := ∀ lo c e H r, x lo c e H = some r → x' lo c e H = some r

theorem opI_mono {c c' : CallI} (h : LeC c c') {lo : Nat} {o : IOp} {e : Env} {H : AHeap} {r : Option AVal × AHeap} (hs : opI c lo o e H = some r) : opI c' lo o e H = some r := by
  cases o <;> simp only [opI] at hs ⊢ <;> try (exact hs)
  case call f args =>
    split at hs
    · rename_i vs hvs
      split at hs
      · rename_i v H' hc
        rw [h.le _ _ _ _ hc]; exact hs
      · cases hs
    · cases hs
  case callv x args =>
    split at hs
    · rename_i f fst cap hx
      split at hs
      · rename_i vs hvs
        split at hs
        · rename_i v H' hc
          simp only [h.le _ _ _ _ hc]; exact hs
        · cases hs
      · cases hs
    · cases hs

theorem itemI_mono {c c' : CallI} (h : LeC c c') {lo : Nat} {x : Item} {e : Env} {H : AHeap} {r : Env × AHeap} (hs : itemI c lo x e H = some r) : itemI c' lo x e H = some r := by
  simp only [itemI] at hs ⊢
  split at hs
  · cases hs
  · exact hs
  · split at hs
    · rename_i v H' ho; rw [opI_mono h ho]; exact hs
    · rename_i H' ho; rw [opI_mono h ho]; exact hs
    · cases hs

theorem itemsI_mono {c c' : CallI} (h : LeC c c') {lo : Nat} : ∀ {xs : List Item} {e : Env} {H : AHeap} {r : Env × AHeap}, itemsI c lo xs e H = some r → itemsI c' lo xs e H = some r := by
  intro xs
  induction xs with
  | nil => intro e H r hs; exact hs
  | cons x xs ih =>
    intro e H r hs
    simp only [itemsI] at hs ⊢
    split at hs
    · rename_i e' H' hi
      rw [itemI_mono h hi]
      simp only
      split at hs
      · rename_i hre; rw [← h.skip, if_pos hre]; exact ih hs
      · cases hs
    · cases hs

theorem bodyI_mono {x x' : ExI} (h : LeX x x') {fn : IFunc} {lo : Nat} {args : List AVal} {H : AHeap} {r : AVal × AHeap} (hs : bodyI x fn lo args H = some r) : bodyI x' fn lo args H = some r := by
  simp only [bodyI] at hs ⊢
  split at hs
  · rename_i hl
    rw [if_pos hl]
    split at hs
    · cases hs
    · rename_i y e' H' hne hx
      have := h _ _ _ _ _ hx
      rw [this]
      cases y with
      | exit id => exact (hne id rfl).elim
      | normal => exact hs
      | ret => exact hs
    · cases hs
  · cases hs

theorem callI_mono {x x' : ExI} (h : LeX x x') (IP : FuncId → Option IFunc) (G : AHeap) (lo : Nat) : LeC (callI x IP G lo) (callI x' IP G lo) := by
  refine ⟨?_, rfl⟩
  intro f args H r hs
  simp only [callI, callB] at hs ⊢
  split at hs
  · cases hs
  · split at hs
    · exact bodyI_mono h hs
    · exact bodyI_mono h hs
    · split at hs
      · split at hs
        · rename_i v H' hb; rw [bodyI_mono h hb]; exact hs
        · cases hs
      · cases hs
    · split at hs
      · rename_i v H' hb; rw [bodyI_mono h hb]; exact hs
      · cases hs
    · exact hs

section
variable {IP : FuncId → Option IFunc} {G : AHeap}

theorem exec_succ : ∀ f, LeX (exec IP G f) (exec IP G (f + 1)) := by
  intro f
  induction f with
  | zero => intro lo c e H r h; simp [exec] at h
  | succ f ih =>
    intro lo c e H r h
    cases c <;> rw [exec] at h ⊢
    case skip => exact h
    case region items kill =>
      split at h
      · rename_i e' H' hi
        rw [itemsI_mono (callI_mono ih IP G lo) hi]; exact h
      · cases h
    case seq a b =>
      split at h
      · rename_i e' H' ha
        rw [ih _ _ _ _ _ ha]; exact ih _ _ _ _ _ h
      · rename_i hne
        rw [ih _ _ _ _ _ h]
        obtain ⟨x, e', H'⟩ := r
        cases x with
        | normal => exact (hne _ _ h).elim
        | exit id => rfl
        | ret => rfl
    case cond c a b =>
      split at h
      · exact ih _ _ _ _ _ h
      · exact ih _ _ _ _ _ h
      · cases h
    case block id b =>
      split at h
      · rename_i id' e' H' hb
        rw [ih _ _ _ _ _ hb]; exact h
      · rename_i hne
        rw [ih _ _ _ _ _ h]
        obtain ⟨x, e', H'⟩ := r
        cases x with
        | normal => rfl
        | exit id => exact (hne _ _ _ h).elim
        | ret => rfl
    case loop b =>
      split at h
      · rename_i e' H' ha
        rw [ih _ _ _ _ _ ha]; exact ih _ _ _ _ _ h
      · rename_i hne
        rw [ih _ _ _ _ _ h]
        obtain ⟨x, e', H'⟩ := r
        cases x with
        | normal => exact (hne _ _ h).elim
        | exit id => rfl
        | ret => rfl
    case exit id => exact h
    case ret => exact h

theorem exec_mono {f f' : Nat} (hf : f ≤ f') : LeX (exec IP G f) (exec IP G f') := by
  induction hf with
  | refl => exact fun _ _ _ _ _ h => h
  | step _ ih => exact fun lo c e H r h => exec_succ _ lo c e H r (ih lo c e H r h)

theorem acall_mono {f f' : Nat} (hf : f ≤ f') (lo : Nat) : LeC (acall IP G f lo) (acall IP G f' lo) := callI_mono (exec_mono hf) IP G lo

/-! ### The calculus -/
/-- With fuel enough, the call comes to that. -/
def Brings (IP : FuncId → Option IFunc) (G : AHeap) (lo : Nat) (f : FuncId) (args : List AVal) (H : AHeap) (v : AVal) (H' : AHeap) : Prop := ∃ n, acall IP G n lo f args H = some (v, H')

/-- What is known of calls. -/
structure Knows (IP : FuncId → Option IFunc) (G : AHeap) (lo : Nat) (call : CallI) : Prop where
  brings : ∀ f args H v H', call f args H = some (v, H') → Brings IP G lo f args H v H'
  pu : call.pure = pureB IP

abbrev Post := AExit → Env → AHeap → Prop
def rounds (W : Post → Env → AHeap → Prop) (Q : Post) : Nat → Env → AHeap → Prop
  | 0, _, _ => False
  | n + 1, e, H => W (fun x e H => match x with | .normal => rounds W Q n e H | x => Q x e H) e H

def andThen (Q : Post) (k : Env → AHeap → Prop) : Post := fun x e H => match x with | .normal => k e H | x => Q x e H
def inBlock (Q : Post) (id : Nat) : Post := fun x e H => match x with | .exit i => if i = id then Q .normal e H else Q (.exit i) e H | x => Q x e H
def upon (r : Option (Env × AHeap)) (k : Env → AHeap → Prop) : Prop := match r with | some (e, H) => k e H | none => False
def test (v : Option AVal) (a b : Prop) : Prop := match v with | some (.b true) => a | some (.b false) => b | _ => False

def wp (call : CallI) (lo : Nat) : ICode → Post → Env → AHeap → Prop
  | .skip, Q, e, H => Q .normal e H
  | .region xs kill, Q, e, H => upon (itemsI call lo xs e H) fun e' H' => Q .normal (e'.kill kill) H'
  | .seq a b, Q, e, H => wp call lo a (andThen Q fun e' H' => wp call lo b Q e' H') e H
  | .cond c a b, Q, e, H => test (c.eval e) (wp call lo a Q e H) (wp call lo b Q e H)
  | .block id b, Q, e, H => wp call lo b (inBlock Q id) e H
  | .loop b, Q, e, H => ∃ n, rounds (fun Q' => wp call lo b Q') Q n e H
  | .exit id, Q, e, H => Q (.exit id) e H
  | .ret, Q, e, H => Q .ret e H

theorem items_fuel {call : CallI} {lo : Nat} (hk : Knows IP G lo call) : ∀ {xs : List Item} {e : Env} {H : AHeap} {r : Env × AHeap}, itemsI call lo xs e H = some r → ∃ n, itemsI (acall IP G n lo) lo xs e H = some r := by
  have one : ∀ {o : IOp} {e : Env} {H : AHeap} {r : Option AVal × AHeap}, opI call lo o e H = some r → ∃ n, opI (acall IP G n lo) lo o e H = some r := by
    intro o e H r hs
    cases o <;> simp only [opI] at hs ⊢ <;> try (exact ⟨0, hs⟩)
    case call f args =>
      split at hs
      · rename_i vs hvs
        split at hs
        · rename_i v H' hc
          obtain ⟨n, hn⟩ := hk.brings _ _ _ _ _ hc
          exact ⟨n, by rw [hn]; exact hs⟩
        · cases hs
      · cases hs
    case callv x args =>
      split at hs
      · rename_i f fst cap hx
        split at hs
        · rename_i vs hvs
          split at hs
          · rename_i v H' hc
            obtain ⟨n, hn⟩ := hk.brings _ _ _ _ _ hc
            exact ⟨n, by simp only [hn]; exact hs⟩
          · cases hs
        · cases hs
      · cases hs
  intro xs
  induction xs with
  | nil => intro e H r hs; exact ⟨0, hs⟩
  | cons x xs ih =>
    intro e H r hs
    simp only [itemsI] at hs
    split at hs
    · rename_i e' H' hi
      split at hs
      · rename_i hre
        obtain ⟨n, hn⟩ := ih hs
        have : ∃ m, itemI (acall IP G m lo) lo x e H = some (e', H') := by
          simp only [itemI] at hi ⊢
          split at hi
          · cases hi
          · exact ⟨0, hi⟩
          · split at hi
            · rename_i v H2 ho
              obtain ⟨m, hm⟩ := one ho
              exact ⟨m, by rw [hm]; exact hi⟩
            · rename_i H2 ho
              obtain ⟨m, hm⟩ := one ho
              exact ⟨m, by rw [hm]; exact hi⟩
            · cases hi
        obtain ⟨m, hm⟩ := this
        refine ⟨max n m, ?_⟩
        simp only [itemsI]
        rw [itemI_mono (acall_mono (Nat.le_max_right n m) lo) hm]
        have hsk : skipI (acall IP G (max n m) lo) x.op = skipI call x.op := by cases x.op <;> simp only [skipI, hk.pu] <;> rfl
        simp only [hsk, hre, if_true]
        exact itemsI_mono (acall_mono (Nat.le_max_left n m) lo) hn
      · cases hs
    · cases hs

theorem wp_exec {call : CallI} {lo : Nat} (hk : Knows IP G lo call) : ∀ (c : ICode) (Q : Post) (e : Env) (H : AHeap), wp call lo c Q e H → ∃ n x e' H', exec IP G n lo c e H = some (x, e', H') ∧ Q x e' H' := by
  intro c
  induction c with
  | skip => intro Q e H h; exact ⟨1, .normal, e, H, rfl, h⟩
  | region xs kill =>
    intro Q e H h
    simp only [wp, upon] at h
    split at h
    · rename_i e' H' hi
      obtain ⟨n, hn⟩ := items_fuel hk hi
      refine ⟨n + 1, .normal, e'.kill kill, H', ?_, h⟩
      rw [exec]
      show (match itemsI (acall IP G n lo) lo xs e H with | some (e', H') => some (AExit.normal, e'.kill kill, H') | none => none) = _
      rw [hn]
    · exact h.elim
  | seq a b iha ihb =>
    intro Q e H h
    obtain ⟨n, x, e', H', hx, hq⟩ := iha _ e H h
    cases x with
    | normal =>
      obtain ⟨m, y, e2, H2, hy, hq2⟩ := ihb Q e' H' hq
      refine ⟨max n m + 1, y, e2, H2, ?_, hq2⟩
      rw [exec]
      simp only [exec_mono (Nat.le_max_left n m) _ _ _ _ _ hx]
      exact exec_mono (Nat.le_max_right n m) _ _ _ _ _ hy
    | exit id => exact ⟨n + 1, .exit id, e', H', by rw [exec]; simp only [hx], hq⟩
    | ret => exact ⟨n + 1, .ret, e', H', by rw [exec]; simp only [hx], hq⟩
  | cond c a b iha ihb =>
    intro Q e H h
    simp only [wp, test] at h
    split at h
    · rename_i hv
      obtain ⟨n, x, e', H', hx, hq⟩ := iha Q e H h
      exact ⟨n + 1, x, e', H', by rw [exec]; simp only [hv]; exact hx, hq⟩
    · rename_i hv
      obtain ⟨n, x, e', H', hx, hq⟩ := ihb Q e H h
      exact ⟨n + 1, x, e', H', by rw [exec]; simp only [hv]; exact hx, hq⟩
    · exact h.elim
  | block id b ih =>
    intro Q e H h
    obtain ⟨n, x, e', H', hx, hq⟩ := ih _ e H h
    cases x with
    | normal => exact ⟨n + 1, .normal, e', H', by rw [exec]; simp only [hx], hq⟩
    | exit i =>
      simp only [inBlock] at hq
      split at hq
      · rename_i hi
        exact ⟨n + 1, .normal, e', H', by rw [exec]; simp only [hx, if_pos hi], hq⟩
      · rename_i hi
        exact ⟨n + 1, .exit i, e', H', by rw [exec]; simp only [hx, if_neg hi], hq⟩
    | ret => exact ⟨n + 1, .ret, e', H', by rw [exec]; simp only [hx], hq⟩
  | loop b ih =>
    intro Q e H h
    obtain ⟨k, hk'⟩ := h
    induction k generalizing e H with
    | zero => exact hk'.elim
    | succ k ihk =>
      obtain ⟨n, x, e', H', hx, hq⟩ := ih _ e H hk'
      cases x with
      | normal =>
        obtain ⟨m, y, e2, H2, hy, hq2⟩ := ihk e' H' hq
        refine ⟨max n m + 1, y, e2, H2, ?_, hq2⟩
        rw [exec]
        simp only [exec_mono (Nat.le_max_left n m) _ _ _ _ _ hx]
        exact exec_mono (Nat.le_max_right n m) _ _ _ _ _ hy
      | exit id => exact ⟨n + 1, .exit id, e', H', by rw [exec]; simp only [hx], hq⟩
      | ret => exact ⟨n + 1, .ret, e', H', by rw [exec]; simp only [hx], hq⟩
  | exit id => intro Q e H h; exact ⟨1, .exit id, e, H, rfl, h⟩
  | ret => intro Q e H h; exact ⟨1, .ret, e, H, rfl, h⟩

/-- A post for a body: what it hands back. -/
def ends (fn : IFunc) (R : AVal → AHeap → Prop) : Post := fun x e H => match x with
  | .exit _ => False
  | _ => match resI e H fn.res with
    | some vs => R (tupI vs) H
    | none => False

theorem body_wp {call : CallI} {lo : Nat} (hk : Knows IP G lo call) {fn : IFunc} {args : List AVal} {H : AHeap} {R : AVal → AHeap → Prop} (hl : args.length = fn.np) (h : wp call lo fn.body (ends fn R) (initEnv 0 args) H) :
    ∃ n v H', bodyI (exec IP G n) fn lo args H = some (v, H') ∧ R v H' := by
  obtain ⟨n, x, e', H', hx, hq⟩ := wp_exec hk _ _ _ _ h
  refine ⟨n, ?_⟩
  simp only [bodyI, if_pos hl, hx]
  unfold ends at hq
  cases x with
  | exit id => exact hq.elim
  | normal =>
    simp only at hq ⊢
    split at hq
    · rename_i vs hvs; exact ⟨tupI vs, H', by rw [hvs], hq⟩
    · exact hq.elim
  | ret =>
    simp only at hq ⊢
    split at hq
    · rename_i vs hvs; exact ⟨tupI vs, H', by rw [hvs], hq⟩
    · exact hq.elim

/-- A pure call. -/
theorem comesP {call : CallI} (hk : Knows IP G G.next call) {f : FuncId} {fn : IFunc} (hf : IP f = some fn) (hm : fn.mode = 2) {H : AHeap} {args args' : List AVal} (ha : mapO (snapV H 16) args = some args') (hl : args'.length = fn.np) {v : AVal}
    (h : wp call G.next fn.body (ends fn fun u H1 => frzV H1 G.next 16 u = some v) (initEnv 0 args') G) (lo : Nat) : Brings IP G lo f args H v H := by
  obtain ⟨n, v', H', hb, hv⟩ := body_wp hk hl h
  refine ⟨n, ?_⟩
  simp only [acall, callI, callB, hf, hm, ha, hb, hv]

/-- A pure call in the caller's heap. -/
theorem comes3 {call : CallI} {H : AHeap} (hk : Knows IP G H.next call) {f : FuncId} {fn : IFunc} (hf : IP f = some fn) (hm : fn.mode = 3) {args : List AVal} (hl : args.length = fn.np) {v : AVal}
    (h : wp call H.next fn.body (ends fn fun u _ => u = v ∧ below H.next u = true) (initEnv 0 args) H) (lo : Nat) : Brings IP G lo f args H v H := by
  obtain ⟨n, v', H', hb, rfl, hv⟩ := body_wp hk hl h
  refine ⟨n, ?_⟩
  simp only [acall, callI, callB, hf, hm, hb, hv, if_true]

/-- A call that writes nothing old. -/
theorem comes1 {call : CallI} {H : AHeap} (hk : Knows IP G H.next call) {f : FuncId} {fn : IFunc} (hf : IP f = some fn) (hm : fn.mode = 1) {args : List AVal} (hl : args.length = fn.np) {v : AVal} {H' : AHeap}
    (h : wp call H.next fn.body (ends fn fun u H1 => u = v ∧ H1 = H') (initEnv 0 args) H) (lo : Nat) : Brings IP G lo f args H v H' := by
  obtain ⟨n, v', H1, hb, rfl, rfl⟩ := body_wp hk hl h
  refine ⟨n, ?_⟩
  simp only [acall, callI, callB, hf, hm, hb]

theorem comes0 {call : CallI} {lo : Nat} {H : AHeap} (hk : Knows IP G lo call) {f : FuncId} {fn : IFunc} (hf : IP f = some fn) (hm : fn.mode = 0) {args : List AVal} (hl : args.length = fn.np) {R : AVal → AHeap → Prop}
    (h : wp call lo fn.body (ends fn R) (initEnv 0 args) H) : ∃ v H', Brings IP G lo f args H v H' ∧ R v H' := by
  obtain ⟨n, v, H', hb, hR⟩ := body_wp hk hl h
  exact ⟨v, H', ⟨n, by simp only [acall, callI, callB, hf, hm, hb]⟩, hR⟩

/-- The calls that come to something, as they do. -/
noncomputable def theCallsB (IP : FuncId → Option IFunc) (G : AHeap) (lo : Nat) (f : FuncId) (args : List AVal) (H : AHeap) : Option (AVal × AHeap) := open Classical in if h : ∃ r : AVal × AHeap, Brings IP G lo f args H r.1 r.2 then some h.choose else none
noncomputable def theCalls (IP : FuncId → Option IFunc) (G : AHeap) (lo : Nat) : CallI := ⟨theCallsB IP G lo, pureB IP⟩

theorem comes_unique {lo : Nat} {f : FuncId} {args : List AVal} {H : AHeap} {v v' : AVal} {H1 H2 : AHeap} (h : Brings IP G lo f args H v H1) (h' : Brings IP G lo f args H v' H2) : v = v' ∧ H1 = H2 := by
  obtain ⟨n, hn⟩ := h
  obtain ⟨m, hm⟩ := h'
  have h1 := (acall_mono (Nat.le_max_left n m) lo).le _ _ _ _ hn
  have h2 := (acall_mono (Nat.le_max_right n m) lo).le _ _ _ _ hm
  rw [h1] at h2
  cases h2
  exact ⟨rfl, rfl⟩

theorem theCalls_knows (lo : Nat) : Knows IP G lo (theCalls IP G lo) := by
  refine ⟨?_, rfl⟩
  intro f args H v H' h
  simp only [theCalls] at h
  unfold theCallsB at h
  split at h
  · rename_i hex
    have := hex.choose_spec
    rw [Option.some.inj h] at this
    exact this
  · cases h

theorem theCalls_of {lo : Nat} {f : FuncId} {args : List AVal} {H : AHeap} {v : AVal} {H' : AHeap} (h : Brings IP G lo f args H v H') : theCalls IP G lo f args H = some (v, H') := by
  have hex : ∃ r : AVal × AHeap, Brings IP G lo f args H r.1 r.2 := ⟨(v, H'), h⟩
  simp only [theCalls]
  unfold theCallsB
  rw [dif_pos hex]
  obtain ⟨h1, h2⟩ := comes_unique hex.choose_spec h
  exact congrArg some (Prod.ext h1 h2)

end
end Go.RI

/- RI, part TA: values by what they read, and plain values: how they stand to each other. Conditions: none. -/
namespace Go.RI
open Go
set_option linter.unusedSimpArgs false

/-- Rows of the plain interpreter's heap that nobody writes: their cells, an element's size. -/
abbrev Stab := Nat → Option (List AVal × Nat)
def look (tmp : Bool) (S T : Stab) (id : Nat) : Option (List AVal × Nat) := match S id with
  | some x => some x
  | none => if tmp then T id else none

def lv (tmp : Bool) : Nat := if tmp then 1 else 0

mutual
/-- 'k': 0: what nobody writes any more; 1: what nobody writes as long as the call lasts, besides; 2: names, besides. 'N': how many names there are. -/
def RV (ρ : Nat → Nat) (N : Nat) (S T : Stab) : AVal → Nat → AVal → Prop
  | .p id off, k, u => k = 2 ∧ id < N ∧ u = .p (ρ id) off
  | .sl id off len cap, k, u => k = 2 ∧ id < N ∧ u = .sl (ρ id) off len cap
  | .m id, k, u => k = 2 ∧ id < N ∧ u = .m (ρ id)
  | .fn f a c, k, u => ∃ a' c', u = .fn f a' c' ∧ RVL ρ N S T a k a' ∧ RVL ρ N S T c k c'
  | .ag l, k, u => ∃ l', u = .ag l' ∧ RVL ρ N S T l k l'
  | .tu l, k, u => ∃ l', u = .tu l' ∧ RVL ρ N S T l k l'
  | .ifc t v, k, u => ∃ v', u = .ifc t v' ∧ RV ρ N S T v k v'
  | .fs tmp full len l, k, u => (tmp = true → 1 ≤ k) ∧
      ((len = 0 ∧ l = [] ∧ (u = .ns ∨ (∃ ad, u = .es ad) ∨ ∃ id off cap, u = .sl id off 0 cap ∧ (full = true → cap = some 0))) ∨
       (0 < len ∧ ∃ id off cap c esz, u = .sl id off len cap ∧ (full = true → cap = some len) ∧ (∀ m, cap = some m → len ≤ m) ∧ look tmp S T id = some (c, esz) ∧ l.length = len * esz ∧ off + len * esz ≤ c.length ∧
         RVL ρ N S T l (lv tmp) ((c.drop off).take (len * esz))))
  | .fp l, k, u => 1 ≤ k ∧ ∃ id off c esz, u = .p id off ∧ look true S T id = some (c, esz) ∧ (l = [] ∨ off + l.length ≤ c.length) ∧ RVL ρ N S T l 1 ((c.drop off).take l.length)
  | v, _, u => u = v
def RVL (ρ : Nat → Nat) (N : Nat) (S T : Stab) : List AVal → Nat → List AVal → Prop
  | [], _, l' => l' = []
  | v :: l, k, l' => ∃ u r, l' = u :: r ∧ RV ρ N S T v k u ∧ RVL ρ N S T l k r
end

section
variable {ρ : Nat → Nat} {N : Nat} {S T : Stab} {k : Nat}

theorem RVL_len : ∀ {l l' : List AVal}, RVL ρ N S T l k l' → l'.length = l.length := by
  intro l
  induction l with
  | nil => intro l' h; simp only [RVL] at h; subst h; rfl
  | cons v l ih => intro l' h; simp only [RVL] at h; obtain ⟨u, r, rfl, _, h2⟩ := h; simp [ih h2]
theorem RVL_get : ∀ {l l' : List AVal}, RVL ρ N S T l k l' → ∀ {j : Nat} {v : AVal}, l[j]? = some v → ∃ u, l'[j]? = some u ∧ RV ρ N S T v k u := by
  intro l
  induction l with
  | nil => intro l' h j v hj; simp at hj
  | cons v l ih =>
    intro l' h j w hj
    simp only [RVL] at h
    obtain ⟨u, r, rfl, h1, h2⟩ := h
    cases j with
    | zero => simp at hj; subst hj; exact ⟨u, rfl, h1⟩
    | succ j => simp at hj; obtain ⟨u2, h3, h4⟩ := ih h2 hj; exact ⟨u2, by simpa using h3, h4⟩
theorem RVL_of : ∀ {l l' : List AVal}, l'.length = l.length → (∀ (j : Nat) (v u : AVal), l[j]? = some v → l'[j]? = some u → RV ρ N S T v k u) → RVL ρ N S T l k l' := by
  intro l
  induction l with
  | nil => intro l' h _; simp only [RVL]; exact List.eq_nil_of_length_eq_zero h
  | cons v l ih =>
    intro l' h hall
    cases l' with
    | nil => simp at h
    | cons u r =>
      simp only [RVL]
      exact ⟨u, r, rfl, hall 0 v u rfl rfl, ih (by simpa using h) fun j v u h1 h2 => hall (j + 1) v u (by simpa using h1) (by simpa using h2)⟩
theorem RVL_drop {l l' : List AVal} (h : RVL ρ N S T l k l') (n : Nat) : RVL ρ N S T (l.drop n) k (l'.drop n) := by
  have hl := RVL_len h
  refine RVL_of (by simp [hl]) fun j v u h1 h2 => ?_
  rw [List.getElem?_drop] at h1 h2
  obtain ⟨u', h3, h4⟩ := RVL_get h h1
  rw [h2] at h3; cases h3; exact h4
theorem RVL_take {l l' : List AVal} (h : RVL ρ N S T l k l') (n : Nat) : RVL ρ N S T (l.take n) k (l'.take n) := by
  have hl := RVL_len h
  refine RVL_of (by simp [hl]) fun j v u h1 h2 => ?_
  rw [List.getElem?_take] at h1 h2
  split at h1
  · rename_i hj
    rw [if_pos hj] at h2
    obtain ⟨u', h3, h4⟩ := RVL_get h h1
    rw [h2] at h3; cases h3; exact h4
  · cases h1
theorem RVL_append {l l' m m' : List AVal} (h : RVL ρ N S T l k l') (g : RVL ρ N S T m k m') : RVL ρ N S T (l ++ m) k (l' ++ m') := by
  have hl := RVL_len h
  have gl := RVL_len g
  refine RVL_of (by simp [hl, gl]) fun j v u h1 h2 => ?_
  by_cases hj : j < l.length
  · rw [List.getElem?_append_left hj] at h1
    rw [List.getElem?_append_left (by omega)] at h2
    obtain ⟨u', h3, h4⟩ := RVL_get h h1
    rw [h2] at h3; cases h3; exact h4
  · rw [List.getElem?_append_right (by omega)] at h1
    rw [List.getElem?_append_right (by omega), hl] at h2
    obtain ⟨u', h3, h4⟩ := RVL_get g h1
    rw [h2] at h3; cases h3; exact h4
theorem RVL_set {l l' : List AVal} (h : RVL ρ N S T l k l') {n : Nat} {v u : AVal} (hv : RV ρ N S T v k u) : RVL ρ N S T (l.set n v) k (l'.set n u) := by
  have hl := RVL_len h
  refine RVL_of (by simp [hl]) fun j w x h1 h2 => ?_
  by_cases hj : n = j
  · subst hj
    have hlt : n < l.length := by
      rcases Nat.lt_or_ge n l.length with h | h
      · exact h
      · rw [List.getElem?_eq_none (by simpa using h)] at h1; cases h1
    rw [List.getElem?_set_self hlt] at h1
    rw [List.getElem?_set_self (by omega)] at h2
    cases h1; cases h2; exact hv
  · rw [List.getElem?_set_ne hj] at h1 h2
    obtain ⟨u', h3, h4⟩ := RVL_get h h1
    rw [h2] at h3; cases h3; exact h4
theorem RVL_putCells : ∀ {m m' l l' : List AVal} (n : Nat), RVL ρ N S T l k l' → RVL ρ N S T m k m' → RVL ρ N S T (putCells l n m) k (putCells l' n m') := by
  intro m
  induction m with
  | nil => intro m' l l' n h g; simp only [RVL] at g; subst g; exact h
  | cons v m ih =>
    intro m' l l' n h g
    simp only [RVL] at g
    obtain ⟨u, r, rfl, g1, g2⟩ := g
    exact ih (n + 1) (RVL_set h g1) g2
theorem RVL_rep {z z' : List AVal} (h : RVL ρ N S T z k z') : ∀ n, RVL ρ N S T (repCells z n) k (repCells z' n) := by
  intro n
  induction n with
  | zero => simp [repCells, RVL]
  | succ n ih => exact RVL_append h ih
theorem RVL_cons {v u : AVal} {l l' : List AVal} (h : RV ρ N S T v k u) (g : RVL ρ N S T l k l') : RVL ρ N S T (v :: l) k (u :: l') := by
  simp only [RVL]; exact ⟨u, l', rfl, h, g⟩
theorem RVL_one {v u : AVal} (h : RV ρ N S T v k u) : RVL ρ N S T [v] k [u] := RVL_cons h (by simp [RVL])

/-- A value that names nothing stands to itself. -/
theorem RV_noId : ∀ (v : AVal), noId v = true → RV ρ N S T v k v
  | .b _, _ | .i _ _, _ | .s _, _ | .np, _ | .ns, _ | .nf, _ | .nm, _ | .nif, _ | .es _, _ => by simp [RV]
  | .p _ _, h | .sl _ _ _ _, h | .m _, h | .fs _ _ _ _, h | .fp _, h => by simp [noId] at h
  | .fn f a c, h => by simp only [noId, Bool.and_eq_true] at h; simp only [RV]; exact ⟨a, c, rfl, RVL_noId a h.1, RVL_noId c h.2⟩
  | .ag l, h => by simp only [noId, Bool.and_eq_true] at h; simp only [RV]; exact ⟨l, rfl, RVL_noId l h.1⟩
  | .tu l, h => by simp only [noId] at h; simp only [RV]; exact ⟨l, rfl, RVL_noId l h⟩
  | .ifc t v, h => by simp only [noId] at h; simp only [RV]; exact ⟨v, rfl, RV_noId v h⟩
where RVL_noId : ∀ (l : List AVal), noIdL l = true → RVL ρ N S T l k l
  | [], _ => by simp [RVL]
  | v :: l, h => by simp only [noIdL, Bool.and_eq_true] at h; exact RVL_cons (RV_noId v h.1) (RVL_noId l h.2)

theorem RV_tup {v u : AVal} (h : RV ρ N S T v k u) : u.tup = v.tup := by
  cases v <;> simp only [RV] at h
  case fs => obtain ⟨_, ⟨_, _, rfl | ⟨_, rfl⟩ | ⟨_, _, _, rfl, _⟩⟩ | ⟨_, _, _, _, _, _, rfl, _⟩⟩ := h <;> rfl
  case fp => obtain ⟨_, _, _, _, _, rfl, _⟩ := h; rfl
  case p => obtain ⟨_, _, rfl⟩ := h; rfl
  case sl => obtain ⟨_, _, rfl⟩ := h; rfl
  case m => obtain ⟨_, _, rfl⟩ := h; rfl
  case fn => obtain ⟨_, _, rfl, _⟩ := h; rfl
  case ag => obtain ⟨_, rfl, _⟩ := h; rfl
  case tu => obtain ⟨_, rfl, _⟩ := h; rfl
  case ifc => obtain ⟨_, rfl, _⟩ := h; rfl
  all_goals subst h; rfl
theorem RV_cells {v u : AVal} (h : RV ρ N S T v k u) : RVL ρ N S T v.cells k u.cells := by
  cases v
  case ag l => simp only [RV] at h; obtain ⟨l', rfl, h⟩ := h; exact h
  all_goals
    have h0 := h
    simp only [RV] at h
  case fs =>
    have : u.cells = [u] := by obtain ⟨_, ⟨_, _, rfl | ⟨_, rfl⟩ | ⟨_, _, _, rfl, _⟩⟩ | ⟨_, _, _, _, _, _, rfl, _⟩⟩ := h <;> rfl
    rw [this]; exact RVL_one h0
  case fp => have : u.cells = [u] := by obtain ⟨_, _, _, _, _, rfl, _⟩ := h; rfl
             rw [this]; exact RVL_one h0
  case p => have : u.cells = [u] := by obtain ⟨_, _, rfl⟩ := h; rfl
            rw [this]; exact RVL_one h0
  case sl => have : u.cells = [u] := by obtain ⟨_, _, rfl⟩ := h; rfl
             rw [this]; exact RVL_one h0
  case m => have : u.cells = [u] := by obtain ⟨_, _, rfl⟩ := h; rfl
            rw [this]; exact RVL_one h0
  case fn => have : u.cells = [u] := by obtain ⟨_, _, rfl, _⟩ := h; rfl
             rw [this]; exact RVL_one h0
  case tu => have : u.cells = [u] := by obtain ⟨_, rfl, _⟩ := h; rfl
             rw [this]; exact RVL_one h0
  case ifc => have : u.cells = [u] := by obtain ⟨_, rfl, _⟩ := h; rfl
              rw [this]; exact RVL_one h0
  all_goals subst h; exact RVL_one h0
end

/-! ### More names, more rows -/
structure LeS (k : Nat) (S T S' T' : Stab) : Prop where
  s : ∀ id x, S id = some x → S' id = some x
  t : 1 ≤ k → ∀ id x, look true S T id = some x → look true S' T' id = some x

theorem LeS.look {S T S' T' : Stab} {k : Nat} (h : LeS k S T S' T') {tmp : Bool} (hk : tmp = true → 1 ≤ k) {id : Nat} {x : List AVal × Nat} (hx : look tmp S T id = some x) : look tmp S' T' id = some x := by
  cases tmp
  · simp only [RI.look, Bool.false_eq_true, if_false] at hx ⊢
    split at hx
    · rename_i y hy; rw [h.s _ _ hy]; exact hx
    · cases hx
  · exact h.t (hk rfl) id x hx

theorem LeS.lv {S T S' T' : Stab} {k : Nat} (h : LeS k S T S' T') {tmp : Bool} (hk : tmp = true → 1 ≤ k) : LeS (lv tmp) S T S' T' :=
  ⟨h.s, fun hl => h.t (by cases tmp; simp [RI.lv] at hl; exact hk rfl)⟩

mutual
theorem RV_mono {ρ ρ' : Nat → Nat} {N N' : Nat} {S T S' T' : Stab} {k k' : Nat} (hρ : k = 2 → ∀ id, id < N → id < N' ∧ ρ' id = ρ id) (hs : LeS k S T S' T') (hk : k ≤ k') (hk2 : k' ≤ 2) :
    ∀ (v u : AVal), RV ρ N S T v k u → RV ρ' N' S' T' v k' u
  | .p id off, u, h => by simp only [RV] at *; obtain ⟨h1, h2, h3⟩ := h; obtain ⟨a, b⟩ := hρ h1 id h2; exact ⟨by omega, a, by rw [b]; exact h3⟩
  | .sl id off len cap, u, h => by simp only [RV] at *; obtain ⟨h1, h2, h3⟩ := h; obtain ⟨a, b⟩ := hρ h1 id h2; exact ⟨by omega, a, by rw [b]; exact h3⟩
  | .m id, u, h => by simp only [RV] at *; obtain ⟨h1, h2, h3⟩ := h; obtain ⟨a, b⟩ := hρ h1 id h2; exact ⟨by omega, a, by rw [b]; exact h3⟩
  | .fn f a c, u, h => by simp only [RV] at *; obtain ⟨a', c', h1, h2, h3⟩ := h; exact ⟨a', c', h1, RVL_mono hρ hs hk hk2 a a' h2, RVL_mono hρ hs hk hk2 c c' h3⟩
  | .ag l, u, h => by simp only [RV] at *; obtain ⟨l', h1, h2⟩ := h; exact ⟨l', h1, RVL_mono hρ hs hk hk2 l l' h2⟩
  | .tu l, u, h => by simp only [RV] at *; obtain ⟨l', h1, h2⟩ := h; exact ⟨l', h1, RVL_mono hρ hs hk hk2 l l' h2⟩
  | .ifc t v, u, h => by simp only [RV] at *; obtain ⟨v', h1, h2⟩ := h; exact ⟨v', h1, RV_mono hρ hs hk hk2 v v' h2⟩
  | .fs tmp full len l, u, h => by
    simp only [RV] at *
    obtain ⟨h0, h1⟩ := h
    refine ⟨fun ht => Nat.le_trans (h0 ht) hk, ?_⟩
    rcases h1 with h1 | ⟨h1, id, off, cap, c, esz, h2, h3, h4, h5, h6, h7, h8⟩
    · exact .inl h1
    · have hlv : lv tmp ≤ 1 := by cases tmp <;> simp [lv]
      exact .inr ⟨h1, id, off, cap, c, esz, h2, h3, h4, hs.look h0 h5, h6, h7, RVL_mono (fun e => absurd e (by omega)) (hs.lv h0) (Nat.le_refl _) (by omega) l _ h8⟩
  | .fp l, u, h => by
    simp only [RV] at *
    obtain ⟨h0, id, off, c, esz, h1, h2, h3, h4⟩ := h
    exact ⟨by omega, id, off, c, esz, h1, hs.look (fun _ => h0) h2, h3, RVL_mono (k := 1) (k' := 1) (fun e => absurd e (by omega)) (hs.lv (tmp := true) (fun _ => h0)) (Nat.le_refl _) (by omega) l _ h4⟩
  | .b _, _, h | .i _ _, _, h | .s _, _, h | .np, _, h | .ns, _, h | .nf, _, h | .nm, _, h | .nif, _, h | .es _, _, h => by simp only [RV] at *; exact h
theorem RVL_mono {ρ ρ' : Nat → Nat} {N N' : Nat} {S T S' T' : Stab} {k k' : Nat} (hρ : k = 2 → ∀ id, id < N → id < N' ∧ ρ' id = ρ id) (hs : LeS k S T S' T') (hk : k ≤ k') (hk2 : k' ≤ 2) :
    ∀ (l l' : List AVal), RVL ρ N S T l k l' → RVL ρ' N' S' T' l k' l'
  | [], l', h => by simp only [RVL] at *; exact h
  | v :: l, l', h => by simp only [RVL] at *; obtain ⟨u, r, h1, h2, h3⟩ := h; exact ⟨u, r, h1, RV_mono hρ hs hk hk2 v u h2, RVL_mono hρ hs hk hk2 l r h3⟩
end

end Go.RI

/- RI, part TB: the heap of values by what they read, beside the plain one. Conditions: none. -/
namespace Go.RI
open Go
set_option linter.unusedSimpArgs false

def REs (ρ : Nat → Nat) (N : Nat) (S T : Stab) : List (AVal × AVal) → List (AVal × AVal) → Prop
  | [], es' => es' = []
  | (a, b) :: es, es' => ∃ a' b' r, es' = (a', b') :: r ∧ RV ρ N S T a 2 a' ∧ RV ρ N S T b 2 b' ∧ REs ρ N S T es r

def RO (ρ : Nat → Nat) (N : Nat) (S T : Stab) : AObj → AObj → Prop
  | .cells c e ro, o' => ∃ c', o' = .cells c' e ro ∧ RVL ρ N S T c 2 c'
  | .map es, o' => ∃ es', o' = .map es' ∧ REs ρ N S T es es'

theorem RO_wr {ρ : Nat → Nat} {N : Nat} {S T : Stab} {o o' : AObj} (h : RO ρ N S T o o') : o'.wr = o.wr := by
  cases o with
  | cells c e ro => obtain ⟨c', rfl, _⟩ := h; rfl
  | map es => obtain ⟨es', rfl, _⟩ := h; rfl

structure TR (G : AHeap) (ρ : Nat → Nat) (S T : Stab) (H A : AHeap) : Prop where
  inj : ∀ i j, i < H.next → j < H.next → ρ i = ρ j → i = j
  lt : ∀ i, i < H.next → ρ i < A.next
  glob : ∀ g, g < G.next → ρ g = g ∧ H.get g = G.get g ∧ A.get g = G.get g
  gH : G.next ≤ H.next
  gA : G.next ≤ A.next
  obj : ∀ i o, i < H.next → H.get i = some o → ∃ o', A.get (ρ i) = some o' ∧ RO ρ H.next S T o o'
  stab : ∀ id c esz, look true S T id = some (c, esz) → id < A.next ∧ ∃ ro, A.get id = some (.cells c esz ro)
  excl : ∀ i o, i < H.next → H.get i = some o → o.wr = true → look true S T (ρ i) = none
  wfH : Wf H
  wfA : Wf A

/-- What a step may turn. -/
structure Mono (ρ : Nat → Nat) (S : Stab) (H A : AHeap) (ρ' : Nat → Nat) (S' : Stab) (H' A' : AHeap) : Prop where
  rho : ∀ i, i < H.next → ρ' i = ρ i
  nextH : H.next ≤ H'.next
  nextA : A.next ≤ A'.next
  new : ∀ i, H.next ≤ i → i < H'.next → A.next ≤ ρ' i
  frame : ∀ id, id < A.next → (∀ i, i < H.next → ρ i ≠ id) → A'.get id = A.get id
  ss : ∀ id x, S id = some x → S' id = some x
  ssn : ∀ id, id < A.next → S' id = S id

theorem Mono.refl (ρ : Nat → Nat) (S : Stab) (H A : AHeap) : Mono ρ S H A ρ S H A :=
  ⟨fun _ _ => rfl, Nat.le_refl _, Nat.le_refl _, fun _ h1 h2 => by omega, fun _ _ _ => rfl, fun _ _ h => h, fun _ _ => rfl⟩
theorem Mono.trans {ρ ρ1 ρ2 : Nat → Nat} {S S1 S2 : Stab} {H H1 H2 A A1 A2 : AHeap} (a : Mono ρ S H A ρ1 S1 H1 A1) (b : Mono ρ1 S1 H1 A1 ρ2 S2 H2 A2) : Mono ρ S H A ρ2 S2 H2 A2 where
  rho := fun i h => (b.rho i (Nat.lt_of_lt_of_le h a.nextH)).trans (a.rho i h)
  nextH := Nat.le_trans a.nextH b.nextH
  nextA := Nat.le_trans a.nextA b.nextA
  new := fun i h1 h2 => by
    rcases Nat.lt_or_ge i H1.next with h | h
    · rw [b.rho i h]; exact a.new i h1 h
    · exact Nat.le_trans a.nextA (b.new i h h2)
  frame := fun id h1 h2 => by
    rw [b.frame id (Nat.lt_of_lt_of_le h1 a.nextA) fun i hi => ?_, a.frame id h1 h2]
    rcases Nat.lt_or_ge i H.next with h | h
    · rw [a.rho i h]; exact h2 i h
    · have := a.new i h hi; omega
  ss := fun id x h => b.ss id x (a.ss id x h)
  ssn := fun id h => (b.ssn id (Nat.lt_of_lt_of_le h a.nextA)).trans (a.ssn id h)

section
variable {G : AHeap} {ρ : Nat → Nat} {S T : Stab} {H A : AHeap}

theorem LeS.refl (k : Nat) (S T : Stab) : LeS k S T S T := ⟨fun _ _ h => h, fun _ _ _ h => h⟩

theorem REs_mono {ρ ρ' : Nat → Nat} {N N' : Nat} {S T S' T' : Stab} (hρ : ∀ id, id < N → id < N' ∧ ρ' id = ρ id) (hs : LeS 2 S T S' T') : ∀ {es es' : List (AVal × AVal)}, REs ρ N S T es es' → REs ρ' N' S' T' es es' := by
  intro es
  induction es with
  | nil => intro es' h; exact h
  | cons x es ih =>
    obtain ⟨a, b⟩ := x
    intro es' h
    obtain ⟨a', b', r, h1, h2, h3, h4⟩ := h
    exact ⟨a', b', r, h1, RV_mono (fun _ => hρ) hs (Nat.le_refl _) (Nat.le_refl _) _ _ h2, RV_mono (fun _ => hρ) hs (Nat.le_refl _) (Nat.le_refl _) _ _ h3, ih h4⟩
theorem RO_mono {ρ ρ' : Nat → Nat} {N N' : Nat} {S T S' T' : Stab} (hρ : ∀ id, id < N → id < N' ∧ ρ' id = ρ id) (hs : LeS 2 S T S' T') {o o' : AObj} (h : RO ρ N S T o o') : RO ρ' N' S' T' o o' := by
  cases o with
  | cells c e ro => obtain ⟨c', h1, h2⟩ := h; exact ⟨c', h1, RVL_mono (fun _ => hρ) hs (Nat.le_refl _) (Nat.le_refl _) _ _ h2⟩
  | map es => obtain ⟨es', h1, h2⟩ := h; exact ⟨es', h1, REs_mono hρ hs h2⟩

/-- Names that are no globals stand for names that are none. -/
theorem TR.lo (h : TR G ρ S T H A) {i : Nat} (hi : i < H.next) (hg : G.next ≤ i) : G.next ≤ ρ i := by
  rcases Nat.lt_or_ge (ρ i) G.next with hlt | hge
  · have h1 := (h.glob _ hlt).1
    have := h.inj (ρ i) i (Nat.lt_of_lt_of_le hlt h.gH) hi h1
    omega
  · exact hge

def updN (ρ : Nat → Nat) (n m : Nat) : Nat → Nat := fun i => if i = n then m else ρ i
theorem updN_same (ρ : Nat → Nat) (n m : Nat) : updN ρ n m n = m := by simp [updN]
theorem updN_ne (ρ : Nat → Nat) {n m i : Nat} (h : i ≠ n) : updN ρ n m i = ρ i := by simp [updN, h]

/-- A new object in both; or none. -/
theorem TR.push (h : TR G ρ S T H A) {H' A' : AHeap} {o o' : Option AObj} (hH : H'.next = H.next + 1) (hA : A'.next = A.next + 1) (gH : ∀ i, H'.get i = if i = H.next then o else H.get i) (gA : ∀ i, A'.get i = if i = A.next then o' else A.get i)
    (ho : ∀ x, o = some x → ∃ x', o' = some x' ∧ RO ρ H.next S T x x') : TR G (updN ρ H.next A.next) S T H' A' ∧ Mono ρ S H A (updN ρ H.next A.next) S H' A' := by
  have hold : ∀ i, i < H.next → i < H'.next ∧ updN ρ H.next A.next i = ρ i := fun i hi => ⟨by omega, updN_ne _ (by omega)⟩
  constructor
  · exact {
      inj := fun i j hi hj he => by
        rw [hH] at hi hj
        by_cases h1 : i = H.next
        · by_cases h2 : j = H.next
          · omega
          · rw [h1, updN_same, updN_ne _ h2] at he
            have := h.lt j (by omega); omega
        · by_cases h2 : j = H.next
          · rw [h2, updN_same, updN_ne _ h1] at he
            have := h.lt i (by omega); omega
          · rw [updN_ne _ h1, updN_ne _ h2] at he
            exact h.inj i j (by omega) (by omega) he
      lt := fun i hi => by
        rw [hH] at hi; rw [hA]
        by_cases h1 : i = H.next
        · rw [h1, updN_same]; omega
        · rw [updN_ne _ h1]; have := h.lt i (by omega); omega
      glob := fun g hg => by
        obtain ⟨a, b, c⟩ := h.glob g hg
        have := h.gH; have := h.gA
        exact ⟨by rw [updN_ne _ (by omega)]; exact a, by rw [gH, if_neg (by omega)]; exact b, by rw [gA, if_neg (by omega)]; exact c⟩
      gH := by have := h.gH; omega
      gA := by have := h.gA; omega
      obj := fun i x hi hx => by
        rw [hH] at hi
        rw [gH] at hx
        by_cases h1 : i = H.next
        · rw [if_pos h1] at hx
          obtain ⟨x', e1, e2⟩ := ho x hx
          exact ⟨x', by rw [h1, updN_same, gA, if_pos rfl]; exact e1, RO_mono hold (LeS.refl _ _ _) e2⟩
        · rw [if_neg h1] at hx
          obtain ⟨x', e1, e2⟩ := h.obj i x (by omega) hx
          have := h.lt i (by omega)
          exact ⟨x', by rw [updN_ne _ h1, gA, if_neg (by omega)]; exact e1, RO_mono hold (LeS.refl _ _ _) e2⟩
      stab := fun id c esz hl => by
        obtain ⟨a, ro, b⟩ := h.stab id c esz hl
        exact ⟨by omega, ro, by rw [gA, if_neg (by omega)]; exact b⟩
      excl := fun i x hi hx hw => by
        rw [hH] at hi
        rw [gH] at hx
        by_cases h1 : i = H.next
        · rw [h1, updN_same]
          cases hl : look true S T A.next with
          | none => rfl
          | some y => obtain ⟨c, esz⟩ := y; have := (h.stab _ _ _ hl).1; omega
        · rw [if_neg h1] at hx
          rw [updN_ne _ h1]
          exact h.excl i x (by omega) hx hw
      wfH := fun i hi => by rw [gH, if_neg (by omega)]; exact h.wfH i (by omega)
      wfA := fun i hi => by rw [gA, if_neg (by omega)]; exact h.wfA i (by omega) }
  · exact {
      rho := fun i hi => updN_ne _ (by omega)
      nextH := by omega
      nextA := by omega
      new := fun i h1 h2 => by
        have : i = H.next := by omega
        rw [this, updN_same]; exact Nat.le_refl _
      frame := fun id hid _ => by rw [gA, if_neg (by omega)]
      ss := fun _ _ h => h
      ssn := fun _ _ => rfl }

/-- A name more in the plain heap alone. -/
theorem TR.ghost (h : TR G ρ S T H A) {A' : AHeap} {o : Option AObj} (hA : A'.next = A.next + 1) (gA : ∀ i, A'.get i = if i = A.next then o else A.get i) : TR G ρ S T H A' ∧ Mono ρ S H A ρ S H A' := by
  constructor
  · exact { h with
      lt := fun i hi => by have := h.lt i hi; omega
      glob := fun g hg => by
        obtain ⟨a, b, c⟩ := h.glob g hg
        have := h.gA
        exact ⟨a, b, by rw [gA, if_neg (by omega)]; exact c⟩
      gA := by have := h.gA; omega
      obj := fun i x hi hx => by
        obtain ⟨x', e1, e2⟩ := h.obj i x hi hx
        have := h.lt i hi
        exact ⟨x', by rw [gA, if_neg (by omega)]; exact e1, e2⟩
      stab := fun id c esz hl => by
        obtain ⟨a, ro, b⟩ := h.stab id c esz hl
        exact ⟨by omega, ro, by rw [gA, if_neg (by omega)]; exact b⟩
      wfA := fun i hi => by
        rw [gA, if_neg (by omega)]
        exact h.wfA i (by omega) }
  · exact { Mono.refl ρ S H A with
      nextA := by omega
      new := fun i h1 h2 => by omega
      frame := fun id hid _ => by rw [gA, if_neg (by omega)] }

/-- A write. -/
theorem TR.set (h : TR G ρ S T H A) {i : Nat} (hi : i < H.next) (hg : G.next ≤ i) {o0 : AObj} (h0 : H.get i = some o0) (hw : o0.wr = true) {o o' : Option AObj} (ho : ∀ x, o = some x → ∃ x', o' = some x' ∧ RO ρ H.next S T x x') :
    TR G ρ S T (H.put i o) (A.put (ρ i) o') ∧ Mono ρ S H A ρ S (H.put i o) (A.put (ρ i) o') := by
  have hex := h.excl i o0 hi h0 hw
  have hlo := h.lo hi hg
  have hlt := h.lt i hi
  constructor
  · exact {
      inj := h.inj
      lt := h.lt
      glob := fun g hgl => by
        obtain ⟨a, b, c⟩ := h.glob g hgl
        exact ⟨a, by rw [AHeap.get_put, if_neg (by omega)]; exact b, by rw [AHeap.get_put, if_neg (by omega)]; exact c⟩
      gH := h.gH
      gA := h.gA
      obj := fun j x hj hx => by
        rw [AHeap.get_put] at hx
        by_cases hji : j = i
        · subst hji
          rw [if_pos rfl] at hx
          obtain ⟨x', e1, e2⟩ := ho x hx
          exact ⟨x', by rw [AHeap.get_put, if_pos rfl]; exact e1, e2⟩
        · rw [if_neg hji] at hx
          obtain ⟨x', e1, e2⟩ := h.obj j x hj hx
          exact ⟨x', by rw [AHeap.get_put, if_neg (fun e => hji (h.inj j i hj hi e))]; exact e1, e2⟩
      stab := fun id c esz hl => by
        obtain ⟨a, ro, b⟩ := h.stab id c esz hl
        have : id ≠ ρ i := fun e => by rw [e, hex] at hl; cases hl
        exact ⟨a, ro, by rw [AHeap.get_put, if_neg this]; exact b⟩
      excl := fun j x hj hx hwx => by
        rw [AHeap.get_put] at hx
        by_cases hji : j = i
        · subst hji; exact hex
        · rw [if_neg hji] at hx; exact h.excl j x hj hx hwx
      wfH := fun j hj => by rw [AHeap.next_put] at hj; rw [AHeap.get_put, if_neg (by omega)]; exact h.wfH j hj
      wfA := fun j hj => by rw [AHeap.next_put] at hj; rw [AHeap.get_put, if_neg (by omega)]; exact h.wfA j hj }
  · exact { Mono.refl ρ S H A with
      nextH := Nat.le_refl _
      nextA := Nat.le_refl _
      new := fun j h1 h2 => by rw [AHeap.next_put] at h2; omega
      frame := fun id _ hn => by rw [AHeap.get_put, if_neg (fun e => hn i hi e.symm)] }

/-- A value stays what it is. -/
theorem Mono.val {ρ' : Nat → Nat} {S' : Stab} {H' A' : AHeap} (m : Mono ρ S H A ρ' S' H' A') (h : TR G ρ S T H A) (h' : TR G ρ' S' T H' A') {v u : AVal} (hv : RV ρ H.next S T v 2 u) : RV ρ' H'.next S' T v 2 u := by
  refine RV_mono (fun _ i hi => ⟨Nat.lt_of_lt_of_le hi m.nextH, m.rho i hi⟩) ⟨m.ss, fun _ id x hx => ?_⟩ (Nat.le_refl _) (Nat.le_refl _) v u hv
  unfold RI.look at hx ⊢
  cases hS : S id with
  | some y => rw [hS] at hx; rw [m.ss _ _ hS]; exact hx
  | none =>
    rw [hS] at hx
    have hlt : id < A.next := by
      obtain ⟨c, esz⟩ := x
      exact (h.stab id c esz (by unfold RI.look; rw [hS]; exact hx)).1
    rw [m.ssn id hlt, hS]; exact hx
end
end Go.RI

/- RI, part TC: operations on values, at both levels. Conditions: none. -/
namespace Go.RI
open Go
set_option linter.unusedSimpArgs false
set_option linter.unusedVariables false

/-! ### Is a text's constant plain? 'g': how many globals there are. -/
def Opd.ck (g : Nat) : Opd → Bool
  | .t _ => true
  | .c v => noId v
  | .g n => decide (n < g)
  | .f _ => true
def ckL (g : Nat) : List Opd → Bool
  | [] => true
  | x :: l => x.ck g && ckL g l
def ckP (g : Nat) : List (Nat × Nat × Opd) → Bool
  | [] => true
  | (_, _, x) :: l => x.ck g && ckP g l
def ckO (g : Nat) : Option Opd → Bool
  | none => true
  | some x => x.ck g
def IOp.ck (g : Nat) : IOp → Bool
  | .mov x | .un _ x | .conv _ x | .same x | .box x | .load _ x | .nck x | .off x _ | .part _ x _ | .ext x _ | .lenk _ x | .iface _ x | .s2b x => x.ck g
  | .pick c a b => c.ck g && (a.ck g && b.ck g)
  | .bin _ x y | .eqB _ x y | .eqNil _ _ x y | .eqAg _ _ x y | .cpy _ x y | .store _ x y | .iaddr _ x y | .iaddrA _ _ x y | .idxS x y | .idxA _ _ _ x y | .app _ _ x y => x.ck g && y.ck g
  | .mksl _ _ z x y => noIdL z && (x.ck g && y.ck g)
  | .look _ _ z _ x y => noId z && (x.ck g && y.ck g)
  | .alloc z => noIdL z
  | .bad | .mkmap => true
  | .mapup _ _ x k v => x.ck g && (k.ck g && v.ck g)
  | .build z ps | .bsl _ _ z ps => noIdL z && ckP g ps
  | .mkf _ a c => ckL g a && ckL g c
  | .slS x lo hi => x.ck g && (ckO g lo && ckO g hi)
  | .sl _ x lo hi mx | .slq _ x lo hi mx => x.ck g && (ckO g lo && (ckO g hi && ckO g mx))
  | .mm _ x l => x.ck g && ckL g l
  | .call _ l => ckL g l
  | .callv x l => x.ck g && ckL g l

/-- Slots at both levels. -/
def ER (ρ : Nat → Nat) (N : Nat) (S T : Stab) (e a : Env) : Prop := ∀ t v, e.get t = some v → ∃ u, a.get t = some u ∧ RV ρ N S T v 2 u

section
variable {G : AHeap} {ρ : Nat → Nat} {N : Nat} {S T : Stab} {H A : AHeap} {e a : Env}

theorem opdT (h : TR G ρ S T H A) (he : ER ρ H.next S T e a) {x : Opd} (hc : x.ck G.next = true) {v : AVal} (hv : x.eval e = some v) : ∃ u, x.eval a = some u ∧ RV ρ H.next S T v 2 u := by
  cases x with
  | t n => exact he n v hv
  | c w => simp only [Opd.eval, Option.some.injEq] at hv; subst hv; exact ⟨_, rfl, RV_noId _ hc⟩
  | g n =>
    simp only [Opd.eval, Option.some.injEq] at hv; subst hv
    simp only [Opd.ck, decide_eq_true_eq] at hc
    exact ⟨_, rfl, by simp only [RV]; exact ⟨trivial, Nat.lt_of_lt_of_le hc h.gH, by rw [(h.glob n hc).1]⟩⟩
  | f n => simp only [Opd.eval, Option.some.injEq] at hv; subst hv; exact ⟨_, rfl, by simp only [RV, RVL]; exact ⟨[], [], rfl, rfl, rfl⟩⟩

theorem opdsT (h : TR G ρ S T H A) (he : ER ρ H.next S T e a) : ∀ {l : List Opd}, ckL G.next l = true → ∀ {vs : List AVal}, evals e l = some vs → ∃ us, evals a l = some us ∧ RVL ρ H.next S T vs 2 us := by
  intro l
  induction l with
  | nil => intro _ vs hv; simp only [evals, Option.some.injEq] at hv; subst hv; exact ⟨[], rfl, by simp [RVL]⟩
  | cons x l ih =>
    intro hc vs hv
    simp only [ckL, Bool.and_eq_true] at hc
    simp only [evals] at hv
    split at hv
    · rename_i v hx
      split at hv
      · rename_i vs' hl
        cases hv
        obtain ⟨u, h1, h2⟩ := opdT h he hc.1 hx
        obtain ⟨us, h3, h4⟩ := ih hc.2 hl
        exact ⟨u :: us, by simp [evals, h1, h3], RVL_cons h2 h4⟩
      · cases hv
    · cases hv

/-- Parts, at both levels. -/
def RP (ρ : Nat → Nat) (N : Nat) (S T : Stab) : List (Nat × Nat × AVal) → List (Nat × Nat × AVal) → Prop
  | [], l' => l' = []
  | (o, n, v) :: l, l' => ∃ u r, l' = (o, n, u) :: r ∧ RV ρ N S T v 2 u ∧ RP ρ N S T l r
theorem partsT (h : TR G ρ S T H A) (he : ER ρ H.next S T e a) : ∀ {l : List (Nat × Nat × Opd)}, ckP G.next l = true → ∀ {vs : List (Nat × Nat × AVal)}, evalParts e l = some vs → ∃ us, evalParts a l = some us ∧ RP ρ H.next S T vs us := by
  intro l
  induction l with
  | nil => intro _ vs hv; simp only [evalParts, Option.some.injEq] at hv; subst hv; exact ⟨[], rfl, rfl⟩
  | cons x l ih =>
    obtain ⟨o, n, x⟩ := x
    intro hc vs hv
    simp only [ckP, Bool.and_eq_true] at hc
    simp only [evalParts] at hv
    split at hv
    · rename_i v hx
      split at hv
      · rename_i vs' hl
        cases hv
        obtain ⟨u, h1, h2⟩ := opdT h he hc.1 hx
        obtain ⟨us, h3, h4⟩ := ih hc.2 hl
        exact ⟨(o, n, u) :: us, by simp [evalParts, h1, h3], u, us, rfl, h2, h4⟩
      · cases hv
    · cases hv

theorem fillT : ∀ {ps ps' : List (Nat × Nat × AVal)} {z z' cs : List AVal}, RP ρ N S T ps ps' → RVL ρ N S T z 2 z' → fillA z ps = some cs → ∃ cs', fillA z' ps' = some cs' ∧ RVL ρ N S T cs 2 cs' := by
  intro ps
  induction ps with
  | nil => intro ps' z z' cs h hz hf; simp only [RP] at h; subst h; simp only [fillA, Option.some.injEq] at hf; subst hf; exact ⟨z', rfl, hz⟩
  | cons x ps ih =>
    obtain ⟨o, n, v⟩ := x
    intro ps' z z' cs h hz hf
    obtain ⟨u, r, rfl, h1, h2⟩ := h
    simp only [fillA] at hf ⊢
    split at hf
    · rename_i hc
      have hcl := RVL_len (RV_cells h1)
      have hzl := RVL_len hz
      rw [if_pos ⟨by rw [RV_tup h1]; exact hc.1, by rw [hcl]; exact hc.2.1, by rw [hzl]; exact hc.2.2⟩]
      exact ih h2 (RVL_putCells o hz (RV_cells h1)) hf
    · cases hf

theorem intT {k : Nat} {q : IntKind} {n : Int} {u : AVal} (h : RV ρ N S T (.i q n) k u) : u = .i q n := by simpa only [RV] using h
theorem strT {k : Nat} {v : List UInt8} {u : AVal} (h : RV ρ N S T (.s v) k u) : u = .s v := by simpa only [RV] using h
theorem boolT {k : Nat} {v : Bool} {u : AVal} (h : RV ρ N S T (.b v) k u) : u = .b v := by simpa only [RV] using h

theorem optT (h : TR G ρ S T H A) (he : ER ρ H.next S T e a) {x : Option Opd} (hc : ckO G.next x = true) {r : Option Nat} (hr : optI e x = some r) : optI a x = some r := by
  cases x with
  | none => exact hr
  | some x =>
    simp only [optI] at hr ⊢
    split at hr
    · rename_i q n hx
      obtain ⟨u, h1, h2⟩ := opdT h he hc hx
      rw [h1, intT h2]; exact hr
    · cases hr

theorem binT {op : BinOp} {v1 v2 w u1 u2 : AVal} {k : Nat} (h1 : RV ρ N S T v1 k u1) (h2 : RV ρ N S T v2 k u2) (h : binV op v1 v2 = some w) : binV op u1 u2 = some w ∧ noId w = true := by
  cases v1 <;> cases v2 <;> simp only [binV] at h <;> try (cases h; done)
  case i.i k1 a k2 b =>
    rw [intT h1, intT h2]
    refine ⟨h, ?_⟩
    cases op <;> (try simp only at h) <;> (try (split at h)) <;> (try (cases h; done)) <;> (try simp only [binI] at h) <;> (try (split at h)) <;> (try (cases h; done)) <;> cases h <;> rfl
  case s.s a b =>
    rw [strT h1, strT h2]
    refine ⟨h, ?_⟩
    cases op <;> simp only [binS] at h <;> (try (split at h)) <;> (try (cases h; done)) <;> cases h <;> rfl

theorem unT {op : UnOp} {v u w : AVal} {k : Nat} (h1 : RV ρ N S T v k u) (h : unV op v = some w) : unV op u = some w ∧ noId w = true := by
  cases v <;> simp only [unV] at h <;> try (cases h; done)
  case i k1 a => rw [intT h1]; refine ⟨h, ?_⟩; cases op <;> simp only at h <;> (try (cases h; done)) <;> cases h <;> rfl
  case b a => rw [boolT h1]; refine ⟨h, ?_⟩; cases op <;> simp only at h <;> (try (cases h; done)) <;> cases h; rfl

theorem RV_p {id off : Nat} (h : id < N) : RV ρ N S T (.p id off) 2 (.p (ρ id) off) := by simp [RV, h]
theorem RV_sl {id off len : Nat} {cap : Option Nat} (h : id < N) : RV ρ N S T (.sl id off len cap) 2 (.sl (ρ id) off len cap) := by simp [RV, h]
theorem RV_m {id : Nat} (h : id < N) : RV ρ N S T (.m id) 2 (.m (ρ id)) := by simp [RV, h]
theorem RV_ag {l l' : List AVal} {k : Nat} (h : RVL ρ N S T l k l') : RV ρ N S T (.ag l) k (.ag l') := by simp [RV, h]
theorem RV_tu {l l' : List AVal} {k : Nat} (h : RVL ρ N S T l k l') : RV ρ N S T (.tu l) k (.tu l') := by simp [RV, h]
theorem RV_i {q : IntKind} {n : Int} {k : Nat} : RV ρ N S T (.i q n) k (.i q n) := RV_noId _ rfl
theorem RV_b {v : Bool} {k : Nat} : RV ρ N S T (.b v) k (.b v) := RV_noId _ rfl

theorem nilT {n : Nat} {v u : AVal} {b : Bool} {k : Nat} (h : RV ρ N S T v k u) (hn : nilV n v = some b) : nilV n u = some b := by
  match n, hn with
  | 0, hn =>
    cases v <;> simp only [nilV] at hn <;> (try (cases hn; done)) <;> simp only [RV] at h
    case ns => subst h; exact hn
    case es => subst h; exact hn
    case sl => obtain ⟨_, _, rfl⟩ := h; exact hn
    case fs tmp full len l =>
      obtain ⟨_, ⟨rfl, _, _⟩ | ⟨h0, id, off, cap, c, esz, rfl, _⟩⟩ := h
      · simp at hn
      · rw [if_neg (by omega)] at hn; exact hn
  | 1, hn =>
    cases v <;> simp only [nilV] at hn <;> (try (cases hn; done)) <;> simp only [RV] at h
    case np => subst h; exact hn
    case p => obtain ⟨_, _, rfl⟩ := h; exact hn
    case fp => obtain ⟨_, _, _, _, _, rfl, _⟩ := h; exact hn
  | 2, hn =>
    cases v <;> simp only [nilV] at hn <;> (try (cases hn; done)) <;> simp only [RV] at h
    case nm => subst h; exact hn
    case m => obtain ⟨_, _, rfl⟩ := h; exact hn
  | 3, hn =>
    cases v <;> simp only [nilV] at hn <;> (try (cases hn; done)) <;> simp only [RV] at h
    case nf => subst h; exact hn
    case fn => obtain ⟨_, _, rfl, _⟩ := h; exact hn
  | n + 4, hn => cases v <;> simp [nilV] at hn

theorem eqCellsT : ∀ {ks : List Nat} {x y x' y' : List AVal} {k : Nat} {r : Bool}, RVL ρ N S T x k x' → RVL ρ N S T y k y' → eqCells ks x y = some r → x' = x ∧ y' = y := by
  intro ks
  induction ks with
  | nil =>
    intro x y x' y' k r hx hy h
    cases x <;> cases y <;> simp [eqCells] at h
    simp only [RVL] at hx hy
    exact ⟨hx, hy⟩
  | cons q ks ih =>
    intro x y x' y' k r hx hy h
    obtain ⟨u, x1, v, y1, rfl, rfl⟩ := eqCells_step h
    simp only [RVL] at hx hy
    obtain ⟨u', x2, rfl, hu, hx⟩ := hx
    obtain ⟨v', y2, rfl, hv, hy⟩ := hy
    obtain ⟨r', hr⟩ := eqCells_tail h
    obtain ⟨e1, e2⟩ := ih hx hy hr
    have : u' = u ∧ v' = v := by
      match q, h with
      | 0, h =>
        cases u <;> cases v <;> simp only [eqCells] at h <;> try (cases h; done)
        exact ⟨boolT hu, boolT hv⟩
      | 1, h =>
        cases u <;> cases v <;> simp only [eqCells] at h <;> try (cases h; done)
        exact ⟨intT hu, intT hv⟩
      | 2, h =>
        cases u <;> cases v <;> simp only [eqCells] at h <;> try (cases h; done)
        exact ⟨strT hu, strT hv⟩
      | q + 3, h => unfold eqCells at h; cases h
    exact ⟨by rw [this.1, e1], by rw [this.2, e2]⟩

theorem offT {n : Nat} {v u w : AVal} (h : RV ρ N S T v 2 u) (hn : offV n v = some w) : ∃ w', offV n u = some w' ∧ RV ρ N S T w 2 w' := by
  cases v <;> simp only [offV] at hn <;> try (cases hn; done)
  case p id off =>
    simp only [RV] at h; obtain ⟨_, h2, rfl⟩ := h
    cases hn
    exact ⟨_, rfl, RV_p h2⟩
  case fp l =>
    simp only [RV] at h
    obtain ⟨h0, id, off, c, esz, rfl, h1, h2, h3⟩ := h
    cases hn
    refine ⟨_, rfl, ?_⟩
    simp only [RV]
    refine ⟨h0, id, off + n, c, esz, rfl, h1, ?_, ?_⟩
    · rcases Nat.lt_or_ge n l.length with hlt | hge
      · right
        rcases h2 with h2 | h2
        · rw [h2] at hlt; simp at hlt
        · simp; omega
      · left; exact List.drop_eq_nil_of_le hge
    · have := RVL_drop h3 n
      rw [List.drop_take, List.drop_drop] at this
      simpa using this

theorem fpT {n : Nat} {l : List AVal} {id off : Nat} {c : List AVal} {esz : Nat} {k : Nat} (hk : 1 ≤ k) (h1 : look true S T id = some (c, esz)) (h2 : l = [] ∨ off + l.length ≤ c.length) (h3 : RVL ρ N S T l 1 ((c.drop off).take l.length)) :
    RV ρ N S T (.fp (l.drop n)) k (.p id (off + n)) := by
  simp only [RV]
  refine ⟨hk, id, off + n, c, esz, rfl, h1, ?_, ?_⟩
  · rcases Nat.lt_or_ge n l.length with hlt | hge
    · right
      rcases h2 with h2 | h2
      · rw [h2] at hlt; simp at hlt
      · simp; omega
    · left; exact List.drop_eq_nil_of_le hge
  · have := RVL_drop h3 n
    rw [List.drop_take, List.drop_drop] at this
    simpa using this

theorem LeS1 : LeS 0 S T S T ∧ LeS 1 S T S T ∧ LeS 2 S T S T := ⟨LeS.refl _ _ _, LeS.refl _ _ _, LeS.refl _ _ _⟩

theorem look_up {tmp : Bool} {id : Nat} {x : List AVal × Nat} (h : look tmp S T id = some x) : look true S T id = some x := by
  unfold look at h ⊢
  split at h
  · exact h
  · cases tmp
    · simp at h
    · exact h
theorem RVL_up {tmp : Bool} {l l' : List AVal} {k : Nat} (h1 : 1 ≤ k) (hk : k ≤ 2) (h : RVL ρ N S T l (lv tmp) l') : RVL ρ N S T l k l' := by
  have : lv tmp ≤ 1 := by cases tmp <;> simp [lv]
  exact RVL_mono (fun e => absurd e (by omega)) (LeS.refl _ _ _) (by omega) hk l l' h

theorem iaddrT {esz : Nat} {v u i i' w : AVal} (h : RV ρ N S T v 2 u) (hi : RV ρ N S T i 2 i') (hn : iaddrV esz v i = some w) : ∃ w', iaddrV esz u i' = some w' ∧ RV ρ N S T w 2 w' := by
  cases v <;> cases i <;> simp only [iaddrV] at hn <;> try (cases hn; done)
  case sl.i id off len cap q n =>
    simp only [RV] at h; obtain ⟨_, h2, rfl⟩ := h
    rw [intT hi]
    split at hn
    · rename_i hc; cases hn
      exact ⟨_, by simp only [iaddrV]; rw [if_pos hc], RV_p h2⟩
    · cases hn
  case fs.i tmp full len l q n =>
    simp only [RV] at h
    rw [intT hi]
    split at hn
    · rename_i hc
      cases hn
      obtain ⟨_, ⟨h0, _⟩ | ⟨h0, id, off, cap, c, es, rfl, _, _, h4, h5, h6, h7⟩⟩ := h
      · omega
      · refine ⟨_, by simp only [iaddrV]; rw [if_pos hc], fpT (by omega) (look_up h4) (.inr (by omega)) ?_⟩
        rw [h5]; exact RVL_up (Nat.le_refl _) (by omega) h7
    · cases hn

theorem iaddrAT {esz len : Nat} {v u i i' w : AVal} (h : RV ρ N S T v 2 u) (hi : RV ρ N S T i 2 i') (hn : iaddrAV esz len v i = some w) : ∃ w', iaddrAV esz len u i' = some w' ∧ RV ρ N S T w 2 w' := by
  cases v <;> cases i <;> simp only [iaddrAV] at hn <;> try (cases hn; done)
  case p.i id off q n =>
    simp only [RV] at h; obtain ⟨_, h2, rfl⟩ := h
    rw [intT hi]
    split at hn
    · rename_i hc; cases hn
      exact ⟨_, by simp only [iaddrAV]; rw [if_pos hc], RV_p h2⟩
    · cases hn
  case fp.i l q n =>
    simp only [RV] at h
    rw [intT hi]
    obtain ⟨h0, id, off, c, es, rfl, h1, h2, h3⟩ := h
    split at hn
    · rename_i hc; cases hn
      exact ⟨_, by simp only [iaddrAV]; rw [if_pos hc], fpT (by omega) h1 h2 h3⟩
    · cases hn

theorem partT {n : Option Nat} {off : Nat} {v u w : AVal} (h : RV ρ N S T v 2 u) (hn : partV n off v = some w) : ∃ w', partV n off u = some w' ∧ RV ρ N S T w 2 w' := by
  cases v <;> simp only [partV] at hn <;> try (cases hn; done)
  rename_i l
  simp only [RV] at h
  obtain ⟨l', rfl, h⟩ := h
  cases n with
  | none => simp only at hn; obtain ⟨u, h1, h2⟩ := RVL_get h hn; exact ⟨u, h1, h2⟩
  | some n =>
    simp only at hn
    split at hn
    · rename_i hc
      cases hn
      have := RVL_len h
      exact ⟨_, by simp only [partV]; rw [if_pos (by omega)], RV_ag (RVL_take (RVL_drop h _) _)⟩
    · cases hn

theorem idxAT {n : Option Nat} {esz len : Nat} {v u i i' w : AVal} (h : RV ρ N S T v 2 u) (hi : RV ρ N S T i 2 i') (hn : idxAV n esz len v i = some w) : ∃ w', idxAV n esz len u i' = some w' ∧ RV ρ N S T w 2 w' := by
  cases i <;> simp only [idxAV] at hn <;> try (cases hn; done)
  rw [intT hi]
  split at hn
  · rename_i hc
    obtain ⟨w', h1, h2⟩ := partT h hn
    exact ⟨w', by simp only [idxAV]; rw [if_pos hc]; exact h1, h2⟩
  · cases hn

theorem extT {n : Nat} {v u w : AVal} (h : RV ρ N S T v 2 u) (hn : extV n v = some w) : ∃ w', extV n u = some w' ∧ RV ρ N S T w 2 w' := by
  cases v <;> simp only [extV] at hn <;> try (cases hn; done)
  simp only [RV] at h
  obtain ⟨l', rfl, h⟩ := h
  obtain ⟨u, h1, h2⟩ := RVL_get h hn
  exact ⟨u, h1, h2⟩

theorem mmT {mx : Bool} : ∀ {l l' : List AVal} {v u w : AVal}, RV ρ N S T v 2 u → RVL ρ N S T l 2 l' → mmV mx v l = some w → ∃ w', mmV mx u l' = some w' ∧ RV ρ N S T w 2 w' := by
  intro l
  induction l with
  | nil => intro l' v u w h hl hn; simp only [RVL] at hl; subst hl; simp only [mmV, Option.some.injEq] at hn; subst hn; exact ⟨u, rfl, h⟩
  | cons x l ih =>
    intro l' v u w h hl hn
    simp only [RVL] at hl
    obtain ⟨x', r, rfl, h1, h2⟩ := hl
    cases v <;> cases x <;> simp only [mmV] at hn <;> try (cases hn; done)
    rw [intT h, intT h1]
    split at hn
    · rename_i hc
      obtain ⟨w', h3, h4⟩ := ih RV_i h2 hn
      exact ⟨w', by simp only [mmV]; rw [if_pos hc]; exact h3, h4⟩
    · cases hn

/-! ### Looking into the heap -/
theorem cellsT (h : TR G ρ S T H A) {id : Nat} (hid : id < H.next) {c : List AVal} {esz : Nat} {ro : Bool} (hg : H.get id = some (.cells c esz ro)) : ∃ c', A.get (ρ id) = some (.cells c' esz ro) ∧ RVL ρ H.next S T c 2 c' := by
  obtain ⟨o', h1, c', rfl, h2⟩ := h.obj id _ hid hg
  exact ⟨c', h1, h2⟩

theorem rowT (h : TR G ρ S T H A) {id off n : Nat} (hid : id < H.next) {l : List AVal} (hl : rowAt H id off n = some l) : ∃ l', rowAt A (ρ id) off n = some l' ∧ RVL ρ H.next S T l 2 l' := by
  unfold rowAt at hl ⊢
  split at hl
  · rename_i c esz ro hg
    obtain ⟨c', h1, h2⟩ := cellsT h hid hg
    rw [h1]
    simp only
    split at hl
    · rename_i hc
      cases hl
      have := RVL_len h2
      rw [if_pos (by omega)]
      exact ⟨_, rfl, RVL_take (RVL_drop h2 _) _⟩
    · cases hl
  · cases hl

theorem rowS (h : TR G ρ S T H A) {id off n : Nat} {c : List AVal} {esz : Nat} (hl : look true S T id = some (c, esz)) (hn : off + n ≤ c.length) : rowAt A id off n = some ((c.drop off).take n) := by
  obtain ⟨_, ro, h1⟩ := h.stab id c esz hl
  unfold rowAt
  rw [h1]
  simp only
  rw [if_pos hn]

theorem loadT (h : TR G ρ S T H A) {n : Option Nat} {v u w : AVal} (hv : RV ρ H.next S T v 2 u) (hn : loadV H n v = some w) : ∃ w', loadV A n u = some w' ∧ RV ρ H.next S T w 2 w' := by
  cases v <;> simp only [loadV] at hn <;> try (cases hn; done)
  case p id off =>
    simp only [RV] at hv
    obtain ⟨_, hid, rfl⟩ := hv
    cases n with
    | none =>
      simp only at hn
      split at hn
      · rename_i c esz ro hg
        obtain ⟨c', h1, h2⟩ := cellsT h hid hg
        obtain ⟨w', h3, h4⟩ := RVL_get h2 hn
        exact ⟨w', by simp only [loadV, h1]; exact h3, h4⟩
      · cases hn
    | some n =>
      simp only [Option.map_eq_some_iff] at hn
      obtain ⟨l, hl, rfl⟩ := hn
      obtain ⟨l', h1, h2⟩ := rowT h hid hl
      exact ⟨.ag l', by simp only [loadV, h1]; rfl, RV_ag h2⟩
  case fp l =>
    simp only [RV] at hv
    obtain ⟨_, id, off, c, esz, rfl, h1, h2, h3⟩ := hv
    obtain ⟨_, ro, h4⟩ := h.stab id c esz h1
    have h3' : RVL ρ H.next S T l 2 ((c.drop off).take l.length) := RVL_mono (fun e => absurd e (by omega)) (LeS.refl _ _ _) (by omega) (Nat.le_refl _) _ _ h3
    cases n with
    | none =>
      simp only at hn
      obtain ⟨w', h5, h6⟩ := RVL_get h3' hn
      refine ⟨w', ?_, h6⟩
      simp only [loadV, h4]
      rw [List.getElem?_take] at h5
      split at h5
      · rw [List.getElem?_drop] at h5; simpa using h5
      · cases h5
    | some n =>
      simp only at hn
      split at hn
      · rename_i hc
        cases hn
        have h2' : off + l.length ≤ c.length := h2.resolve_left (fun e => by rw [e] at hc; simp at hc; omega)
        have h5 := RVL_take h3' n
        rw [List.take_take, Nat.min_eq_left hc.2] at h5
        exact ⟨_, by simp only [loadV, rowS h h1 (show off + n ≤ c.length by omega)]; rfl, RV_ag h5⟩
      · cases hn

theorem REs_len : ∀ {es es' : List (AVal × AVal)}, REs ρ N S T es es' → es'.length = es.length := by
  intro es
  induction es with
  | nil => intro es' h; simp only [REs] at h; subst h; rfl
  | cons x es ih => obtain ⟨a, b⟩ := x; intro es' h; obtain ⟨_, _, r, rfl, _, _, h4⟩ := h; simp [ih h4]

theorem lenT (h : TR G ρ S T H A) {k n : Nat} {v u : AVal} (hv : RV ρ H.next S T v 2 u) (hn : lenV H k v = some n) : lenV A k u = some n := by
  match k, hn with
  | 0, hn =>
    cases v <;> simp only [lenV] at hn <;> (try (cases hn; done)) <;> simp only [RV] at hv
    case ns => subst hv; exact hn
    case es => subst hv; exact hn
    case sl => obtain ⟨_, _, rfl⟩ := hv; exact hn
    case fs tmp full len l => obtain ⟨_, ⟨rfl, _, rfl | ⟨_, rfl⟩ | ⟨_, _, _, rfl, _⟩⟩ | ⟨_, _, _, _, _, _, rfl, _⟩⟩ := hv <;> exact hn
  | 1, hn =>
    cases v <;> simp only [lenV] at hn <;> (try (cases hn; done)) <;> simp only [RV] at hv
    subst hv; exact hn
  | 2, hn =>
    cases v <;> simp only [lenV] at hn <;> (try (cases hn; done)) <;> simp only [RV] at hv
    case nm => subst hv; exact hn
    case m =>
      obtain ⟨_, hid, rfl⟩ := hv
      split at hn
      · rename_i es hg
        obtain ⟨o', h1, es', rfl, h2⟩ := h.obj _ _ hid hg
        simp only [lenV, h1, REs_len h2]; exact hn
      · cases hn
  | k + 3, hn => cases v <;> simp [lenV] at hn

end
end Go.RI

/- RI, part TD: operations that write, make, slice, append, at both levels. Conditions: none. -/
namespace Go.RI
open Go
set_option linter.unusedSimpArgs false
set_option linter.unusedVariables false

section
variable {G : AHeap} {ρ : Nat → Nat} {S T : Stab} {H A : AHeap} {e a : Env}

/-- What a run comes to. -/
def SimT (G : AHeap) (ρ : Nat → Nat) (S T : Stab) (H A : AHeap) (run : Option (Option AVal × AHeap)) (v : Option AVal) (H' : AHeap) : Prop :=
  ∃ ρ' u A', run = some (u, A') ∧ TR G ρ' S T H' A' ∧ Mono ρ S H A ρ' S H' A' ∧ match v, u with
    | some v, some u => RV ρ' H'.next S T v 2 u
    | none, none => True
    | _, _ => False

theorem simT_val (h : TR G ρ S T H A) {run : Option (Option AVal × AHeap)} {v u : AVal} (hr : run = some (some u, A)) (hv : RV ρ H.next S T v 2 u) : SimT G ρ S T H A run (some v) H :=
  ⟨ρ, some u, A, hr, h, Mono.refl _ _ _ _, hv⟩

theorem RO_cells {N : Nat} {c c' : List AVal} {esz : Nat} {ro : Bool} (h : RVL ρ N S T c 2 c') : RO ρ N S T (.cells c esz ro) (.cells c' esz ro) := ⟨c', rfl, h⟩

theorem pushT (h : TR G ρ S T H A) {c c' : List AVal} {esz : Nat} (hc : RVL ρ H.next S T c 2 c') : TR G (updN ρ H.next A.next) S T (H.push (.cells c esz false)) (A.push (.cells c' esz false)) ∧ Mono ρ S H A (updN ρ H.next A.next) S (H.push (.cells c esz false)) (A.push (.cells c' esz false)) :=
  h.push (o := some (.cells c esz false)) (o' := some (.cells c' esz false)) rfl rfl (fun i => AHeap.get_push H i _) (fun i => AHeap.get_push A i _) (fun x hx => by cases hx; exact ⟨_, rfl, RO_cells hc⟩)

theorem simT_push (h : TR G ρ S T H A) {c c' : List AVal} {esz : Nat} (hc : RVL ρ H.next S T c 2 c') {run : Option (Option AVal × AHeap)} {v u : AVal} (hr : run = some (some u, A.push (.cells c' esz false)))
    (hv : RV (updN ρ H.next A.next) (H.next + 1) S T v 2 u) : SimT G ρ S T H A run (some v) (H.push (.cells c esz false)) := by
  obtain ⟨h1, h2⟩ := pushT (esz := esz) h hc
  exact ⟨_, some u, _, hr, h1, h2, hv⟩

theorem newP : RV (updN ρ H.next A.next) (H.next + 1) S T (.p H.next 0) 2 (.p A.next 0) := by
  have := RV_p (ρ := updN ρ H.next A.next) (N := H.next + 1) (S := S) (T := T) (id := H.next) (off := 0) (by omega)
  rwa [updN_same] at this
theorem newSl {len : Nat} {cap : Option Nat} : RV (updN ρ H.next A.next) (H.next + 1) S T (.sl H.next 0 len cap) 2 (.sl A.next 0 len cap) := by
  have := RV_sl (ρ := updN ρ H.next A.next) (N := H.next + 1) (S := S) (T := T) (id := H.next) (off := 0) (len := len) (cap := cap) (by omega)
  rwa [updN_same] at this

theorem storeT (h : TR G ρ S T H A) {n : Nat} {p p' v v' : AVal} (hp : RV ρ H.next S T p 2 p') (hv : RV ρ H.next S T v 2 v') {H' : AHeap} {loA : Nat} {lo : Nat} (hg : G.next ≤ lo) (hlo2 : ∀ i, i < H.next → lo ≤ i → loA ≤ ρ i) (hs : storeV lo H n p v = some H') :
    ∃ A', storeV loA A n p' v' = some A' ∧ TR G ρ S T H' A' ∧ Mono ρ S H A ρ S H' A' := by
  cases p <;> simp only [storeV] at hs <;> try (cases hs; done)
  rename_i id off
  simp only [RV] at hp
  obtain ⟨_, hid, rfl⟩ := hp
  split at hs
  · rename_i hle
    split at hs
    · rename_i c esz ro hgt
      split at hs
      · rename_i hc
        obtain ⟨rfl, h1, h2, h3⟩ := hc
        cases hs
        obtain ⟨c', h4, h5⟩ := cellsT h hid hgt
        have hl := RVL_len h5
        have hl2 := RVL_len (RV_cells hv)
        obtain ⟨g1, g2⟩ := h.set hid (Nat.le_trans hg hle) hgt rfl (o := some (.cells (putCells c off v.cells) esz false)) (o' := some (.cells (putCells c' off v'.cells) esz false))
          (fun x hx => by cases hx; exact ⟨_, rfl, RO_cells (RVL_putCells off h5 (RV_cells hv))⟩)
        refine ⟨_, ?_, g1, g2⟩
        simp only [storeV]
        rw [if_pos (hlo2 id hid hle), h4]
        simp only
        rw [if_pos ⟨trivial, by rw [RV_tup hv]; exact h1, by rw [hl2]; exact h2, by rw [hl]; exact h3⟩]
      · cases hs
    · cases hs
  · cases hs

theorem list_mid {α : Type} (L : List α) (n m k : Nat) (h : m + k ≤ n) : ((L.take n).drop m).take k = (L.drop m).take k := by
  rw [List.drop_take, List.take_take, Nat.min_eq_left (by omega)]

/-- A part of a row that nobody writes. -/
theorem fsT {tmp full : Bool} {N len : Nat} {l : List AVal} {id off : Nat} {c : List AVal} {esz : Nat} (hk : tmp = true → 1 ≤ 2) (h4 : look tmp S T id = some (c, esz)) (h5 : l.length = len * esz) (h6 : off + len * esz ≤ c.length)
    (h7 : RVL ρ N S T l (lv tmp) ((c.drop off).take (len * esz))) {lo hi off' : Nat} {cap' : Option Nat} (h8 : lo ≤ hi) (h9 : hi ≤ len) (hoff : lo < hi → off' = off + lo * esz) (hf : full = true → cap' = some (hi - lo)) (hc : ∀ m, cap' = some m → hi - lo ≤ m) :
    RV ρ N S T (.fs tmp full (hi - lo) ((l.drop (lo * esz)).take ((hi - lo) * esz))) 2 (.sl id off' (hi - lo) cap') := by
  simp only [RV]
  refine ⟨fun _ => by omega, ?_⟩
  rcases Nat.eq_or_lt_of_le h8 with he | hlt
  · left
    subst he
    have hz : lo - lo = 0 := by omega
    rw [hz]
    exact ⟨rfl, by simp, .inr <| .inr ⟨id, off', cap', rfl, fun e => by rw [hf e, hz]⟩⟩
  · right
    have e1 : lo * esz + (hi - lo) * esz = hi * esz := by rw [← Nat.add_mul]; congr 1; omega
    have e2 : hi * esz ≤ len * esz := Nat.mul_le_mul_right _ h9
    refine ⟨by omega, id, off', cap', c, esz, rfl, hf, hc, h4, ?_, ?_, ?_⟩
    · simp; omega
    · rw [hoff hlt]; omega
    · have := RVL_take (RVL_drop h7 (lo * esz)) ((hi - lo) * esz)
      rw [list_mid _ _ _ _ (by omega), List.drop_drop] at this
      rw [hoff hlt]; exact this

theorem slT (h : TR G ρ S T H A) {esz : Nat} {v u : AVal} (hv : RV ρ H.next S T v 2 u) {l hh m : Option Nat} {w : AVal} {H' : AHeap} (hs : slV esz H v l hh m = some (w, H')) :
    ∃ ρ' w' A', slV esz A u l hh m = some (w', A') ∧ TR G ρ' S T H' A' ∧ Mono ρ S H A ρ' S H' A' ∧ RV ρ' H'.next S T w 2 w' ∧ (H'.next = H.next → (isFs v = true → m.isSome ∨ l.getD 0 = 0 ∨ isFs0 w = false) → A' = A ∧ ρ' = ρ ∧ isFs u = false) := by
  cases v <;> simp only [slV] at hs <;> try (cases hs; done)
  case ns =>
    simp only [RV] at hv
    subst hv
    split at hs
    · rename_i hc; cases hs
      exact ⟨ρ, .ns, A, by simp only [slV]; rw [if_pos hc], h, Mono.refl _ _ _ _, by simp only [RV], fun _ _ => ⟨rfl, rfl, rfl⟩⟩
    · cases hs
  case es ad =>
    simp only [RV] at hv
    subst hv
    split at hs
    · rename_i hc; cases hs
      exact ⟨ρ, .es ad, A, by simp only [slV]; rw [if_pos hc], h, Mono.refl _ _ _ _, by simp only [RV], fun _ _ => ⟨rfl, rfl, rfl⟩⟩
    · cases hs
  case sl id off len cap =>
    simp only [RV] at hv
    obtain ⟨_, hid, rfl⟩ := hv
    cases cap with
    | some c =>
      simp only at hs
      split at hs
      · rename_i hc; cases hs
        exact ⟨ρ, _, A, by simp only [slV]; rw [if_pos hc], h, Mono.refl _ _ _ _, RV_sl hid, fun _ _ => ⟨rfl, rfl, rfl⟩⟩
      · cases hs
    | none =>
      simp only at hs
      cases m with
      | some m' =>
        simp only at hs
        split at hs
        · rename_i hc; cases hs
          exact ⟨ρ, _, A, by simp only [slV]; rw [if_pos hc], h, Mono.refl _ _ _ _, RV_sl hid, fun _ _ => ⟨rfl, rfl, rfl⟩⟩
        · cases hs
      | none =>
        simp only at hs
        split at hs
        · rename_i hc
          split at hs
          · rename_i h0; cases hs
            exact ⟨ρ, _, A, by simp only [slV]; rw [if_pos hc, if_pos h0], h, Mono.refl _ _ _ _, RV_sl hid, fun _ _ => ⟨rfl, rfl, rfl⟩⟩
          · rename_i h0
            split at hs
            · rename_i hlt
              split at hs
              · rename_i cs esz' ro hg
                split at hs
                · rename_i he; cases hs
                  obtain ⟨c', h1, _⟩ := cellsT h hid hg
                  exact ⟨ρ, _, A, by simp only [slV]; rw [if_pos hc, if_neg h0, if_pos hlt, h1]; simp only; rw [if_pos he], h, Mono.refl _ _ _ _, RV_sl hid, fun _ _ => ⟨rfl, rfl, rfl⟩⟩
                · cases hs
              · cases hs
            · rename_i hlt
              cases hs
              obtain ⟨g1, g2⟩ := h.push (H' := { H with next := H.next + 1, tbl := H.tbl.put none (H.next + 1) H.next }) (A' := { A with next := A.next + 1, tbl := A.tbl.put none (A.next + 1) A.next }) (o := none) (o' := none) rfl rfl
                (fun i => Trie.get_put _ _ _ _ _ (Nat.lt_succ_self _)) (fun i => Trie.get_put _ _ _ _ _ (Nat.lt_succ_self _)) (fun x hx => by cases hx)
              exact ⟨_, _, _, by simp only [slV]; rw [if_pos hc, if_neg h0, if_neg hlt], g1, g2, newSl, fun hn => by simp at hn⟩
        · cases hs
  case fs tmp full len cs =>
    split at hs
    · rename_i hlen
      simp only [RV] at hv
      obtain ⟨hk, h0 | ⟨h0, id, off, cap, c, es, rfl, h1, h2, h4, h5, h6, h7⟩⟩ := hv
      · -- nothing in it
        obtain ⟨rfl, rfl, hu⟩ := h0
        have fin : ∀ (fl : Bool), hh.getD 0 = 0 → l.getD 0 = 0 → m.getD 0 = 0 → (m.isSome = true → hh.isSome = true) → w = .fs tmp fl (hh.getD 0 - l.getD 0) ((([] : List AVal).drop (l.getD 0 * esz)).take ((hh.getD 0 - l.getD 0) * esz)) → (fl = true → full = true ∨ m.isSome = true) → H' = H →
            ∃ ρ' w' A', slV esz A u l hh m = some (w', A') ∧ TR G ρ' S T H' A' ∧ Mono ρ S H A ρ' S H' A' ∧ RV ρ' H'.next S T w 2 w' ∧ (H'.next = H.next → (isFs (.fs tmp full 0 []) = true → m.isSome ∨ l.getD 0 = 0 ∨ isFs0 w = false) → A' = A ∧ ρ' = ρ ∧ isFs u = false) := by
          rintro fl e1 e2 e3 e4 rfl e5 rfl
          rw [e1, e2]
          simp only [Nat.sub_zero, Nat.zero_mul, List.drop_nil, List.take_nil]
          rcases hu with rfl | ⟨ad, rfl⟩ | ⟨id, off, cap, rfl, hcap⟩
          · exact ⟨ρ, .ns, A, by simp only [slV]; rw [if_pos ⟨e2, e1, e3, e4⟩], h, Mono.refl _ _ _ _, by simp [RV], fun _ _ => ⟨rfl, rfl, rfl⟩⟩
          · exact ⟨ρ, .es ad, A, by simp only [slV]; rw [if_pos ⟨e2, e1, e3, e4⟩], h, Mono.refl _ _ _ _, by simp [RV], fun _ _ => ⟨rfl, rfl, rfl⟩⟩
          · cases cap with
            | some k =>
              cases m with
              | none =>
                refine ⟨ρ, .sl id (if k = 0 then off else off + 0 * esz) 0 (some k), A, ?_, h, Mono.refl _ _ _ _, ?_, fun _ _ => ⟨rfl, rfl, rfl⟩⟩
                · simp only [slV, Option.getD_none]
                  rw [if_pos ⟨Nat.le_refl _, by omega, by omega, fun h => by simp at h⟩, e1, e2]; simp
                · simp only [RV]
                  refine ⟨fun _ => by omega, .inl ⟨trivial, trivial, .inr <| .inr ⟨id, _, some k, rfl, fun e => ?_⟩⟩⟩
                  rcases e5 e with e6 | e6
                  · exact hcap e6
                  · simp at e6
              | some m' =>
                simp only [Option.getD_some] at e3
                subst e3
                refine ⟨ρ, .sl id off 0 (some 0), A, ?_, h, Mono.refl _ _ _ _, ?_, fun _ _ => ⟨rfl, rfl, rfl⟩⟩
                · simp only [slV, Option.getD_some]
                  rw [if_pos ⟨Nat.zero_le _, by omega, by omega, e4⟩, e1, e2]; simp
                · simp only [RV]
                  exact ⟨fun _ => by omega, .inl ⟨trivial, trivial, .inr <| .inr ⟨id, off, some 0, rfl, fun _ => rfl⟩⟩⟩
            | none =>
              cases m with
              | none =>
                refine ⟨ρ, .sl id off 0 none, A, ?_, h, Mono.refl _ _ _ _, ?_, fun _ _ => ⟨rfl, rfl, rfl⟩⟩
                · simp only [slV]
                  rw [if_pos ⟨by omega, by omega⟩, if_pos e2, e1]
                · simp only [RV]
                  refine ⟨fun _ => by omega, .inl ⟨trivial, trivial, .inr <| .inr ⟨id, _, none, rfl, fun e => ?_⟩⟩⟩
                  rcases e5 e with e6 | e6
                  · exact hcap e6
                  · simp at e6
              | some m' =>
                simp only [Option.getD_some] at e3
                subst e3
                refine ⟨ρ, .sl id off 0 (some 0), A, ?_, h, Mono.refl _ _ _ _, ?_, fun _ _ => ⟨rfl, rfl, rfl⟩⟩
                · simp only [slV]
                  rw [if_pos ⟨Nat.le_refl _, by omega, by omega, e4 rfl⟩, e1, e2]; simp
                · simp only [RV]
                  exact ⟨fun _ => by omega, .inl ⟨trivial, trivial, .inr <| .inr ⟨id, off, some 0, rfl, fun _ => rfl⟩⟩⟩
        cases m with
        | some m' =>
          simp only at hs
          split at hs
          · rename_i hc; cases hs
            exact fin _ (by omega) (by omega) (by simp only [Option.getD_some]; omega) (fun _ => hc.2.2.2) rfl (fun _ => .inr rfl) rfl
          · cases hs
        | none =>
          simp only at hs
          split at hs
          · rename_i hc; cases hs
            exact fin _ (by omega) (by omega) rfl (fun h => by simp at h) rfl (fun e => by simp only [Bool.and_eq_true] at e; exact .inl e.1) rfl
          · cases hs
      · -- there is something
        have hes : es = esz := by
          rw [h5] at hlen
          exact Nat.eq_of_mul_eq_mul_left h0 hlen
        subst hes
        have hrow : ∃ ro, A.get id = some (.cells c es ro) := (h.stab id c es (look_up h4)).2
        cases m with
        | some m' =>
          simp only at hs
          split at hs
          · rename_i hc
            cases hs
            obtain ⟨c1, c2, c3, c4⟩ := hc
            cases cap with
            | some k =>
              have hk2 := h2 k rfl
              refine ⟨ρ, _, A, by simp only [slV, Option.getD_some]; rw [if_pos ⟨by omega, c2, c3, fun _ => c4⟩], h, Mono.refl _ _ _ _, ?_, fun _ _ => ⟨rfl, rfl, rfl⟩⟩
              exact fsT (fun _ => by omega) h4 h5 h6 h7 c3 (by omega) (fun hlt => by rw [if_neg (by omega)]) (fun e => by simp only [decide_eq_true_eq] at e; rw [e]) (fun m hm => by cases hm; omega)
            | none =>
              refine ⟨ρ, _, A, by simp only [slV]; rw [if_pos ⟨c1, c2, c3, c4⟩], h, Mono.refl _ _ _ _, ?_, fun _ _ => ⟨rfl, rfl, rfl⟩⟩
              exact fsT (fun _ => by omega) h4 h5 h6 h7 c3 (by omega) (fun hlt => by rw [if_neg (by omega)]) (fun e => by simp only [decide_eq_true_eq] at e; rw [e]) (fun m hm => by cases hm; omega)
          · cases hs
        | none =>
          simp only at hs
          split at hs
          · rename_i hc
            cases hs
            obtain ⟨c1, c2⟩ := hc
            cases cap with
            | some k =>
              have hk2 := h2 k rfl
              refine ⟨ρ, _, A, by simp only [slV, Option.getD_none]; rw [if_pos ⟨Nat.le_refl _, by omega, c2, fun h => by simp at h⟩], h, Mono.refl _ _ _ _, ?_, fun _ _ => ⟨rfl, rfl, rfl⟩⟩
              exact fsT (fun _ => by omega) h4 h5 h6 h7 c2 c1 (fun hlt => by rw [if_neg (by omega)]) (fun e => by
                simp only [Bool.and_eq_true, decide_eq_true_eq] at e
                have := h1 e.1
                cases this
                rw [e.2]) (fun m hm => by cases hm; omega)
            | none =>
              have hfull : full = false := by
                cases full
                · rfl
                · have := h1 rfl; cases this
              subst hfull
              obtain ⟨ro, hA⟩ := hrow
              by_cases hl0 : l.getD 0 = 0
              · refine ⟨ρ, _, A, by simp only [slV]; rw [if_pos ⟨c1, c2⟩, if_pos hl0], h, Mono.refl _ _ _ _, ?_, fun _ _ => ⟨rfl, rfl, rfl⟩⟩
                have := fsT (ρ := ρ) (N := H.next) (full := false) (off' := off) (cap' := none) (fun _ => by omega) h4 h5 h6 h7 c2 c1 (fun _ => by rw [hl0]; simp) (fun e => by cases e) (fun m hm => by cases hm)
                rw [hl0] at this ⊢
                simpa using this
              · by_cases hlt : l.getD 0 < hh.getD len
                · refine ⟨ρ, _, A, by simp only [slV]; rw [if_pos ⟨c1, c2⟩, if_neg hl0, if_pos hlt, hA]; simp only; rw [if_pos trivial], h, Mono.refl _ _ _ _, ?_, fun _ _ => ⟨rfl, rfl, rfl⟩⟩
                  exact fsT (fun _ => by omega) h4 h5 h6 h7 c2 c1 (fun _ => rfl) (fun e => by simp at e) (fun m hm => by cases hm)
                · obtain ⟨g1, g2⟩ := h.ghost (A' := { A with next := A.next + 1, tbl := A.tbl.put none (A.next + 1) A.next }) rfl (fun i => Trie.get_put _ _ _ _ _ (Nat.lt_succ_self _))
                  have hz : hh.getD len - l.getD 0 = 0 := by omega
                  refine ⟨ρ, _, _, by simp only [slV]; rw [if_pos ⟨c1, c2⟩, if_neg hl0, if_neg hlt], g1, g2, ?_, fun _ hq => ?_⟩
                  · simp only [RV]
                    rw [hz]
                    exact ⟨fun _ => by omega, .inl ⟨rfl, by simp, .inr <| .inr ⟨_, _, _, rfl, fun e => by simp at e⟩⟩⟩
                  · exfalso
                    rcases hq rfl with hq | hq | hq
                    · simp at hq
                    · exact hl0 hq
                    · rw [hz] at hq; simp [isFs0] at hq
          · cases hs
    · cases hs

theorem RVL_bytes {N : Nat} (v : List UInt8) : RVL ρ N S T (v.map fun b => AVal.i .u8 b.toNat) 2 (v.map fun b => AVal.i .u8 b.toNat) := by
  induction v with
  | nil => simp [RVL]
  | cons b v ih => exact RVL_cons RV_i ih

theorem moreT (h : TR G ρ S T H A) {esz n : Nat} {y y' : AVal} {ys : List AVal} (hy : RV ρ H.next S T y 2 y') (hm : moreV H esz y = some (n, ys)) : ∃ ys', moreV A esz y' = some (n, ys') ∧ RVL ρ H.next S T ys 2 ys' := by
  cases y <;> simp only [moreV] at hm <;> try (cases hm; done)
  case s v => cases hm; rw [strT hy]; exact ⟨_, rfl, RVL_bytes v⟩
  case ns => cases hm; simp only [RV] at hy; subst hy; exact ⟨[], rfl, by simp [RVL]⟩
  case es => cases hm; simp only [RV] at hy; subst hy; exact ⟨[], rfl, by simp [RVL]⟩
  case sl id off len cap =>
    simp only [RV] at hy
    obtain ⟨_, hid, rfl⟩ := hy
    split at hm
    · rename_i h0; cases hm; exact ⟨[], by simp [moreV, h0], by simp [RVL]⟩
    · rename_i h0
      rw [Option.map_eq_some_iff] at hm
      obtain ⟨l, hl, he⟩ := hm
      cases he
      obtain ⟨l', h1, h2⟩ := rowT h hid hl
      exact ⟨l', by simp [moreV, h0, h1], h2⟩
  case fs tmp full len l =>
    simp only [RV] at hy
    split at hm
    · rename_i h0
      cases hm
      obtain ⟨_, ⟨_, _, rfl | ⟨_, rfl⟩ | ⟨_, _, _, rfl, _⟩⟩ | ⟨h1, _⟩⟩ := hy
      · exact ⟨[], rfl, by simp [RVL]⟩
      · exact ⟨[], rfl, by simp [RVL]⟩
      · exact ⟨[], by simp [moreV], by simp [RVL]⟩
      · omega
    · rename_i h0
      split at hm
      · rename_i hl
        cases hm
        obtain ⟨_, ⟨h1, _⟩ | ⟨h1, id, off, cap, c, es, rfl, _, _, h4, h5, h6, h7⟩⟩ := hy
        · omega
        · have hes : es = esz := by rw [h5] at hl; exact Nat.eq_of_mul_eq_mul_left h1 hl
          subst hes
          exact ⟨_, by simp [moreV, h0, rowS h (look_up h4) h6], RVL_up (by omega) (Nat.le_refl _) h7⟩
      · cases hm

end
end Go.RI

