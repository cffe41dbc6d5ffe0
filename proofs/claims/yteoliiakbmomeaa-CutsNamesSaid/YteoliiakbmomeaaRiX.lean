/- RI, part X: a region that leaves its order open, simulated; results; the code turned. Conditions: none. -/
import Derived.Test.YteoliiakbmomeaaRiW
namespace Go.RI
open Go

section
variable {ds : List Deferred} {P : Program} {G : AHeap} {lo nt : Nat} {ρ : Ren} {D : Nat → Prop} {e : Env} {a : Act} {H : AHeap} {w : World}

theorem getD_replicate (n i : Nat) : (Array.replicate n false).getD i false = false := by
  simp only [Array.getD]
  split <;> simp

theorem inv_init {call : CallI} {ops : Array Oper} {order : List Nat} {xs : List Item} {E : Nat → Env} {Hh : Nat → AHeap} {ρ0 : Ren} {D0 : Nat → Prop} {w0 : World} (c : Ctx P G lo nt call ops order xs E Hh ρ0 D0)
    (hrel : HRel G ρ0 D0 (Hh 0) w0) (hst : Step lo ρ0 D0 (Hh 0) w ρ0 D0 (Hh 0) w0) (har : ARel ds ρ0 D0 nt (E 0) a) : ∃ T, Inv ds G lo nt ops order xs E Hh ρ0 D0 w (Array.replicate ops.size false) a w0 T ρ0 D0 := by
  obtain ⟨T, _, t2, t3, t4⟩ := next_act (xs := xs) xs.length 0 (by omega)
  have ext : ∀ k, k ≤ T → Ext (Hh 0) (Hh k) ∧ Wf (Hh k) := fun k h2 => ext_stay' c (Nat.zero_le _) (by omega) hrel.wf fun j y h3 h4 hy => t3 j y h3 (by omega) hy
  have ext2 : ∀ k k', k ≤ k' → k' ≤ T → Ext (Hh k) (Hh k') := fun k k' h2 h3 => (ext_stay' c h2 (by omega) (ext k (by omega)).2 fun j y h4 h5 hy => t3 j y (by omega) (by omega) hy).1
  obtain ⟨e1, e2⟩ := ext T (Nat.le_refl _)
  refine ⟨T, {
    size := by simp
    closed := fun j o e _ h => by rw [getD_replicate] at h; cases h
    TN := t2
    act := fun h => by
      obtain ⟨y, hy, hya⟩ := t4 h
      have hol : T < order.length := by rw [← c.plan.len]; exact h
      exact ⟨y, order[T], hy, hya, List.getElem?_eq_getElem hol, getD_replicate _ _⟩
    done := fun q y j h1 h2 h3 _ => by rw [t3 q y (Nat.zero_le _) h1 h2] at h3; cases h3
    hrel := heapExt_sim hrel e1 e2
    step := hst.ext hrel.lt e1
    tsize := har.size
    defers := har.defers
    sa := fun t x i s v _ _ _ h => by rw [getD_replicate] at h; cases h
    sb := fun s v _ h => har.get s v h
    wfs := fun t ht => (ext t ht).2
    mono := fun t t' h1 h2 => (ext2 t t' h1 h2).next
    f1 := fun p x i v h1 h2 _ _ h5 _ h7 => by
      obtain ⟨_, _, h9⟩ := looks_ext (ext p (by omega)).2 (ext2 p T (by omega) (Nat.le_refl _)) h5 h7
      exact h9
    f2 := ?_ }⟩
  intro p y j h1 h2 _ _ h5 h6
  have hact : y.op.act = false := makes_act h5
  have hpush : (Hh (p + 1)).next = (Hh p).next + 1 := by
    obtain ⟨hi, _⟩ := c.run p y h2
    simp only [itemI, h6] at hi
    split at hi
    · rename_i v2 H2 hop
      rw [opI_plain hact] at hop
      obtain ⟨cc, es, uu, _, he⟩ := makes_push h5 hop
      rw [← (Prod.mk.inj (Option.some.inj hi)).2, he]; rfl
    · rename_i H2 hop
      rw [opI_plain hact] at hop
      obtain ⟨cc, es, uu, hu, _⟩ := makes_push h5 hop
      cases hu
    · cases hi
  have h9 := (ext p (by omega)).1.next
  refine ⟨fun hd => by have := hrel.lt _ hd; omega, ?_⟩
  exact (ext2 (p + 1) T (by omega) (Nat.le_refl _)).get _ (by omega)

theorem draw_sim (hm : P.follows .mixedOrders = true) {call : CallI} (hc : CallOK P G lo call) (hlo : G.next ≤ lo) {ops : Array Oper} {order : List Nat} {xs : List Item} (hx : trDraw P nt ops order = some xs) {id : Nat} {Q : Exit → Act → World → Prop} {R : Option Nat} {m : Nat}
    (r : Rel P G ds ρ D nt e a H w) {e' : Env} {H' : AHeap} (hs : itemsI call lo xs e H = some (e', H'))
    (h : ∀ ρ' D' a' w', Step lo ρ D H w ρ' D' H' w' → HRel G ρ' D' H' w' → ARel ds ρ' D' nt e' a' → Q .normal a' w') : (Code.region id ops true).wpIn (FR R) m P Q a w := by
  obtain ⟨E, Hh, h0, h1, h2, h3, h4⟩ := trace_of xs e H e' H' hs
  have hd : Drew w { w with drawn := w.drawn + 1 } := by constructor <;> rfl
  obtain ⟨s1, s2⟩ := drew_sim (lo := lo) r.heap hd
  have c : Ctx P G lo nt call ops order xs E Hh ρ D := ⟨draw_plan hx, h4, hc, hlo, r.gsize, r.gok, fun id hid => by rw [h1]; exact r.heap.lt id hid, by rw [h1]; exact r.heap.gnext⟩
  obtain ⟨T, iv⟩ := inv_init (w := w) (a := a) c (w0 := { w with drawn := w.drawn + 1 }) (by rw [h1]; exact s2) (by rw [h1]; exact s1) (by rw [h0]; exact r.slots)
  refine wpIn_region_any hm ?_
  refine draw_inv c (Q := Q) (w0 := w) ?_ ops.size _ a _ ?_ ⟨T, ρ, D, iv⟩
  · intro ρ' D' a' w' g1 g2 g3
    rw [h1, h3] at g1
    rw [h3] at g2
    rw [h2] at g3
    exact h ρ' D' a' w' g1 g2 g3
  · unfold left
    exact Nat.le_trans (List.length_filter_le _ _) (by simp)

/-! ### Results -/
def trRes (P : Program) : List ResultVar → Option (List IRes)
  | [] => some []
  | .tmp t :: l => (trRes P l).map (.t t :: ·)
  | .cell a t :: l => match P.underlying t, P.info? t, trRes P l with
    | some d, some i, some rs => some (.c a (aggSz d i) :: rs)
    | _, _, _ => none

theorem loadVar_sim (r : Rel P G ds ρ D nt e a H w) {t : TypeId} {d : TypeDesc} {i : TypeInfo} (hd : P.underlying t = some d) (hi : P.info? t = some i)
    {p v : AVal} {x : Value} (hx : x = ren ρ p) (hp : ok ρ D p) (hl : loadV H (aggSz d i) p = some v) : ok ρ D v ∧ ∃ ad, (asAddr x).run P w = .ok ad w ∧ (loadVar t ad).run P w = .ok (ren ρ v) w := by
  subst hx
  cases p <;> simp only [loadV] at hl <;> (try (cases hl; done)) <;> (try (simp [ok] at hp; done))
  case p id off =>
    simp only [ok] at hp
    unfold aggSz at hl
    cases hagg : isAggD d with
    | true =>
      rw [hagg] at hl
      simp only [if_true] at hl
      rw [Option.map_eq_some_iff] at hl
      obtain ⟨l, hl, rfl⟩ := hl
      obtain ⟨_, h2, h3, h4⟩ := rowAt_sim (P := P) r.heap hp hl
      refine ⟨by simp only [ok]; exact ⟨h2, h3⟩, ⟨(ρ id).blk, (ρ id).base + off, none⟩, ?_, ?_⟩
      · simp [ren, asAddr]
      · simp [loadVar, run_isAgg' hd, hagg, run_sizeOf' hi, h4, ren]
    | false =>
      rw [hagg] at hl
      simp only [Bool.false_eq_true, if_false] at hl
      split at hl
      · rename_i c esz ro hg
        have hc := r.heap.cells id c esz ro hp hg
        obtain ⟨C, e, fz, hb, hsz, hget, _⟩ := hc.at_
        have hcell : w.cell? ⟨(ρ id).blk, (ρ id).base + off, none⟩ = some (ren ρ v) := by rw [cell?_at hb]; exact hget _ _ hl
        refine ⟨okL_get hc.ok hl, ⟨(ρ id).blk, (ρ id).base + off, none⟩, ?_, ?_⟩
        · simp [ren, asAddr]
        · simp [loadVar, run_isAgg' hd, hagg, hcell]
      · cases hl

theorem resM_sim (r : Rel P G ds ρ D nt e a H w) : ∀ (l : List ResultVar) (rs : List IRes) (vs : List AVal), trRes P l = some rs → resI e H rs = some vs → okL ρ D vs ∧
    (l.mapM fun x => match x with | ResultVar.tmp t => (pure (a.tmps.getD t undef) : Sem Value) | ResultVar.cell ad t => (do loadVar t (← asAddr (a.tmps.getD ad undef)))).run P w = .ok (renL ρ vs) w := by
  intro l
  induction l with
  | nil =>
    intro rs vs h1 h2
    simp only [trRes, Option.some.injEq] at h1; subst h1
    simp only [resI, Option.some.injEq] at h2; subst h2
    exact ⟨trivial, by simp [renL]⟩
  | cons x l ih =>
    intro rs vs h1 h2
    cases x with
    | tmp t =>
      simp only [trRes, Option.map_eq_some_iff] at h1
      obtain ⟨rs', h1, rfl⟩ := h1
      simp only [resI] at h2
      split at h2
      · rename_i v vs' hv hvs
        cases h2
        obtain ⟨_, g1, g2⟩ := r.slots.get _ _ hv
        obtain ⟨h3, h4⟩ := ih rs' vs' h1 hvs
        refine ⟨⟨g2, h3⟩, ?_⟩
        simp only [List.mapM_cons, Sem.run_bind, Sem.run_pure, Result.andThen_ok, h4, g1, renL]
      · cases h2
    | cell ad t =>
      simp only [trRes] at h1
      split at h1
      · rename_i d i rs' hd hi h1'
        cases h1
        simp only [resI] at h2
        split at h2
        · rename_i p hp
          split at h2
          · rename_i v vs' hv hvs
            cases h2
            obtain ⟨_, g1, g2⟩ := r.slots.get _ _ hp
            obtain ⟨h3, h4⟩ := ih rs' vs' h1' hvs
            obtain ⟨h5, ad', h6, h7⟩ := loadVar_sim r hd hi g1 g2 hv
            refine ⟨⟨h5, h3⟩, ?_⟩
            simp only [List.mapM_cons, Sem.run_bind, Sem.run_pure, Result.andThen_ok, h4, h6, h7, renL]
          · cases h2
        · cases h2
      · cases h1

theorem results_sim (r : Rel P G ds ρ D nt e a H w) {fn : Func} {rs : List IRes} {vs : List AVal} (h1 : trRes P fn.results.toList = some rs) (h2 : resI e H rs = some vs) :
    ok ρ D (tupI vs) ∧ (results fn a.tmps).run P w = .ok (ren ρ (tupI vs)) w := by
  obtain ⟨h3, h4⟩ := resM_sim r _ _ _ h1 h2
  constructor
  · unfold tupI
    split
    · exact h3.1
    · simp only [ok]; exact h3
  · unfold results
    rw [Array.mapM_eq_mapM_toList]
    simp only [Sem.run_bind, Sem.run_map, Sem.run_pure]
    refine (congrArg (fun z : Result (List Value) => (z.andThen fun l w' => Result.ok l.toArray w').andThen fun b w' => Result.ok (if h : b.size = 1 then b[0] else Value.tuple b) w') h4).trans ?_
    simp only [Result.andThen_ok]
    cases vs with
    | nil => simp [renL, tupI, ren]
    | cons v vs => cases vs with
      | nil => simp [renL, tupI]
      | cons v' vs => simp [renL, tupI, ren]

end
end Go.RI
