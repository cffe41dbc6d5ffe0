/- RI, part K: slicing and append. Conditions: none. -/
import Derived.Test.YteoliiakbmomeaaRiJ
namespace Go.RI
open Go
set_option linter.unusedSimpArgs false

/-- An index that may be left out: the machine's, and the interpreter's. -/
def OptRel (a : Act) (x : Option Operand) (l : Option Nat) : Prop := (x = none ∧ l = none) ∨ ∃ y k i, x = some y ∧ a.eval y = .int k i ∧ 0 ≤ i ∧ l = some i.toNat

theorem run_bound {P : Program} {w : World} {k : IntKind} {i : Int} {y : Nat} (h0 : 0 ≤ i) (hy : i.toNat ≤ y) (c : BoundsCode) : (Instr.sliceBound (.int k i) y c).run P w = .ok i.toNat w := by
  have : 0 ≤ i ∧ i ≤ y := ⟨h0, by omega⟩
  simp [Instr.sliceBound, asIntOf, this]

theorem run_bounds {P : Program} {w : World} {a : Act} {lo hi mx : Option Operand} {l h m : Option Nat} (hl : OptRel a lo l) (hh : OptRel a hi h) (hm : OptRel a mx m) (isS : Bool) {len cap : Nat}
    (h1 : m.getD cap ≤ cap) (h2 : h.getD len ≤ m.getD cap) (h3 : l.getD 0 ≤ h.getD len) (h4 : m.isSome = true → h.isSome = true) :
    (Instr.sliceBounds isS len cap (lo.map a.eval) (hi.map a.eval) (mx.map a.eval)).run P w = .ok (l.getD 0, h.getD len, m.getD cap) w := by
  rcases hm with ⟨rfl, rfl⟩ | ⟨ym, km, im, rfl, em, pm, rfl⟩
  · rcases hh with ⟨rfl, rfl⟩ | ⟨yh, kh, ih, rfl, eh, ph, rfl⟩
    · rcases hl with ⟨rfl, rfl⟩ | ⟨yl, kl, il, rfl, el, pl, rfl⟩
      · simp [Instr.sliceBounds]
      · simp only [Option.getD_some, Option.getD_none] at *
        simp [Instr.sliceBounds, el, run_bound pl h3]
    · rcases hl with ⟨rfl, rfl⟩ | ⟨yl, kl, il, rfl, el, pl, rfl⟩
      · simp only [Option.getD_some, Option.getD_none] at *
        simp [Instr.sliceBounds, eh, run_bound ph h2]
      · simp only [Option.getD_some, Option.getD_none] at *
        simp [Instr.sliceBounds, eh, el, run_bound ph h2, run_bound pl h3]
  · rcases hh with ⟨rfl, rfl⟩ | ⟨yh, kh, ih, rfl, eh, ph, rfl⟩
    · simp at h4
    · rcases hl with ⟨rfl, rfl⟩ | ⟨yl, kl, il, rfl, el, pl, rfl⟩
      · simp only [Option.getD_some, Option.getD_none] at *
        simp [Instr.sliceBounds, em, eh, run_bound pm h1, run_bound ph h2]
      · simp only [Option.getD_some, Option.getD_none] at *
        simp [Instr.sliceBounds, em, eh, el, run_bound pm h1, run_bound ph h2, run_bound pl h3]

section
variable {ds : List Deferred} {P : Program} {G : AHeap} {lo : Nat} {ρ : Ren} {D : Nat → Prop} {n : Nat} {e : Env} {a : Act} {H : AHeap} {w : World}

theorem opt_sim (r : Rel P G ds ρ D n e a H w) {x : Option Operand} {x' : Option Opd} {l : Option Nat} (hx : trOpt P x = some x') (hl : optI e x' = some l) : OptRel a x l := by
  cases x with
  | none =>
    simp only [trOpt, Option.some.injEq] at hx; subst hx
    simp only [optI, Option.some.injEq] at hl; subst hl
    exact .inl ⟨rfl, rfl⟩
  | some x =>
    simp only [trOpt, Option.map_eq_some_iff] at hx
    obtain ⟨y, hy, rfl⟩ := hx
    simp only [optI] at hl
    split at hl
    · rename_i k i hv
      split at hl
      · rename_i h0
        cases hl
        obtain ⟨h1, _⟩ := opd_sim r hy hv
        exact .inr ⟨x, k, i, rfl, by rw [h1]; rfl, h0, rfl⟩
      · cases hl
    · cases hl

theorem slS_sim (r : Rel P G ds ρ D n e a H w) {o : Oper} {t : TypeId} {x : Operand} {lo' hi : Option Operand} (ho : o.op = .slice t x lo' hi none) (ht : P.underlying t = some .string) {v : List UInt8} {l h : Option Nat} {z : AVal}
    (hx : a.eval x = ren ρ (.s v)) (hl : OptRel a lo' l) (hh : OptRel a hi h) (hz : slSV v l h = some z) : Sim G lo ρ D H w ((execOp a.eval o).run P w) (some z) H := by
  simp only [slSV] at hz
  split at hz
  · rename_i hc
    cases hz
    refine sim_val r.heap ?_ (by simp [ok])
    have hb := run_bounds (P := P) (w := w) hl hh (.inl ⟨rfl, rfl⟩ : OptRel a none none) false (len := v.length) (cap := v.length) (by simp) (by simpa using hc.1) hc.2 (by simp)
    simp only [Option.map_none] at hb
    have hext : (ByteArray.mk v.toArray).extract (l.getD 0) (h.getD v.length) = ByteArray.mk ((v.take (h.getD v.length)).drop (l.getD 0)).toArray := by
      apply ByteArray.ext
      simp [ByteArray.data_extract, List.drop_take]
    simp [execOp, ho, Instr.sliceAt, run_underlying ht, Instr.slice, hx, ren, bytes_size, hb, hext]
  · cases hz

theorem sl_run {t el : TypeId} {i : TypeInfo} (ht : P.underlying t = some (.slice el)) (hi : P.info? el = some i) {ad : Option Addr} {len cap : Nat} {lo' hi' mx : Option Operand} {l h m : Option Nat}
    (hl : OptRel a lo' l) (hh : OptRel a hi' h) (hm : OptRel a mx m) (h1 : m.getD cap ≤ cap) (h2 : h.getD len ≤ m.getD cap) (h3 : l.getD 0 ≤ h.getD len) (h4 : m.isSome = true → h.isSome = true) :
    (Instr.sliceAt t (.slice ad len cap) (lo'.map a.eval) (hi'.map a.eval) (mx.map a.eval)).run P w = .ok (.slice (if m.getD cap = l.getD 0 then ad else ad.map (·.add (l.getD 0 * i.size))) (h.getD len - l.getD 0) (m.getD cap - l.getD 0)) w := by
  have hb := run_bounds (P := P) (w := w) hl hh hm true (len := len) (cap := cap) h1 h2 h3 h4
  simp [Instr.sliceAt, run_underlying ht, Instr.slice, hb, run_sizeOf' hi]

theorem sl_sim (r : Rel P G ds ρ D n e a H w) {o : Oper} {t el : TypeId} {x : Operand} {lo' hi' mx : Option Operand} (ho : o.op = .slice t x lo' hi' mx) {i : TypeInfo} (ht : P.underlying t = some (.slice el)) (hi : P.info? el = some i)
    {u v : AVal} {l h m : Option Nat} {H' : AHeap} (hx : a.eval x = ren ρ u) (hu : ok ρ D u) (hl : OptRel a lo' l) (hh : OptRel a hi' h) (hm : OptRel a mx m) (hs : slV i.size H u l h m = some (v, H')) :
    Sim G lo ρ D H w ((execOp a.eval o).run P w) (some v) H' := by
  have hexec : ∀ (V : Value) (w' : World), (Instr.sliceAt t (ren ρ u) (lo'.map a.eval) (hi'.map a.eval) (mx.map a.eval)).run P w = .ok V w' → (execOp a.eval o).run P w = .ok (.value V) w' := by
    intro V w' h; simp [execOp, ho, hx, h]
  cases u <;> simp only [slV] at hs <;> (try (cases hs; done)) <;> (try (simp [ok] at hu; done))
  case ns =>
    split at hs
    · rename_i hc
      obtain ⟨c1, c2, c3, c4⟩ := hc
      cases hs
      refine sim_val r.heap (hexec _ _ ?_) (by simp [ok])
      have := sl_run (P := P) (w := w) ht hi (ad := none) (len := 0) (cap := 0) hl hh hm (by omega) (by omega) (by omega) c4
      simp only [ren, this, c1, c2, c3]
      simp
    · cases hs
  case es ad =>
    split at hs
    · rename_i hc
      obtain ⟨c1, c2, c3, c4⟩ := hc
      cases hs
      refine sim_val r.heap (hexec _ _ ?_) (by simp [ok])
      have := sl_run (P := P) (w := w) ht hi (ad := some ad) (len := 0) (cap := 0) hl hh hm (by omega) (by omega) (by omega) c4
      simp only [ren, this, c1, c2, c3]
      simp
    · cases hs
  case sl id off len cap =>
    simp only [ok] at hu
    cases cap with
    | some c =>
      simp only at hs
      split at hs
      · rename_i hc
        obtain ⟨c1, c2, c3, c4⟩ := hc
        cases hs
        refine sim_val r.heap (hexec _ _ ?_) (by simp [ok, hu.1])
        have := sl_run (P := P) (w := w) ht hi (ad := some ⟨(ρ id).blk, (ρ id).base + off, none⟩) (len := len) (cap := c) hl hh hm c1 c2 c3 c4
        simp only [ren, Option.getD_some, this]
        by_cases hml : m.getD c = l.getD 0
        · simp [hml]
        · simp [hml, addr_add, Nat.add_assoc]
      · cases hs
    | none =>
      have hcap := hu.2 rfl
      cases m with
      | some m' =>
        simp only at hs
        split at hs
        · rename_i hc
          obtain ⟨c1, c2, c3, c4⟩ := hc
          cases hs
          refine sim_val r.heap (hexec _ _ ?_) (by simp [ok, hu.1])
          have := sl_run (P := P) (w := w) ht hi (ad := some ⟨(ρ id).blk, (ρ id).base + off, none⟩) (len := len) (cap := ((ρ id).ext - off) / (ρ id).esz) hl hh hm (by simp; omega) (by simpa using c2) c3 (fun _ => c4)
          simp only [ren, Option.getD_some, Option.getD_none, this]
          by_cases hml : m' = l.getD 0
          · simp [hml]
          · simp [hml, addr_add, Nat.add_assoc]
        · cases hs
      | none =>
        simp only at hs
        split at hs
        · rename_i hc
          obtain ⟨c1, c2⟩ := hc
          have hrun := sl_run (P := P) (w := w) ht hi (ad := some ⟨(ρ id).blk, (ρ id).base + off, none⟩) (len := len) (cap := ((ρ id).ext - off) / (ρ id).esz) hl hh hm (by simp) (by simp; omega) c2 (by simp)
          simp only [Option.getD_none] at hrun
          split at hs
          · rename_i hl0
            cases hs
            refine sim_val r.heap (hexec _ _ ?_) (by simp only [ok]; exact ⟨hu.1, fun _ => by omega⟩)
            simp only [ren, Option.getD_none, hrun, hl0]
            simp [addr_add]
          · rename_i hl0
            split at hs
            · rename_i hlt
              split at hs
              · rename_i cs esz' ro hg
                split at hs
                · rename_i he
                  subst he
                  cases hs
                  have hesz := (r.heap.cells id cs i.size ro hu.1 hg).esz_eq
                  have hmul : i.size * (l.getD 0) ≤ (ρ id).ext - off := by
                    have h1 : l.getD 0 ≤ ((ρ id).ext - off) / (ρ id).esz := by omega
                    rw [hesz] at h1
                    calc i.size * l.getD 0 ≤ i.size * (((ρ id).ext - off) / i.size) := Nat.mul_le_mul_left _ h1
                      _ ≤ (ρ id).ext - off := Nat.mul_div_le _ _
                  have hdiv : ((ρ id).ext - (off + l.getD 0 * i.size)) / i.size = ((ρ id).ext - off) / i.size - l.getD 0 := by
                    rw [← Nat.sub_mul_div _ _ _ , Nat.sub_sub, Nat.mul_comm]
                  refine sim_val r.heap (hexec _ _ ?_) (by simp only [ok]; exact ⟨hu.1, fun _ => by rw [hesz] at hcap ⊢; rw [hdiv]; omega⟩)
                  have hne : ¬ ((ρ id).ext - off) / (ρ id).esz = l.getD 0 := by omega
                  simp only [ren, Option.getD_none, hrun, hne, if_false]
                  rw [hesz, hdiv]
                  simp [addr_add, Nat.add_assoc]
                · cases hs
              · cases hs
            · rename_i hlt
              cases hs
              have hz : h.getD len - l.getD 0 = 0 := by omega
              obtain ⟨g1, g2⟩ := alias_sim (lo := lo) (w := w) r.heap
                ⟨(ρ id).blk, if ((ρ id).ext - off) / (ρ id).esz = l.getD 0 then (ρ id).base + off else (ρ id).base + off + l.getD 0 * i.size, ((ρ id).ext - off) / (ρ id).esz - l.getD 0, 1⟩
              refine ⟨_, _, w, hexec _ _ ?_, g1, g2, fun u hu' => ?_⟩
              · simp only [ren, Option.getD_none, hrun, upd_same, hz]
                split <;> simp [addr_add, Nat.add_assoc]
              · cases hu'; simp [ok, ins]
        · cases hs

/-! ### append -/
theorem more_sim (r : Rel P G ds ρ D n e a H w) {y : AVal} {esz k : Nat} {ys : List AVal} (hy : ok ρ D y) (h : moreV H esz y = some (k, ys)) :
    (Builtin.lenOf (ren ρ y)).run P w = .ok k w ∧ (∀ w', w'.heap = w.heap → (Builtin.firstCells esz k (ren ρ y)).run P w' = .ok (renL ρ ys).toArray w') ∧ okL ρ D ys ∧ oneL ys = true := by
  cases y <;> simp only [moreV] at h <;> (try (cases h; done)) <;> (try (simp [ok] at hy; done))
  case s v =>
    cases h
    refine ⟨by simp [ren, Builtin.lenOf, bytes_size], fun w' _ => ?_, okL_iff.2 (by simp [ok]), oneL_iff.2 (by simp [one])⟩
    have : (ByteArray.mk v.toArray).extract 0 v.length = ByteArray.mk v.toArray := by
      apply ByteArray.ext; simp [ByteArray.data_extract]
    simp [ren, Builtin.firstCells, this, renL_map, Function.comp_def]
  case ns =>
    cases h
    exact ⟨by simp [ren, Builtin.lenOf], fun w' _ => by simp [ren, Builtin.firstCells, renL], by simp [okL], rfl⟩
  case es ad =>
    cases h
    exact ⟨by simp [ren, Builtin.lenOf], fun w' _ => by simp [ren, Builtin.firstCells, renL, loadCells, loadCellsFrom], by simp [okL], rfl⟩
  case sl id off len cap =>
    simp only [ok] at hy
    split at h
    · rename_i h0
      cases h
      exact ⟨by simp [ren, Builtin.lenOf, h0], fun w' _ => by simp [ren, Builtin.firstCells, renL, loadCells, loadCellsFrom], by simp [okL], rfl⟩
    · rw [Option.map_eq_some_iff] at h
      obtain ⟨l, hl, he⟩ := h
      cases he
      obtain ⟨h1, h2, h3, _⟩ := rowAt_sim (P := P) r.heap hy.1 hl
      refine ⟨by simp [ren, Builtin.lenOf], fun w' hw' => ?_, h2, h3⟩
      obtain ⟨_, _, _, h4⟩ := rowAt_sim (P := P) (r.heap.heap_eq (w' := w') fun k _ => by rw [hw']) hy.1 hl
      simp [ren, Builtin.firstCells, h4]

theorem growBy_le (m : Nat) : ∀ (r c : Nat), c ≤ 2 * m + 192 → Builtin.growBy m r c ≤ 2 * m + 192 := by
  intro r
  induction r with
  | zero => intro c h; exact h
  | succ r ih =>
    intro c h
    simp only [Builtin.growBy]
    split
    · exact h
    · exact ih _ (by omega)

theorem nextcap_le {m c : Nat} (h : c < m) : Builtin.nextslicecap m c ≤ 2 * m + 192 := by
  unfold Builtin.nextslicecap
  split
  · omega
  · split
    · omega
    · exact growBy_le m 4 c (by omega)

theorem kill_sim {G : AHeap} {lo : Nat} {ρ : Ren} {D : Nat → Prop} {H : AHeap} {w : World} (h : HRel G ρ D H w) (hlo : G.next ≤ lo) {id : Nat} (hd : D id) (hid : lo ≤ id) :
    Step lo ρ D H w ρ D (H.put id none) w ∧ HRel G ρ D (H.put id none) w := by
  have hgo : ∀ j, j ≠ id → (H.put id none).get j = H.get j := fun j hj => by rw [AHeap.get_put, if_neg hj]
  have hgi : (H.put id none).get id = none := by rw [AHeap.get_put, if_pos rfl]
  have hsub : ∀ j o, (H.put id none).get j = some o → j ≠ id ∧ H.get j = some o := fun j o hj => by
    by_cases e : j = id
    · subst e; rw [hgi] at hj; cases hj
    · exact ⟨e, by rw [← hgo j e]; exact hj⟩
  constructor
  · exact {
      old := fun _ h => ⟨h, rfl⟩
      new := fun _ h _ => h
      ghost := fun j _ hnd => hgo j (fun e => hnd (e ▸ hd))
      low := fun j hj _ => hgo j (by omega)
      next := Nat.le_refl _
      wr := fun j o' _ _ hj hw => ⟨o', (hsub j o' hj).2, hw⟩
      fresh := fun j _ hdj hn _ _ => by have := h.lt j hdj; omega
      os := rfl
      tape := rfl
      output := rfl
      froz := fun _ _ => rfl
      size := Nat.le_refl _
      frame := fun _ _ _ => rfl }
  · exact {
      lt := h.lt
      cells := fun j c esz ro hdj hj => h.cells j c esz ro hdj (hsub j _ hj).2
      maps := fun j es hdj hj => h.maps j es hdj (hsub j _ hj).2
      apart := fun i j o o' hdi hdj hne hi hj hwr => h.apart i j o o' hdi hdj hne (hsub i o hi).2 (hsub j o' hj).2 hwr
      glob := fun g hg => by
        obtain ⟨h1, h2, h3, h4⟩ := h.glob g hg
        exact ⟨h1, h2, h3, (hgo g (by omega)).trans h4⟩
      gnext := h.gnext
      wf := fun j hj => by rw [AHeap.next_put] at hj; have := h.lt id hd; rw [hgo j (by omega)]; exact h.wf j hj }

end
end Go.RI
