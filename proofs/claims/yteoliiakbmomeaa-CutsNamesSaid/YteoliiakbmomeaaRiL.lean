/- RI, part L: append. Conditions: none. -/
import Derived.Test.YteoliiakbmomeaaRiK
namespace Go.RI
open Go

section
variable {ds : List Deferred} {P : Program} {G : AHeap} {lo : Nat} {ρ : Ren} {D : Nat → Prop} {n : Nat} {e : Env} {a : Act} {H : AHeap} {w : World}

/-- The machine's append, in place. -/
theorem run_append_in {t t2 el ty : TypeId} {d2 : TypeDesc} {i : TypeInfo} (ht : P.underlying t = some (.slice el)) (ht2 : P.underlying t2 = some d2) (hd2 : d2 = .string ∨ ∃ el2, d2 = .slice el2) (hi : P.info? el = some i)
    {base : Option Addr} {len cap k : Nat} {y : Value} {cells : Array Value} (hlen : (Builtin.lenOf y).run P w = .ok k w) (hfirst : (Builtin.firstCells i.size k y).run P w = .ok cells w) (hfit : len + k ≤ cap)
    {w' : World} (hst : ∀ b, base = some b → (storeCells (b.add (len * i.size)) cells.toList).run P w = .ok () w') (hnone : base = none → w' = w) :
    (Builtin.append_ #[t, t2] ty #[.slice base len cap, y]).run P w = .ok (.slice base (len + k) cap) w' := by
  cases base with
  | none =>
    cases hnone rfl
    rcases hd2 with rfl | ⟨el2, rfl⟩ <;> simp [Builtin.append_, run_underlying ht, run_underlying ht2, run_sizeOf' hi, hlen, hfit, hfirst]
  | some b =>
    rcases hd2 with rfl | ⟨el2, rfl⟩ <;> simp [Builtin.append_, run_underlying ht, run_underlying ht2, run_sizeOf' hi, hlen, hfit, hfirst, hst b rfl]

/-- The machine's append into a new row. -/
theorem run_append_new {t t2 el ty : TypeId} {d2 : TypeDesc} {i : TypeInfo} (ht : P.underlying t = some (.slice el)) (ht2 : P.underlying t2 = some d2) (hd2 : d2 = .string ∨ ∃ el2, d2 = .slice el2) (hi : P.info? el = some i)
    {zv : Value} (hzv : i.zero = some zv) {base : Option Addr} {len cap k : Nat} {y : Value} {cells old : Array Value} (hlen : (Builtin.lenOf y).run P w = .ok k w) (hfirst : ∀ w', w'.heap = w.heap → (Builtin.firstCells i.size k y).run P w' = .ok cells w')
    (hold : ∀ w', w'.heap = w.heap → (Builtin.firstCells i.size len (.slice base len cap)).run P w' = .ok old w') (hfit : cap < len + k) (hb0 : 0 < i.bytes) (hb : (2 * (len + k) + 192) * i.bytes ≤ 281474976710656) :
    ∃ newCap, len + k ≤ newCap ∧ (Builtin.append_ #[t, t2] ty #[.slice base len cap, y]).run P w = .ok (.slice (some ⟨w.heap.size, 0, none⟩) (len + k) newCap)
      { w with heap := w.heap.push (.cells (old ++ cells ++ Builtin.zeroCells zv.cells (newCap - (len + k))) el), drawn := w.drawn + 1 } := by
  refine ⟨(Question.appendCap (len + k) cap el).cut (w.tape w.drawn (.appendCap (len + k) cap el)), by simp [Question.cut], ?_⟩
  have h1 : ¬ len + k ≤ cap := by omega
  have h2 : ¬ i.bytes = 0 := by omega
  have h3 : ¬ Builtin.nextslicecap (len + k) cap * i.bytes > 2 ^ 48 := by
    have := nextcap_le hfit
    have h4 : Builtin.nextslicecap (len + k) cap * i.bytes ≤ (2 * (len + k) + 192) * i.bytes := Nat.mul_le_mul_right _ this
    simp; omega
  have e1 := hold { w with drawn := w.drawn + 1 } rfl
  have e2 := hfirst { w with drawn := w.drawn + 1 } rfl
  rcases hd2 with rfl | ⟨el2, rfl⟩ <;>
      (simp only [Builtin.append_, List.getElem?_toArray, List.getElem?_cons_zero, List.getElem?_cons_succ, Sem.run_bind, run_underlying ht, run_underlying ht2, Result.andThen_ok, Sem.run_pure, run_sizeOf' hi, hlen, Bool.false_eq_true, if_false, h1, run_typeInfo' hi, h2, false_or, and_false, h3, run_choose, Question.forced, run_askRoom, Bool.not_false, if_true, zeroValue, hzv, newRow, run_newObj]
       rw [e1]
       simp only [Result.andThen_ok]
       rw [e2]
       simp only [Result.andThen_ok])

theorem app_sim (r : Rel P G ds ρ D n e a H w) (hlo : G.next ≤ lo) {o : Oper} {t t2 el : TypeId} {x y : Operand} (ho : o.op = .call { callee := .builtin .append, args := #[x, y], argTypes := #[t, t2] }) {d2 : TypeDesc} {i : TypeInfo}
    (ht : P.underlying t = some (.slice el)) (ht2 : P.underlying t2 = some d2) (hd2 : d2 = .string ∨ ∃ el2, d2 = .slice el2) (hi : P.info? el = some i) {z : List AVal} (hz : zeroC P el = some z) (hzl : z.length = i.size)
    {u v res : AVal} {H' : AHeap} (hx : a.eval x = ren ρ u) (hu : ok ρ D u) (hy : a.eval y = ren ρ v) (hv : ok ρ D v) (hs : appV lo H i.size i.bytes u v = some (res, H')) :
    Sim G lo ρ D H w ((execOp a.eval o).run P w) (some res) H' := by
  obtain ⟨i', zv, hi', hzero, _, hzcells, _, _⟩ := zeroC_run hz
  obtain rfl : i = i' := by rw [hi] at hi'; exact Option.some.inj hi'
  have hexec : ∀ (V : Value) (w' : World), (Builtin.append_ #[t, t2] o.type #[ren ρ u, ren ρ v]).run P w = .ok V w' → (execOp a.eval o).run P w = .ok (.value V) w' := by
    intro V w' h; simp [execOp, ho, resolve, hx, hy, invoke, builtin, h]
  unfold appV at hs
  split at hs
  · cases hs
  rename_i k ys hmore
  split at hs
  case isFalse => cases hs
  rename_i hcond
  obtain ⟨hylen, hesz, hbytes⟩ := hcond
  obtain ⟨hlen, hfirst, hyok, hyone⟩ := more_sim r hv hmore
  -- into a new row: what stands in it
  have newrow : ∀ (xs : List AVal) (base : Option Addr) (len cap : Nat) (H0 : AHeap), ren ρ u = .slice base len cap → xs.length = len * i.size → okL ρ D xs → oneL xs = true → cap < len + k → (2 * (len + k) + 192) * i.bytes ≤ 281474976710656 →
      (∀ w', w'.heap = w.heap → (Builtin.firstCells i.size len (.slice base len cap)).run P w' = .ok (renL ρ xs).toArray w') → Step lo ρ D H w ρ D H0 w → HRel G ρ D H0 w → H0.next = H.next →
      Sim G lo ρ D H w ((execOp a.eval o).run P w) (some (.sl H.next 0 (len + k) none)) (H0.push (.cells (xs ++ ys) i.size false)) := by
    intro xs base len cap H0 hren hxl hxok hxone hfit hb hold hstep hrel hnext
    obtain ⟨nc, hnc, hrun⟩ := run_append_new (P := P) (w := w) (ty := o.type) ht ht2 hd2 hi hzero hlen hfirst hold hfit hbytes hb
    have hzs : zv.cells.size = i.size := by rw [hzcells ρ]; simp [renL_length, hzl]
    have hsz : ((renL ρ xs).toArray ++ (renL ρ ys).toArray ++ Builtin.zeroCells zv.cells (nc - (len + k))).size = nc * i.size := by
      simp [Builtin.zeroCells, renL_length, hxl, hylen, hzs, ← Nat.add_mul]
      congr 1; omega
    have hall : xs.length + ys.length ≤ nc * i.size := by
      rw [hxl, hylen, ← Nat.add_mul]; exact Nat.mul_le_mul_right _ hnc
    obtain ⟨g1, g2⟩ := push_sim (lo := lo) (esz := i.size) hrel
      (w' := { w with heap := w.heap.push (.cells ((renL ρ xs).toArray ++ (renL ρ ys).toArray ++ Builtin.zeroCells zv.cells (nc - (len + k))) el), drawn := w.drawn + 1 }) (c := xs ++ ys) rfl rfl rfl rfl
      (by rw [hsz]; simpa using hall) (fun j u hu => by
        have hj : j < (xs ++ ys).length := by
          rcases Nat.lt_or_ge j (xs ++ ys).length with h | h
          · exact h
          · rw [List.getElem?_eq_none h] at hu; cases hu
        rw [Array.getElem?_append_left (by simpa [renL_length] using hj)]
        have : (renL ρ xs).toArray ++ (renL ρ ys).toArray = (renL ρ (xs ++ ys)).toArray := by simp [renL_map]
        rw [this]; simp [renL_get, hu]) (fun o ho => by simp) (okL_append hxok hyok) (oneL_append hxone hyone)
    rw [hnext] at g1 g2
    refine ⟨_, _, _, ?_, hstep.trans g1, g2, fun u hu => ?_⟩
    · rw [hexec _ _ (by rw [hren]; exact hrun)]
      simp only [ren, upd_same, Option.getD_none, hsz]
      simp [Nat.mul_div_cancel _ hesz]
    · cases hu
      simp only [ok, ins, upd_same, hsz]
      refine ⟨.inl trivial, fun _ => ?_⟩
      simp [Nat.mul_div_cancel _ hesz, hnc]
  cases u <;> simp only at hs <;> (try (cases hs; done)) <;> (try (simp [ok] at hu; done))
  case ns =>
    split at hs
    · rename_i hk0
      cases hs
      subst hk0
      refine sim_val r.heap (hexec _ _ ?_) (by simp [ok])
      exact run_append_in (P := P) (w := w) (ty := o.type) ht ht2 hd2 hi (base := none) (len := 0) (cap := 0) hlen (hfirst w rfl) (Nat.le_refl _) (fun b h => by cases h) (fun _ => rfl)
    · rename_i hk0
      split at hs
      · rename_i hb
        cases hs
        have := newrow [] none 0 0 H rfl (by simp) (by simp [okL]) rfl (by omega) (by simpa using hb) (fun w' _ => by simp [Builtin.firstCells, renL]) (Step.refl lo ρ D H w r.heap.lt) r.heap rfl
        simpa using this
      · cases hs
  case es ad =>
    split at hs
    · rename_i hk0
      cases hs
      subst hk0
      have hys : ys = [] := List.eq_nil_of_length_eq_zero (by rw [hylen]; simp)
      subst hys
      refine sim_val r.heap (hexec _ _ ?_) (by simp [ok])
      exact run_append_in (P := P) (w := w) (ty := o.type) ht ht2 hd2 hi (base := some ad) (len := 0) (cap := 0) hlen (hfirst w rfl) (Nat.le_refl _) (fun b _ => by simp [storeCells, renL]) (fun h => by cases h)
    · rename_i hk0
      split at hs
      · rename_i hb
        cases hs
        have := newrow [] (some ad) 0 0 H rfl (by simp) (by simp [okL]) rfl (by omega) (by simpa using hb) (fun w' _ => by simp [Builtin.firstCells, renL, loadCells, loadCellsFrom]) (Step.refl lo ρ D H w r.heap.lt) r.heap rfl
        simpa using this
      · cases hs
  case sl id off len cap =>
    simp only [ok] at hu
    split at hs
    · rename_i hk0
      subst hk0
      have hys : ys = [] := List.eq_nil_of_length_eq_zero (by rw [hylen]; simp)
      subst hys
      have fin : ∀ c, len ≤ c → (Builtin.append_ #[t, t2] o.type #[.slice (some ⟨(ρ id).blk, (ρ id).base + off, none⟩) len c, ren ρ v]).run P w = .ok (.slice (some ⟨(ρ id).blk, (ρ id).base + off, none⟩) len c) w := fun c hc =>
        run_append_in (P := P) (w := w) (ty := o.type) ht ht2 hd2 hi hlen (hfirst w rfl) hc (fun b _ => by simp [storeCells, renL]) (fun h => by cases h)
      cases cap with
      | some c =>
        simp only at hs
        split at hs
        · rename_i hc
          cases hs
          exact sim_val r.heap (hexec _ _ (by simp only [ren, Option.getD_some]; exact fin c hc)) (by simp [ok, hu.1])
        · cases hs
      | none =>
        cases hs
        exact sim_val r.heap (hexec _ _ (by simp only [ren, Option.getD_none]; exact fin _ (hu.2 rfl))) (by simp only [ok]; exact ⟨hu.1, fun _ => hu.2 rfl⟩)
    · rename_i hk0
      cases cap with
      | some c =>
        simp only at hs
        split at hs
        · rename_i hfit
          split at hs
          · rename_i hid
            split at hs
            · rename_i cs esz' ro hg
              split at hs
              · rename_i hc2
                obtain ⟨rfl, hle⟩ := hc2
                cases hs
                have hcc := r.heap.cells id cs esz' false hu.1 hg
                obtain ⟨C, e', fz, hb, hsz, hget, hfz⟩ := hcc.at_
                have hl2 := hcc.len
                have hle2 : off + len * i.size + ys.length ≤ cs.length := by rw [hylen, Nat.add_assoc, ← Nat.add_mul]; exact hle
                obtain ⟨w', hrun, hb', hoth, hsize, hos, htp, hout⟩ := run_storeCells (P := P) (off := (ρ id).base + off + len * i.size) (e := e') (fz := fz) (renL ρ ys) 0 w C hb
                  (oneCell_renL ρ hyone) (by rw [renL_length]; omega) (fun o h1 h2 => hfz rfl o (by omega) (by rw [renL_length] at h2; omega))
                obtain ⟨g1, g2⟩ := store_sim (lo := lo) (off := off + len * i.size) r.heap hlo hu.1 hg hid hle2 hyok hyone hb (by simpa [Nat.add_assoc] using hb') hoth hsize hos htp hout
                refine ⟨ρ, D, w', hexec _ _ ?_, g1, g2, fun u hu' => by cases hu'; simp [ok, hu.1]⟩
                simp only [ren, Option.getD_some]
                exact run_append_in (P := P) (w := w) (ty := o.type) ht ht2 hd2 hi hlen (hfirst w rfl) hfit (fun b hbb => by cases hbb; rw [addr_add]; exact hrun) (fun h => by cases h)
              · cases hs
            · cases hs
          · cases hs
        · rename_i hfit
          split at hs
          · rename_i hb
            split at hs
            · rename_i hl0
              cases hs
              subst hl0
              have := newrow [] (some ⟨(ρ id).blk, (ρ id).base + off, none⟩) 0 c H (by simp [ren]) (by simp) (by simp [okL]) rfl (by omega) hb (fun w' _ => by simp [Builtin.firstCells, renL, loadCells, loadCellsFrom]) (Step.refl lo ρ D H w r.heap.lt) r.heap rfl
              simpa using this
            · split at hs
              · rename_i xs hxs
                cases hs
                obtain ⟨h1, h2, h3, _⟩ := rowAt_sim (P := P) r.heap hu.1 hxs
                exact newrow xs (some ⟨(ρ id).blk, (ρ id).base + off, none⟩) len c H (by simp [ren]) h1 h2 h3 (by omega) hb (fun w' hw' => by
                  obtain ⟨_, _, _, h4⟩ := rowAt_sim (P := P) (r.heap.heap_eq (w' := w') fun k _ => by rw [hw']) hu.1 hxs
                  simp [Builtin.firstCells, h4]) (Step.refl lo ρ D H w r.heap.lt) r.heap rfl
              · cases hs
          · cases hs
      | none =>
        simp only at hs
        split at hs
        · rename_i hcc0
          obtain ⟨hid, hb⟩ := hcc0
          split at hs
          · rename_i cs esz' ro hg
            split at hs
            · rename_i hc2
              obtain ⟨rfl, rfl, hle⟩ := hc2
              cases hs
              have hcc := r.heap.cells id cs i.size false hu.1 hg
              obtain ⟨C, e', fz, hb1, hsz, hget, hfz⟩ := hcc.at_
              have hl2 := hcc.len
              have hcap := hu.2 rfl
              rw [hcc.esz_eq] at hcap
              have hxs : rowAt H id off (len * i.size) = some ((cs.drop off).take (len * i.size)) := by simp [rowAt, hg, hle]
              obtain ⟨h1, h2, h3, _⟩ := rowAt_sim (P := P) r.heap hu.1 hxs
              by_cases hfit : len + k ≤ ((ρ id).ext - off) / i.size
              · -- in place
                have hroom : off + len * i.size + ys.length ≤ (ρ id).ext := by
                  have h5 : (len + k) * i.size ≤ (ρ id).ext - off := by
                    calc (len + k) * i.size ≤ (((ρ id).ext - off) / i.size) * i.size := Nat.mul_le_mul_right _ hfit
                      _ ≤ (ρ id).ext - off := Nat.div_mul_le_self _ _
                  rw [Nat.add_mul, ← hylen] at h5
                  have h6 : 0 < ys.length := by rw [hylen]; exact Nat.mul_pos (by omega) hesz
                  omega
                obtain ⟨w', hrun, hb', hoth, hsize, hos, htp, hout⟩ := run_storeCells (P := P) (off := (ρ id).base + off + len * i.size) (e := e') (fz := fz) (renL ρ ys) 0 w C hb1
                  (oneCell_renL ρ hyone) (by rw [renL_length]; omega) (fun o h1 h2 => hfz rfl o (by omega) (by rw [renL_length] at h2; omega))
                obtain ⟨g1, g2⟩ := rename_sim (lo := lo) (off := off) (n := len * i.size) r.heap hlo hu.1 hg hid hle hroom hyok hyone hb1 (by simpa [Nat.add_assoc] using hb') hoth hsize hos htp hout
                refine ⟨_, _, w', hexec _ _ ?_, g1, g2, fun u hu' => ?_⟩
                · simp only [ren, Option.getD_none, upd_same]
                  rw [hcc.esz_eq]
                  exact run_append_in (P := P) (w := w) (ty := o.type) ht ht2 hd2 hi hlen (hfirst w rfl) hfit (fun b hbb => by cases hbb; rw [addr_add]; exact hrun) (fun h => by cases h)
                · cases hu'
                  simp only [ok, ins, upd_same]
                  exact ⟨.inl trivial, fun _ => by simpa using hfit⟩
              · obtain ⟨s1, s2⟩ := kill_sim (lo := lo) r.heap hlo hu.1 hid
                exact newrow _ (some ⟨(ρ id).blk, (ρ id).base + off, none⟩) len (((ρ id).ext - off) / (ρ id).esz) (H.put id none) (by simp [ren]) h1 h2 h3 (by rw [hcc.esz_eq]; omega) hb (fun w' hw' => by
                  obtain ⟨_, _, _, h4⟩ := rowAt_sim (P := P) (r.heap.heap_eq (w' := w') fun k _ => by rw [hw']) hu.1 hxs
                  simp [Builtin.firstCells, h4]) s1 s2 rfl
            · cases hs
          · cases hs
        · cases hs

end
end Go.RI
