/- RI, part I: building values and slices, slicing, append. Conditions: none. -/
import Derived.Test.YteoliiakbmomeaaRiH
namespace Go.RI
open Go

section
variable {ds : List Deferred} {P : Program} {G : AHeap} {lo : Nat} {ρ : Ren} {D : Nat → Prop} {n : Nat} {e : Env} {a : Act} {H : AHeap} {w : World}

/-! ### Filling -/
theorem foldl_put (off : Nat) : ∀ (l : List Value) (k : Nat) (C : Array Value), (l.zipIdx k).foldl (fun cs (x : Value × Nat) => cs.setIfInBounds (off + x.2) x.1) C = putArr C (off + k) l := by
  intro l
  induction l with
  | nil => intro k C; rfl
  | cons v l ih => intro k C; simp only [List.zipIdx_cons, List.foldl_cons, putArr]; rw [ih]; congr 1

theorem putArr_ren (ρ : Ren) : ∀ (l cs : List AVal) (off : Nat), putArr (renL ρ cs).toArray off (renL ρ l) = (renL ρ (putCells cs off l)).toArray := by
  intro l
  induction l with
  | nil => intro cs off; rfl
  | cons v l ih =>
    intro cs off
    simp only [renL, putArr, putCells]
    rw [← ih]
    congr 1
    simp [renL_map, List.map_set]

/-- The parts of a value that is built: of the machine, and the interpreter's. 'pl': where a part lies, and how many cells it has. -/
def trParts (P : Program) (pl : Nat → Option (Nat × Nat)) : List (Nat × Operand) → Option (List (Nat × Nat × Opd))
  | [] => some []
  | (j, x) :: l => match pl j, trOpd P x, trParts P pl l with
    | some (o, s), some x', some l' => some ((o, s, x') :: l')
    | _, _, _ => none

theorem fill_sim (r : Rel P G ds ρ D n e a H w) {pl : Nat → Option (Nat × Nat)} : ∀ {l : List (Nat × Operand)} {l' : List (Nat × Nat × Opd)} {ps : List (Nat × Nat × AVal)} {z cs : List AVal},
    trParts P pl l = some l' → evalParts e l' = some ps → fillA z ps = some cs → okL ρ D z → oneL z = true →
    Instr.fill pl (renL ρ z).toArray (l.map fun x => (x.1, a.eval x.2)) = some (renL ρ cs).toArray ∧ okL ρ D cs ∧ oneL cs = true ∧ cs.length = z.length := by
  intro l
  induction l with
  | nil =>
    intro l' ps z cs h1 h2 h3 h4 h5
    simp only [trParts, Option.some.injEq] at h1; subst h1
    simp only [evalParts, Option.some.injEq] at h2; subst h2
    simp only [fillA, Option.some.injEq] at h3; subst h3
    exact ⟨rfl, h4, h5, rfl⟩
  | cons x l ih =>
    obtain ⟨j, x⟩ := x
    intro l' ps z cs h1 h2 h3 h4 h5
    simp only [trParts] at h1
    split at h1
    · rename_i o s x' l1 hpl hx hl
      simp only [Option.some.injEq] at h1; subst h1
      simp only [evalParts] at h2
      split at h2
      · rename_i v hv
        split at h2
        · rename_i vs hvs
          simp only [Option.some.injEq] at h2; subst h2
          simp only [fillA] at h3
          split at h3
          · rename_i hc
            obtain ⟨htup, hlen, hle⟩ := hc
            obtain ⟨he, hok⟩ := opd_sim r hx hv
            have hone := cells_one hok htup
            have hcok := cells_ok hok
            have hle' : o + v.cells.length ≤ z.length := by omega
            obtain ⟨i1, i2, i3, i4⟩ := ih hl hvs h3 (okL_iff.2 fun u hu => (putCells_mem hle' hu).elim (okL_iff.1 h4 u) (okL_iff.1 hcok u)) (oneL_iff.2 fun u hu => (putCells_mem hle' hu).elim (oneL_iff.1 h5 u) (oneL_iff.1 hone u))
            refine ⟨?_, i2, i3, by rw [i4, putCells_length]⟩
            have hcells := ren_cells ρ v
            have hsz : (ren ρ v).cells.size = s := by rw [hcells]; simp [renL_length, hlen]
            simp only [List.map_cons, Instr.fill, hpl, he, hsz]
            have hcond : (decide (s ≠ s) || decide (o + s > (renL ρ z).toArray.size)) = false := by
              simp [renL_length]; omega
            rw [if_neg (by rw [hcond]; simp)]
            rw [← i1]
            congr 1
            rw [hcells, ← putArr_ren, ← Nat.add_zero o, ← foldl_put o (renL ρ v.cells) 0]
            simp
          · cases h3
        · cases h2
      · cases h2
    · cases h1

/-- Where a struct's, or an array's, parts lie. -/
def placeOf (P : Program) (t : TypeId) : Option (Nat → Option (Nat × Nat)) :=
  match P.underlying t with
  | some (.struct fs) => match fs.toList.mapM (fun f => (P.info? f.type).map fun i => (f.offset, i.size)) with
    | some places => some (places.toArray[·]?)
    | none => none
  | some (.array _ el) => match P.info? el with
    | some i => some fun j => some (j * i.size, i.size)
    | none => none
  | _ => none

theorem build_sim (r : Rel P G ds ρ D n e a H w) {o : Oper} {t : TypeId} {parts : Array (Nat × Operand)} (ho : o.op = .build t parts) {pl : Nat → Option (Nat × Nat)} (hpl : placeOf P t = some pl) {z : List AVal} (hz : zeroC P t = some z)
    {l' : List (Nat × Nat × Opd)} {ps : List (Nat × Nat × AVal)} {cs : List AVal} (h1 : trParts P pl parts.toList = some l') (h2 : evalParts e l' = some ps) (h3 : fillA z ps = some cs) :
    Sim G lo ρ D H w ((execOp a.eval o).run P w) (some (.ag cs)) H := by
  obtain ⟨i, v, hi, hzero, _, hcells, hid, hone⟩ := zeroC_run hz
  obtain ⟨f1, f2, f3, _⟩ := fill_sim r h1 h2 h3 (noIdL_ok ρ D z hid) hone
  refine sim_val r.heap ?_ (by simp only [ok]; exact ⟨f2, f3⟩)
  have hb : P.built t (parts.toList.map fun x => (x.1, a.eval x.2)) = some (renL ρ cs).toArray := by
    unfold placeOf at hpl
    unfold Program.built
    split at hpl
    · rename_i fs hu
      split at hpl
      · rename_i places hp
        cases hpl
        simp only [hi, hu, hzero, hp]
        rw [hcells ρ]; exact f1
      · cases hpl
    · rename_i m el hu
      split at hpl
      · rename_i ie hie
        cases hpl
        simp only [hi, hu, hzero, hie]
        rw [hcells ρ]; exact f1
      · cases hpl
    · cases hpl
  have hrun := run_build (P := P) w t (parts.map fun x => (x.1, a.eval x.2)) (renL ρ cs).toArray (by rw [Array.toList_map]; exact hb)
  simp [execOp, ho, hrun, ren]

end
end Go.RI
