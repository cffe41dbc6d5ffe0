/- RI, part H: the other operations: addresses, parts, comparisons, building, slices, append. Conditions: none. -/
import Derived.Test.YteoliiakbmomeaaRiG
import Derived.ChangeKeysEq
namespace Go.RI
open Go
set_option linter.unusedSimpArgs false

section
variable {ds : List Deferred} {P : Program} {G : AHeap} {lo : Nat} {ρ : Ren} {D : Nat → Prop} {n : Nat} {e : Env} {a : Act} {H : AHeap} {w : World}

/-! ### Values from values -/
theorem mov_sim (r : Rel P G ds ρ D n e a H w) {o : Oper} {x : Operand} (ho : o.op = .move x ∨ o.op = .assign x) {v : AVal} (hx : a.eval x = ren ρ v) (hv : ok ρ D v) :
    Sim G lo ρ D H w ((execOp a.eval o).run P w) (some v) H :=
  sim_val r.heap (by rcases ho with ho | ho <;> simp [execOp, ho, hx]) hv

theorem pick_sim (r : Rel P G ds ρ D n e a H w) {o : Oper} {c x y : Operand} (ho : o.op = .pick c x y) {b : Bool} (hc : a.eval c = .bool b) {v : AVal} (hx : a.eval (if b then x else y) = ren ρ v) (hv : ok ρ D v) :
    Sim G lo ρ D H w ((execOp a.eval o).run P w) (some v) H := by
  refine sim_val r.heap ?_ hv
  cases b <;> simp_all [execOp, asBool]

theorem bin_sim (r : Rel P G ds ρ D n e a H w) {o : Oper} {op : BinOp} {t t' : TypeId} {x y : Operand} (ho : o.op = .binOp op t x y t') {u v z : AVal}
    (hx : a.eval x = ren ρ u) (hy : a.eval y = ren ρ v) (hz : binV op u v = some z) : Sim G lo ρ D H w ((execOp a.eval o).run P w) (some z) H := by
  obtain ⟨h1, h2, h3⟩ := run_binOp (P := P) (w := w) op t ρ hz
  refine sim_val r.heap ?_ (noId_ok _ _ _ h2)
  simp [execOp, ho, hx, hy, h3, h1]

theorem eqB_sim (r : Rel P G ds ρ D n e a H w) {o : Oper} {op : BinOp} {t t' : TypeId} {x y : Operand} (ho : o.op = .binOp op t x y t') (hop : op = .eql ∨ op = .neq) (ht : P.underlying t = some .bool) {u v : Bool}
    (hx : a.eval x = .bool u) (hy : a.eval y = .bool v) : Sim G lo ρ D H w ((execOp a.eval o).run P w) (some (.b (if op = .neq then !(u == v) else u == v))) H := by
  refine sim_val r.heap ?_ (by simp [ok])
  have he : (Op.equalIn 10000 t (.bool u) (.bool v)).run P w = .ok (u == v) w := run_equalIn_bool' w 9999 t u v ht
  rcases hop with rfl | rfl
  · simp [execOp, ho, hx, hy, eqGuard, binOp, Op.equal, Op.maxDepth, he, ren]
  · simp [execOp, ho, hx, hy, eqGuard, binOp, Op.equal, Op.maxDepth, he, ren]

def nilD (k : Nat) (d : TypeDesc) : Bool :=
  match k, d with
  | 0, .slice _ => true
  | 1, .pointer _ => true
  | 2, .map _ _ => true
  | 3, .func _ _ _ => true
  | _, _ => false

def EqNilKey (P : Program) (ρ : Ren) (w : World) (t : TypeId) (u v : AVal) (res : Bool) : Prop :=
  (∀ d, (Op.equalIn (d + 1) t (ren ρ u) (ren ρ v)).run P w = .ok res w) ∧ (∀ op p q, eqGuard op t p q (ren ρ u) (ren ρ v) = pure ()) ∧
    binOp .eql t (ren ρ u) (ren ρ v) = (do pure (.bool (← Op.equal t (ren ρ u) (ren ρ v)))) ∧ binOp .neq t (ren ρ u) (ren ρ v) = (do pure (.bool (!(← Op.equal t (ren ρ u) (ren ρ v)))))

theorem eqNil_slice {t el : TypeId} (ht : P.underlying t = some (.slice el)) {u v : AVal} {res : Bool} (hu : ok ρ D u) (hv : ok ρ D v) (hr : eqNilV 0 u v = some res) : EqNilKey P ρ w t u v res := by
  unfold eqNilV at hr
  cases u <;> simp only [nilV] at hr <;> (try (cases hr; done)) <;> (try (simp [ok] at hu; done))
  all_goals
    cases v <;> simp only [nilV] at hr <;> (try (cases hr; done)) <;> (try (simp at hr; done)) <;> (try (simp [ok] at hv; done))
    all_goals
      cases hr
      exact ⟨fun d => by simp only [ren, Op.equalIn, Sem.run_bind, run_underlying ht, Result.andThen_ok]; rfl, fun op p q => by cases op <;> rfl, rfl, rfl⟩
theorem eqNil_ptr {t el : TypeId} (ht : P.underlying t = some (.pointer el)) {u v : AVal} {res : Bool} (hu : ok ρ D u) (hv : ok ρ D v) (hr : eqNilV 1 u v = some res) : EqNilKey P ρ w t u v res := by
  unfold eqNilV at hr
  cases u <;> simp only [nilV] at hr <;> (try (cases hr; done)) <;> (try (simp [ok] at hu; done))
  all_goals
    cases v <;> simp only [nilV] at hr <;> (try (cases hr; done)) <;> (try (simp at hr; done)) <;> (try (simp [ok] at hv; done))
    all_goals
      cases hr
      exact ⟨fun d => by simp only [ren, Op.equalIn, Sem.run_bind, run_underlying ht, Result.andThen_ok]; rfl, fun op p q => by cases op <;> rfl, rfl, rfl⟩
theorem eqNil_map {t k el : TypeId} (ht : P.underlying t = some (.map k el)) {u v : AVal} {res : Bool} (hu : ok ρ D u) (hv : ok ρ D v) (hr : eqNilV 2 u v = some res) : EqNilKey P ρ w t u v res := by
  unfold eqNilV at hr
  cases u <;> simp only [nilV] at hr <;> (try (cases hr; done)) <;> (try (simp [ok] at hu; done))
  all_goals
    cases v <;> simp only [nilV] at hr <;> (try (cases hr; done)) <;> (try (simp at hr; done)) <;> (try (simp [ok] at hv; done))
    all_goals
      cases hr
      exact ⟨fun d => by simp only [ren, Op.equalIn, Sem.run_bind, run_underlying ht, Result.andThen_ok]; rfl, fun op p q => by cases op <;> rfl, rfl, rfl⟩
theorem eqNil_func {t : TypeId} {ps rs : Array TypeId} {va : Bool} (ht : P.underlying t = some (.func ps rs va)) {u v : AVal} {res : Bool} (hu : ok ρ D u) (hv : ok ρ D v) (hr : eqNilV 3 u v = some res) : EqNilKey P ρ w t u v res := by
  unfold eqNilV at hr
  cases u <;> simp only [nilV] at hr <;> (try (cases hr; done)) <;> (try (simp [ok] at hu; done))
  all_goals
    cases v <;> simp only [nilV] at hr <;> (try (cases hr; done)) <;> (try (simp at hr; done)) <;> (try (simp [ok] at hv; done))
    all_goals
      cases hr
      exact ⟨fun d => by simp only [ren, Op.equalIn, Sem.run_bind, run_underlying ht, Result.andThen_ok]; rfl, fun op p q => by cases op <;> rfl, rfl, rfl⟩

theorem eqNil_sim (r : Rel P G ds ρ D n e a H w) {o : Oper} {op : BinOp} {t t' : TypeId} {x y : Operand} (ho : o.op = .binOp op t x y t') (hop : op = .eql ∨ op = .neq) {k : Nat} {d : TypeDesc}
    (ht : P.underlying t = some d) (hd : nilD k d = true) {u v : AVal} {res : Bool}
    (hx : a.eval x = ren ρ u) (hu : ok ρ D u) (hy : a.eval y = ren ρ v) (hv : ok ρ D v) (hr : eqNilV k u v = some res) : Sim G lo ρ D H w ((execOp a.eval o).run P w) (some (.b (if op = .neq then !res else res))) H := by
  refine sim_val r.heap ?_ (by simp [ok])
  have key : EqNilKey P ρ w t u v res := by
    match k, d, hd with
    | 0, .slice _, _ => exact eqNil_slice ht hu hv hr
    | 1, .pointer _, _ => exact eqNil_ptr ht hu hv hr
    | 2, .map _ _, _ => exact eqNil_map ht hu hv hr
    | 3, .func _ _ _, _ => exact eqNil_func ht hu hv hr
  obtain ⟨h1', h2, h3, h4⟩ := key
  have h1 : (Op.equal t (ren ρ u) (ren ρ v)).run P w = .ok res w := h1' 9999
  rcases hop with rfl | rfl
  · simp [execOp, ho, hx, hy, h2, h3, h1, ren]
  · simp [execOp, ho, hx, hy, h2, h4, h1, ren]

def leafK (P : Program) (t : TypeId) : Option Nat :=
  match P.underlying t with
  | some .bool => some 0
  | some (.int _) => some 1
  | some .string => some 2
  | _ => none

/-- One cell beside one cell. -/
theorem leaf_eq {t : TypeId} {k : Nat} (hk : leafK P t = some k) {ks : List Nat} {u v : AVal} {x y : List AVal} {res : Bool} (h : eqCells (k :: ks) (u :: x) (v :: y) = some res) :
    ∃ c rest, (∀ d, (Op.equalIn (d + 1) t (ren ρ u) (ren ρ v)).run P w = .ok c w) ∧ eqCells ks x y = some rest ∧ res = (c && rest) ∧ P.plainKey t = true := by
  unfold leafK at hk
  split at hk
  · rename_i ht
    cases hk
    cases u <;> cases v <;> simp only [eqCells] at h <;> try (cases h; done)
    rename_i p q
    rw [Option.map_eq_some_iff] at h
    obtain ⟨rest, hr, rfl⟩ := h
    exact ⟨p == q, rest, fun d => by simp only [ren]; exact run_equalIn_bool' w d t p q ht, hr, rfl, by simp [Program.plainKey, ht]⟩
  · rename_i k' ht
    cases hk
    cases u <;> cases v <;> simp only [eqCells] at h <;> try (cases h; done)
    rename_i k1 p k2 q
    split at h
    · rename_i hkk
      subst hkk
      rw [Option.map_eq_some_iff] at h
      obtain ⟨rest, hr, rfl⟩ := h
      exact ⟨p == q, rest, fun d => by simp only [ren]; exact run_equalIn_int w d t k1 _ p q ht, hr, rfl, by simp [Program.plainKey, ht]⟩
    · cases h
  · rename_i ht
    cases hk
    cases u <;> cases v <;> simp only [eqCells] at h <;> try (cases h; done)
    rename_i p q
    rw [Option.map_eq_some_iff] at h
    obtain ⟨rest, hr, rfl⟩ := h
    refine ⟨p == q, rest, fun d => ?_, hr, rfl, by simp [Program.plainKey, ht]⟩
    simp only [ren]
    rw [run_equalIn_string w d t _ _ ht, bytes_toList, bytes_toList]
  · cases hk

theorem eqCells_step {ks : List Nat} {k : Nat} {x y : List AVal} {res : Bool} (h : eqCells (k :: ks) x y = some res) : ∃ u x' v y', x = u :: x' ∧ y = v :: y' := by
  cases x with
  | nil => cases y <;> cases k using Nat.casesOn <;> simp [eqCells] at h
  | cons u x' => cases y with
    | nil =>
      match k, u with
      | 0, .b _ => simp [eqCells] at h
      | 1, .i _ _ => simp [eqCells] at h
      | 2, .s _ => simp [eqCells] at h
      | _, _ => simp_all [eqCells]
    | cons v y' => exact ⟨u, x', v, y', rfl, rfl⟩

/-- The fields of a struct, each a cell. -/
def flatF (P : Program) : List Field → Nat → Option (List Nat)
  | [], _ => some []
  | f :: fs, j => if f.name ≠ "_" ∧ f.offset = j then (match leafK P f.type, flatF P fs (j + 1) with | some k, some ks => some (k :: ks) | _, _ => none) else none

theorem eqFields_sim : ∀ (fs : List Field) (j : Nat) (ks : List Nat) (xs ys x y : List AVal) (res : Bool), flatF P fs j = some ks → xs.drop j = x → ys.drop j = y → eqCells ks x y = some res →
    (Op.eqFields 9999 (renL ρ xs).toArray (renL ρ ys).toArray fs).run P w = .ok res w := by
  intro fs
  induction fs with
  | nil =>
    intro j ks xs ys x y res h1 _ _ h2
    simp only [flatF, Option.some.injEq] at h1; subst h1
    cases x <;> cases y <;> simp [eqCells] at h2
    subst h2; simp [Op.eqFields]
  | cons f fs ih =>
    intro j ks xs ys x y res h1 hx hy h2
    simp only [flatF] at h1
    split at h1
    · rename_i hc
      obtain ⟨hname, hoff⟩ := hc
      split at h1
      · rename_i k ks' hk hks
        simp only [Option.some.injEq] at h1; subst h1
        obtain ⟨u, x', v, y', rfl, rfl⟩ := eqCells_step h2
        obtain ⟨c, rest, hrun, hrest, rfl, hplain⟩ := leaf_eq (ρ := ρ) (w := w) hk h2
        have hxj : xs[j]? = some u := by have := congrArg (·[0]?) hx; simpa using this
        have hyj : ys[j]? = some v := by have := congrArg (·[0]?) hy; simpa using this
        have p1 := run_part_plain w hplain (xs := (renL ρ xs).toArray) (off := f.offset) (v := ren ρ u) (by rw [hoff]; simp [renL_get, hxj])
        have p2 := run_part_plain w hplain (xs := (renL ρ ys).toArray) (off := f.offset) (v := ren ρ v) (by rw [hoff]; simp [renL_get, hyj])
        have ihr := ih (j + 1) ks' xs ys x' y' rest hks (by rw [← List.drop_drop, hx]; rfl) (by rw [← List.drop_drop, hy]; rfl) hrest
        simp only [Op.eqFields, hname, ne_eq, not_false_eq_true, if_true, Sem.run_bind, p1, p2, Result.andThen_ok, hrun 9998]
        cases c
        · simp
        · simpa using ihr
      · cases h1
    · cases h1

theorem eqAg_sim (r : Rel P G ds ρ D n e a H w) {o : Oper} {op : BinOp} {t t' : TypeId} {x y : Operand} (ho : o.op = .binOp op t x y t') (hop : op = .eql ∨ op = .neq) {fs : Array Field}
    (ht : P.underlying t = some (.struct fs)) (hst : P.stoodInHeld t = false) (hg : P.eqGuardType P.depth t = false) {ks : List Nat} (hks : flatF P fs.toList 0 = some ks) {u v : List AVal} {res : Bool}
    (hx : a.eval x = ren ρ (.ag u)) (hy : a.eval y = ren ρ (.ag v)) (hr : eqCells ks u v = some res) : Sim G lo ρ D H w ((execOp a.eval o).run P w) (some (.b (if op = .neq then !res else res))) H := by
  refine sim_val r.heap ?_ (by simp [ok])
  have hf : P.fieldsOf t = fs := by simp [Program.fieldsOf, ht]
  have h1 := eqFields_sim (P := P) (ρ := ρ) (w := w) fs.toList 0 ks u v u v res hks rfl rfl hr
  have h2 := run_equalIn_agg w 9999 t (renL ρ u).toArray (renL ρ v).toArray (by rw [hf]; exact ht) hst
  rw [hf, h1] at h2
  rcases hop with rfl | rfl
  · have h3 := run_eql_struct (P := P) w t (renL ρ u).toArray (renL ρ v).toArray
    rw [h2] at h3
    simp [execOp, ho, hx, hy, ren, run_eqGuard_agg w .eql t x y _ _ hg, h3]
  · have h3 := run_neq_struct (P := P) w t (renL ρ u).toArray (renL ρ v).toArray
    rw [h2] at h3
    simp [execOp, ho, hx, hy, ren, run_eqGuard_agg w .neq t x y _ _ hg, h3]

theorem un_sim (r : Rel P G ds ρ D n e a H w) {o : Oper} {op : UnOp} {t : TypeId} {x : Operand} (ho : o.op = .unOp op t x) {u z : AVal} (hx : a.eval x = ren ρ u) (hz : unV op u = some z) :
    Sim G lo ρ D H w ((execOp a.eval o).run P w) (some z) H := by
  obtain ⟨h1, h2⟩ := run_unary (P := P) (w := w) op ρ hz
  refine sim_val r.heap ?_ (noId_ok _ _ _ h2)
  simp [execOp, ho, hx, h1]

theorem conv_sim (r : Rel P G ds ρ D n e a H w) {o : Oper} {s t : TypeId} {x : Operand} (ho : o.op = .convert s t x) {ds : TypeDesc} {k : IntKind} (hs : P.underlying s = some ds) (ht : P.underlying t = some (.int k)) {k' : IntKind} {m : Int}
    (hx : a.eval x = .int k' m) : Sim G lo ρ D H w ((execOp a.eval o).run P w) (some (.i k (wrapI k m))) H := by
  refine sim_val r.heap ?_ (by simp [ok])
  simp [execOp, ho, hx, convert, run_underlying hs, run_underlying ht, Conv.intToInt, ren, wrapI_eq]

theorem same_sim (r : Rel P G ds ρ D n e a H w) {o : Oper} {s t : TypeId} {x : Operand} (ho : o.op = .convert s t x) {ds : TypeDesc} (hs : P.underlying s = some ds) (ht : P.underlying t = some .string) {v : List UInt8}
    (hx : a.eval x = ren ρ (.s v)) : Sim G lo ρ D H w ((execOp a.eval o).run P w) (some (.s v)) H := by
  refine sim_val r.heap ?_ (by simp [ok])
  have : (convert s t (.string ⟨v.toArray⟩)).run P w = .ok (.string ⟨v.toArray⟩) w := by
    cases ds <;> simp [convert, run_underlying hs, run_underlying ht]
  simp [execOp, ho, hx, ren, this]

theorem nck_sim (r : Rel P G ds ρ D n e a H w) {o : Oper} {x : Operand} (ho : o.op = .nilCheck x) {v : AVal} (hx : a.eval x = ren ρ v) (hv : ok ρ D v) (hn : (∃ id off, v = .p id off) ∨ (∃ f p q, v = .fn (.func f) p q) ∨ (∃ t u, v = .ifc t u)) :
    Sim G lo ρ D H w ((execOp a.eval o).run P w) (some v) H := by
  refine sim_val r.heap ?_ hv
  rcases hn with ⟨id, off, rfl⟩ | ⟨f, p, q, rfl⟩ | ⟨t, u, rfl⟩ <;> simp [execOp, ho, hx, ren]

/-! ### Addresses and parts -/
theorem off_sim (r : Rel P G ds ρ D n e a H w) {o : Oper} {s : TypeId} {x : Operand} {j : Nat} (ho : o.op = .fieldAddr s x j) {fs : Array Field} {f : Field} {i : TypeInfo} (hs : P.underlying s = some (.struct fs)) (hf : fs[j]? = some f)
    (hi : P.info? f.type = some i) (hsz : i.size ≠ 0) {u v : AVal} (hx : a.eval x = ren ρ u) (hu : ok ρ D u) (hv : offV f.offset u = some v) : Sim G lo ρ D H w ((execOp a.eval o).run P w) (some v) H := by
  cases u <;> simp only [offV] at hv <;> try (cases hv; done)
  case fp l => simp [ok] at hu
  cases hv
  refine sim_val r.heap ?_ (by simpa [ok] using hu)
  simp [execOp, ho, hx, ren, Instr.fieldAt, run_underlying hs, hf, Instr.sureAddr, fieldPlace, run_sizeOf' hi, hsz, addr_add, Nat.add_assoc]

theorem run_part (t : TypeId) {d : TypeDesc} {i : TypeInfo} (hd : P.underlying t = some d) (hi : P.info? t = some i) {l : List AVal} {off : Nat} {v : AVal} (hl : okL ρ D l) (hone : oneL l = true) (hv : partV (if isAggD d then some i.size else none) off (.ag l) = some v) :
    (part t (renL ρ l).toArray off).run P w = .ok (ren ρ v) w ∧ ok ρ D v := by
  simp only [partV] at hv
  cases hagg : isAggD d with
  | true =>
    simp only [hagg, if_true] at hv
    split at hv
    · rename_i hle
      cases hv
      refine ⟨?_, ?_⟩
      · simp [part, run_isAgg' hd, hagg, run_sizeOf' hi, ren, renL_map, ← List.map_drop, ← List.map_take]
      · simp only [ok]; exact ⟨okL_sub hl fun v hv => List.mem_of_mem_drop (List.mem_of_mem_take hv), oneL_sub hone fun v hv => List.mem_of_mem_drop (List.mem_of_mem_take hv)⟩
    · cases hv
  | false =>
    simp only [hagg, Bool.false_eq_true, if_false] at hv
    refine ⟨?_, okL_get hl hv⟩
    simp [part, run_isAgg' hd, hagg, renL_get, hv]

theorem part_sim (r : Rel P G ds ρ D n e a H w) {o : Oper} {s : TypeId} {x : Operand} {j : Nat} (ho : o.op = .field s x j) {fs : Array Field} {f : Field} {d : TypeDesc} {i : TypeInfo} (hs : P.underlying s = some (.struct fs)) (hf : fs[j]? = some f)
    (hd : P.underlying f.type = some d) (hi : P.info? f.type = some i) {u v : AVal} (hx : a.eval x = ren ρ u) (hu : ok ρ D u) (hv : partV (if isAggD d then some i.size else none) f.offset u = some v) :
    Sim G lo ρ D H w ((execOp a.eval o).run P w) (some v) H := by
  cases u <;> simp only [partV] at hv <;> try (cases hv; done)
  case ag l =>
    simp only [ok] at hu
    obtain ⟨h1, h2⟩ := run_part (P := P) (w := w) (ρ := ρ) (D := D) f.type hd hi hu.1 hu.2 (v := v) hv
    refine sim_val r.heap ?_ h2
    simp [execOp, ho, hx, ren, Instr.field, run_underlying hs, hf, asAgg, h1]

theorem iaddr_sim (r : Rel P G ds ρ D n e a H w) {o : Oper} {t : TypeId} {x y : Operand} (ho : o.op = .indexAddr t x y) {el : TypeId} {i : TypeInfo} (ht : P.underlying t = some (.slice el)) (hi : P.info? el = some i)
    {u v z : AVal} (hx : a.eval x = ren ρ u) (hu : ok ρ D u) (hy : a.eval y = ren ρ v) (hz : iaddrV i.size u v = some z) : Sim G lo ρ D H w ((execOp a.eval o).run P w) (some z) H := by
  cases u <;> cases v <;> simp only [iaddrV] at hz <;> (try (cases hz; done)) <;> (try (simp [ok] at hu; done))
  split at hz
  · rename_i hb
    cases hz
    simp only [ok] at hu
    refine sim_val r.heap ?_ (by simpa [ok] using hu.1)
    simp [execOp, ho, hx, hy, ren, Instr.indexAt, asIntOf, run_underlying ht, hb, run_sizeOf' hi, addr_add, Nat.add_assoc]
  · cases hz

theorem iaddrA_sim (r : Rel P G ds ρ D n e a H w) {o : Oper} {t : TypeId} {x y : Operand} (ho : o.op = .indexAddr t x y) {el : TypeId} {len : Nat} {i : TypeInfo} (ht : P.underlying t = some (.array len el)) (hi : P.info? el = some i)
    {u v z : AVal} (hx : a.eval x = ren ρ u) (hu : ok ρ D u) (hy : a.eval y = ren ρ v) (hz : iaddrAV i.size len u v = some z) : Sim G lo ρ D H w ((execOp a.eval o).run P w) (some z) H := by
  cases u <;> cases v <;> simp only [iaddrAV] at hz <;> (try (cases hz; done)) <;> (try (simp [ok] at hu; done))
  split at hz
  · rename_i hb
    cases hz
    simp only [ok] at hu
    refine sim_val r.heap ?_ (by simpa [ok] using hu)
    simp [execOp, ho, hx, hy, ren, Instr.indexAt, asIntOf, run_underlying ht, hb, run_sizeOf' hi, addr_add, Nat.add_assoc, Instr.sureAddr]
  · cases hz

theorem idxS_sim (r : Rel P G ds ρ D n e a H w) {o : Oper} {t : TypeId} {x y : Operand} (ho : o.op = .index t x y) (ht : P.underlying t = some .string)
    {u v z : AVal} (hx : a.eval x = ren ρ u) (hy : a.eval y = ren ρ v) (hz : idxSV u v = some z) : Sim G lo ρ D H w ((execOp a.eval o).run P w) (some z) H := by
  cases u <;> cases v <;> simp only [idxSV] at hz <;> try (cases hz; done)
  rename_i l k m
  split at hz
  · rename_i hb
    rw [Option.map_eq_some_iff] at hz
    obtain ⟨c, hc, rfl⟩ := hz
    refine sim_val r.heap ?_ (by simp [ok])
    have hget : (ByteArray.mk l.toArray)[m.toNat]? = some c := by
      have hlt : m.toNat < l.length := by
        rcases Nat.lt_or_ge m.toNat l.length with h | h
        · exact h
        · rw [List.getElem?_eq_none h] at hc; cases hc
      rw [getElem?_pos _ _ (by rw [bytes_size]; exact hlt)]
      rw [List.getElem?_eq_getElem hlt] at hc
      simpa [ByteArray.getElem_eq_getElem_data] using hc
    simp [execOp, ho, hx, hy, ren, Instr.index, asIntOf, run_underlying ht, hb, hget]
  · cases hz

theorem idxA_sim (r : Rel P G ds ρ D n e a H w) {o : Oper} {t : TypeId} {x y : Operand} (ho : o.op = .index t x y) {el : TypeId} {len : Nat} {d : TypeDesc} {i : TypeInfo} (ht : P.underlying t = some (.array len el)) (hd : P.underlying el = some d) (hi : P.info? el = some i)
    {u v z : AVal} (hx : a.eval x = ren ρ u) (hu : ok ρ D u) (hy : a.eval y = ren ρ v) (hz : idxAV (if isAggD d then some i.size else none) i.size len u v = some z) : Sim G lo ρ D H w ((execOp a.eval o).run P w) (some z) H := by
  cases v <;> simp only [idxAV] at hz <;> try (cases hz; done)
  split at hz
  · rename_i hb
    cases u <;> simp only [partV] at hz <;> try (cases hz; done)
    case ag l =>
      simp only [ok] at hu
      obtain ⟨h1, h2⟩ := run_part (P := P) (w := w) (ρ := ρ) (D := D) el hd hi hu.1 hu.2 (v := z) hz
      refine sim_val r.heap ?_ h2
      simp [execOp, ho, hx, hy, ren, Instr.index, asIntOf, run_underlying ht, hb, run_sizeOf' hi, h1]
  · cases hz

theorem ext_sim (r : Rel P G ds ρ D n e a H w) {o : Oper} {x : Operand} {k : Nat} (ho : o.op = .extract x k) {u v : AVal} (hx : a.eval x = ren ρ u) (hu : ok ρ D u) (hv : extV k u = some v) :
    Sim G lo ρ D H w ((execOp a.eval o).run P w) (some v) H := by
  cases u <;> simp only [extV] at hv <;> try (cases hv; done)
  simp only [ok] at hu
  refine sim_val r.heap ?_ (okL_get hu hv)
  simp [execOp, ho, hx, ren, Instr.extract, renL_get, hv]

theorem iface_sim (r : Rel P G ds ρ D n e a H w) {o : Oper} {t : TypeId} {x : Operand} (ho : o.op = .makeInterface t x) {d : TypeDesc} (ht : P.underlying t = some d) (hd : ∀ ms, d ≠ .interface ms) {v : AVal} (hx : a.eval x = ren ρ v) (hv : ok ρ D v) :
    Sim G lo ρ D H w ((execOp a.eval o).run P w) (some (.ifc t v)) H := by
  refine sim_val r.heap ?_ (by simpa [ok] using hv)
  cases d <;> simp_all [execOp, Instr.makeInterface, run_underlying ht, ren]

theorem mkf_sim (r : Rel P G ds ρ D n e a H w) {o : Oper} {f : FuncId} {x y : Array Operand} (ho : o.op = .makeFunc (.func f) x y) {u v : List AVal} (hx : x.toList.map a.eval = renL ρ u) (hu : okL ρ D u) (hy : y.toList.map a.eval = renL ρ v) (hv : okL ρ D v) :
    Sim G lo ρ D H w ((execOp a.eval o).run P w) (some (.fn (.func f) u v)) H := by
  refine sim_val r.heap ?_ (by simp [ok, hu, hv])
  have e1 : x.map a.eval = (renL ρ u).toArray := by apply Array.ext'; rw [Array.toList_map, hx]
  have e2 : y.map a.eval = (renL ρ v).toArray := by apply Array.ext'; rw [Array.toList_map, hy]
  simp [execOp, ho, Instr.makeFunc, e1, e2, ren]

end
end Go.RI
