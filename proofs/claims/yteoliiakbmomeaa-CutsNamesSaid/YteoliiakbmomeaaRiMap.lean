/- RI: maps: keys, looking up, writing, making; copy. Conditions: none. -/
import Derived.Test.YteoliiakbmomeaaRiLb
import Derived.MapKept
namespace Go.RI
open Go
set_option linter.unusedSimpArgs false

/-- A type of keys: is it an aggregate; its cells' kinds. -/
def keyKs (P : Program) (t : TypeId) : Option (Bool × List Nat) :=
  match P.underlying t with
  | some .bool => some (false, [0])
  | some (.int _) => some (false, [1])
  | some .string => some (false, [2])
  | some (.array n el) => match leafK P el, P.info? el with
    | some k, some i => if i.size = 1 then some (true, List.replicate n k) else none
    | _, _ => none
  | some (.struct fs) => if P.stoodInHeld t = false then (flatF P fs.toList 0).map (true, ·) else none
  | _ => none

theorem eqCells_true : ∀ {ks : List Nat} {x y : List AVal}, eqCells ks x y = some true → x = y := by
  intro ks
  induction ks with
  | nil => intro x y h; cases x <;> cases y <;> simp [eqCells] at h; rfl
  | cons k ks ih =>
    intro x y h
    obtain ⟨u, x', v, y', rfl, rfl⟩ := eqCells_step h
    match k, h with
    | 0, h =>
      cases u <;> cases v <;> simp only [eqCells] at h <;> first
        | (cases h; done)
        | (simp only [Option.map_eq_some_iff] at h; obtain ⟨r, hr, he⟩ := h; simp only [Bool.and_eq_true, beq_iff_eq] at he; obtain ⟨rfl, rfl⟩ := he; rw [ih hr])
    | 1, h1 =>
      clear h
      cases u <;> cases v <;> simp only [eqCells] at h1 <;> first
        | (cases h1; done)
        | (split at h1
           · rename_i hkk; subst hkk; rw [Option.map_eq_some_iff] at h1; obtain ⟨r, hr, he⟩ := h1; rw [Bool.and_eq_true, beq_iff_eq] at he; obtain ⟨rfl, rfl⟩ := he; rw [ih hr]
           · cases h1)
    | 2, h =>
      cases u <;> cases v <;> simp only [eqCells] at h <;> first
        | (cases h; done)
        | (simp only [Option.map_eq_some_iff] at h; obtain ⟨r, hr, he⟩ := h; simp only [Bool.and_eq_true, beq_iff_eq] at he; obtain ⟨rfl, rfl⟩ := he; rw [ih hr])
    | k + 3, h => unfold eqCells at h; cases h

theorem keyC_false {u : AVal} {x : List AVal} (h : keyC false u = some x) : x = [u] := by
  cases u <;> first
    | (simp only [keyC, Bool.false_eq_true, if_false] at h; cases h; done)
    | (simp only [keyC, Bool.false_eq_true, if_false] at h; cases h; rfl)
theorem keyC_true {u : AVal} {x : List AVal} (h : keyC true u = some x) : u = .ag x := by
  cases u <;> first
    | (simp only [keyC, if_true] at h; cases h; done)
    | (simp only [keyC, if_true] at h; cases h; rfl)
theorem keyC_inj {ag : Bool} {u v : AVal} {x : List AVal} (h : keyC ag u = some x) (h' : keyC ag v = some x) : u = v := by
  cases ag
  · have := keyC_false h; have h2 := keyC_false h'; rw [this] at h2; simpa using h2
  · rw [keyC_true h, keyC_true h']

section
variable {ds : List Deferred} {P : Program} {G : AHeap} {lo : Nat} {ρ : Ren} {D : Nat → Prop} {n : Nat} {e : Env} {a : Act} {H : AHeap} {w : World}

theorem eqItems_sim {el : TypeId} {k : Nat} (hk : leafK P el = some k) (hc : P.cellsOf el = 1) (xs ys : List AVal) : ∀ (m j : Nat) (x y : List AVal) (res : Bool), xs.drop j = x → ys.drop j = y → eqCells (List.replicate m k) x y = some res →
    (Op.eqItems 9999 el (P.cellsOf el) (renL ρ xs).toArray (renL ρ ys).toArray (List.range' j m)).run P w = .ok res w := by
  intro m
  induction m with
  | zero =>
    intro j x y res _ _ h
    cases x <;> cases y <;> simp [eqCells] at h
    subst h; simp [Op.eqItems]
  | succ m ih =>
    intro j x y res hx hy h
    rw [List.replicate_succ] at h
    obtain ⟨u, x', v, y', rfl, rfl⟩ := eqCells_step h
    obtain ⟨c, rest, hrun, hrest, rfl, hplain⟩ := leaf_eq (ρ := ρ) (w := w) hk h
    have hxj : xs[j]? = some u := by have := congrArg (·[0]?) hx; simpa using this
    have hyj : ys[j]? = some v := by have := congrArg (·[0]?) hy; simpa using this
    have p1 := run_part_plain w hplain (xs := (renL ρ xs).toArray) (off := j * P.cellsOf el) (v := ren ρ u) (by rw [hc]; simp [renL_get, hxj])
    have p2 := run_part_plain w hplain (xs := (renL ρ ys).toArray) (off := j * P.cellsOf el) (v := ren ρ v) (by rw [hc]; simp [renL_get, hyj])
    have ihr := ih (j + 1) x' y' rest (by rw [← List.drop_drop, hx]; rfl) (by rw [← List.drop_drop, hy]; rfl) hrest
    simp only [List.range'_succ, Op.eqItems, Sem.run_bind, p1, p2, Result.andThen_ok, hrun 9998]
    cases c
    · simp
    · simpa using ihr

theorem keyEq_sim {t : TypeId} {ag : Bool} {ks : List Nat} (ht : keyKs P t = some (ag, ks)) {u v : AVal} {x y : List AVal} (hu : keyC ag u = some x) (hv : keyC ag v = some y) {res : Bool} (h : eqCells ks x y = some res) :
    (Op.equal t (ren ρ u) (ren ρ v)).run P w = .ok res w := by
  have leaf : ∀ k, leafK P t = some k → ag = false → ks = [k] → (Op.equal t (ren ρ u) (ren ρ v)).run P w = .ok res w := by
    rintro k hk rfl rfl
    have e1 := keyC_false hu; have e2 := keyC_false hv; subst e1 e2
    obtain ⟨c, rest, hrun, hrest, rfl, _⟩ := leaf_eq (ρ := ρ) (w := w) hk h
    simp [eqCells] at hrest; subst hrest
    simpa [Op.equal, Op.maxDepth] using hrun 9999
  unfold keyKs at ht
  split at ht
  · rename_i hu'; simp only [Option.some.injEq, Prod.mk.injEq] at ht; exact leaf 0 (by simp [leafK, hu']) ht.1.symm ht.2.symm
  · rename_i hu'; simp only [Option.some.injEq, Prod.mk.injEq] at ht; exact leaf 1 (by simp [leafK, hu']) ht.1.symm ht.2.symm
  · rename_i hu'; simp only [Option.some.injEq, Prod.mk.injEq] at ht; exact leaf 2 (by simp [leafK, hu']) ht.1.symm ht.2.symm
  · rename_i m el hu'
    split at ht
    · rename_i k i hk hi
      split at ht
      · rename_i hsz
        simp only [Option.some.injEq, Prod.mk.injEq] at ht
        obtain ⟨rfl, rfl⟩ := ht
        have e1 := keyC_true hu; have e2 := keyC_true hv; subst e1 e2
        have hc : P.cellsOf el = 1 := by simp [Program.cellsOf, hi, hsz]
        have := eqItems_sim (ρ := ρ) (w := w) hk hc x y m 0 x y res rfl rfl h
        have h2 := run_equalIn_array (P := P) (w := w) 9999 (renL ρ x).toArray (renL ρ y).toArray hu' hi
        rw [List.range_eq_range', this] at h2
        simpa [Op.equal, Op.maxDepth, ren] using h2
      · cases ht
    · cases ht
  · rename_i fs hu'
    split at ht
    · rename_i hst
      rw [Option.map_eq_some_iff] at ht
      obtain ⟨ks', hks, he⟩ := ht
      simp only [Prod.mk.injEq] at he
      obtain ⟨rfl, rfl⟩ := he
      have e1 := keyC_true hu; have e2 := keyC_true hv; subst e1 e2
      have hf : P.fieldsOf t = fs := by simp [Program.fieldsOf, hu']
      have h1 := eqFields_sim (P := P) (ρ := ρ) (w := w) fs.toList 0 ks' x y x y res hks rfl rfl h
      have h2 := run_equalIn_agg w 9999 t (renL ρ x).toArray (renL ρ y).toArray (by rw [hf]; exact hu') hst
      rw [hf, h1] at h2
      simpa [Op.equal, Op.maxDepth, ren] using h2
    · cases ht
  · cases ht

theorem leaf_check {t : TypeId} {k : Nat} (hk : leafK P t = some k) {ks : List Nat} {u : AVal} {x : List AVal} {res : Bool} (h : eqCells (k :: ks) (u :: x) (u :: x) = some res) (em : Bool) (d : Nat) :
    (Instr.checkKey em (d + 1) t (ren ρ u)).run P w = .ok () w := by
  unfold leafK at hk
  split at hk
  · rename_i ht; cases hk; simp [Instr.checkKey, run_underlying ht]
  · rename_i k' ht; cases hk; simp [Instr.checkKey, run_underlying ht]
  · rename_i ht; cases hk; simp [Instr.checkKey, run_underlying ht]
  · cases hk

theorem eqCells_tail {ks : List Nat} {k : Nat} {u v : AVal} {x y : List AVal} {res : Bool} (h : eqCells (k :: ks) (u :: x) (v :: y) = some res) : ∃ r, eqCells ks x y = some r := by
  match k, u, v with
  | 0, .b a, .b b => simp only [eqCells, Option.map_eq_some_iff] at h; obtain ⟨r, hr, _⟩ := h; exact ⟨r, hr⟩
  | 1, .i k1 a, .i k2 b =>
    simp only [eqCells] at h
    split at h
    · simp only [Option.map_eq_some_iff] at h; obtain ⟨r, hr, _⟩ := h; exact ⟨r, hr⟩
    · cases h
  | 2, .s a, .s b => simp only [eqCells, Option.map_eq_some_iff] at h; obtain ⟨r, hr, _⟩ := h; exact ⟨r, hr⟩
  | 0, u, v => cases u <;> cases v <;> simp only [eqCells] at h <;> first | (cases h; done) | (simp only [Option.map_eq_some_iff] at h; obtain ⟨r, hr, _⟩ := h; exact ⟨r, hr⟩)
  | 1, u, v => cases u <;> cases v <;> simp only [eqCells] at h <;> first | (cases h; done) | (split at h; (simp only [Option.map_eq_some_iff] at h; obtain ⟨r, hr, _⟩ := h; exact ⟨r, hr⟩); cases h)
  | 2, u, v => cases u <;> cases v <;> simp only [eqCells] at h <;> first | (cases h; done) | (simp only [Option.map_eq_some_iff] at h; obtain ⟨r, hr, _⟩ := h; exact ⟨r, hr⟩)
  | k + 3, u, v => simp [eqCells] at h

theorem check_sim {t : TypeId} {ag : Bool} {ks : List Nat} (ht : keyKs P t = some (ag, ks)) {u : AVal} {x : List AVal} (hu : keyC ag u = some x) (h : eqCells ks x x = some true) (em : Bool) :
    (Instr.checkKey em 10000 t (ren ρ u)).run P w = .ok () w := by
  have leaf : ∀ k, leafK P t = some k → ag = false → ks = [k] → (Instr.checkKey em 10000 t (ren ρ u)).run P w = .ok () w := by
    rintro k hk rfl rfl
    have e1 := keyC_false hu; subst e1
    exact leaf_check hk h em 9999
  unfold keyKs at ht
  split at ht
  · rename_i hu'; simp only [Option.some.injEq, Prod.mk.injEq] at ht; exact leaf 0 (by simp [leafK, hu']) ht.1.symm ht.2.symm
  · rename_i hu'; simp only [Option.some.injEq, Prod.mk.injEq] at ht; exact leaf 1 (by simp [leafK, hu']) ht.1.symm ht.2.symm
  · rename_i hu'; simp only [Option.some.injEq, Prod.mk.injEq] at ht; exact leaf 2 (by simp [leafK, hu']) ht.1.symm ht.2.symm
  · rename_i m el hu'
    split at ht
    · rename_i k i hk hi
      split at ht
      · rename_i hsz
        simp only [Option.some.injEq, Prod.mk.injEq] at ht
        obtain ⟨rfl, rfl⟩ := ht
        have e1 := keyC_true hu; subst e1
        have hc : P.cellsOf el = 1 := by simp [Program.cellsOf, hi, hsz]
        have key : ∀ (m j : Nat) (y : List AVal) (res : Bool), x.drop j = y → eqCells (List.replicate m k) y y = some res →
            ((forIn (List.range' j m) PUnit.unit fun i (_ : PUnit) => do
              Instr.checkKey em 9999 el (← part el (renL ρ x).toArray (i * (← sizeOf el)))
              pure (ForInStep.yield PUnit.unit) : Sem PUnit)).run P w = .ok PUnit.unit w := by
          intro m
          induction m with
          | zero => intro j y res _ _; simp
          | succ m ih =>
            intro j y res hy h
            rw [List.replicate_succ] at h
            obtain ⟨u, y', v, y2, hy1, hy2⟩ := eqCells_step h
            subst hy1
            simp only [List.cons.injEq] at hy2
            obtain ⟨rfl, rfl⟩ := hy2
            obtain ⟨c, rest, hrun, hrest, _, hplain⟩ := leaf_eq (ρ := ρ) (w := w) hk h
            have hxj : x[j]? = some u := by have := congrArg (·[0]?) hy; simpa using this
            have p1 := run_part_plain w hplain (xs := (renL ρ x).toArray) (off := j * i.size) (v := ren ρ u) (by rw [hsz]; simp [renL_get, hxj])
            have p2 := leaf_check (ρ := ρ) (w := w) hk h em 9998
            have ihr := ih (j + 1) y' rest (by rw [← List.drop_drop, hy]; rfl) hrest
            simp only [List.range'_succ, List.forIn_cons, Sem.run_bind, run_sizeOf w hi, Result.andThen_ok, Sem.run_pure]
            have p1' : (part el (renL ρ x).toArray (j * P.cellsOf el)).run P w = .ok (ren ρ u) w := by rw [hc]; rw [hsz] at p1; exact p1
            simp only [p1', Result.andThen_ok, p2]
            exact ihr
        have := key m 0 x true rfl h
        rw [show (10000 : Nat) = 9999 + 1 from rfl, Instr.checkKey]
        simp only [ren, Sem.run_bind, run_underlying hu', Result.andThen_ok]
        simp only [Std.Legacy.Range.forIn_eq_forIn_range', Std.Legacy.Range.size, Nat.sub_zero, Nat.add_one_sub_one, Nat.div_one]
        rw [this]; rfl
      · cases ht
    · cases ht
  · rename_i fs hu'
    split at ht
    · rename_i hst
      rw [Option.map_eq_some_iff] at ht
      obtain ⟨ks', hks, he⟩ := ht
      simp only [Prod.mk.injEq] at he
      obtain ⟨rfl, rfl⟩ := he
      have e1 := keyC_true hu; subst e1
      have key : ∀ (fl : List Field) (j : Nat) (ks : List Nat) (y : List AVal) (res : Bool), flatF P fl j = some ks → x.drop j = y → eqCells ks y y = some res →
          ((forIn fl PUnit.unit fun f (_ : PUnit) => do
            if f.name ≠ "_" then
              Instr.checkKey em 9999 f.type (← part f.type (renL ρ x).toArray f.offset)
              pure (ForInStep.yield PUnit.unit)
            else pure (ForInStep.yield PUnit.unit) : Sem PUnit)).run P w = .ok PUnit.unit w := by
        intro fl
        induction fl with
        | nil => intro j ks y res _ _ _; simp
        | cons f fl ih =>
          intro j ks y res h1 hy h
          simp only [flatF] at h1
          split at h1
          · rename_i hcnd
            obtain ⟨hname, hoff⟩ := hcnd
            split at h1
            · rename_i k ks' hk hks
              simp only [Option.some.injEq] at h1; subst h1
              obtain ⟨u, y', v, y2, hy1, hy2⟩ := eqCells_step h
              subst hy1
              simp only [List.cons.injEq] at hy2
              obtain ⟨rfl, rfl⟩ := hy2
              obtain ⟨c, rest, hrun, hrest, _, hplain⟩ := leaf_eq (ρ := ρ) (w := w) hk h
              have hxj : x[j]? = some u := by have := congrArg (·[0]?) hy; simpa using this
              have p1 := run_part_plain w hplain (xs := (renL ρ x).toArray) (off := f.offset) (v := ren ρ u) (by rw [hoff]; simp [renL_get, hxj])
              have p2 := leaf_check (ρ := ρ) (w := w) hk h em 9998
              have ihr := ih (j + 1) ks' y' rest hks (by rw [← List.drop_drop, hy]; rfl) hrest
              simp only [List.forIn_cons, Sem.run_bind, hname, ne_eq, not_false_eq_true, if_true, p1, Result.andThen_ok, p2, Sem.run_pure]
              exact ihr
            · cases h1
          · cases h1
      have := key fs.toList 0 ks' x true hks rfl h
      rw [show (10000 : Nat) = 9999 + 1 from rfl, Instr.checkKey]
      simp only [ren, Sem.run_bind, run_underlying hu', Result.andThen_ok]
      rw [← Array.forIn_toList]
      rw [this]; rfl
    · cases ht
  · cases ht

/-! ### Finding -/
theorem find_asking {t : TypeId} {ag : Bool} {ks : List Nat} (ht : keyKs P t = some (ag, ks)) {k : AVal} {kc : List AVal} (hk : keyC ag k = some kc) : ∀ (es : List (AVal × AVal)) (E : List MapEntry) (i : Nat) (r : Option (Nat × AVal)),
    E.map (fun e => (e.key, e.val)) = es.map (fun x => (ren ρ x.1, ren ρ x.2)) → findA ag ks kc es i = some r → (Instr.findAsking t (ren ρ k) E i).run P w = .ok (r.map fun x => (x.1, ren ρ x.2)) w := by
  intro es
  induction es with
  | nil =>
    intro E i r hE h
    cases E with
    | cons _ _ => simp at hE
    | nil => simp [findA] at h; subst h; simp [Instr.findAsking]
  | cons x es ih =>
    obtain ⟨k', v⟩ := x
    intro E i r hE h
    cases E with
    | nil => simp at hE
    | cons e0 E =>
      simp only [List.map_cons, List.cons.injEq, Prod.mk.injEq] at hE
      obtain ⟨⟨hkey, hval⟩, hE⟩ := hE
      simp only [findA] at h
      split at h
      · rename_i c hc
        split at h
        · rename_i he
          simp only [Option.some.injEq] at h; subst h
          have := keyEq_sim (ρ := ρ) (w := w) ht hk hc he
          simp [Instr.findAsking, hkey, this, hval]
        · rename_i he
          have := keyEq_sim (ρ := ρ) (w := w) ht hk hc he
          have h2 := ih E (i + 1) r hE h
          simp [Instr.findAsking, hkey, this, h2]
        · cases h
      · cases h

theorem same_now {t : TypeId} {k : Nat} {d : TypeDesc} (hd : P.underlying t = some d) (hk : leafK P t = some k) {u v : AVal} {res : Bool} (h : eqCells [k] [u] [v] = some res) : Instr.sameNow d (ren ρ u) (ren ρ v) = some res := by
  unfold leafK at hk
  split at hk
  · rename_i ht
    rw [hd] at ht; cases ht; cases hk
    cases u <;> cases v <;> simp [eqCells] at h
    simp [ren, Instr.sameNow, h]
  · rename_i q ht
    rw [hd] at ht; cases ht; cases hk
    cases u <;> cases v <;> simp [eqCells] at h
    obtain ⟨rfl, h⟩ := h
    simp [ren, Instr.sameNow, h]
  · rename_i ht
    rw [hd] at ht; cases ht; cases hk
    cases u <;> cases v <;> simp [eqCells] at h
    rename_i x y
    simp only [ren, Instr.sameNow]
    have : ((ByteArray.mk x.toArray) == (ByteArray.mk y.toArray)) = (x == y) := by rw [beq_toListBytes, bytes_toList, bytes_toList]
    rw [this, ← h]
  · cases hk

theorem find_now {t : TypeId} {k0 : Nat} {d : TypeDesc} (hd : P.underlying t = some d) (hk0 : leafK P t = some k0) {k : AVal} : ∀ (es : List (AVal × AVal)) (E : List MapEntry) (i : Nat) (r : Option (Nat × AVal)),
    E.map (fun e => (e.key, e.val)) = es.map (fun x => (ren ρ x.1, ren ρ x.2)) → findA false [k0] [k] es i = some r → Instr.findNow d (ren ρ k) E i = some (r.map fun x => (x.1, ren ρ x.2)) := by
  intro es
  induction es with
  | nil =>
    intro E i r hE h
    cases E with
    | cons _ _ => simp at hE
    | nil => simp [findA] at h; subst h; simp [Instr.findNow]
  | cons x es ih =>
    obtain ⟨k', v⟩ := x
    intro E i r hE h
    cases E with
    | nil => simp at hE
    | cons e0 E =>
      simp only [List.map_cons, List.cons.injEq, Prod.mk.injEq] at hE
      obtain ⟨⟨hkey, hval⟩, hE⟩ := hE
      simp only [findA] at h
      split at h
      · rename_i c hc
        have hc' := keyC_false hc
        subst hc'
        split at h
        · rename_i he
          simp only [Option.some.injEq] at h; subst h
          have := same_now (ρ := ρ) hd hk0 he
          simp [Instr.findNow, hkey, this, hval]
        · rename_i he
          have := same_now (ρ := ρ) hd hk0 he
          have h2 := ih E (i + 1) r hE h
          simp [Instr.findNow, hkey, this, h2]
        · cases h
      · cases h

theorem find_sim {t : TypeId} {ag : Bool} {ks : List Nat} (ht : keyKs P t = some (ag, ks)) {k : AVal} {kc : List AVal} (hk : keyC ag k = some kc) {es : List (AVal × AVal)} {E : List MapEntry} {r : Option (Nat × AVal)}
    (hE : E.map (fun e => (e.key, e.val)) = es.map (fun x => (ren ρ x.1, ren ρ x.2))) (h : findA ag ks kc es 0 = some r) : (Instr.findKey t (ren ρ k) E).run P w = .ok (r.map fun x => (x.1, ren ρ x.2)) w := by
  have leaf : ∀ k0 d, P.underlying t = some d → leafK P t = some k0 → ag = false → ks = [k0] → (Instr.findKey t (ren ρ k) E).run P w = .ok (r.map fun x => (x.1, ren ρ x.2)) w := by
    rintro k0 d hd hk0 rfl rfl
    have := keyC_false hk; subst this
    exact MapKept.run_findKey hd (find_now hd hk0 es E 0 r hE h)
  have agg : ∀ d, P.underlying t = some d → (∀ e : MapEntry, Instr.sameNow d (ren ρ k) e.key = none) → (Instr.findKey t (ren ρ k) E).run P w = .ok (r.map fun x => (x.1, ren ρ x.2)) w := by
    intro d hd hnone
    have := find_asking (w := w) ht hk es E 0 r hE h
    simp only [Instr.findKey, Sem.run_bind, run_underlying hd, Result.andThen_ok]
    cases E with
    | nil =>
      cases es with
      | cons _ _ => simp at hE
      | nil => simp [findA] at h; subst h; simp [Instr.findNow]
    | cons e0 E => simp only [Instr.findNow, hnone e0]; exact this
  have ht' := ht
  unfold keyKs at ht
  split at ht
  · rename_i hu'; simp only [Option.some.injEq, Prod.mk.injEq] at ht; exact leaf 0 _ hu' (by simp [leafK, hu']) ht.1.symm ht.2.symm
  · rename_i hu'; simp only [Option.some.injEq, Prod.mk.injEq] at ht; exact leaf 1 _ hu' (by simp [leafK, hu']) ht.1.symm ht.2.symm
  · rename_i hu'; simp only [Option.some.injEq, Prod.mk.injEq] at ht; exact leaf 2 _ hu' (by simp [leafK, hu']) ht.1.symm ht.2.symm
  · rename_i m el hu'; exact agg _ hu' fun e => by simp [Instr.sameNow]
  · rename_i fs hu'; exact agg _ hu' fun e => by simp [Instr.sameNow]
  · cases ht

/-! ### Looking up -/
theorem mapEs_sim (h : HRel G ρ D H w) {m : AVal} (hm : ok ρ D m) {es : List (AVal × AVal)} (he : mapEs H m = some es) :
    ∃ E : Array MapEntry, (match ren ρ m with | .map none => E = #[] | .map (some r) => ∃ k, w.heap[r]? = some (.map E k) | _ => False) ∧ E.toList.map (fun e => (e.key, e.val)) = es.map (fun x => (ren ρ x.1, ren ρ x.2)) ∧ ∀ x ∈ es, ok ρ D x.1 ∧ ok ρ D x.2 := by
  cases m <;> simp only [mapEs] at he <;> try (cases he; done)
  case nm => cases he; exact ⟨#[], by simp [ren], rfl, by simp⟩
  case m id =>
    split at he
    · rename_i es' hg
      cases he
      simp only [ok] at hm
      obtain ⟨⟨E, k, h1, _, _, h2⟩, h3⟩ := h.maps id es hm hg
      exact ⟨E, by simp only [ren]; exact ⟨k, h1⟩, h2, h3⟩
    · cases he

theorem findA_mem {ag : Bool} {ks : List Nat} {kc : List AVal} : ∀ {es : List (AVal × AVal)} {i j : Nat} {v : AVal}, findA ag ks kc es i = some (some (j, v)) → ∃ k', i ≤ j ∧ es[j - i]? = some (k', v) ∧ keyC ag k' = some kc := by
  intro es
  induction es with
  | nil => intro i j v h; simp [findA] at h
  | cons x es ih =>
    obtain ⟨k', u⟩ := x
    intro i j v h
    simp only [findA] at h
    split at h
    · rename_i c hc
      split at h
      · rename_i he
        simp only [Option.some.injEq, Prod.mk.injEq] at h
        obtain ⟨rfl, rfl⟩ := h
        exact ⟨k', Nat.le_refl _, by simp, by rw [hc, eqCells_true he]⟩
      · obtain ⟨k2, h1, h2, h3⟩ := ih h
        refine ⟨k2, by omega, ?_, h3⟩
        have : j - i = (j - (i + 1)) + 1 := by omega
        rw [this, List.getElem?_cons_succ]; exact h2
      · cases h
    · cases h

/-- A type's zero value. -/
def zeroV (P : Program) (t : TypeId) : Option AVal :=
  match P.info? t with
  | some i => match i.zero with
    | some z => match ofVal z with
      | some a => if a.tup = false then some a else none
      | none => none
    | none => none
  | none => none

theorem zeroV_run {t : TypeId} {z : AVal} (h : zeroV P t = some z) : (∀ w, (zeroValue t).run P w = .ok (ren ρ z) w) ∧ ok ρ D z ∧ z.tup = false := by
  unfold zeroV at h
  split at h
  · rename_i i hi
    split at h
    · rename_i v hv
      split at h
      · rename_i u hu
        split at h
        · rename_i ht
          simp only [Option.some.injEq] at h; subst h
          obtain ⟨h1, h2⟩ := ofVal_ren v u hu
          exact ⟨fun w => by rw [h2 ρ]; simp [zeroValue, typeInfo, hi, hv], noId_ok _ _ u h1, ht⟩
        · cases h
      · cases h
    · cases h
  · cases h

theorem look_sim (r : Rel P G ds ρ D n e a H w) {o : Oper} {t kt el : TypeId} {x y : Operand} {okf : Bool} (ho : o.op = .lookup t x y okf) (ht : P.underlying t = some (.map kt el)) {ag : Bool} {ks : List Nat} (hk : keyKs P kt = some (ag, ks)) {z : AVal} (hz : zeroV P el = some z)
    {m k v : AVal} (hx : a.eval x = ren ρ m) (hm : ok ρ D m) (hy : a.eval y = ren ρ k) (hv : lookV H ag ks z okf m k = some v) : Sim G lo ρ D H w ((execOp a.eval o).run P w) (some v) H := by
  unfold lookV at hv
  split at hv
  · rename_i es hes
    split at hv
    · rename_i kc hkc
      split at hv
      · rename_i hshape
        obtain ⟨E, h1, h2, h3⟩ := mapEs_sim r.heap hm hes
        obtain ⟨z1, z2, z3⟩ := zeroV_run (ρ := ρ) (D := D) hz
        have hrun : ∀ (fnd : Option (Nat × AVal)), findA ag ks kc es 0 = some fnd →
            (Instr.lookup t (ren ρ m) (ren ρ k) okf).run P w = .ok (match fnd with | some (_, u) => (if okf then .tuple #[ren ρ u, .bool true] else ren ρ u) | none => (if okf then .tuple #[ren ρ z, .bool false] else ren ρ z)) w := by
          intro fnd hf
          have hc := check_sim (ρ := ρ) (w := w) hk hkc hshape E.isEmpty
          have hfk := find_sim (w := w) (E := E.toList) hk hkc h2 hf
          cases m <;> simp only [mapEs] at hes <;> try (cases hes; done)
          case nm =>
            simp only [ren] at h1
            subst h1
            simp only [Instr.lookup, ren, Sem.run_bind, run_underlying ht, Result.andThen_ok, Sem.run_pure, hc, hfk]
            cases fnd with
            | none => cases okf <;> simp [z1]
            | some p => obtain ⟨i, u⟩ := p; cases okf <;> simp
          case m id =>
            simp only [ren] at h1
            obtain ⟨kk, h1⟩ := h1
            have hobj : (getObj (ρ id).blk).run P w = .ok (.map E kk) w := by simp [getObj, Sem.run, h1]
            simp only [Instr.lookup, ren, Sem.run_bind, run_underlying ht, Result.andThen_ok, hobj, Sem.run_pure, hc, hfk]
            cases fnd with
            | none => cases okf <;> simp [z1]
            | some p => obtain ⟨i, u⟩ := p; cases okf <;> simp
        split at hv
        · rename_i i u hf
          have := hrun _ hf
          obtain ⟨k', _, hmem, _⟩ := findA_mem hf
          have huok := (h3 _ (List.mem_of_getElem? hmem)).2
          simp only [Option.some.injEq] at hv; subst hv
          cases okf
          · exact sim_val r.heap (by simp [execOp, ho, hx, hy, this]) huok
          · exact sim_val r.heap (by simp [execOp, ho, hx, hy, this, ren, renL]) (by simp [ok, okL, huok])
        · rename_i hf
          have := hrun _ hf
          simp only [Option.some.injEq] at hv; subst hv
          cases okf
          · exact sim_val r.heap (by simp [execOp, ho, hx, hy, this]) z2
          · exact sim_val r.heap (by simp [execOp, ho, hx, hy, this, ren, renL]) (by simp [ok, okL, z2])
        · cases hv
      · cases hv
    · cases hv
  · cases hv

/-! ### Writing -/
theorem frozen_map {w w' : World} {b : Nat} {E E' : Array MapEntry} {k k' : Nat} (hb : w.heap[b]? = some (.map E k)) (hb' : w'.heap[b]? = some (.map E' k')) (ho : ∀ j, j ≠ b → w'.heap[j]? = w.heap[j]?) (ad : Addr) : w'.frozen? ad = w.frozen? ad := by
  simp only [World.frozen?]
  by_cases h : ad.block = b
  · rw [h, hb, hb']
  · rw [ho _ h]

theorem mapset_sim {w' : World} (h : HRel G ρ D H w) (hlo : G.next ≤ lo) {id : Nat} {es es' : List (AVal × AVal)} (hd : D id) (hg : H.get id = some (.map es)) (hid : lo ≤ id)
    {E E' : Array MapEntry} {k k' : Nat} (hb : w.heap[(ρ id).blk]? = some (.map E k)) (hb' : w'.heap[(ρ id).blk]? = some (.map E' k')) (h1 : ∀ e ∈ E'.toList, e.born < k') (h2 : (E'.toList.map (·.born)).Nodup)
    (h3 : E'.toList.map (fun e => (e.key, e.val)) = es'.map (fun x => (ren ρ x.1, ren ρ x.2))) (h4 : ∀ x ∈ es', ok ρ D x.1 ∧ ok ρ D x.2)
    (ho : ∀ j, j ≠ (ρ id).blk → w'.heap[j]? = w.heap[j]?) (hsz : w'.heap.size = w.heap.size) (hos : w'.os = w.os) (htp : w'.tape = w.tape) (hout : w'.output = w.output) :
    Step lo ρ D H w ρ D (H.put id (some (.map es'))) w' ∧ HRel G ρ D (H.put id (some (.map es'))) w' := by
  have hgo : ∀ j, j ≠ id → (H.put id (some (.map es'))).get j = H.get j := fun j hne => by rw [AHeap.get_put, if_neg hne]
  have hgi : (H.put id (some (.map es'))).get id = some (.map es') := by rw [AHeap.get_put, if_pos rfl]
  constructor
  · exact {
      old := fun _ h => ⟨h, rfl⟩
      new := fun _ h _ => h
      ghost := fun j _ hnd => hgo j (fun e => hnd (e ▸ hd))
      low := fun j hj _ => hgo j (by omega)
      next := Nat.le_refl _
      wr := fun j o' _ _ hj hw => by
        by_cases hji : j = id
        · subst hji; exact ⟨_, hg, rfl⟩
        · rw [hgo j hji] at hj; exact ⟨o', hj, hw⟩
      fresh := fun j _ hdj hn _ _ => by have := h.lt j hdj; omega
      os := hos
      tape := htp
      output := hout
      froz := fun ad _ => frozen_map hb hb' ho ad
      size := by omega
      frame := fun k _ hn => ho k (fun e => hn id _ hd hg rfl e.symm) }
  · exact {
      lt := h.lt
      cells := fun j c' esz' ro hdj hj => by
        by_cases hji : j = id
        · subst hji; rw [hgi] at hj; simp at hj
        · rw [hgo j hji] at hj
          have := h.apart id j _ _ hd hdj (fun e => hji e.symm) hg hj rfl
          exact (h.cells j c' esz' ro hdj hj).move (fun _ h => ⟨h, rfl⟩) (ho _ (fun e => this e.symm))
      maps := fun j es2 hdj hj => by
        by_cases hji : j = id
        · subst hji
          rw [hgi] at hj
          simp only [Option.some.injEq, AObj.map.injEq] at hj
          subst hj
          exact ⟨⟨E', k', hb', h1, h2, h3⟩, h4⟩
        · rw [hgo j hji] at hj
          have := h.apart id j _ _ hd hdj (fun e => hji e.symm) hg hj rfl
          exact (h.maps j es2 hdj hj).move (fun _ h => ⟨h, rfl⟩) (ho _ (fun e => this e.symm))
      apart := fun i j o o' hdi hdj hne hi hj hwr => by
        have lift : ∀ x (o : AObj), (H.put id (some (.map es'))).get x = some o → ∃ o0, H.get x = some o0 ∧ o0.wr = o.wr := by
          intro x o hx
          by_cases hxi : x = id
          · subst hxi; rw [hgi] at hx; exact ⟨_, hg, by simp at hx; rw [← hx]; rfl⟩
          · rw [hgo x hxi] at hx; exact ⟨o, hx, rfl⟩
        obtain ⟨a, ha, haw⟩ := lift i o hi
        obtain ⟨b, hb1, _⟩ := lift j o' hj
        exact h.apart i j a b hdi hdj hne ha hb1 (haw.trans hwr)
      glob := fun g hgl => by
        obtain ⟨h1, h2, h3, h4⟩ := h.glob g hgl
        exact ⟨h1, h2, h3, (hgo g (by omega)).trans h4⟩
      gnext := h.gnext
      wf := fun j hj => by rw [AHeap.next_put] at hj; have := h.lt id hd; rw [hgo j (by omega)]; exact h.wf j hj }

theorem sameBits_leaf {k : Nat} {ks : List Nat} {u : AVal} {x : List AVal} {res : Bool} (h : eqCells (k :: ks) (u :: x) (u :: x) = some res) (n : Nat) : Instr.sameBits n (ren ρ u) (ren ρ u) = true := by
  match k, h with
  | 0, h => cases u <;> simp only [eqCells] at h <;> first | (cases h; done) | simp [ren, Instr.sameBits]
  | 1, h => cases u <;> simp only [eqCells] at h <;> first | (cases h; done) | simp [ren, Instr.sameBits]
  | 2, h =>
    cases u <;> simp only [eqCells] at h <;> first
      | (cases h; done)
      | (simp only [ren]; cases n <;> simp [Instr.sameBits, beq_toListBytes])
  | k + 3, h => unfold eqCells at h; cases h

theorem sameBits_cells : ∀ {ks : List Nat} {x : List AVal} {res : Bool}, eqCells ks x x = some res → ∀ n, ((renL ρ x).zip (renL ρ x)).all (fun (p : Value × Value) => Instr.sameBits n p.1 p.2) = true := by
  intro ks
  induction ks with
  | nil => intro x res h n; cases x <;> simp [eqCells] at h; simp [renL]
  | cons k ks ih =>
    intro x res h n
    obtain ⟨u, x', v, y', rfl, h2⟩ := eqCells_step h
    simp only [List.cons.injEq] at h2
    obtain ⟨rfl, rfl⟩ := h2
    obtain ⟨r, hr⟩ := eqCells_tail h
    simp only [renL, List.zip_cons_cons, List.all_cons, Bool.and_eq_true]
    exact ⟨sameBits_leaf h n, ih hr n⟩

theorem sameBits_key {ag : Bool} {ks : List Nat} {t : TypeId} (ht : keyKs P t = some (ag, ks)) {u : AVal} {x : List AVal} (hu : keyC ag u = some x) (h : eqCells ks x x = some true) : Instr.sameBits 10000 (ren ρ u) (ren ρ u) = true := by
  cases ag
  · have := keyC_false hu; subst this
    cases ks with
    | nil => simp [eqCells] at h
    | cons k ks => exact sameBits_leaf h 10000
  · have := keyC_true hu; subst this
    have := sameBits_cells (ρ := ρ) h 9999
    simp only [ren, Instr.sameBits, beq_self_eq_true, Bool.true_and]
    exact this

theorem mapup_sim (r : Rel P G ds ρ D n e a H w) (hlo : G.next ≤ lo) {o : Oper} {t kt el : TypeId} {x y z : Operand} (ho : o.op = .mapUpdate t x y z ∨ o.op = .insert t x y z) (ht : P.underlying t = some (.map kt el)) {ag : Bool} {ks : List Nat} (hk : keyKs P kt = some (ag, ks))
    {m k v : AVal} {H' : AHeap} (hx : a.eval x = ren ρ m) (hm : ok ρ D m) (hy : a.eval y = ren ρ k) (hkok : ok ρ D k) (hz : a.eval z = ren ρ v) (hvok : ok ρ D v) (hv : mapupV lo H ag ks k v m = some H') : Sim G lo ρ D H w ((execOp a.eval o).run P w) none H' := by
  cases m <;> simp only [mapupV] at hv <;> try (cases hv; done)
  rename_i id
  simp only [ok] at hm
  split at hv
  · rename_i hid
    split at hv
    · rename_i es hg
      split at hv
      · rename_i kc hkc
        split at hv
        · rename_i hshape
          obtain ⟨⟨E, clk, h1, hb1, hb2, h2⟩, h3⟩ := r.heap.maps id es hm hg
          have hc := check_sim (ρ := ρ) (w := w) hk hkc hshape false
          have hobj : (getObj (ρ id).blk).run P w = .ok (.map E clk) w := by simp [getObj, Sem.run, h1]
          have hset : ∀ o, (setObj (ρ id).blk o).run P w = .ok () { w with heap := w.heap.setIfInBounds (ρ id).blk o } := fun o => MapKept.run_setObj_map o h1
          have hhs : ∀ o', (w.heap.setIfInBounds (ρ id).blk o')[(ρ id).blk]? = some o' ∧ ∀ r', r' ≠ (ρ id).blk → (w.heap.setIfInBounds (ρ id).blk o')[r']? = w.heap[r']? := fun o' => MapKept.heap_set h1
          have hexec : ∀ w', (Instr.mapUpdate t (ren ρ (.m id)) (ren ρ k) (ren ρ v)).run P w = .ok () w' → (execOp a.eval o).run P w = .ok .skip w' := by
            intro w' hr
            rcases ho with ho | ho <;> simp [execOp, ho, hx, hy, hz, hr]
          split at hv
          · rename_i i u hf
            cases hv
            have hfk := find_sim (w := w) (E := E.toList) hk hkc h2 hf
            obtain ⟨k0, _, hmem, hk0⟩ := findA_mem hf
            simp only [Nat.sub_zero] at hmem
            have hkk : k0 = k := keyC_inj hk0 hkc
            subst hkk
            have hEi : ∃ ent, E[i]? = some ent ∧ ent.key = ren ρ k0 ∧ ent.val = ren ρ u := by
              have := congrArg (·[i]?) h2
              simp only [List.getElem?_map, hmem, Option.map_some, Array.getElem?_toList] at this
              rw [Option.map_eq_some_iff] at this
              obtain ⟨ent, he, hp⟩ := this
              simp only [Prod.mk.injEq] at hp
              exact ⟨ent, he, hp.1, hp.2⟩
            obtain ⟨ent, he, hke, hve⟩ := hEi
            have hsb := sameBits_key (ρ := ρ) hk hkc hshape
            have hrun : (Instr.mapUpdate t (ren ρ (.m id)) (ren ρ k0) (ren ρ v)).run P w = .ok () { w with heap := w.heap.setIfInBounds (ρ id).blk (.map (E.modify i fun e => { e with key := ren ρ k0, val := ren ρ v }) clk) } := by
              simp only [ren, Instr.mapUpdate, Sem.run_bind, run_underlying ht, Result.andThen_ok, hobj, hc, hfk, Option.map_some]
              simp only [Sem.run_bind, Result.andThen_ok, he, Option.map_some, Option.getD_some, Instr.keyThatStays, hke, hsb, if_true, Sem.run_pure]
              exact hset _
            obtain ⟨g1, g2⟩ := hhs (.map (E.modify i fun e => { e with key := ren ρ k0, val := ren ρ v }) clk)
            have hkeys : ∀ (e' : MapEntry), e' ∈ (E.modify i fun e => { e with key := ren ρ k0, val := ren ρ v }).toList → ∃ e0 ∈ E.toList, e0.born = e'.born := by
              intro e' hm'
              obtain ⟨j, hj, he'⟩ := List.mem_iff_getElem.1 hm'
              have hje : (E.modify i fun e => { e with key := ren ρ k0, val := ren ρ v })[j]? = some e' := by
                rw [← he', ← Array.getElem?_toList, List.getElem?_eq_getElem hj]
              rw [Array.getElem?_modify] at hje
              split at hje
              · rw [Option.map_eq_some_iff] at hje
                obtain ⟨e0, h0, rfl⟩ := hje
                exact ⟨e0, by rw [← Array.getElem?_toList] at h0; exact List.mem_of_getElem? h0, rfl⟩
              · exact ⟨e', by rw [← Array.getElem?_toList] at hje; exact List.mem_of_getElem? hje, rfl⟩
            have hborn : ((E.modify i fun e => { e with key := ren ρ k0, val := ren ρ v }).toList.map (·.born)) = E.toList.map (·.born) := by
              apply List.ext_getElem?
              intro j
              simp only [List.getElem?_map, Array.getElem?_toList, Array.getElem?_modify]
              split
              · rename_i hij; subst hij; simp [Option.map_map, Function.comp_def]
              · rfl
            have hent : (E.modify i fun e => { e with key := ren ρ k0, val := ren ρ v }).toList.map (fun e => (e.key, e.val)) = (es.set i (k0, v)).map (fun x => (ren ρ x.1, ren ρ x.2)) := by
              apply List.ext_getElem?
              intro j
              simp only [List.getElem?_map, Array.getElem?_toList, Array.getElem?_modify]
              have hj := congrArg (·[j]?) h2
              simp only [List.getElem?_map, Array.getElem?_toList] at hj
              split
              · rename_i hij
                subst hij
                have hlt : i < es.length := by
                  rcases Nat.lt_or_ge i es.length with h | h
                  · exact h
                  · rw [List.getElem?_eq_none h] at hmem; cases hmem
                rw [List.getElem?_set_self hlt, he]; rfl
              · rename_i hij
                rw [List.getElem?_set_ne hij]; exact hj
            obtain ⟨s1, s2⟩ := mapset_sim (lo := lo) (w' := { w with heap := w.heap.setIfInBounds (ρ id).blk (.map (E.modify i fun e => { e with key := ren ρ k0, val := ren ρ v }) clk) }) (es' := es.set i (k0, v)) r.heap hlo hm hg hid.1 h1 g1
              (fun e' hm' => by obtain ⟨e0, h0, hbn⟩ := hkeys e' hm'; rw [← hbn]; exact hb1 e0 h0) (by rw [hborn]; exact hb2) hent
              (fun p hp => (List.mem_or_eq_of_mem_set hp).elim (h3 p) (fun e => by subst e; exact ⟨hkok, hvok⟩)) g2 (by simp) rfl rfl rfl
            exact ⟨ρ, D, _, hexec _ hrun, s1, s2, fun u hu => by cases hu⟩
          · rename_i hf
            cases hv
            have hfk := find_sim (w := w) (E := E.toList) hk hkc h2 hf
            have hrun : (Instr.mapUpdate t (ren ρ (.m id)) (ren ρ k) (ren ρ v)).run P w = .ok () { w with heap := w.heap.setIfInBounds (ρ id).blk (.map (E.push { key := ren ρ k, val := ren ρ v, born := clk }) (clk + 1)) } := by
              simp only [ren, Instr.mapUpdate, Sem.run_bind, run_underlying ht, Result.andThen_ok, hobj, hc, hfk, Option.map_none]
              exact hset _
            obtain ⟨g1, g2⟩ := hhs (.map (E.push { key := ren ρ k, val := ren ρ v, born := clk }) (clk + 1))
            obtain ⟨s1, s2⟩ := mapset_sim (lo := lo) (w' := { w with heap := w.heap.setIfInBounds (ρ id).blk (.map (E.push { key := ren ρ k, val := ren ρ v, born := clk }) (clk + 1)) }) (es' := es ++ [(k, v)]) r.heap hlo hm hg hid.1 h1 g1
              (fun e' hm' => by
                simp only [Array.toList_push, List.mem_append, List.mem_singleton] at hm'
                rcases hm' with hm' | rfl
                · have := hb1 e' hm'; omega
                · exact Nat.lt_succ_self _)
              (by
                simp only [Array.toList_push, List.map_append, List.map_cons, List.map_nil]
                rw [List.nodup_append]
                refine ⟨hb2, by simp, fun p hp q hq => ?_⟩
                simp only [List.mem_singleton] at hq
                subst hq
                obtain ⟨e0, h0, rfl⟩ := List.mem_map.1 hp
                have := hb1 e0 h0; omega)
              (by simp [h2])
              (fun p hp => by
                rcases List.mem_append.1 hp with hp | hp
                · exact h3 p hp
                · simp only [List.mem_singleton] at hp; subst hp; exact ⟨hkok, hvok⟩) g2 (by simp) rfl rfl rfl
            exact ⟨ρ, D, _, hexec _ hrun, s1, s2, fun u hu => by cases hu⟩
          · cases hv
        · cases hv
      · cases hv
    · cases hv
  · cases hv

end
end Go.RI
