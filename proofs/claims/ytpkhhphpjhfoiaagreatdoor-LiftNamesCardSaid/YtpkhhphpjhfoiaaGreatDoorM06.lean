import Derived.Test.YtpkhhphpjhfoiaaGreatDoorM05
import Derived.ReadAgain
import Derived.OpenShut
set_option linter.unusedVariables false
set_option linter.unusedSimpArgs false
set_option linter.unusedSectionVars false
/- RI, part TJ: what a law's arguments read as: trees, by their types. Conditions: none. -/
namespace Go.RI
open Go
set_option linter.unusedSimpArgs false
set_option linter.unusedVariables false

def tile (P : Program) : List Field → Nat → Nat → Bool
  | [], o, n => o == n
  | f :: fs, o, n => f.offset == o && tile P fs (o + P.cellsOf f.type) n

/-- Bools, ints, texts; slices and structs of such. -/
def okTy (P : Program) (ts : List TypeId) (t : TypeId) : Bool :=
  match P.underlying t with
  | some .bool | some (.int _) | some .string => true
  | some (.slice e) => ts.contains e && decide (0 < P.cellsOf e)
  | some (.struct fs) => tile P fs.toList 0 (P.cellsOf t) && fs.toList.all (fun f => ts.contains f.type)
  | _ => false

/-- The tree is one of that type; no slice and no text is longer than 'B'. -/
def Ty (P : Program) (B : Nat) : Nat → TypeId → List AVal → Prop
  | 0, _, _ => False
  | n + 1, t, l => match P.underlying t with
    | some .bool => ∃ b, l = [.b b]
    | some (.int k) => ∃ i, l = [.i k i] ∧ (Lit.int k i).wf = true
    | some .string => ∃ s, l = [.s s] ∧ s.length ≤ B
    | some (.slice e) => ∃ es : List (List AVal), l = [.fs false false es.length es.flatten] ∧ es.length ≤ B ∧ ∀ x ∈ es, Ty P B n e x ∧ x.length = P.cellsOf e
    | some (.struct fs) => ∃ xs : List (List AVal), l = xs.flatten ∧ xs.length = fs.toList.length ∧ ∀ (i : Nat) f x, fs.toList[i]? = some f → xs[i]? = some x → Ty P B n f.type x ∧ x.length = P.cellsOf f.type
    | _ => False

/-- What 'small' hands on. -/
structure Small {H : Type} (B : Nat) (sm : DataW H → Prop) : Prop where
  str : ∀ s, sm (.lit (.string s)) → s.length ≤ B
  sl : ∀ l r, sm (.slice l r) → l.length ≤ B ∧ ∀ d ∈ l, sm d
  ag : ∀ l, sm (.agg l) → ∀ d ∈ l, sm d

section
variable {w : World}

theorem RdL_len : ∀ {l : List AVal} {vs : List Value}, RdL w l vs → l.length = vs.length := by
  intro l
  induction l with
  | nil => intro vs h; simp only [RdL] at h; subst h; rfl
  | cons x l ih => intro vs h; simp only [RdL] at h; obtain ⟨v, r, rfl, _, h2⟩ := h; simp [ih h2]
theorem RdL_append : ∀ {l m : List AVal} {vs us : List Value}, RdL w l vs → RdL w m us → RdL w (l ++ m) (vs ++ us) := by
  intro l
  induction l with
  | nil => intro m vs us h g; simp only [RdL] at h; subst h; exact g
  | cons x l ih => intro m vs us h g; simp only [RdL] at h; obtain ⟨v, r, rfl, h1, h2⟩ := h; simp only [List.cons_append, RdL]; exact ⟨v, r ++ us, rfl, h1, ih h2 g⟩
theorem RdL_one {x : AVal} {v : Value} (h : Rd w x v) : RdL w [x] [v] := by simp only [RdL]; exact ⟨v, [], rfl, h, rfl⟩

theorem flat_rd {c : Nat} (L : List Value) : ∀ (es : List (List AVal)) (o : Nat), (∀ (i : Nat) x, es[i]? = some x → RdL w x ((L.drop (o + i * c)).take c) ∧ x.length = c) → RdL w es.flatten ((L.drop o).take (es.length * c)) := by
  intro es
  induction es with
  | nil => intro o _; simp [RdL]
  | cons x es ih =>
    intro o h
    have h0 := h 0 x rfl
    have h1 := ih (o + c) fun i y hy => by
      have := h (i + 1) y (by simpa using hy)
      rw [show o + (i + 1) * c = o + c + i * c by rw [Nat.add_mul]; omega] at this
      exact this
    have hx := RdL_len h0.1
    simp only [Nat.zero_mul, Nat.add_zero] at h0
    have : (L.drop o).take ((x :: es).length * c) = (L.drop o).take c ++ (L.drop (o + c)).take (es.length * c) := by
      simp only [List.length_cons, Nat.add_mul, Nat.one_mul]
      rw [Nat.add_comm (es.length * c) c, List.take_add, List.drop_drop]
    rw [this, List.flatten_cons]
    exact RdL_append h0.1 h1

theorem cells_at {base : Nat} {a : Addr} {n : Nat} {cs : List Value} (h : w.cells? base a n = some cs) (hn : 0 < n) : a.spot = none ∧ ∃ C e fz, w.heap[a.block]? = some (.cells C e fz) ∧ a.off + n ≤ C.size ∧ cs = (C.toList.drop a.off).take n := by
  unfold World.cells? at h
  split at h
  case isFalse => cases h
  have hlen : cs.length = n := by simpa using mapM_some_length h
  have at_ : ∀ i, i < n → ∃ v, cs[i]? = some v ∧ w.cell? (a.add i) = some v := fun i hi => by
    obtain ⟨b, hb, hfb⟩ := Go.Lib.mapM_at h i i (by simp [hi])
    exact ⟨b, hb, hfb⟩
  obtain ⟨v0, _, hv0⟩ := at_ 0 hn
  have ha0 : a.add 0 = a := by simp [Addr.add]
  rw [ha0] at hv0
  simp only [World.cell?] at hv0
  split at hv0
  · rename_i C e fz hC
    split at hv0
    · cases hv0
    · rename_i hs
      have hspot : a.spot = none := by cases hsp : a.spot <;> simp_all
      have val : ∀ i, i < n → ∃ v, cs[i]? = some v ∧ C[a.off + i]? = some v := fun i hi => by
        obtain ⟨v, h1, h2⟩ := at_ i hi
        refine ⟨v, h1, ?_⟩
        unfold Addr.add at h2
        split at h2
        · rename_i hi0; subst hi0
          simp only [World.cell?, hC, hspot] at h2
          simpa using h2
        · simp only [World.cell?, hC] at h2
          simpa using h2
      refine ⟨hspot, C, e, fz, hC, ?_, ?_⟩
      · obtain ⟨v, _, h2⟩ := val (n - 1) (by omega)
        obtain ⟨hlt, _⟩ := Array.getElem?_eq_some_iff.1 h2
        omega
      · apply List.ext_getElem?
        intro i
        by_cases hi : i < n
        · obtain ⟨v, h1, h2⟩ := val i hi
          rw [h1, List.getElem?_take, if_pos hi, List.getElem?_drop, Array.getElem?_toList, h2]
        · rw [List.getElem?_eq_none (by omega), List.getElem?_take, if_neg hi]
  · cases hv0

variable {H : Type} {enc : TypeId × Value → H} {P : Program} {base : Nat} {spare : Nat → Bool} {held : Bool}

theorem tile_rd {n : Nat} {ts : List TypeId} {B : Nat} {sm : DataW H → Prop} {cs : List Value}
    (ih : ∀ t cs d ps, t ∈ ts → DataW.trod enc P w base spare held n t cs = some (d, ps) → sm d → ∃ l, RdL w l cs ∧ Ty P B n t l) :
    ∀ (fs : List Field) (o N : Nat) (ys : List (DataW H × List MemPlace)), tile P fs o N = true → (∀ f ∈ fs, f.type ∈ ts) → cs.length = N → fs.mapM (fun f => DataW.trod enc P w base spare held n f.type ((cs.drop f.offset).take (P.cellsOf f.type))) = some ys → (∀ d ∈ ys.map (·.1), sm d) → (∀ f ∈ fs, f.offset + P.cellsOf f.type ≤ N) →
      ∃ xs : List (List AVal), RdL w xs.flatten (cs.drop o) ∧ xs.length = fs.length ∧ ∀ (i : Nat) f x, fs[i]? = some f → xs[i]? = some x → Ty P B n f.type x ∧ x.length = P.cellsOf f.type := by
  intro fs
  induction fs with
  | nil =>
    intro o N ys ht _ hl hm _ _
    simp only [tile, beq_iff_eq] at ht
    subst ht
    refine ⟨[], ?_, rfl, fun i f x h => by simp at h⟩
    rw [List.drop_of_length_le (by omega)]
    simp [RdL]
  | cons f fs ihf =>
    intro o N ys ht hts hl hm hs hb
    simp only [tile, Bool.and_eq_true, beq_iff_eq] at ht
    obtain ⟨rfl, ht⟩ := ht
    rw [List.mapM_cons] at hm
    simp only [bind, Option.bind_eq_some_iff, pure] at hm
    obtain ⟨⟨d, p⟩, h1, ys', h2, h3⟩ := hm
    cases h3
    obtain ⟨x, hx, hty⟩ := ih f.type _ d p (hts f (by simp)) h1 (hs d (by simp))
    obtain ⟨xs, hxs, hlen, hall⟩ := ihf (f.offset + P.cellsOf f.type) N ys' ht (fun g hg => hts g (by simp [hg])) hl h2 (fun d' hd' => hs d' (by simp only [List.map_cons, List.mem_cons]; exact .inr hd')) (fun g hg => hb g (by simp [hg]))
    have hxl : x.length = P.cellsOf f.type := by
      rw [RdL_len hx, List.length_take, List.length_drop]
      have := hb f (by simp)
      omega
    refine ⟨x :: xs, ?_, by simp [hlen], fun i g y hg hy => ?_⟩
    · have : cs.drop f.offset = (cs.drop f.offset).take (P.cellsOf f.type) ++ cs.drop (f.offset + P.cellsOf f.type) := by
        conv => lhs; rw [← List.take_append_drop (P.cellsOf f.type) (cs.drop f.offset)]
        rw [List.drop_drop]
      rw [this, List.flatten_cons]
      exact RdL_append hx hxs
    · cases i with
      | zero => simp at hg hy; subst hg hy; exact ⟨hty, hxl⟩
      | succ i => exact hall i g y (by simpa using hg) (by simpa using hy)

theorem tile_le {P : Program} : ∀ (fs : List Field) (o N : Nat), tile P fs o N = true → o ≤ N ∧ ∀ f ∈ fs, f.offset + P.cellsOf f.type ≤ N := by
  intro fs
  induction fs with
  | nil => intro o N h; simp only [tile, beq_iff_eq] at h; exact ⟨by omega, fun f hf => by simp at hf⟩
  | cons f fs ih =>
    intro o N h
    simp only [tile, Bool.and_eq_true, beq_iff_eq] at h
    obtain ⟨rfl, h⟩ := h
    obtain ⟨h1, h2⟩ := ih _ _ h
    refine ⟨by omega, fun g hg => ?_⟩
    rcases List.mem_cons.1 hg with rfl | hg
    · exact h1
    · exact h2 g hg

section
variable {r : TypeId → List Value → Option (DataW H × List MemPlace)} {t : TypeId} {cs : List Value} {d : DataW H} {ps : List MemPlace}
theorem step_bool (hu : P.underlying t = some .bool) (h : DataW.trodStep enc P w base spare held r t cs = some (d, ps)) : ∃ b, cs = [.bool b] ∧ d = .lit (.bool b) := by
  unfold DataW.trodStep at h
  split at h
  all_goals first | (exfalso; simp_all; done) | skip
  rename_i b _
  cases h
  exact ⟨b, rfl, rfl⟩
theorem step_int {k : IntKind} (hu : P.underlying t = some (.int k)) (h : DataW.trodStep enc P w base spare held r t cs = some (d, ps)) : ∃ m, cs = [.int k m] ∧ d = .lit (.int k m) ∧ (Lit.int k m).wf = true := by
  unfold DataW.trodStep at h
  split at h
  all_goals first | (exfalso; simp_all; done) | skip
  rename_i k1 k2 m heq
  rw [hu] at heq
  cases heq
  split at h
  · rename_i hc; cases h; exact ⟨m, by rw [hc.1], rfl, hc.2⟩
  · cases h
theorem step_string (hu : P.underlying t = some .string) (h : DataW.trodStep enc P w base spare held r t cs = some (d, ps)) : ∃ s, cs = [.string s] ∧ d = .lit (.string s.data.toList) := by
  unfold DataW.trodStep at h
  split at h
  all_goals first | (exfalso; simp_all; done) | skip
  rename_i s _
  split at h
  · cases h; exact ⟨s, rfl, rfl⟩
  · cases h
theorem step_slice {e : TypeId} (hu : P.underlying t = some (.slice e)) (h : DataW.trodStep enc P w base spare held r t cs = some (d, ps)) :
    (cs = [.slice none 0 0]) ∨ ∃ a len cap elems rest, cs = [.slice (some a) len cap] ∧ len ≤ cap ∧ (List.range len).mapM (fun i => (w.cells? base (a.add (i * P.cellsOf e)) (P.cellsOf e)).bind (r e)) = some elems ∧
      (if spare a.block then (List.range (cap - len)).mapM fun j => (w.cells? base (a.add ((len + j) * P.cellsOf e)) (P.cellsOf e)).bind (r e) else some []) = some rest ∧ d = .slice (elems.map (·.1)) (rest.map (·.1)) := by
  unfold DataW.trodStep at h
  split at h
  all_goals first | (exfalso; simp_all; done) | skip
  · exact .inl rfl
  · rename_i e' a len cap heq
    rw [hu] at heq
    cases heq
    simp only at h
    split at h
    · rename_i hc
      simp only [Option.map_eq_some_iff, Option.bind_eq_some_iff] at h
      obtain ⟨elems, he, rest, hr, hx⟩ := h
      cases hx
      exact .inr ⟨a, len, cap, elems, rest, rfl, hc.2.1, he, hr, rfl⟩
    · cases h
theorem step_struct {fs : Array Field} (hu : P.underlying t = some (.struct fs)) (h : DataW.trodStep enc P w base spare held r t cs = some (d, ps)) :
    cs.length = P.cellsOf t ∧ ∃ ys, fs.toList.mapM (fun f => r f.type ((cs.drop f.offset).take (P.cellsOf f.type))) = some ys ∧ d = .agg (ys.map (·.1)) := by
  unfold DataW.trodStep at h
  split at h
  all_goals first | (exfalso; simp_all; done) | skip
  rename_i fs' _ heq
  rw [hu] at heq
  cases heq
  split at h
  · rename_i hc
    simp only [Option.map_eq_some_iff] at h
    obtain ⟨ys, h1, h2⟩ := h
    cases h2
    exact ⟨hc, ys, h1, rfl⟩
  · cases h
end

theorem trod_rd {ts : List TypeId} (hts : ts.all (okTy P ts) = true) {B : Nat} {sm : DataW H → Prop} (hsm : Small B sm) (hsp : ∀ b, spare b = true) :
    ∀ (n : Nat) (t : TypeId) (cs : List Value) (d : DataW H) (ps : List MemPlace), t ∈ ts → DataW.trod enc P w base spare held n t cs = some (d, ps) → sm d → ∃ l, RdL w l cs ∧ Ty P B n t l := by
  intro n
  induction n with
  | zero => intro t cs d ps _ h; simp [DataW.trod] at h
  | succ n ih =>
    intro t cs d ps ht h hd
    have hok := List.all_eq_true.1 hts t ht
    unfold okTy at hok
    rw [DataW.trod_step] at h
    unfold Ty
    cases hu : P.underlying t with
    | none => rw [hu] at hok; cases hok
    | some T =>
      rw [hu] at hok
      cases T <;> simp only at hok <;> try (cases hok; done)
      case bool =>
        obtain ⟨b, rfl, rfl⟩ := step_bool hu h
        exact ⟨[.b b], RdL_one (by simp [Rd, noId, one, ren]), b, rfl⟩
      case int k =>
        obtain ⟨m, rfl, rfl, hw⟩ := step_int hu h
        exact ⟨[.i k m], RdL_one (by simp [Rd, noId, one, ren]), m, rfl, hw⟩
      case string =>
        obtain ⟨s, rfl, rfl⟩ := step_string hu h
        exact ⟨[.s s.data.toList], RdL_one (by simp [Rd, noId, one, ren]), _, rfl, hsm.str _ hd⟩
      case slice e =>
        simp only [Bool.and_eq_true, decide_eq_true_eq, List.contains_iff_mem] at hok
        obtain ⟨he, hc⟩ := hok
        rcases step_slice hu h with rfl | ⟨a, len, cap, elems, rest, rfl, hlc, hel, hrest, rfl⟩
        · exact ⟨[.fs false false 0 []], RdL_one (by simp [Rd]), [], rfl, Nat.zero_le _, fun x hx => by simp at hx⟩
        · obtain ⟨hB, hall⟩ := hsm.sl _ _ hd
          have hlen : elems.length = len := by simpa using mapM_some_length hel
          by_cases h0 : len = 0
          · subst h0
            refine ⟨[.fs false false 0 []], RdL_one ?_, [], rfl, Nat.zero_le _, fun x hx => by simp at hx⟩
            simp only [Rd]
            refine ⟨trivial, trivial, .inl ⟨trivial, trivial, .inr ?_⟩⟩
            by_cases hc0 : cap = 0
            · subst hc0; exact .inl ⟨a, rfl⟩
            · rw [hsp, if_pos rfl] at hrest
              obtain ⟨b, hb, hfb⟩ := Go.Lib.mapM_at hrest 0 0 (by rw [List.getElem?_range (by omega)])
              simp only [Option.bind_eq_some_iff] at hfb
              obtain ⟨c0, hc1, _⟩ := hfb
              have := (cells_at hc1 hc).1
              have ha : a.add ((0 + 0) * P.cellsOf e) = a := by simp [Addr.add]
              rw [ha] at this
              obtain ⟨ab, ao, asp⟩ := a
              cases this
              exact .inr ⟨ab, ao, cap, rfl⟩
          · have el : ∀ i, i < len → ∃ csi x, w.cells? base (a.add (i * P.cellsOf e)) (P.cellsOf e) = some csi ∧ RdL w x csi ∧ Ty P B n e x := fun i hi => by
              obtain ⟨b, hb, hfb⟩ := Go.Lib.mapM_at hel i i (by simp [hi])
              simp only [Option.bind_eq_some_iff] at hfb
              obtain ⟨csi, h1, h2⟩ := hfb
              obtain ⟨bd, bp⟩ := b
              obtain ⟨x, h3, h4⟩ := ih e csi bd bp he h2 (hall bd (by
                refine List.mem_map.2 ⟨(bd, bp), List.mem_of_getElem? hb, rfl⟩))
              exact ⟨csi, x, h1, h3, h4⟩
            obtain ⟨cs0, _, hc0, _, _⟩ := el 0 (by omega)
            have ha0 : a.add (0 * P.cellsOf e) = a := by simp [Addr.add]
            rw [ha0] at hc0
            obtain ⟨hspot, C, ty, fz, hC, _, _⟩ := cells_at hc0 hc
            have row : ∀ i, i < len → ∃ x, RdL w x ((C.toList.drop (a.off + i * P.cellsOf e)).take (P.cellsOf e)) ∧ Ty P B n e x ∧ x.length = P.cellsOf e ∧ a.off + i * P.cellsOf e + P.cellsOf e ≤ C.size := fun i hi => by
              obtain ⟨csi, x, h1, h2, h3⟩ := el i hi
              obtain ⟨_, C', ty', fz', hC', hsz, hcs⟩ := cells_at h1 hc
              have hb : (a.add (i * P.cellsOf e)).block = a.block := by unfold Addr.add; split <;> rfl
              have ho : (a.add (i * P.cellsOf e)).off = a.off + i * P.cellsOf e := by unfold Addr.add; split <;> simp_all
              rw [hb, hC] at hC'
              cases hC'
              rw [ho] at hcs hsz
              subst hcs
              refine ⟨x, h2, h3, ?_, hsz⟩
              rw [RdL_len h2]
              simp only [List.length_take, List.length_drop, Array.length_toList]
              omega
            have : ∃ es : List (List AVal), es.length = len ∧ ∀ (i : Nat) x, es[i]? = some x → RdL w x ((C.toList.drop (a.off + i * P.cellsOf e)).take (P.cellsOf e)) ∧ Ty P B n e x ∧ x.length = P.cellsOf e := by
              clear hlen hel hB hall hlc hrest hd h
              clear el
              have key : ∀ m, m ≤ len → ∃ es : List (List AVal), es.length = m ∧ ∀ (i : Nat) x, es[i]? = some x → RdL w x ((C.toList.drop (a.off + i * P.cellsOf e)).take (P.cellsOf e)) ∧ Ty P B n e x ∧ x.length = P.cellsOf e := by
                intro m
                induction m with
                | zero => intro _; exact ⟨[], rfl, fun i x hx => by simp at hx⟩
                | succ m ihm =>
                  intro hm
                  obtain ⟨es, h1, h2⟩ := ihm (by omega)
                  obtain ⟨x, g1, g2, g3, _⟩ := row m (by omega)
                  refine ⟨es ++ [x], by simp [h1], fun i y hy => ?_⟩
                  by_cases hi : i < es.length
                  · rw [List.getElem?_append_left hi] at hy; exact h2 i y hy
                  · rw [List.getElem?_append_right (by omega)] at hy
                    have hi0 : i - es.length = 0 := by
                      rcases Nat.eq_zero_or_pos (i - es.length) with h | h
                      · exact h
                      · rw [List.getElem?_eq_none (by simp; omega)] at hy; cases hy
                    rw [hi0] at hy
                    simp at hy
                    subst hy
                    have : i = m := by omega
                    subst this
                    exact ⟨g1, g2, g3⟩
              exact key len (Nat.le_refl _)
            obtain ⟨es, hes, hall2⟩ := this
            refine ⟨[.fs false false len es.flatten], RdL_one ?_, es, by rw [hes], ?_, ?_⟩
            · simp only [Rd]
              have hfl := flat_rd (w := w) (c := P.cellsOf e) C.toList es a.off (fun i x hx => ⟨(hall2 i x hx).1, (hall2 i x hx).2.2⟩)
              obtain ⟨xl, _, _, _, hsz⟩ := row (len - 1) (by omega)
              have hsz2 : a.off + len * P.cellsOf e ≤ C.size := by
                have : len * P.cellsOf e = (len - 1) * P.cellsOf e + P.cellsOf e := by
                  conv => lhs; rw [show len = (len - 1) + 1 by omega, Nat.add_mul, Nat.one_mul]
                omega
              refine ⟨trivial, trivial, .inr ⟨by omega, a.block, a.off, cap, P.cellsOf e, C, ty, fz, ?_, hlc, hC, ?_, hsz2, ?_⟩⟩
              · obtain ⟨ab, ao, asp⟩ := a; cases hspot; rfl
              · rw [RdL_len hfl, hes, List.length_take, List.length_drop]; have : C.toList.length = C.size := rfl; omega
              · rw [hes] at hfl; exact hfl
            · rw [hes, ← hlen]; simpa using hB
            · intro x hx
              obtain ⟨i, hi⟩ := List.getElem?_of_mem hx
              exact (hall2 i x hi).2
      case struct fs =>
        simp only [Bool.and_eq_true, List.all_eq_true, List.contains_iff_mem] at hok
        obtain ⟨hl, ys, hm, rfl⟩ := step_struct hu h
        obtain ⟨xs, h1, h2, h3⟩ := tile_rd ih fs.toList 0 (P.cellsOf t) ys hok.1 hok.2 hl hm (hsm.ag _ hd) (tile_le _ _ _ hok.1).2
        exact ⟨xs.flatten, by simpa using h1, xs, rfl, h2, h3⟩

/-- All arguments. -/
def TyV (P : Program) (B : Nat) (n : Nat) (t : TypeId) (x : AVal) : Prop := ∃ l, Ty P B n t l ∧ (match P.underlying t with
  | some (.struct _) => x = .ag l
  | _ => l = [x])
end
end Go.RI

/- RI, part TK: a law's arguments as trees; they read as they did. Conditions: none. -/
namespace Go.RI
open Go
set_option linter.unusedSimpArgs false
set_option linter.unusedVariables false

section
variable {H : Type} {enc : TypeId × Value → H} {P : Program} {W W' : World}

theorem Kept.sameAt (h : Kept W W') {p : MemPlace} (hp : p.block < W.heap.size) : W.sameAt W' p := by
  have h1 := h.1.2.2 p.block hp
  cases p with
  | cell b o =>
    simp only [MemPlace.block] at h1 hp
    simp only [World.sameAt, World.cell?]
    split at h1
    · rename_i c t fr c' t' fr' e1 e2
      obtain ⟨_, _, _, h2⟩ := h1
      rw [e1, e2]
      simp only
      have := h2 o (fun f => f.elim)
      simpa using this
    · rename_i e1 e2; rw [e1, e2]
    · rename_i h2 h3
      rw [h1]
  | map b =>
    simp only [MemPlace.block] at h1 hp
    simp only [World.sameAt]
    split at h1
    · rename_i c t fr c' t' fr' e1 e2
      obtain ⟨rfl, rfl, h3, h2⟩ := h1
      rw [e1, e2]
      have : c' = c := by
        apply Array.ext_getElem?
        intro j
        exact h2 j (fun f => f.elim)
      rw [this]
    · rename_i es cl es' cl' e1 e2
      rcases h1 with h1 | ⟨rfl, rfl⟩
      · exact h1.elim
      · rw [e1, e2]
    · exact h1

theorem trodAll_kept {base : Nat} {sp : Nat → Bool} {held : Bool} (hs : Kept W W') : ∀ {ts : List TypeId} {vs : List Value} {ds : List (DataW H)} {ps : List MemPlace}, DataW.TrodAll enc P W base sp held ts vs ds ps → (∀ p ∈ ps, p.block < W.heap.size) → DataW.TrodAll enc P W' base sp held ts vs ds ps
  | [], [], [], _, h, _ => h
  | _ :: _, _ :: _, _ :: _, _, ⟨p, q, ⟨n, h1⟩, h2, e⟩, hl => ⟨p, q, ⟨n, DataW.trod_carry n _ _ _ h1 (fun x hx => hs.sameAt (hl x (by rw [e]; exact List.mem_append_left _ hx)))⟩, trodAll_kept hs h2 (fun x hx => hl x (by rw [e]; exact List.mem_append_right _ hx)), e⟩

theorem args_same (K : Kids P (· < P.types.size)) (hz : ∀ t e, t < P.types.size → P.underlying t = some (.slice e) → 0 < P.cellsOf e) {ts : List TypeId} (hT : ∀ t ∈ ts, t < P.types.size) {vs : List Value} {ds : List (DataW H)} {ps : List MemPlace}
    (h : DataW.TrodAll enc P W 0 (fun _ => true) true ts vs ds ps) (hk : Kept W W') (sp : Nat → Bool) (hs : ∀ q ∈ ps, sp q.block = true) : DataW.TrodAll enc P W' 0 sp true ts vs ds ps :=
  DataW.TrodAll.respare K hz hT (trodAll_kept hk h h.lt) hs

/-- An argument is a tree of its type. -/
theorem arg_rd {ts : List TypeId} (hts : ts.all (okTy P ts) = true) {B : Nat} {sm : DataW H → Prop} (hsm : Small B sm) {t : TypeId} (ht : t ∈ ts) {base : Nat} {v : Value} (hv : Value.okWide P W .any base t v) {d : DataW H} {p : List MemPlace}
    (h : DataW.Trod enc P W 0 (fun _ => true) true t v d p) (hd : sm d) : ∃ n x, RdV W x v ∧ TyV P B n t x := by
  obtain ⟨n, hn⟩ := h
  obtain ⟨l, h1, h2⟩ := trod_rd hts hsm (fun _ => rfl) n t _ d p ht hn hd
  have hok := List.all_eq_true.1 hts t ht
  unfold okTy at hok
  cases n with
  | zero => simp [Ty] at h2
  | succ n =>
    have h2' := h2
    unfold Ty at h2
    unfold Value.okWide at hv
    cases hu : P.underlying t with
    | none => rw [hu] at hok; cases hok
    | some T =>
      rw [hu] at hok h2 hv
      have leaf : ∀ x, l = [x] → (∀ cs, v ≠ .agg cs) → (∀ l, x ≠ .ag l) → (match some T with | some (.struct _) => x = .ag l | _ => l = [x]) → ∃ n x, RdV W x v ∧ TyV P B n t x := by
        intro x hx hna hxa hm
        subst hx
        have : v.cells.toList = [v] := by cases v <;> first | rfl | exact (hna _ rfl).elim
        rw [this] at h1
        simp only [RdL] at h1
        obtain ⟨v', r, he, hr, _⟩ := h1
        cases he
        refine ⟨n + 1, x, ?_, [x], h2', by rw [hu]; exact hm⟩
        cases x <;> first | exact hr | exact (hxa _ rfl).elim
      cases T <;> simp only at hok <;> try (cases hok; done)
      case bool =>
        obtain ⟨b, rfl⟩ := h2
        refine leaf _ rfl (fun cs e => ?_) (fun l e => by cases e) rfl
        subst e
        simp [Cell.okWide, Cell.ok, hu] at hv
      case int k =>
        obtain ⟨i, rfl, _⟩ := h2
        refine leaf _ rfl (fun cs e => ?_) (fun l e => by cases e) rfl
        subst e
        simp [Cell.okWide, Cell.ok, hu] at hv
      case string =>
        obtain ⟨s, rfl, _⟩ := h2
        refine leaf _ rfl (fun cs e => ?_) (fun l e => by cases e) rfl
        subst e
        simp [Cell.okWide, Cell.ok, hu] at hv
      case slice e =>
        obtain ⟨es, rfl, _⟩ := h2
        refine leaf _ rfl (fun cs e => ?_) (fun l e => by cases e) rfl
        subst e
        simp [Cell.okWide, Cell.ok, hu] at hv
      case struct fs =>
        obtain ⟨cs, rfl, _⟩ := hv
        exact ⟨n + 1, .ag l, ⟨cs, rfl, h1⟩, l, h2', by rw [hu]⟩
end
end Go.RI

/- RI, part TN: a table of functions with modes. Conditions: none. -/
namespace Go.RI
open Go

def plain1 (fn : IFunc) : IFunc := { fn with mode := pmode fn.body fn.mode }
def plainT (tab : List (Nat × IFunc)) : List (Nat × IFunc) := tab.map fun x => (x.1, plain1 x.2)
theorem plainT_eq : ∀ tab : List (Nat × IFunc), plainP (tabIP tab) = tabIP (plainT tab) := by
  intro tab
  funext f
  induction tab with
  | nil => rfl
  | cons x l ih =>
    obtain ⟨k, fn⟩ := x
    simp only [plainP, tabIP, plainT, List.map_cons] at ih ⊢
    by_cases h : k = f
    · simp [h, plain1]
    · simp only [if_neg h]; exact ih

/-- Each function's code names no globals but those there are; a function of mode 4 is slices.Clone. -/
inductive CkAll (g : Nat) : List (Nat × IFunc) → Prop
  | nil : CkAll g []
  | cons {k : Nat} {fn : IFunc} {l : List (Nat × IFunc)} (h1 : ckC g fn.body = true) (h2 : decide (fn.mode < 4) = true) (h : CkAll g l) : CkAll g ((k, fn) :: l)
  | ext {k : Nat} {l : List (Nat × IFunc)} (h : CkAll g l) : CkAll g ((k, extFn) :: l)
  | clone {k esz bytes nt : Nat} {l : List (Nat × IFunc)} (h1 : ckC g (cloneCode esz bytes) = true) (h2 : decide (0 < esz ∧ 0 < bytes) = true) (h : CkAll g l) : CkAll g ((k, ⟨cloneCode esz bytes, nt, 1, [.t 2], 4⟩) :: l)
theorem CkAll.ck {g : Nat} {l : List (Nat × IFunc)} (h : CkAll g l) : TabCk g (tabIP l) := by
  induction h with
  | nil => intro f fn h; cases h
  | cons h1 h2 _ ih =>
    intro f fn h
    simp only [tabIP] at h
    split at h
    · cases h; exact ⟨h1, fun h4 _ => by have := of_decide_eq_true h2; omega⟩
    · exact ih f fn h
  | ext _ ih =>
    intro f fn h
    simp only [tabIP] at h
    split at h
    · cases h; exact ⟨rfl, fun _ h => by cases h⟩
    · exact ih f fn h
  | clone h1 h2 _ ih =>
    intro f fn h
    simp only [tabIP] at h
    split at h
    · cases h; exact ⟨h1, fun _ _ => ⟨rfl, rfl, _, _, (of_decide_eq_true h2).1, (of_decide_eq_true h2).2, rfl⟩⟩
    · exact ih f fn h
theorem TabAll.plain {P : Program} {tab : List (Nat × IFunc)} (h : TabAll P (plainT tab)) : TabOK P (plainP (tabIP tab)) := by
  rw [plainT_eq]; exact h.ok
end Go.RI

/- RI: a run for the kernel: slots in a tree, nothing dropped. Conditions: none. -/
namespace Go.RI
open Go
set_option linter.unusedSimpArgs false
set_option linter.unusedVariables false

def Opd.evalG (e : Nat → Option AVal) : Opd → Option AVal
  | .t n => e n
  | .c v => some v
  | .g n => some (.p n 0)
  | .f n => some (.fn (.func n) [] [])
def evalsG (e : Nat → Option AVal) : List Opd → Option (List AVal)
  | [] => some []
  | x :: l =>
    match x.evalG e with
    | some v =>
      match evalsG e l with
      | some vs => some (v :: vs)
      | none => none
    | none => none
def evalPartsG (e : Nat → Option AVal) : List (Nat × Nat × Opd) → Option (List (Nat × Nat × AVal))
  | [] => some []
  | (o, n, x) :: l =>
    match x.evalG e with
    | some v =>
      match evalPartsG e l with
      | some vs => some ((o, n, v) :: vs)
      | none => none
    | none => none
def optIG (e : Nat → Option AVal) : Option Opd → Option (Option Nat)
  | none => some none
  | some x => match x.evalG e with
    | some (.i _ n) => if 0 ≤ n then some (some n.toNat) else none
    | _ => none

/-- What an operation that is no call makes; none inside: nothing. -/
noncomputable def aopG (lo : Nat) (o : IOp) (e : Nat → Option AVal) (H : AHeap) : Option (Option AVal × AHeap) :=
  let pure (v : Option AVal) : Option (Option AVal × AHeap) := v.map fun v => (some v, H)
  match o with
  | .mov x => pure (x.evalG e)
  | .pick c a b => match c.evalG e with
    | some (.b true) => pure (a.evalG e)
    | some (.b false) => pure (b.evalG e)
    | _ => none
  | .bin op x y => match x.evalG e, y.evalG e with
    | some a, some b => pure (binV op a b)
    | _, _ => none
  | .eqB neg x y => match x.evalG e, y.evalG e with
    | some (.b a), some (.b b) => pure (some (.b (if neg then !(a == b) else a == b)))
    | _, _ => none
  | .eqNil k neg x y => match x.evalG e, y.evalG e with
    | some a, some b => pure ((eqNilV k a b).map fun r => .b (if neg then !r else r))
    | _, _ => none
  | .eqAg ks neg x y => match x.evalG e, y.evalG e with
    | some (.ag a), some (.ag b) => pure ((eqCells ks a b).map fun r => .b (if neg then !r else r))
    | _, _ => none
  | .un op x => pure ((x.evalG e).bind (unV op))
  | .conv k x => match x.evalG e with
    | some (.i _ n) => pure (some (.i k (wrapI k n)))
    | _ => none
  | .same x => match x.evalG e with
    | some (.s v) => pure (some (.s v))
    | _ => none
  | .alloc z => some (some (.p H.next 0), H.push (.cells z 1 false))
  | .box x => match x.evalG e with
    | some v => if v.tup = false then some (some (.p H.next 0), H.push (.cells v.cells 1 false)) else none
    | none => none
  | .build z parts => match evalPartsG e parts with
    | some ps => pure ((fillA z ps).map .ag)
    | none => none
  | .bsl esz len z parts => match evalPartsG e parts with
    | some ps => match fillA z ps with
      | some cs => some (some (.sl H.next 0 len (some len)), H.push (.cells cs esz false))
      | none => none
    | none => none
  | .load n x => pure ((x.evalG e).bind (loadV H n))
  | .store n x v => match x.evalG e, v.evalG e with
    | some a, some v => (storeV lo H n a v).map fun H' => (none, H')
    | _, _ => none
  | .nck x => match x.evalG e with
    | some (.p id off) => pure (some (.p id off))
    | some (.fn (.func f) a c) => pure (some (.fn (.func f) a c))
    | some (.ifc t v) => pure (some (.ifc t v))
    | some (.fp l) => pure (some (.fp l))
    | _ => none
  | .off x k => pure ((x.evalG e).bind (offV k))
  | .part n x off => pure ((x.evalG e).bind (partV n off))
  | .iaddr esz x i => match x.evalG e, i.evalG e with
    | some a, some b => pure (iaddrV esz a b)
    | _, _ => none
  | .iaddrA esz len x i => match x.evalG e, i.evalG e with
    | some a, some b => pure (iaddrAV esz len a b)
    | _, _ => none
  | .idxS x i => match x.evalG e, i.evalG e with
    | some a, some b => pure (idxSV a b)
    | _, _ => none
  | .idxA n esz len x i => match x.evalG e, i.evalG e with
    | some a, some b => pure (idxAV n esz len a b)
    | _, _ => none
  | .ext x k => pure ((x.evalG e).bind (extV k))
  | .mkf f fst cap => match evalsG e fst, evalsG e cap with
    | some a, some c => pure (some (.fn (.func f) a c))
    | _, _ => none
  | .mksl esz bytes z l c => match l.evalG e, c.evalG e with
    | some (.i _ n), some (.i _ m) =>
      if 0 ≤ n ∧ n ≤ m ∧ bytes * m ≤ 281474976710656 ∧ 0 < bytes then some (some (.sl H.next 0 n.toNat (some m.toNat)), H.push (.cells (repCells z m.toNat) esz false)) else none
    | _, _ => none
  | .slS x lo hi => match x.evalG e, optIG e lo, optIG e hi with
    | some (.s v), some l, some h => pure (slSV v l h)
    | _, _, _ => none
  | .sl esz x lo hi mx => match x.evalG e, optIG e lo, optIG e hi, optIG e mx with
    | some v, some l, some h, some m => (slV esz H v l h m).map fun (v, H') => (some v, H')
    | _, _, _, _ => none
  | .slq esz x lo hi mx => match x.evalG e, optIG e lo, optIG e hi, optIG e mx with
    | some v, some l, some h, some m => match slV esz H v l h m with
      | some (v', H') => if H'.next = H.next ∧ (isFs v = true → m.isSome ∨ l.getD 0 = 0 ∨ isFs0 v' = false) then some (some v', H) else if dynS v l h m = true then some (some v', H') else none
      | none => none
    | _, _, _, _ => none
  | .lenk k x => pure (((x.evalG e).bind (lenV H k)).map fun (m : Nat) => AVal.i .i64 (m : Int))
  | .app esz bytes x y => match x.evalG e, y.evalG e with
    | some a, some b => (appV lo H esz bytes a b).map fun (v, H') => (some v, H')
    | _, _ => none
  | .mm mx x l => match x.evalG e, evalsG e l with
    | some a, some l => pure (mmV mx a l)
    | _, _ => none
  | .iface t x => pure ((x.evalG e).map (.ifc t))
  | .s2b x => match x.evalG e with
    | some (.s v) => some (some (.sl H.next 0 v.length none), H.push (.cells (v.map fun b => .i .u8 b.toNat) 1 false))
    | _ => none
  | .bad => none
  | .mkmap => some (some (.m H.next), H.push (.map []))
  | .mapup ag ks x k v => match x.evalG e, k.evalG e, v.evalG e with
    | some m, some k, some v => (mapupV lo H ag ks k v m).map fun H' => (none, H')
    | _, _, _ => none
  | .look ag ks z okf x k => match x.evalG e, k.evalG e with
    | some m, some k => pure (lookV H ag ks z okf m k)
    | _, _ => none
  | .cpy esz x y => match x.evalG e, y.evalG e with
    | some a, some b => (cpyV lo H esz a b).map fun (v, H') => (some v, H')
    | _, _ => none
  | .call _ _ => none
  | .callv _ _ => none
  | .appz esz bytes z x y => match x.evalG e, y.evalG e with
    | some a, some (.i _ k) => (appzV lo H esz bytes z a k).map fun (v, H') => (some v, H')
    | _, _ => none
  | .inv _ _ _ => none


theorem evalG_eq (e : Env) (x : Opd) : x.evalG e.get = x.eval e := by cases x <;> rfl
theorem evalsG_eq (e : Env) (l : List Opd) : evalsG e.get l = evals e l := by
  induction l with
  | nil => rfl
  | cons x l ih => simp only [evalsG, evals, evalG_eq, ih]; rfl
theorem evalPartsG_eq (e : Env) (l : List (Nat × Nat × Opd)) : evalPartsG e.get l = evalParts e l := by
  induction l with
  | nil => rfl
  | cons x l ih => obtain ⟨a, b, x⟩ := x; simp only [evalPartsG, evalParts, evalG_eq, ih]; rfl
theorem optIG_eq (e : Env) (x : Option Opd) : optIG e.get x = optI e x := by
  cases x with
  | none => rfl
  | some x => simp only [optIG, optI, evalG_eq]; rfl
theorem aopG_eq (lo : Nat) (o : IOp) (e : Env) (H : AHeap) : aopG lo o e.get H = aop lo o e H := by
  cases o <;> simp only [aopG, aop, evalG_eq, evalsG_eq, evalPartsG_eq, optIG_eq] <;> rfl

/-! ### The run -/
abbrev FEnv := Trie AVal
noncomputable def FEnv.put (t : FEnv) (n : Nat) (v : AVal) : FEnv := Trie.put (some v) (n + 1) t n
noncomputable def putF (t : FEnv) : Option Nat → AVal → FEnv
  | none, _ => t
  | some n, v => FEnv.put t n v

noncomputable def killF (t : FEnv) (l : List Nat) : FEnv := @List.rec Nat (fun _ => FEnv → FEnv) (fun t => t) (fun n _ ih t => ih (Trie.put none (Nat.succ n) t n)) l t
noncomputable def wantedF (t : FEnv) : Option (Nat × Bool) → Option Bool
  | none => some true
  | some (n, want) => match t.get n with
    | some (.b b) => some (b == want)
    | some _ => some false
    | none => none

noncomputable def opF (call : CallI) (lo : Nat) (o : IOp) (t : FEnv) (H : AHeap) : Option (Option AVal × AHeap) :=
  match o with
  | .call f args => match evalsG t.get args with
    | some vs => match call f vs H with
      | some (v, H') => some (some v, H')
      | none => none
    | none => none
  | .callv x args => match x.evalG t.get with
    | some (.fn (.func f) fst cap) => match evalsG t.get args with
      | some vs => match call f (fst ++ vs ++ cap) H with
        | some (v, H') => some (some v, H')
        | none => none
      | none => none
    | _ => none
  | .inv x tbl args => match x.evalG t.get with
    | some (.ifc ty v) => match tblGet tbl ty, evalsG t.get args with
      | some f, some vs => match call f (v :: vs) H with
        | some (v, H') => some (some v, H')
        | none => none
      | _, _ => none
    | _ => none
  | o => aopG lo o t.get H

noncomputable def itemF (call : CallI) (lo : Nat) (x : Item) (t : FEnv) (H : AHeap) : Option (FEnv × AHeap) :=
  match wantedF t x.guard with
  | none => none
  | some false => some (putF t x.dst (.tu []), H)
  | some true => match opF call lo x.op t H with
    | some (some v, H') => some (putF t x.dst v, H')
    | some (none, H') => some (putF t x.dst (.tu []), H')
    | none => none

noncomputable def dynG (o : IOp) (e : Nat → Option AVal) : Bool := match o with
  | .slq _ x lo hi mx => match x.evalG e, optIG e lo, optIG e hi, optIG e mx with
    | some v, some l, some h, some m => dynS v l h m
    | _, _, _, _ => false
  | _ => false
theorem dynG_eq (o : IOp) (e : Env) : dynG o e.get = dynE o e := by
  cases o <;> simp only [dynG, dynE, evalG_eq, optIG_eq] <;> rfl
noncomputable def ldG (o : IOp) (dst : Option Nat) (e : Nat → Option AVal) (H H' : AHeap) : Bool := match o with
  | .load n (.t s) => !(dst == some s) && (match e s with
    | some (.fp l) => (loadV H n (.fp l)).isSome
    | some p => (match loadV H n p, loadV H' n p with
      | some v, some v' => same v v'
      | _, _ => false)
    | none => false)
  | _ => false
noncomputable def reOkF (lo : Nat) (dst : Option Nat) (t0 : FEnv) (H0 : AHeap) (t : FEnv) (H : AHeap) : List (Nat × IOp × Option (Nat × Bool)) → Bool
  | [] => true
  | (n, o, g) :: l => (match wantedF t g with
    | some false => true
    | some true => (dynG o t.get || (match t.get n, aopG lo o t.get H with
      | some v, some (some v', _) => same v v'
      | _, _ => false)) || ldG o dst t0.get H0 H
    | none => false) && reOkF lo dst t0 H0 t H l

/-- What was loaded ahead lies elsewhere than what is touched. -/
noncomputable def touchG (e : Nat → Option AVal) (o : IOp) : Option (List Nat) := match o with
  | .app _ _ x _ => match x.evalG e with
    | some v => touchV v
    | none => none
  | .store _ x _ => match x.evalG e with
    | some (.p id _) => some [id]
    | _ => none
  | _ => none
noncomputable def keepLG (fp : Bool) (ids : List Nat) (e' : Nat → Option AVal) : List (Nat × IOp × Option (Nat × Bool)) → Bool
  | [] => true
  | (_, o, _) :: l => (match o with
    | .load _ b => match b.evalG e' with
      | some (.p id _) => !ids.contains id
      | some (.fp _) => fp
      | _ => false
    | _ => false) && keepLG fp ids e' l
noncomputable def keepG (H : AHeap) (o : IOp) (re : List (Nat × IOp × Option (Nat × Bool))) (e e' : Nat → Option AVal) : Bool := match touchG e o with
  | some ids => keepLG (isSt o && ids.all fun i => wrO (H.get i)) ids e' re
  | none => false
theorem keepG_eq (H : AHeap) (o : IOp) (re : List (Nat × IOp × Option (Nat × Bool))) (e e' : Env) : keepG H o re e.get e'.get = keepI H o re e e' := by
  have h1 : touchG e.get o = touch e o := by cases o <;> simp only [touchG, touch, evalG_eq] <;> rfl
  have h2 : ∀ fp ids l, keepLG fp ids e'.get l = keepL fp ids e' l := by
    intro fp ids l
    induction l with
    | nil => rfl
    | cons x l ih =>
      obtain ⟨a, o, g⟩ := x
      simp only [keepLG, keepL, ih]
      cases o <;> simp only [evalG_eq] <;> rfl
  simp only [keepG, keepI, h1, h2]; rfl

def skipG (call : CallI) (g : Nat → Option AVal) : IOp → Bool
  | .call f _ => call.pure f
  | .callv x _ => pureV call (x.evalG g)
  | _ => false
theorem skipG_eq (call : CallI) (e : Env) (o : IOp) : skipG call e.get o = skipI call e o := by cases o <;> simp only [skipG, skipI, evalG_eq]
noncomputable def itemsF (call : CallI) (lo : Nat) : List Item → FEnv → AHeap → Option (FEnv × AHeap)
  | [], t, H => some (t, H)
  | x :: l, t, H => match itemF call lo x t H with
    | some (t', H') => match skipG call t.get x.op || (keepG H' x.op x.re t.get t'.get || reOkF lo x.dst t H t' H' x.re) with
      | true => itemsF call lo l t' H'
      | false => none
    | none => none

noncomputable def initF : Nat → List AVal → FEnv → FEnv
  | _, [], t => t
  | k, v :: l, t => initF (k + 1) l (t.put k v)

noncomputable def resF (t : FEnv) (H : AHeap) : List IRes → Option (List AVal)
  | [] => some []
  | .t n :: l => match t.get n, resF t H l with
    | some v, some vs => some (v :: vs)
    | _, _ => none
  | .c n k :: l => match t.get n with
    | some p => match loadV H k p, resF t H l with
      | some v, some vs => some (v :: vs)
      | _, _ => none
    | none => none

noncomputable def bodyF (ex : Nat → ICode → FEnv → AHeap → Option (AExit × FEnv × AHeap)) (fn : IFunc) (lo : Nat) (args : List AVal) (H : AHeap) : Option (AVal × AHeap) :=
  if args.length = fn.np then
    match ex lo fn.body (initF 0 args .e) H with
    | some (.exit _, _, _) => none
    | some (_, t, H') => match resF t H' fn.res with
      | some vs => some (tupI vs, H')
      | none => none
    | none => none
  else none

noncomputable def tabFB (T : Trie IFunc) (G : AHeap) (ex : Nat → ICode → FEnv → AHeap → Option (AExit × FEnv × AHeap)) (lo : Nat) (g : FuncId) (args : List AVal) (H : AHeap) : Option (AVal × AHeap) := match T.get g with
  | some fn => match fn.mode with
    | 0 => bodyF ex fn lo args H
    | 1 => bodyF ex fn H.next args H
    | 2 => match mapO (snapV H 16) args with
      | some args' => match bodyF ex fn G.next args' G with
        | some (v, H1) => match frzV H1 G.next 16 v with
          | some v' => some (v', H)
          | none => none
        | none => none
      | none => none
    | 3 => match bodyF ex fn H.next args H with
      | some (v, _) => if below H.next v then some (v, H) else none
      | none => none
    | _ => cloneB fn.body args H
  | none => none
noncomputable def tabF (T : Trie IFunc) (G : AHeap) (ex : Nat → ICode → FEnv → AHeap → Option (AExit × FEnv × AHeap)) (lo : Nat) : CallI := ⟨tabFB T G ex lo, fun g => match T.get g with
  | some fn => match fn.mode with
    | 0 => false
    | _ => true
  | none => false⟩

/-- Every function is done in the heap that there is; nothing is dropped. -/
noncomputable def execF (T : Trie IFunc) (G : AHeap) : Nat → Nat → ICode → FEnv → AHeap → Option (AExit × FEnv × AHeap)
  | 0, _, _, _, _ => none
  | f + 1, lo, c, t, H =>
    match c with
    | .skip => some (.normal, t, H)
    | .region items kill => match itemsF (tabF T G (execF T G f) lo) lo items t H with
      | some (t', H') => some (.normal, killF t' kill, H')
      | none => none
    | .seq a b => match execF T G f lo a t H with
      | some (.normal, t', H') => execF T G f lo b t' H'
      | r => r
    | .cond x a b => match x.evalG t.get with
      | some (.b true) => execF T G f lo a t H
      | some (.b false) => execF T G f lo b t H
      | _ => none
    | .block id b => match execF T G f lo b t H with
      | some (.exit id', t', H') => if id' = id then some (.normal, t', H') else some (.exit id', t', H')
      | r => r
    | .loop b => match execF T G f lo b t H with
      | some (.normal, t', H') => execF T G f lo (.loop b) t' H'
      | r => r
    | .exit id => some (.exit id, t, H)
    | .ret => some (.ret, t, H)

noncomputable def callF (T : Trie IFunc) (G : AHeap) (f : Nat) (lo : Nat) : CallI := tabF T G (execF T G f) lo

/-! ### It is the interpreter's -/
def EqE (e : Env) (t : FEnv) : Prop := e.get = t.get

theorem EqE.put {e : Env} {t : FEnv} (h : EqE e t) (n : Nat) (v : AVal) : EqE (e.put n v) (t.put n v) := by
  funext s
  rw [Env.get_put, FEnv.put, Trie.get_put _ _ _ _ _ (Nat.lt_succ_self n), h]
theorem EqE.putD {e : Env} {t : FEnv} (h : EqE e t) (d : Option Nat) (v : AVal) : EqE (putD e d v) (putF t d v) := by
  cases d with
  | none => exact h
  | some n => exact h.put n v

theorem EqE.kill : ∀ (l : List Nat) {e : Env} {t : FEnv}, EqE e t → EqE (e.kill l) (killF t l) := by
  intro l
  induction l with
  | nil => intro e t h; exact h
  | cons n l ih =>
    intro e t h
    refine ih (e := e.del n) (t := Trie.put none (n + 1) t n) ?_
    funext s
    rw [Env.get_del, Trie.get_put _ _ _ _ _ (Nat.lt_succ_self n), h]

theorem EqE.wanted {e : Env} {t : FEnv} (h : EqE e t) (g : Option (Nat × Bool)) : wantedI e g = wantedF t g := by
  cases g with
  | none => rfl
  | some x => obtain ⟨n, w⟩ := x; have h : e.get = t.get := h; simp only [wantedI, wantedF, h]; rfl

theorem EqE.op {e : Env} {t : FEnv} (h : EqE e t) (call : CallI) (lo : Nat) (o : IOp) (H : AHeap) : opI call lo o e H = opF call lo o t H := by
  unfold EqE at h
  cases o <;> simp only [opI, opF] <;> first
    | (rw [← h, evalsG_eq]; done)
    | (rw [← h, evalsG_eq]; rfl)
    | (rw [← h, evalG_eq, evalsG_eq]; rfl)
    | (rw [← h, aopG_eq])

theorem EqE.item {e : Env} {t : FEnv} (h : EqE e t) (call : CallI) (lo : Nat) (x : Item) (H : AHeap) {t' : FEnv} {H' : AHeap} (hs : itemF call lo x t H = some (t', H')) : ∃ e', itemI call lo x e H = some (e', H') ∧ EqE e' t' := by
  unfold itemF at hs
  unfold itemI
  rw [h.wanted, h.op]
  split at hs
  · cases hs
  · rename_i hw; cases hs; exact ⟨_, by rw [hw], h.putD _ _⟩
  · rename_i hw
    split at hs
    · rename_i v H1 ho; cases hs; exact ⟨_, by rw [hw, ho], h.putD _ _⟩
    · rename_i H1 ho; cases hs; exact ⟨_, by rw [hw, ho], h.putD _ _⟩
    · cases hs

theorem EqE.reOk {e0 e : Env} {t0 t : FEnv} (h0 : EqE e0 t0) (h : EqE e t) (lo : Nat) (d : Option Nat) (H0 H : AHeap) : ∀ (l : List (Nat × IOp × Option (Nat × Bool))), reOk lo d e0 H0 e H l = reOkF lo d t0 H0 t H l := by
  intro l
  induction l with
  | nil => rfl
  | cons x l ih =>
    obtain ⟨n, o, g⟩ := x
    have he : e.get = t.get := h
    have he0 : e0.get = t0.get := h0
    simp only [RI.reOk, reOkF, ih, h.wanted]
    rw [← he, ← he0, aopG_eq, dynG_eq]
    rfl

theorem items_F {call call' : CallI} (hc : LeC call' call) {lo : Nat} : ∀ {xs : List Item} {e : Env} {t : FEnv} {H : AHeap} {t' : FEnv} {H' : AHeap}, EqE e t → itemsF call' lo xs t H = some (t', H') → ∃ e', itemsI call lo xs e H = some (e', H') ∧ EqE e' t' := by
  intro xs
  induction xs with
  | nil => intro e t H t' H' h hs; simp only [itemsF] at hs; cases hs; exact ⟨e, rfl, h⟩
  | cons x xs ih =>
    intro e t H t' H' h hs
    simp only [itemsF] at hs
    split at hs
    · rename_i t1 H1 hi
      split at hs
      · rename_i hre
        have heq0 := h
        obtain ⟨e1, h1, h2⟩ := h.item call' lo x H hi
        obtain ⟨e2, h3, h4⟩ := ih h2 hs
        refine ⟨e2, ?_, h4⟩
        simp only [itemsI]
        rw [itemI_mono hc h1]
        simp only
        have hre2 : (skipI call' e x.op || (keepI H1 x.op x.re e e1 || reOkF lo x.dst t H t1 H1 x.re)) = true := by
          rw [Bool.or_eq_true] at hre ⊢
          rcases hre with hre | hre
          · left
            rw [← skipG_eq, show e.get = t.get from heq0]; exact hre
          · right
            have he1 : e.get = t.get := heq0
            have he2 : e1.get = t1.get := h2
            rw [← keepG_eq, he1, he2]; exact hre
        rw [heq0.reOk h2, ← hc.skip, hre2]
        simpa using h3
      · cases hs
    · cases hs

theorem init_F : ∀ (args : List AVal) (k : Nat) (e : Env) (t : FEnv), EqE e t → (∀ s v, e.get s = some v → s < k) → ∃ e', EqE e' (initF k args t) ∧ ∀ s, e'.get s = if s < k then e.get s else (initEnv k args).get s := by
  intro args
  induction args with
  | nil => intro k e t h hk; exact ⟨e, h, fun s => by
      split
      · rfl
      · rename_i hs
        simp only [initEnv, Env.get]
        cases hg : e.get s with
        | none => rfl
        | some v => exact absurd (hk s v hg) hs⟩
  | cons v args ih =>
    intro k e t h hk
    obtain ⟨e', h1, h2⟩ := ih (k + 1) (e.put k v) (t.put k v) (h.put k v) (fun s u hs => by
      rw [Env.get_put] at hs
      split at hs
      · omega
      · have := hk s u hs; omega)
    refine ⟨e', h1, fun s => ?_⟩
    rw [h2 s, Env.get_put]
    simp only [initEnv, Env.get]
    by_cases hs : s = k
    · subst hs; rw [if_pos (by omega), if_pos rfl, if_neg (by omega), if_pos rfl]
    · by_cases hlt : s < k
      · rw [if_pos (by omega), if_neg hs, if_pos hlt]
      · rw [if_neg (by omega), if_neg hlt, if_neg (by omega)]

theorem init_E (args : List AVal) : EqE (initEnv 0 args) (initF 0 args .e) := by
  obtain ⟨e', h1, h2⟩ := init_F args 0 [] .e (by funext s; rfl) (fun s v h => by simp [Env.get] at h)
  unfold EqE at *
  rw [← h1]
  funext s
  rw [h2 s, if_neg (by omega)]

theorem res_F {e : Env} {t : FEnv} (h : EqE e t) (H : AHeap) : ∀ l, resI e H l = resF t H l := by
  intro l
  have he : e.get = t.get := h
  induction l with
  | nil => rfl
  | cons x l ih =>
    cases x with
    | t n => simp only [resI, resF, he, ih]; rfl
    | c n k => simp only [resI, resF, he, ih]; rfl

theorem body_F {x : ExI} {x' : Nat → ICode → FEnv → AHeap → Option (AExit × FEnv × AHeap)} (hx : ∀ lo c e t H y t' H', EqE e t → x' lo c t H = some (y, t', H') → ∃ e', x lo c e H = some (y, e', H') ∧ EqE e' t') {fn : IFunc} {lo : Nat} {args : List AVal} {H : AHeap} {r : AVal × AHeap}
    (h : bodyF x' fn lo args H = some r) : bodyI x fn lo args H = some r := by
  unfold bodyF at h
  unfold bodyI
  split at h
  · rename_i hl
    rw [if_pos hl]
    split at h
    · cases h
    · rename_i y t' H' hne he
      obtain ⟨e', h1, h2⟩ := hx _ _ _ _ _ _ _ _ (init_E args) he
      rw [h1]
      cases y with
      | exit id => exact (hne id rfl).elim
      | normal => simp only; rw [res_F h2]; exact h
      | ret => simp only; rw [res_F h2]; exact h
    · cases h
  · cases h

theorem exec_F {T : Trie IFunc} {IP : FuncId → Option IFunc} (hT : ∀ f, T.get f = IP f) {G : AHeap} : ∀ (f lo : Nat) (c : ICode) (e : Env) (t : FEnv) (H : AHeap) (y : AExit) (t' : FEnv) (H' : AHeap), EqE e t → execF T G f lo c t H = some (y, t', H') →
    ∃ e', exec IP G f lo c e H = some (y, e', H') ∧ EqE e' t' := by
  intro f
  induction f with
  | zero => intro lo c e t H y t' H' _ h; simp [execF] at h
  | succ f ih =>
    intro lo c e t H y t' H' heq h
    cases c <;> rw [exec]
    case skip => simp only [execF] at h; cases h; exact ⟨e, rfl, heq⟩
    case region items kill =>
      · simp only [execF] at h
        split at h
        · rename_i t1 H1 hi
          cases h
          have hle : LeC (tabF T G (execF T G f) lo) (callI (exec IP G f) IP G lo) := by
            refine ⟨?_, ?_⟩
            intro g args H r hr
            simp only [tabF, tabFB] at hr
            split at hr
            · rename_i fn hg
              simp only [callI, callB]
              rw [← hT g, hg]
              simp only
              split at hr
              · rename_i hm
                simp only [hm]
                exact body_F ih hr
              · rename_i hm
                simp only [hm]
                exact body_F ih hr
              · rename_i hm
                simp only [hm]
                split at hr
                · rename_i args' ha
                  split at hr
                  · rename_i v H1 hb
                    split at hr
                    · rename_i v' hfz
                      cases hr
                      rw [ha]
                      simp only [body_F ih hb, hfz]
                    · cases hr
                  · cases hr
                · cases hr
              · rename_i hm
                simp only [hm]
                split at hr
                · rename_i v H1 hb
                  rw [body_F ih hb]
                  exact hr
                · cases hr
              · rename_i m hm0 hm1 hm2 hm3
                obtain ⟨k, hk⟩ : ∃ k, fn.mode = k + 4 := ⟨fn.mode - 4, by have a0 : ¬ fn.mode = 0 := hm0; have a1 : ¬ fn.mode = 1 := hm1; have a2 : ¬ fn.mode = 2 := hm2; have a3 : ¬ fn.mode = 3 := hm3; omega⟩
                rw [hk]
                exact hr
            · cases hr
            funext g
            simp only [tabF, callI, pureB]
            rw [← hT g]
            rfl
          obtain ⟨e1, h1, h2⟩ := items_F hle heq hi
          rw [h1]
          exact ⟨_, rfl, h2.kill kill⟩
        · cases h
    case seq a b =>
      simp only [execF] at h
      split at h
      · rename_i t1 H1 ha
        obtain ⟨e1, h1, h2⟩ := ih _ _ _ _ _ _ _ _ heq ha
        rw [h1]; exact ih _ _ _ _ _ _ _ _ h2 h
      · rename_i hne
        obtain ⟨e1, h1, h2⟩ := ih _ _ _ _ _ _ _ _ heq h
        rw [h1]
        cases y with
        | normal => exact (hne _ _ h).elim
        | exit id => exact ⟨e1, rfl, h2⟩
        | ret => exact ⟨e1, rfl, h2⟩
    case cond c a b =>
      simp only [execF] at h
      have he : e.get = t.get := heq
      rw [← he, evalG_eq] at h
      split at h
      · rename_i hv; rw [hv]; exact ih _ _ _ _ _ _ _ _ heq h
      · rename_i hv; rw [hv]; exact ih _ _ _ _ _ _ _ _ heq h
      · cases h
    case block id b =>
      simp only [execF] at h
      split at h
      · rename_i id' t1 H1 hb
        obtain ⟨e1, h1, h2⟩ := ih _ _ _ _ _ _ _ _ heq hb
        rw [h1]
        simp only
        split at h
        · rename_i hid; cases h; exact ⟨e1, by rw [if_pos hid], h2⟩
        · rename_i hid; cases h; exact ⟨e1, by rw [if_neg hid], h2⟩
      · rename_i hne
        obtain ⟨e1, h1, h2⟩ := ih _ _ _ _ _ _ _ _ heq h
        rw [h1]
        cases y with
        | normal => exact ⟨e1, rfl, h2⟩
        | exit id => exact (hne _ _ _ h).elim
        | ret => exact ⟨e1, rfl, h2⟩
    case loop b =>
      simp only [execF] at h
      split at h
      · rename_i t1 H1 ha
        obtain ⟨e1, h1, h2⟩ := ih _ _ _ _ _ _ _ _ heq ha
        rw [h1]; exact ih _ _ _ _ _ _ _ _ h2 h
      · rename_i hne
        obtain ⟨e1, h1, h2⟩ := ih _ _ _ _ _ _ _ _ heq h
        rw [h1]
        cases y with
        | normal => exact (hne _ _ h).elim
        | exit id => exact ⟨e1, rfl, h2⟩
        | ret => exact ⟨e1, rfl, h2⟩
    case exit id => simp only [execF] at h; cases h; exact ⟨e, rfl, heq⟩
    case ret => simp only [execF] at h; cases h; exact ⟨e, rfl, heq⟩

theorem call_F {T : Trie IFunc} {IP : FuncId → Option IFunc} (hT : ∀ f, T.get f = IP f) {G : AHeap} {f lo : Nat} {g : FuncId} {args : List AVal} {H : AHeap} {r : AVal × AHeap} (h : callF T G f lo g args H = some r) : acall IP G f lo g args H = some r := by
  simp only [callF, tabF, tabFB] at h
  simp only [acall, callI, callB]
  split at h
  · rename_i fn hg
    rw [← hT g, hg]
    simp only
    split at h
    · rename_i hm
      simp only [hm]
      exact body_F (exec_F hT f) h
    · rename_i hm
      simp only [hm]
      exact body_F (exec_F hT f) h
    · rename_i hm
      simp only [hm]
      split at h
      · rename_i args' ha
        split at h
        · rename_i v H1 hb
          split at h
          · rename_i v' hfz
            cases h
            rw [ha]
            simp only [body_F (exec_F hT f) hb, hfz]
          · cases h
        · cases h
      · cases h
    · rename_i hm
      simp only [hm]
      split at h
      · rename_i v H1 hb
        rw [body_F (exec_F hT f) hb]
        exact h
      · cases h
    · rename_i m hm0 hm1 hm2 hm3
      obtain ⟨k, hk⟩ : ∃ k, fn.mode = k + 4 := ⟨fn.mode - 4, by have a0 : ¬ fn.mode = 0 := hm0; have a1 : ¬ fn.mode = 1 := hm1; have a2 : ¬ fn.mode = 2 := hm2; have a3 : ¬ fn.mode = 3 := hm3; omega⟩
      rw [hk]
      exact h
  · cases h

/-! ### The same by the recursors themselves: the kernel runs these -/
noncomputable def bindO {α β : Type} (o : Option α) (k : α → Option β) : Option β := @Option.rec α (fun _ => Option β) none k o
theorem bindO_eq {α β : Type} (o : Option α) (k : α → Option β) : bindO o k = match o with | some a => k a | none => none := by cases o <;> rfl

noncomputable def evalK (t : FEnv) (x : Opd) : Option AVal := @Opd.rec (fun _ => Option AVal) (fun n => t.get n) (fun v => some v) (fun n => some (.p n 0)) (fun n => some (.fn (.func n) [] [])) x
theorem evalK_eq (t : FEnv) (x : Opd) : evalK t x = x.evalG t.get := by cases x <;> rfl

noncomputable def evalsK (t : FEnv) (l : List Opd) : Option (List AVal) := @List.rec Opd (fun _ => Option (List AVal)) (some []) (fun x _ ih => bindO (evalK t x) fun v => bindO ih fun vs => some (v :: vs)) l
theorem evalsK_eq (t : FEnv) (l : List Opd) : evalsK t l = evalsG t.get l := by
  induction l with
  | nil => rfl
  | cons x l ih =>
    show (bindO (evalK t x) fun v => bindO (evalsK t l) fun vs => some (v :: vs)) = _
    rw [ih, evalK_eq]
    simp only [bindO_eq, evalsG]
    rcases x.evalG t.get with _ | v
    · rfl
    · rcases evalsG t.get l with _ | vs <;> rfl

noncomputable def wantedK (t : FEnv) (g : Option (Nat × Bool)) : Option Bool := @Option.rec (Nat × Bool) (fun _ => Option Bool) (some true) (fun x => bindO (t.get x.1) fun v => match v with | .b b => some (b == x.2) | _ => some false) g
theorem wantedK_eq (t : FEnv) (g : Option (Nat × Bool)) : wantedK t g = wantedF t g := by
  cases g with
  | none => rfl
  | some x =>
    obtain ⟨n, w⟩ := x
    show (bindO (t.get n) fun v => match v with | .b b => some (b == w) | _ => some false) = _
    simp only [wantedF, bindO_eq]
    rcases t.get n with _ | v
    · rfl
    · cases v <;> rfl

noncomputable def putK (t : FEnv) (d : Option Nat) (v : AVal) : FEnv := @Option.rec Nat (fun _ => FEnv) t (fun n => Trie.put (some v) (Nat.succ n) t n) d
theorem putK_eq (t : FEnv) (d : Option Nat) (v : AVal) : putK t d v = putF t d v := by cases d <;> rfl

noncomputable def callOpK (call : FuncId → List AVal → AHeap → Option (AVal × AHeap)) (t : FEnv) (H : AHeap) (f : FuncId) (args : List Opd) : Option (Option AVal × AHeap) := bindO (evalsK t args) fun vs => bindO (call f vs H) fun r => some (some r.1, r.2)
noncomputable def callvOpK (call : FuncId → List AVal → AHeap → Option (AVal × AHeap)) (t : FEnv) (H : AHeap) (x : Opd) (args : List Opd) : Option (Option AVal × AHeap) := bindO (evalK t x) fun v => match v with
  | .fn (.func f) fst cap => bindO (evalsK t args) fun vs => bindO (call f (fst ++ vs ++ cap) H) fun r => some (some r.1, r.2)
  | _ => none
noncomputable def tblGetK (l : List (Nat × FuncId)) (k : Nat) : Option FuncId := @List.rec (Nat × FuncId) (fun _ => Option FuncId) none (fun p _ ih => @Bool.rec (fun _ => Option FuncId) ih (some p.2) (Nat.beq p.1 k)) l
theorem tblGetK_eq (l : List (Nat × FuncId)) (k : Nat) : tblGetK l k = tblGet l k := by
  induction l with
  | nil => rfl
  | cons p l ih =>
    obtain ⟨a, f⟩ := p
    show @Bool.rec (fun _ => Option FuncId) (tblGetK l k) (some f) (Nat.beq a k) = _
    simp only [tblGet, ih]
    by_cases h : a = k
    · subst h; rw [if_pos rfl, show Nat.beq a a = true from Nat.beq_refl a]
    · rw [if_neg h]
      cases hb : Nat.beq a k with
      | false => rfl
      | true => exact absurd (Nat.eq_of_beq_eq_true hb) h
noncomputable def invOpK (call : FuncId → List AVal → AHeap → Option (AVal × AHeap)) (t : FEnv) (H : AHeap) (x : Opd) (tbl : List (Nat × FuncId)) (args : List Opd) : Option (Option AVal × AHeap) := bindO (evalK t x) fun v => match v with
  | .ifc ty v => bindO (tblGetK tbl ty) fun f => bindO (evalsK t args) fun vs => bindO (call f (v :: vs) H) fun r => some (some r.1, r.2)
  | _ => none
noncomputable def D_appz (lo : Nat) (esz : Nat) (bytes : Nat) (z : List AVal) (x : Opd) (y : Opd) (t : FEnv) (H : AHeap) : Option (Option AVal × AHeap) :=
  match evalK t x, evalK t y with
    | some a, some (.i _ k) => (appzV lo H esz bytes z a k).map fun (v, H') => (some v, H')
    | _, _ => none
theorem D_appz_eq' (lo : Nat) (esz : Nat) (bytes : Nat) (z : List AVal) (x : Opd) (y : Opd) (t : FEnv) (H : AHeap) : D_appz lo esz bytes z x y t H = aopG lo (.appz esz bytes z x y) t.get H := by
  simp only [D_appz, aopG, evalK_eq]
noncomputable def movK (t : FEnv) (H : AHeap) (x : Opd) : Option (Option AVal × AHeap) := bindO (evalK t x) fun v => some (some v, H)
noncomputable def extK (t : FEnv) (H : AHeap) (x : Opd) (k : Nat) : Option (Option AVal × AHeap) := bindO (evalK t x) fun v => bindO (extV k v) fun u => some (some u, H)
noncomputable def loadK (t : FEnv) (H : AHeap) (n : Option Nat) (x : Opd) : Option (Option AVal × AHeap) := bindO (evalK t x) fun v => bindO (loadV H n v) fun u => some (some u, H)
noncomputable def binK (t : FEnv) (H : AHeap) (op : BinOp) (x y : Opd) : Option (Option AVal × AHeap) := bindO (evalK t x) fun v => bindO (evalK t y) fun u => bindO (binV op v u) fun u => some (some u, H)

noncomputable def pureK (H : AHeap) (v : Option AVal) : Option (Option AVal × AHeap) := v.map fun v => (some v, H)
noncomputable def ltK {α : Type} (m n : Nat) (a b : α) : α := @Bool.rec (fun _ => α) b a (Nat.ble (Nat.succ m) n)
theorem ltK_eq {α : Type} (m n : Nat) (a b : α) : ltK m n a b = if m < n then a else b := by
  unfold ltK
  by_cases h : m < n
  · rw [if_pos h, show Nat.ble (Nat.succ m) n = true from Nat.ble_eq.mpr h]
  · rw [if_neg h]
    cases hb : Nat.ble (Nat.succ m) n with
    | false => rfl
    | true => exact absurd (Nat.ble_eq.mp hb) h
noncomputable def D_pick (lo : Nat) (c : Opd) (a : Opd) (b : Opd) (t : FEnv) (H : AHeap) : Option (Option AVal × AHeap) :=
  match evalK t c with
    | some (.b true) => pureK H (evalK t a)
    | some (.b false) => pureK H (evalK t b)
    | _ => none
theorem D_pick_eq (lo : Nat) (c : Opd) (a : Opd) (b : Opd) (t : FEnv) (H : AHeap) : D_pick lo c a b t H = aopG lo (.pick c a b) t.get H := by
  simp only [D_pick, aopG, evalK_eq, evalsK_eq, pureK]
noncomputable def D_eqB (lo : Nat) (neg : Bool) (x : Opd) (y : Opd) (t : FEnv) (H : AHeap) : Option (Option AVal × AHeap) :=
  match evalK t x, evalK t y with
    | some (.b a), some (.b b) => pureK H (some (.b (if neg then !(a == b) else a == b)))
    | _, _ => none
theorem D_eqB_eq (lo : Nat) (neg : Bool) (x : Opd) (y : Opd) (t : FEnv) (H : AHeap) : D_eqB lo neg x y t H = aopG lo (.eqB neg x y) t.get H := by
  simp only [D_eqB, aopG, evalK_eq, evalsK_eq, pureK]
noncomputable def D_eqNil (lo : Nat) (k : Nat) (neg : Bool) (x : Opd) (y : Opd) (t : FEnv) (H : AHeap) : Option (Option AVal × AHeap) :=
  match evalK t x, evalK t y with
    | some a, some b => pureK H ((eqNilV k a b).map fun r => .b (if neg then !r else r))
    | _, _ => none
theorem D_eqNil_eq (lo : Nat) (k : Nat) (neg : Bool) (x : Opd) (y : Opd) (t : FEnv) (H : AHeap) : D_eqNil lo k neg x y t H = aopG lo (.eqNil k neg x y) t.get H := by
  simp only [D_eqNil, aopG, evalK_eq, evalsK_eq, pureK]
noncomputable def D_eqAg (lo : Nat) (ks : List Nat) (neg : Bool) (x : Opd) (y : Opd) (t : FEnv) (H : AHeap) : Option (Option AVal × AHeap) :=
  match evalK t x, evalK t y with
    | some (.ag a), some (.ag b) => pureK H ((eqCells ks a b).map fun r => .b (if neg then !r else r))
    | _, _ => none
theorem D_eqAg_eq (lo : Nat) (ks : List Nat) (neg : Bool) (x : Opd) (y : Opd) (t : FEnv) (H : AHeap) : D_eqAg lo ks neg x y t H = aopG lo (.eqAg ks neg x y) t.get H := by
  simp only [D_eqAg, aopG, evalK_eq, evalsK_eq, pureK]
noncomputable def D_un (lo : Nat) (op : UnOp) (x : Opd) (t : FEnv) (H : AHeap) : Option (Option AVal × AHeap) :=
  pureK H ((evalK t x).bind (unV op))
theorem D_un_eq (lo : Nat) (op : UnOp) (x : Opd) (t : FEnv) (H : AHeap) : D_un lo op x t H = aopG lo (.un op x) t.get H := by
  simp only [D_un, aopG, evalK_eq, evalsK_eq, pureK]
noncomputable def D_conv (lo : Nat) (k : IntKind) (x : Opd) (t : FEnv) (H : AHeap) : Option (Option AVal × AHeap) :=
  match evalK t x with
    | some (.i _ n) => pureK H (some (.i k (wrapI k n)))
    | _ => none
theorem D_conv_eq (lo : Nat) (k : IntKind) (x : Opd) (t : FEnv) (H : AHeap) : D_conv lo k x t H = aopG lo (.conv k x) t.get H := by
  simp only [D_conv, aopG, evalK_eq, evalsK_eq, pureK]
noncomputable def D_same (lo : Nat) (x : Opd) (t : FEnv) (H : AHeap) : Option (Option AVal × AHeap) :=
  match evalK t x with
    | some (.s v) => pureK H (some (.s v))
    | _ => none
theorem D_same_eq (lo : Nat) (x : Opd) (t : FEnv) (H : AHeap) : D_same lo x t H = aopG lo (.same x) t.get H := by
  simp only [D_same, aopG, evalK_eq, evalsK_eq, pureK]
noncomputable def D_alloc (lo : Nat) (z : List AVal) (t : FEnv) (H : AHeap) : Option (Option AVal × AHeap) :=
  some (some (.p H.next 0), H.push (.cells z 1 false))
theorem D_alloc_eq (lo : Nat) (z : List AVal) (t : FEnv) (H : AHeap) : D_alloc lo z t H = aopG lo (.alloc z) t.get H := by
  simp only [D_alloc, aopG, evalK_eq, evalsK_eq, pureK]
noncomputable def D_box (lo : Nat) (x : Opd) (t : FEnv) (H : AHeap) : Option (Option AVal × AHeap) :=
  match evalK t x with
    | some v => if v.tup = false then some (some (.p H.next 0), H.push (.cells v.cells 1 false)) else none
    | none => none
theorem D_box_eq (lo : Nat) (x : Opd) (t : FEnv) (H : AHeap) : D_box lo x t H = aopG lo (.box x) t.get H := by
  simp only [D_box, aopG, evalK_eq, evalsK_eq, pureK]
noncomputable def D_build (lo : Nat) (z : List AVal) (parts : List (Nat × Nat × Opd)) (t : FEnv) (H : AHeap) : Option (Option AVal × AHeap) :=
  match evalPartsG t.get parts with
    | some ps => pureK H ((fillA z ps).map .ag)
    | none => none
theorem D_build_eq (lo : Nat) (z : List AVal) (parts : List (Nat × Nat × Opd)) (t : FEnv) (H : AHeap) : D_build lo z parts t H = aopG lo (.build z parts) t.get H := by
  simp only [D_build, aopG, evalK_eq, evalsK_eq, pureK]
noncomputable def D_bsl (lo : Nat) (esz : Nat) (len : Nat) (z : List AVal) (parts : List (Nat × Nat × Opd)) (t : FEnv) (H : AHeap) : Option (Option AVal × AHeap) :=
  match evalPartsG t.get parts with
    | some ps => match fillA z ps with
      | some cs => some (some (.sl H.next 0 len (some len)), H.push (.cells cs esz false))
      | none => none
    | none => none
theorem D_bsl_eq (lo : Nat) (esz : Nat) (len : Nat) (z : List AVal) (parts : List (Nat × Nat × Opd)) (t : FEnv) (H : AHeap) : D_bsl lo esz len z parts t H = aopG lo (.bsl esz len z parts) t.get H := by
  simp only [D_bsl, aopG, evalK_eq, evalsK_eq, pureK]
noncomputable def D_store (lo : Nat) (n : Nat) (x : Opd) (v : Opd) (t : FEnv) (H : AHeap) : Option (Option AVal × AHeap) :=
  match evalK t x, evalK t v with
    | some a, some v => (storeV lo H n a v).map fun H' => (none, H')
    | _, _ => none
theorem D_store_eq (lo : Nat) (n : Nat) (x : Opd) (v : Opd) (t : FEnv) (H : AHeap) : D_store lo n x v t H = aopG lo (.store n x v) t.get H := by
  simp only [D_store, aopG, evalK_eq, evalsK_eq, pureK]
noncomputable def D_nck (lo : Nat) (x : Opd) (t : FEnv) (H : AHeap) : Option (Option AVal × AHeap) :=
  match evalK t x with
    | some (.p id off) => pureK H (some (.p id off))
    | some (.fn (.func f) a c) => pureK H (some (.fn (.func f) a c))
    | some (.ifc t v) => pureK H (some (.ifc t v))
    | some (.fp l) => pureK H (some (.fp l))
    | _ => none
theorem D_nck_eq (lo : Nat) (x : Opd) (t : FEnv) (H : AHeap) : D_nck lo x t H = aopG lo (.nck x) t.get H := by
  simp only [D_nck, aopG, evalK_eq, evalsK_eq, pureK]
noncomputable def D_off (lo : Nat) (x : Opd) (k : Nat) (t : FEnv) (H : AHeap) : Option (Option AVal × AHeap) :=
  pureK H ((evalK t x).bind (offV k))
theorem D_off_eq (lo : Nat) (x : Opd) (k : Nat) (t : FEnv) (H : AHeap) : D_off lo x k t H = aopG lo (.off x k) t.get H := by
  simp only [D_off, aopG, evalK_eq, evalsK_eq, pureK]
noncomputable def D_part (lo : Nat) (n : Option Nat) (x : Opd) (off : Nat) (t : FEnv) (H : AHeap) : Option (Option AVal × AHeap) :=
  pureK H ((evalK t x).bind (partV n off))
theorem D_part_eq (lo : Nat) (n : Option Nat) (x : Opd) (off : Nat) (t : FEnv) (H : AHeap) : D_part lo n x off t H = aopG lo (.part n x off) t.get H := by
  simp only [D_part, aopG, evalK_eq, evalsK_eq, pureK]
noncomputable def D_iaddr (lo : Nat) (esz : Nat) (x : Opd) (i : Opd) (t : FEnv) (H : AHeap) : Option (Option AVal × AHeap) :=
  match evalK t x, evalK t i with
    | some a, some b => pureK H (iaddrV esz a b)
    | _, _ => none
theorem D_iaddr_eq (lo : Nat) (esz : Nat) (x : Opd) (i : Opd) (t : FEnv) (H : AHeap) : D_iaddr lo esz x i t H = aopG lo (.iaddr esz x i) t.get H := by
  simp only [D_iaddr, aopG, evalK_eq, evalsK_eq, pureK]
noncomputable def D_iaddrA (lo : Nat) (esz : Nat) (len : Nat) (x : Opd) (i : Opd) (t : FEnv) (H : AHeap) : Option (Option AVal × AHeap) :=
  match evalK t x, evalK t i with
    | some a, some b => pureK H (iaddrAV esz len a b)
    | _, _ => none
theorem D_iaddrA_eq (lo : Nat) (esz : Nat) (len : Nat) (x : Opd) (i : Opd) (t : FEnv) (H : AHeap) : D_iaddrA lo esz len x i t H = aopG lo (.iaddrA esz len x i) t.get H := by
  simp only [D_iaddrA, aopG, evalK_eq, evalsK_eq, pureK]
noncomputable def D_idxS (lo : Nat) (x : Opd) (i : Opd) (t : FEnv) (H : AHeap) : Option (Option AVal × AHeap) :=
  match evalK t x, evalK t i with
    | some a, some b => pureK H (idxSV a b)
    | _, _ => none
theorem D_idxS_eq (lo : Nat) (x : Opd) (i : Opd) (t : FEnv) (H : AHeap) : D_idxS lo x i t H = aopG lo (.idxS x i) t.get H := by
  simp only [D_idxS, aopG, evalK_eq, evalsK_eq, pureK]
noncomputable def D_idxA (lo : Nat) (n : Option Nat) (esz : Nat) (len : Nat) (x : Opd) (i : Opd) (t : FEnv) (H : AHeap) : Option (Option AVal × AHeap) :=
  match evalK t x, evalK t i with
    | some a, some b => pureK H (idxAV n esz len a b)
    | _, _ => none
theorem D_idxA_eq (lo : Nat) (n : Option Nat) (esz : Nat) (len : Nat) (x : Opd) (i : Opd) (t : FEnv) (H : AHeap) : D_idxA lo n esz len x i t H = aopG lo (.idxA n esz len x i) t.get H := by
  simp only [D_idxA, aopG, evalK_eq, evalsK_eq, pureK]
noncomputable def D_mkf (lo : Nat) (f : FuncId) (fst : List Opd) (cap : List Opd) (t : FEnv) (H : AHeap) : Option (Option AVal × AHeap) :=
  match evalsK t fst, evalsK t cap with
    | some a, some c => pureK H (some (.fn (.func f) a c))
    | _, _ => none
theorem D_mkf_eq (lo : Nat) (f : FuncId) (fst : List Opd) (cap : List Opd) (t : FEnv) (H : AHeap) : D_mkf lo f fst cap t H = aopG lo (.mkf f fst cap) t.get H := by
  simp only [D_mkf, aopG, evalK_eq, evalsK_eq, pureK]
noncomputable def D_mksl (lo : Nat) (esz : Nat) (bytes : Nat) (z : List AVal) (l : Opd) (c : Opd) (t : FEnv) (H : AHeap) : Option (Option AVal × AHeap) :=
  match evalK t l, evalK t c with
    | some (.i _ n), some (.i _ m) =>
      if 0 ≤ n ∧ n ≤ m ∧ bytes * m ≤ 281474976710656 ∧ 0 < bytes then some (some (.sl H.next 0 n.toNat (some m.toNat)), H.push (.cells (repCells z m.toNat) esz false)) else none
    | _, _ => none
theorem D_mksl_eq (lo : Nat) (esz : Nat) (bytes : Nat) (z : List AVal) (l : Opd) (c : Opd) (t : FEnv) (H : AHeap) : D_mksl lo esz bytes z l c t H = aopG lo (.mksl esz bytes z l c) t.get H := by
  simp only [D_mksl, aopG, evalK_eq, evalsK_eq, pureK]
noncomputable def D_slS (lo : Nat) (x : Opd) (l0 : Option Opd) (hi : Option Opd) (t : FEnv) (H : AHeap) : Option (Option AVal × AHeap) :=
  match evalK t x, optIG t.get l0, optIG t.get hi with
    | some (.s v), some l, some h => pureK H (slSV v l h)
    | _, _, _ => none
theorem D_slS_eq (lo : Nat) (x : Opd) (l0 : Option Opd) (hi : Option Opd) (t : FEnv) (H : AHeap) : D_slS lo x l0 hi t H = aopG lo (.slS x l0 hi) t.get H := by
  simp only [D_slS, aopG, evalK_eq, evalsK_eq, pureK]
noncomputable def D_sl (lo : Nat) (esz : Nat) (x : Opd) (l0 : Option Opd) (hi : Option Opd) (mx : Option Opd) (t : FEnv) (H : AHeap) : Option (Option AVal × AHeap) :=
  match evalK t x, optIG t.get l0, optIG t.get hi, optIG t.get mx with
    | some v, some l, some h, some m => (slV esz H v l h m).map fun (v, H') => (some v, H')
    | _, _, _, _ => none
theorem D_sl_eq (lo : Nat) (esz : Nat) (x : Opd) (l0 : Option Opd) (hi : Option Opd) (mx : Option Opd) (t : FEnv) (H : AHeap) : D_sl lo esz x l0 hi mx t H = aopG lo (.sl esz x l0 hi mx) t.get H := by
  simp only [D_sl, aopG, evalK_eq, evalsK_eq, pureK]
noncomputable def D_slq (lo : Nat) (esz : Nat) (x : Opd) (l0 : Option Opd) (hi : Option Opd) (mx : Option Opd) (t : FEnv) (H : AHeap) : Option (Option AVal × AHeap) :=
  match evalK t x, optIG t.get l0, optIG t.get hi, optIG t.get mx with
    | some v, some l, some h, some m => match slV esz H v l h m with
      | some (v', H') => if H'.next = H.next ∧ (isFs v = true → m.isSome ∨ l.getD 0 = 0 ∨ isFs0 v' = false) then some (some v', H) else if dynS v l h m = true then some (some v', H') else none
      | none => none
    | _, _, _, _ => none
theorem D_slq_eq (lo : Nat) (esz : Nat) (x : Opd) (l0 : Option Opd) (hi : Option Opd) (mx : Option Opd) (t : FEnv) (H : AHeap) : D_slq lo esz x l0 hi mx t H = aopG lo (.slq esz x l0 hi mx) t.get H := by
  simp only [D_slq, aopG, evalK_eq, evalsK_eq, pureK]
noncomputable def D_lenk (lo : Nat) (k : Nat) (x : Opd) (t : FEnv) (H : AHeap) : Option (Option AVal × AHeap) :=
  pureK H (((evalK t x).bind (lenV H k)).map fun (m : Nat) => AVal.i .i64 (m : Int))
theorem D_lenk_eq (lo : Nat) (k : Nat) (x : Opd) (t : FEnv) (H : AHeap) : D_lenk lo k x t H = aopG lo (.lenk k x) t.get H := by
  simp only [D_lenk, aopG, evalK_eq, evalsK_eq, pureK]
noncomputable def D_app (lo : Nat) (esz : Nat) (bytes : Nat) (x : Opd) (y : Opd) (t : FEnv) (H : AHeap) : Option (Option AVal × AHeap) :=
  match evalK t x, evalK t y with
    | some a, some b => (appV lo H esz bytes a b).map fun (v, H') => (some v, H')
    | _, _ => none
theorem D_app_eq (lo : Nat) (esz : Nat) (bytes : Nat) (x : Opd) (y : Opd) (t : FEnv) (H : AHeap) : D_app lo esz bytes x y t H = aopG lo (.app esz bytes x y) t.get H := by
  simp only [D_app, aopG, evalK_eq, evalsK_eq, pureK]
noncomputable def D_mm (lo : Nat) (mx : Bool) (x : Opd) (l : List Opd) (t : FEnv) (H : AHeap) : Option (Option AVal × AHeap) :=
  match evalK t x, evalsK t l with
    | some a, some l => pureK H (mmV mx a l)
    | _, _ => none
theorem D_mm_eq (lo : Nat) (mx : Bool) (x : Opd) (l : List Opd) (t : FEnv) (H : AHeap) : D_mm lo mx x l t H = aopG lo (.mm mx x l) t.get H := by
  simp only [D_mm, aopG, evalK_eq, evalsK_eq, pureK]
noncomputable def D_iface (lo : Nat) (ty : TypeId) (x : Opd) (t : FEnv) (H : AHeap) : Option (Option AVal × AHeap) :=
  pureK H ((evalK t x).map (.ifc ty))
theorem D_iface_eq (lo : Nat) (ty : TypeId) (x : Opd) (t : FEnv) (H : AHeap) : D_iface lo ty x t H = aopG lo (.iface ty x) t.get H := by
  simp only [D_iface, aopG, evalK_eq, evalsK_eq, pureK]
noncomputable def D_s2b (lo : Nat) (x : Opd) (t : FEnv) (H : AHeap) : Option (Option AVal × AHeap) :=
  match evalK t x with
    | some (.s v) => some (some (.sl H.next 0 v.length none), H.push (.cells (v.map fun b => .i .u8 b.toNat) 1 false))
    | _ => none
theorem D_s2b_eq (lo : Nat) (x : Opd) (t : FEnv) (H : AHeap) : D_s2b lo x t H = aopG lo (.s2b x) t.get H := by
  simp only [D_s2b, aopG, evalK_eq, evalsK_eq, pureK]
noncomputable def D_mkmap (lo : Nat)  (t : FEnv) (H : AHeap) : Option (Option AVal × AHeap) :=
  some (some (.m H.next), H.push (.map []))
theorem D_mkmap_eq (lo : Nat)  (t : FEnv) (H : AHeap) : D_mkmap lo  t H = aopG lo (.mkmap ) t.get H := by
  simp only [D_mkmap, aopG, evalK_eq, evalsK_eq, pureK]
noncomputable def D_mapup (lo : Nat) (ag : Bool) (ks : List Nat) (x : Opd) (k : Opd) (v : Opd) (t : FEnv) (H : AHeap) : Option (Option AVal × AHeap) :=
  match evalK t x, evalK t k, evalK t v with
    | some m, some k, some v => (mapupV lo H ag ks k v m).map fun H' => (none, H')
    | _, _, _ => none
theorem D_mapup_eq (lo : Nat) (ag : Bool) (ks : List Nat) (x : Opd) (k : Opd) (v : Opd) (t : FEnv) (H : AHeap) : D_mapup lo ag ks x k v t H = aopG lo (.mapup ag ks x k v) t.get H := by
  simp only [D_mapup, aopG, evalK_eq, evalsK_eq, pureK]
noncomputable def D_look (lo : Nat) (ag : Bool) (ks : List Nat) (z : AVal) (okf : Bool) (x : Opd) (k : Opd) (t : FEnv) (H : AHeap) : Option (Option AVal × AHeap) :=
  match evalK t x, evalK t k with
    | some m, some k => pureK H (lookV H ag ks z okf m k)
    | _, _ => none
theorem D_look_eq (lo : Nat) (ag : Bool) (ks : List Nat) (z : AVal) (okf : Bool) (x : Opd) (k : Opd) (t : FEnv) (H : AHeap) : D_look lo ag ks z okf x k t H = aopG lo (.look ag ks z okf x k) t.get H := by
  simp only [D_look, aopG, evalK_eq, evalsK_eq, pureK]
noncomputable def D_cpy (lo : Nat) (esz : Nat) (x : Opd) (y : Opd) (t : FEnv) (H : AHeap) : Option (Option AVal × AHeap) :=
  match evalK t x, evalK t y with
    | some a, some b => (cpyV lo H esz a b).map fun (v, H') => (some v, H')
    | _, _ => none
theorem D_cpy_eq (lo : Nat) (esz : Nat) (x : Opd) (y : Opd) (t : FEnv) (H : AHeap) : D_cpy lo esz x y t H = aopG lo (.cpy esz x y) t.get H := by
  simp only [D_cpy, aopG, evalK_eq, evalsK_eq, pureK]
noncomputable def opK (call : FuncId → List AVal → AHeap → Option (AVal × AHeap)) (lo : Nat) (o : IOp) (t : FEnv) (H : AHeap) : Option (Option AVal × AHeap) :=
  @IOp.rec (fun _ => (FuncId → List AVal → AHeap → Option (AVal × AHeap)) → Nat → FEnv → AHeap → Option (Option AVal × AHeap))
    (fun x _ _ t H => movK t H x)
    (fun c a b _ lo t H => D_pick lo c a b t H)
    (fun op x y _ _ t H => binK t H op x y)
    (fun neg x y _ lo t H => D_eqB lo neg x y t H)
    (fun k neg x y _ lo t H => D_eqNil lo k neg x y t H)
    (fun ks neg x y _ lo t H => D_eqAg lo ks neg x y t H)
    (fun op x _ lo t H => D_un lo op x t H)
    (fun k x _ lo t H => D_conv lo k x t H)
    (fun x _ lo t H => D_same lo x t H)
    (fun z _ lo t H => D_alloc lo z t H)
    (fun x _ lo t H => D_box lo x t H)
    (fun z parts _ lo t H => D_build lo z parts t H)
    (fun esz len z parts _ lo t H => D_bsl lo esz len z parts t H)
    (fun n x _ _ t H => loadK t H n x)
    (fun n x v _ lo t H => D_store lo n x v t H)
    (fun x _ lo t H => D_nck lo x t H)
    (fun x k _ lo t H => D_off lo x k t H)
    (fun n x off _ lo t H => D_part lo n x off t H)
    (fun esz x i _ lo t H => D_iaddr lo esz x i t H)
    (fun esz len x i _ lo t H => D_iaddrA lo esz len x i t H)
    (fun x i _ lo t H => D_idxS lo x i t H)
    (fun n esz len x i _ lo t H => D_idxA lo n esz len x i t H)
    (fun x k _ _ t H => extK t H x k)
    (fun f fst cap _ lo t H => D_mkf lo f fst cap t H)
    (fun esz bytes z l c _ lo t H => D_mksl lo esz bytes z l c t H)
    (fun x l0 hi _ lo t H => D_slS lo x l0 hi t H)
    (fun esz x l0 hi mx _ lo t H => D_sl lo esz x l0 hi mx t H)
    (fun esz x l0 hi mx _ lo t H => D_slq lo esz x l0 hi mx t H)
    (fun k x _ lo t H => D_lenk lo k x t H)
    (fun esz bytes x y _ lo t H => D_app lo esz bytes x y t H)
    (fun mx x l _ lo t H => D_mm lo mx x l t H)
    (fun ty x _ lo t H => D_iface lo ty x t H)
    (fun x _ lo t H => D_s2b lo x t H)
    (fun _ _ _ _ => none)
    (fun _ lo t H => D_mkmap lo t H)
    (fun ag ks x k v _ lo t H => D_mapup lo ag ks x k v t H)
    (fun ag ks z ok x k _ lo t H => D_look lo ag ks z ok x k t H)
    (fun esz x y _ lo t H => D_cpy lo esz x y t H)
    (fun f args call _ t H => callOpK call t H f args)
    (fun x args call _ t H => callvOpK call t H x args)
    (fun esz bytes z x y _ lo t H => D_appz lo esz bytes z x y t H)
    (fun x tbl args call _ t H => invOpK call t H x tbl args) o call lo t H
theorem opK_eq (call : CallI) (lo : Nat) (o : IOp) (t : FEnv) (H : AHeap) : opK call.call lo o t H = opF call lo o t H := by
  cases o <;> simp only [opK, opF, D_pick_eq, D_eqB_eq, D_eqNil_eq, D_eqAg_eq, D_un_eq, D_conv_eq, D_same_eq, D_alloc_eq, D_box_eq, D_build_eq, D_bsl_eq, D_store_eq, D_nck_eq, D_off_eq, D_part_eq, D_iaddr_eq, D_iaddrA_eq, D_idxS_eq, D_idxA_eq, D_mkf_eq, D_mksl_eq, D_slS_eq, D_sl_eq, D_slq_eq, D_lenk_eq, D_app_eq, D_mm_eq, D_iface_eq, D_s2b_eq, D_mkmap_eq, D_mapup_eq, D_look_eq, D_cpy_eq, D_appz_eq']
  case bad => rfl
  case call f args =>
    simp only [callOpK, bindO_eq, evalsK_eq]
    rcases evalsG t.get args with _ | vs
    · rfl
    · simp only; rcases call f vs H with _ | ⟨v, H'⟩ <;> rfl
  case callv x args =>
    simp only [callvOpK, bindO_eq, evalsK_eq, evalK_eq]
    rcases x.evalG t.get with _ | v
    · rfl
    · cases v <;> try rfl
      case fn f a c =>
        cases f <;> try rfl
        case func f =>
          simp only
          rcases evalsG t.get args with _ | vs
          · rfl
          · simp only; rcases call f (a ++ vs ++ c) H with _ | ⟨v, H'⟩ <;> rfl
  case inv x tbl args =>
    simp only [invOpK, bindO_eq, evalsK_eq, evalK_eq, tblGetK_eq]
    rcases x.evalG t.get with _ | v
    · rfl
    · cases v <;> try rfl
      case ifc ty v =>
        simp only
        rcases tblGet tbl ty with _ | f
        · rfl
        · rcases evalsG t.get args with _ | vs
          · rfl
          · simp only; rcases call f (v :: vs) H with _ | ⟨v, H'⟩ <;> rfl
  case mov x =>
    simp only [movK, bindO_eq, evalK_eq, aopG]
    rcases x.evalG t.get with _ | v <;> rfl
  case ext x k =>
    simp only [extK, bindO_eq, evalK_eq, aopG]
    rcases x.evalG t.get with _ | v
    · rfl
    · simp only [Option.bind_some]; rcases extV k v with _ | u <;> rfl
  case load n x =>
    simp only [loadK, bindO_eq, evalK_eq, aopG]
    rcases x.evalG t.get with _ | v
    · rfl
    · simp only [Option.bind_some]; rcases loadV H n v with _ | u <;> rfl
  case bin op x y =>
    simp only [binK, bindO_eq, evalK_eq, aopG]
    rcases x.evalG t.get with _ | v
    · rfl
    · rcases y.evalG t.get with _ | u
      · rfl
      · simp only; rcases binV op v u with _ | u <;> rfl

noncomputable def itemK (call : FuncId → List AVal → AHeap → Option (AVal × AHeap)) (lo : Nat) (x : Item) (t : FEnv) (H : AHeap) : Option (FEnv × AHeap) :=
  bindO (wantedK t x.guard) fun b => @Bool.rec (fun _ => Option (FEnv × AHeap)) (some (putK t x.dst (.tu []), H))
    (bindO (opK call lo x.op t H) fun r => some (putK t x.dst (@Option.rec AVal (fun _ => AVal) (.tu []) (fun v => v) r.1), r.2)) b
theorem itemK_eq (call : CallI) (lo : Nat) (x : Item) (t : FEnv) (H : AHeap) : itemK call.call lo x t H = itemF call lo x t H := by
  simp only [itemK, itemF, bindO_eq, wantedK_eq, opK_eq, putK_eq]
  rcases wantedF t x.guard with _ | b
  · rfl
  · cases b
    · rfl
    · simp only
      rcases opF call lo x.op t H with _ | ⟨v, H'⟩
      · rfl
      · cases v <;> rfl

noncomputable def reK (pu : FuncId → Bool) (o : IOp) (lo : Nat) (d : Option Nat) (t0 : FEnv) (H0 : AHeap) (t : FEnv) (H : AHeap) (l : List (Nat × IOp × Option (Nat × Bool))) : Bool := @List.rec (Nat × IOp × Option (Nat × Bool)) (fun _ => Bool) true (fun _ _ _ => match o with | .call f _ => @Bool.rec (fun _ => Bool) (reOkF lo d t0 H0 t H l) true (pu f) | .callv x a => @Bool.rec (fun _ => Bool) (keepG H (.callv x a) l t0.get t.get || reOkF lo d t0 H0 t H l) true (pureV ⟨fun _ _ _ => none, pu⟩ (x.evalG t0.get)) | o => keepG H o l t0.get t.get || reOkF lo d t0 H0 t H l) l
theorem keepG_nil (H : AHeap) (o : IOp) (e e' : Nat → Option AVal) : (keepG H o [] e e' || true) = true := Bool.or_true _
theorem reK_eq (call : CallI) (o : IOp) (lo : Nat) (d : Option Nat) (t0 : FEnv) (H0 : AHeap) (t : FEnv) (H : AHeap) : ∀ l, reK call.pure o lo d t0 H0 t H l = (skipG call t0.get o || (keepG H o l t0.get t.get || reOkF lo d t0 H0 t H l)) := by
  intro l
  cases l with
  | nil => simp [reK, reOkF]
  | cons x l =>
    cases o <;> simp only [reK, skipG, Bool.false_or]
    case call f args => cases call.pure f <;> simp [keepG, touchG]
    case callv y args =>
      have : pureV ⟨fun _ _ _ => none, call.pure⟩ (y.evalG t0.get) = pureV call (y.evalG t0.get) := rfl
      rw [this]
      cases pureV call (y.evalG t0.get) <;> rfl
noncomputable def itemsK (pu : FuncId → Bool) (call : FuncId → List AVal → AHeap → Option (AVal × AHeap)) (lo : Nat) (xs : List Item) : FEnv → AHeap → Option (FEnv × AHeap) :=
  @List.rec Item (fun _ => FEnv → AHeap → Option (FEnv × AHeap)) (fun t H => some (t, H))
    (fun x _ ih t H => bindO (itemK call lo x t H) fun r => @Bool.rec (fun _ => Option (FEnv × AHeap)) none (ih r.1 r.2) (reK pu x.op lo x.dst t H r.1 r.2 x.re)) xs
theorem itemsK_eq (call : CallI) (lo : Nat) : ∀ (xs : List Item) (t : FEnv) (H : AHeap), itemsK call.pure call.call lo xs t H = itemsF call lo xs t H := by
  intro xs
  induction xs with
  | nil => intro t H; rfl
  | cons x xs ih =>
    intro t H
    show (bindO (itemK call.call lo x t H) fun r => @Bool.rec (fun _ => Option (FEnv × AHeap)) none (itemsK call.pure call.call lo xs r.1 r.2) (reK call.pure x.op lo x.dst t H r.1 r.2 x.re)) = _
    simp only [itemsF, bindO_eq, itemK_eq, reK_eq]
    rcases itemF call lo x t H with _ | ⟨t', H'⟩
    · rfl
    · simp only [ih]
      cases (skipG call t.get x.op || (keepG H' x.op x.re t.get t'.get || reOkF lo x.dst t H t' H' x.re)) <;> rfl

noncomputable def initK (l : List AVal) : Nat → FEnv → FEnv := @List.rec AVal (fun _ => Nat → FEnv → FEnv) (fun _ t => t) (fun v _ ih k t => ih (Nat.succ k) (Trie.put (some v) (Nat.succ k) t k)) l
theorem initK_eq : ∀ (l : List AVal) (k : Nat) (t : FEnv), initK l k t = initF k l t := by
  intro l
  induction l with
  | nil => intro k t; rfl
  | cons v l ih => intro k t; show initK l (k + 1) (FEnv.put t k v) = _; rw [ih]; rfl
noncomputable def resK (t : FEnv) (H : AHeap) (l : List IRes) : Option (List AVal) := @List.rec IRes (fun _ => Option (List AVal)) (some [])
  (fun x _ ih => @IRes.rec (fun _ => Option (List AVal)) (fun n => bindO (t.get n) fun v => bindO ih fun vs => some (v :: vs)) (fun n k => bindO (t.get n) fun p => bindO (loadV H k p) fun v => bindO ih fun vs => some (v :: vs)) x) l
theorem resK_eq (t : FEnv) (H : AHeap) : ∀ l, resK t H l = resF t H l := by
  intro l
  induction l with
  | nil => rfl
  | cons x l ih =>
    cases x with
    | t n =>
      show (bindO (t.get n) fun v => bindO (resK t H l) fun vs => some (v :: vs)) = _
      rw [ih]; simp only [bindO_eq, resF]
      rcases t.get n with _ | v
      · rfl
      · rcases resF t H l with _ | vs <;> rfl
    | c n k =>
      show (bindO (t.get n) fun p => bindO (loadV H k p) fun v => bindO (resK t H l) fun vs => some (v :: vs)) = _
      rw [ih]; simp only [bindO_eq, resF]
      rcases t.get n with _ | p
      · rfl
      · simp only
        rcases loadV H k p with _ | v
        · rfl
        · rcases resF t H l with _ | vs <;> rfl

noncomputable def bodyK (ex : ICode → FEnv → AHeap → Option (AExit × FEnv × AHeap)) (fn : IFunc) (args : List AVal) (H : AHeap) : Option (AVal × AHeap) :=
  @Bool.rec (fun _ => Option (AVal × AHeap)) none
    (bindO (ex fn.body (initK args 0 .e) H) fun r => @AExit.rec (fun _ => Option (AVal × AHeap)) (bindO (resK r.2.1 r.2.2 fn.res) fun vs => some (tupI vs, r.2.2)) (fun _ => none) (bindO (resK r.2.1 r.2.2 fn.res) fun vs => some (tupI vs, r.2.2)) r.1)
    (Nat.beq args.length fn.np)
theorem bodyK_eq (ex : Nat → ICode → FEnv → AHeap → Option (AExit × FEnv × AHeap)) (fn : IFunc) (lo : Nat) (args : List AVal) (H : AHeap) : bodyK (ex lo) fn args H = bodyF ex fn lo args H := by
  unfold bodyK bodyF
  simp only [initK_eq, resK_eq]
  by_cases h : args.length = fn.np
  · have : Nat.beq args.length fn.np = true := by rw [h]; exact Nat.beq_refl _
    rw [this, if_pos h]
    simp only [bindO_eq]
    rcases ex lo fn.body (initF 0 args .e) H with _ | ⟨x, t, H'⟩
    · rfl
    · cases x with
      | exit id => rfl
      | normal => simp only; rcases resF t H' fn.res with _ | vs <;> rfl
      | ret => simp only; rcases resF t H' fn.res with _ | vs <;> rfl
  · have : Nat.beq args.length fn.np = false := by
      cases hb : Nat.beq args.length fn.np with
      | false => rfl
      | true => exact absurd (Nat.eq_of_beq_eq_true hb) h
    rw [this, if_neg h]

noncomputable def seqK (r : Option (AExit × FEnv × AHeap)) (k : FEnv → AHeap → Option (AExit × FEnv × AHeap)) : Option (AExit × FEnv × AHeap) :=
  bindO r fun r => @AExit.rec (fun _ => Option (AExit × FEnv × AHeap)) (k r.2.1 r.2.2) (fun id => some (.exit id, r.2)) (some (.ret, r.2)) r.1
noncomputable def condK (v : Option AVal) (a b : Option (AExit × FEnv × AHeap)) : Option (AExit × FEnv × AHeap) :=
  bindO v fun v => match v with | .b b' => @Bool.rec (fun _ => Option (AExit × FEnv × AHeap)) b a b' | _ => none
noncomputable def blockK (id : Nat) (r : Option (AExit × FEnv × AHeap)) : Option (AExit × FEnv × AHeap) :=
  bindO r fun r => @AExit.rec (fun _ => Option (AExit × FEnv × AHeap)) (some (.normal, r.2)) (fun i => @Bool.rec (fun _ => Option (AExit × FEnv × AHeap)) (some (.exit i, r.2)) (some (.normal, r.2)) (Nat.beq i id)) (some (.ret, r.2)) r.1

noncomputable def pureT (T : Trie IFunc) (g : FuncId) : Bool := match T.get g with
  | some fn => match fn.mode with
    | 0 => false
    | _ => true
  | none => false
noncomputable def tabK (T : Trie IFunc) (G : AHeap) (ex : Nat → ICode → FEnv → AHeap → Option (AExit × FEnv × AHeap)) (lo : Nat) (g : FuncId) (args : List AVal) (H : AHeap) : Option (AVal × AHeap) := bindO (T.get g) fun fn =>
  @Nat.rec (fun _ => Option (AVal × AHeap)) (bodyK (ex lo) fn args H) (fun m _ => @Nat.rec (fun _ => Option (AVal × AHeap)) (bodyK (ex H.next) fn args H)
    (fun m _ => @Nat.rec (fun _ => Option (AVal × AHeap)) (bindO (mapO (snapV H 16) args) fun args' => bindO (bodyK (ex G.next) fn args' G) fun r => bindO (frzV r.2 G.next 16 r.1) fun v => some (v, H))
      (fun m _ => @Nat.rec (fun _ => Option (AVal × AHeap)) (bindO (bodyK (ex H.next) fn args H) fun r => @Bool.rec (fun _ => Option (AVal × AHeap)) none (some (r.1, H)) (below H.next r.1))
        (fun _ _ => cloneB fn.body args H) m) m) m) fn.mode

noncomputable def execK (T : Trie IFunc) (G : AHeap) (f : Nat) : Nat → ICode → FEnv → AHeap → Option (AExit × FEnv × AHeap) :=
  @Nat.rec (fun _ => Nat → ICode → FEnv → AHeap → Option (AExit × FEnv × AHeap)) (fun _ _ _ _ => none)
    (fun _ ex lo c t H => @ICode.rec (fun _ => Option (AExit × FEnv × AHeap)) (some (.normal, t, H))
      (fun items kill => bindO (itemsK (pureT T) (tabK T G ex lo) lo items t H) fun r => some (.normal, killF r.1 kill, r.2))
      (fun a b _ _ => seqK (ex lo a t H) (ex lo b))
      (fun x a b _ _ => condK (evalK t x) (ex lo a t H) (ex lo b t H))
      (fun id b _ => blockK id (ex lo b t H))
      (fun b _ => seqK (ex lo b t H) (ex lo (.loop b)))
      (fun id => some (.exit id, t, H))
      (some (.ret, t, H)) c) f

theorem seqK_eq (r : Option (AExit × FEnv × AHeap)) (k : FEnv → AHeap → Option (AExit × FEnv × AHeap)) : seqK r k = match r with | some (.normal, t', H') => k t' H' | r => r := by
  rcases r with _ | ⟨x, t, H⟩
  · rfl
  · cases x <;> rfl
theorem blockK_eq (id : Nat) (r : Option (AExit × FEnv × AHeap)) : blockK id r = match r with | some (.exit id', t', H') => if id' = id then some (.normal, t', H') else some (.exit id', t', H') | r => r := by
  rcases r with _ | ⟨x, t, H⟩
  · rfl
  · cases x with
    | normal => rfl
    | ret => rfl
    | exit i =>
      show (@Bool.rec (fun _ => Option (AExit × FEnv × AHeap)) (some (.exit i, t, H)) (some (.normal, t, H)) (Nat.beq i id)) = _
      by_cases h : i = id
      · have : Nat.beq i id = true := by rw [h]; exact Nat.beq_refl _
        rw [this]; simp [h]
      · have : Nat.beq i id = false := by
          cases hb : Nat.beq i id with
          | false => rfl
          | true => exact absurd (Nat.eq_of_beq_eq_true hb) h
        rw [this]; simp [h]

theorem tabK_eq (T : Trie IFunc) (G : AHeap) (ex : Nat → ICode → FEnv → AHeap → Option (AExit × FEnv × AHeap)) (lo : Nat) : tabK T G ex lo = (tabF T G ex lo).call := by
  funext g args H
  simp only [tabK, tabF, tabFB, bindO_eq]
  rcases T.get g with _ | fn
  · rfl
  · simp only
    rcases fn.mode with _ | m
    · exact bodyK_eq ex fn lo args H
    · rcases m with _ | m
      · exact bodyK_eq ex fn H.next args H
      · rcases m with _ | m
        · simp only
          rcases mapO (snapV H 16) args with _ | args'
          · rfl
          · simp only
            rw [bodyK_eq ex fn G.next args' G]
            rcases bodyF ex fn G.next args' G with _ | ⟨v, H1⟩
            · rfl
            · simp only
              rcases frzV H1 G.next 16 v with _ | v' <;> rfl
        · rcases m with _ | m
          · simp only
            rw [bodyK_eq ex fn H.next args H]
            rcases bodyF ex fn H.next args H with _ | ⟨v, H1⟩
            · rfl
            · simp only
              cases below H.next v <;> rfl
          · rfl

theorem execK_eq (T : Trie IFunc) (G : AHeap) : ∀ (f lo : Nat) (c : ICode) (t : FEnv) (H : AHeap), execK T G f lo c t H = execF T G f lo c t H := by
  intro f
  induction f with
  | zero => intro lo c t H; cases c <;> rfl
  | succ f ih =>
    have ihf : execK T G f = fun lo c t H => execF T G f lo c t H := by funext lo c t H; exact ih lo c t H
    intro lo c t H
    cases c with
    | skip => simp only [execF]; rfl
    | region items kill =>
      · show (bindO (itemsK (pureT T) (tabK T G (execK T G f) lo) lo items t H) fun r => some (AExit.normal, killF r.1 kill, r.2)) = _
        simp only [execF]
        rw [tabK_eq, show pureT T = (tabF T G (execK T G f) lo).pure from rfl, itemsK_eq, bindO_eq, ihf]
        rcases itemsF _ lo items t H with _ | ⟨t', H'⟩ <;> rfl
    | seq a b =>
      show seqK (execK T G f lo a t H) (execK T G f lo b) = _
      rw [seqK_eq, ihf]; simp only [execF]
    | cond x a b =>
      show condK (evalK t x) (execK T G f lo a t H) (execK T G f lo b t H) = _
      rw [ihf, evalK_eq]
      simp only [execF, condK, bindO_eq]
      rcases x.evalG t.get with _ | v
      · rfl
      · cases v <;> try rfl
        rename_i b; cases b <;> rfl
    | block id b =>
      show blockK id (execK T G f lo b t H) = _
      rw [blockK_eq, ihf]; simp only [execF]
    | loop b =>
      show seqK (execK T G f lo b t H) (execK T G f lo (.loop b)) = _
      rw [seqK_eq, ihf]; simp only [execF]
    | exit id => simp only [execF]; rfl
    | ret => simp only [execF]; rfl

noncomputable def callK (T : Trie IFunc) (G : AHeap) (f : Nat) (lo : Nat) : FuncId → List AVal → AHeap → Option (AVal × AHeap) := tabK T G (execK T G f) lo
theorem callK_eq (T : Trie IFunc) (G : AHeap) (f lo : Nat) (g : FuncId) (args : List AVal) (H : AHeap) : callK T G f lo g args H = callF T G f lo g args H := by
  have ihf : execK T G f = fun lo c t H => execF T G f lo c t H := by funext lo c t H; exact execK_eq T G f lo c t H
  simp only [callK, callF]
  rw [tabK_eq, ihf]

/-! ### The table, as a tree -/
noncomputable def buildT : List (Nat × IFunc) → Trie IFunc
  | [] => .e
  | (k, fn) :: l => Trie.put (some fn) (k + 1) (buildT l) k
theorem buildT_get : ∀ (l : List (Nat × IFunc)) (f : Nat), (buildT l).get f = tabIP l f := by
  intro l
  induction l with
  | nil => intro f; rfl
  | cons x l ih =>
    obtain ⟨k, fn⟩ := x
    intro f
    simp only [buildT, tabIP]
    rw [Trie.get_put _ _ _ _ _ (Nat.lt_succ_self k), ih]
    by_cases h : f = k
    · subst h; simp
    · have : ¬ k = f := fun e => h e.symm
      simp [h, this]

/-- A call without arguments, run by the kernel. -/
theorem closed_callsF {P : Program} (hm : P.follows .mixedOrders = true) {tab : List (Nat × IFunc)} (htab : TabOK P (tabIP tab)) {G : AHeap} (hn : G.next = P.globals.size) (hw : Wf G) {f k : Nat} (h : isTrue (callK (buildT tab) G k G.next f [] G) = true)
    (w : World) (hG : GHolds P.globals.size G w) : Calls P f #[] w fun e w' => e = .returned (.bool true) ∧ Kept w w' := by
  refine closed_calls hm htab hn hw (k := k) ?_ w hG
  unfold isTrue at h
  split at h
  · rename_i H' he
    rw [callK_eq] at he
    rw [call_F (IP := tabIP tab) (buildT_get tab) he]; rfl
  · cases h

/-- A pure call without arguments, run by the kernel: true, wherever it is called. -/
def isTrueP : Option (AVal × AHeap) → Bool
  | some (.b true, _) => true
  | _ => false
theorem closed_pure {tab : List (Nat × IFunc)} {G : AHeap} {f k : Nat} {fn : IFunc} (hf : tabIP tab f = some fn) (hm : fn.mode = 2) (h : isTrueP (callK (buildT tab) G k G.next f [] G) = true) (lo : Nat) (H : AHeap) : Brings (tabIP tab) G lo f [] H (.b true) H := by
  have : ∃ H', callK (buildT tab) G k G.next f [] G = some (.b true, H') := by
    unfold isTrueP at h
    split at h
    · rename_i H' he; exact ⟨H', he⟩
    · cases h
  obtain ⟨H', hH⟩ := this
  rw [callK_eq] at hH
  have hc := call_F (IP := tabIP tab) (buildT_get tab) hH
  refine ⟨k, ?_⟩
  simp only [acall, callI, callB, hf, hm] at hc ⊢
  simp only [mapO] at hc ⊢
  split at hc
  · rename_i v H1 hb
    split at hc
    · rename_i v' hfz; cases hc; rfl
    · cases hc
  · cases hc
end Go.RI

/- RI, part Memo3: a run by the kernel that leans on runs that are known; calls of mode 3 at one heap among them. Conditions: none. (In the place of part Memo: never both.) -/
namespace Go.RI
open Go
set_option linter.unusedSimpArgs false

/-! ### Sameness of values, for the kernel -/
noncomputable def q_b (v : Bool) (y : AVal) : Bool := match y with | .b v' => v == v' | _ => false
noncomputable def q_i (k : IntKind) (n : Int) (y : AVal) : Bool := match y with | .i k' n' => decide (k = k') && decide (n = n') | _ => false
noncomputable def q_s (v : List UInt8) (y : AVal) : Bool := match y with | .s v' => decide (v = v') | _ => false
noncomputable def q_np (y : AVal) : Bool := match y with | .np => true | _ => false
noncomputable def q_p (id off : Nat) (y : AVal) : Bool := match y with | .p id' off' => Nat.beq id id' && Nat.beq off off' | _ => false
noncomputable def q_sl (id off len : Nat) (c : Option Nat) (y : AVal) : Bool := match y with | .sl id' off' len' c' => Nat.beq id id' && (Nat.beq off off' && (Nat.beq len len' && (match c, c' with | none, none => true | some a, some b => Nat.beq a b | _, _ => false))) | _ => false
noncomputable def q_m (id : Nat) (y : AVal) : Bool := match y with | .m id' => Nat.beq id id' | _ => false
noncomputable def q_ns (y : AVal) : Bool := match y with | .ns => true | _ => false
noncomputable def q_fn (f : Fn) (a c : List AVal → Bool) (y : AVal) : Bool := match y with | .fn f' a' c' => (match f, f' with | .func n, .func m => Nat.beq n m | _, _ => false) && (a a' && c c') | _ => false
noncomputable def q_nf (y : AVal) : Bool := match y with | .nf => true | _ => false
noncomputable def q_ag (l : List AVal → Bool) (y : AVal) : Bool := match y with | .ag l' => l l' | _ => false
noncomputable def q_tu (l : List AVal → Bool) (y : AVal) : Bool := match y with | .tu l' => l l' | _ => false
noncomputable def q_nm (y : AVal) : Bool := match y with | .nm => true | _ => false
noncomputable def q_nif (y : AVal) : Bool := match y with | .nif => true | _ => false
noncomputable def q_ifc (t : TypeId) (v : AVal → Bool) (y : AVal) : Bool := match y with | .ifc t' v' => Nat.beq t t' && v v' | _ => false
noncomputable def q_fs (tmp full : Bool) (len : Nat) (l : List AVal → Bool) (y : AVal) : Bool := match y with | .fs tmp' full' len' l' => (tmp == tmp') && ((full == full') && (Nat.beq len len' && l l')) | _ => false
noncomputable def q_fp (l : List AVal → Bool) (y : AVal) : Bool := match y with | .fp l' => l l' | _ => false
noncomputable def q_nil (l : List AVal) : Bool := match l with | [] => true | _ => false
noncomputable def q_cons (v : AVal → Bool) (l : List AVal → Bool) (m : List AVal) : Bool := match m with | v' :: l' => v v' && l l' | [] => false

/-- Of values without names of the heap. -/
noncomputable def eqA (v : AVal) : AVal → Bool :=
  @AVal.rec (fun _ => AVal → Bool) (fun _ => List AVal → Bool)
    q_b q_i q_s q_np q_p q_ns q_sl (fun f _ _ a c => q_fn f a c) q_nf (fun _ l => q_ag l) (fun _ l => q_tu l) q_nm q_m (fun t _ v => q_ifc t v) q_nif
    (fun tmp full len _ l => q_fs tmp full len l) (fun _ l => q_fp l) (fun _ _ => false) q_nil (fun _ _ v l => q_cons v l) v
noncomputable def eqAL (v : List AVal) : List AVal → Bool :=
  @AVal.rec_1 (fun _ => AVal → Bool) (fun _ => List AVal → Bool)
    q_b q_i q_s q_np q_p q_ns q_sl (fun f _ _ a c => q_fn f a c) q_nf (fun _ l => q_ag l) (fun _ l => q_tu l) q_nm q_m (fun t _ v => q_ifc t v) q_nif
    (fun tmp full len _ l => q_fs tmp full len l) (fun _ l => q_fp l) (fun _ _ => false) q_nil (fun _ _ v l => q_cons v l) v

mutual
theorem eqA_eq : ∀ v y : AVal, eqA v y = true → v = y
  | .b v, y, h => by change q_b v y = true at h; cases y <;> simp_all [q_b]
  | .i k n, y, h => by change q_i k n y = true at h; cases y <;> simp_all [q_i]
  | .s v, y, h => by change q_s v y = true at h; cases y <;> simp_all [q_s]
  | .np, y, h => by change q_np y = true at h; cases y <;> simp_all [q_np]
  | .p id off, y, h => by change q_p id off y = true at h; cases y <;> simp_all [q_p]
  | .ns, y, h => by change q_ns y = true at h; cases y <;> simp_all [q_ns]
  | .sl id off len c, y, h => by
    change q_sl id off len c y = true at h
    cases y <;> simp only [q_sl, Bool.and_eq_true] at h <;> try (cases h; done)
    rename_i id' off' len' c'
    obtain ⟨h1, h2, h3, h4⟩ := h
    rw [Nat.eq_of_beq_eq_true h1, Nat.eq_of_beq_eq_true h2, Nat.eq_of_beq_eq_true h3]
    cases c <;> cases c' <;> simp only at h4 <;> try (cases h4; done)
    · rfl
    · rw [Nat.eq_of_beq_eq_true h4]
  | .fn f a c, y, h => by
    change q_fn f (eqAL a) (eqAL c) y = true at h
    cases y <;> simp only [q_fn, Bool.and_eq_true] at h <;> try (cases h; done)
    rename_i f' a' c'
    obtain ⟨h1, h2, h3⟩ := h
    rw [eqAL_eq a a' h2, eqAL_eq c c' h3]
    cases f <;> cases f' <;> simp_all
  | .nf, y, h => by change q_nf y = true at h; cases y <;> simp_all [q_nf]
  | .ag l, y, h => by
    change q_ag (eqAL l) y = true at h
    cases y <;> simp only [q_ag] at h <;> try (cases h; done)
    rw [eqAL_eq l _ h]
  | .tu l, y, h => by
    change q_tu (eqAL l) y = true at h
    cases y <;> simp only [q_tu] at h <;> try (cases h; done)
    rw [eqAL_eq l _ h]
  | .nm, y, h => by change q_nm y = true at h; cases y <;> simp_all [q_nm]
  | .m id, y, h => by
    change q_m id y = true at h
    cases y <;> simp only [q_m] at h <;> try (cases h; done)
    rw [Nat.eq_of_beq_eq_true h]
  | .ifc t v, y, h => by
    change q_ifc t (eqA v) y = true at h
    cases y <;> simp only [q_ifc, Bool.and_eq_true] at h <;> try (cases h; done)
    rename_i t' v'
    rw [eqA_eq v v' h.2, Nat.eq_of_beq_eq_true h.1]
  | .nif, y, h => by change q_nif y = true at h; cases y <;> simp_all [q_nif]
  | .fs tmp full len l, y, h => by
    change q_fs tmp full len (eqAL l) y = true at h
    cases y <;> simp only [q_fs, Bool.and_eq_true] at h <;> try (cases h; done)
    rename_i tmp' full' len' l'
    obtain ⟨h1, h2, h3, h4⟩ := h
    rw [eqAL_eq l l' h4, Nat.eq_of_beq_eq_true h3, eq_of_beq h1, eq_of_beq h2]
  | .fp l, y, h => by
    change q_fp (eqAL l) y = true at h
    cases y <;> simp only [q_fp] at h <;> try (cases h; done)
    rw [eqAL_eq l _ h]
  | .es _, y, h => by change false = true at h; cases h
theorem eqAL_eq : ∀ l m : List AVal, eqAL l m = true → l = m
  | [], m, h => by change q_nil m = true at h; cases m <;> simp_all [q_nil]
  | v :: l, m, h => by
    change q_cons (eqA v) (eqAL l) m = true at h
    cases m with
    | nil => cases h
    | cons w m =>
      simp only [q_cons, Bool.and_eq_true] at h
      rw [eqA_eq v w h.1, eqAL_eq l m h.2]
end

/-! ### Sameness of heaps -/
noncomputable def eqEs (a b : List (AVal × AVal)) : Bool := @List.rec (AVal × AVal) (fun _ => List (AVal × AVal) → Bool) (fun m => match m with | [] => true | _ => false) (fun x _ ih m => match m with | y :: m => eqA x.1 y.1 && (eqA x.2 y.2 && ih m) | [] => false) a b
theorem eqEs_eq : ∀ a b : List (AVal × AVal), eqEs a b = true → a = b
  | [], b, h => by cases b with | nil => rfl | cons y m => cases h
  | x :: a, b, h => by
    cases b with
    | nil => cases h
    | cons y m =>
      change (eqA x.1 y.1 && (eqA x.2 y.2 && eqEs a m)) = true at h
      simp only [Bool.and_eq_true] at h
      rw [eqEs_eq a m h.2.2]
      obtain ⟨x1, x2⟩ := x
      obtain ⟨y1, y2⟩ := y
      have h1 : x1 = y1 := eqA_eq _ _ h.1
      have h2 : x2 = y2 := eqA_eq _ _ h.2.1
      subst h1 h2; rfl
noncomputable def eqO (a b : Option AObj) : Bool := match a, b with
  | none, none => true
  | some (.cells c e r), some (.cells c' e' r') => eqAL c c' && (Nat.beq e e' && (r == r'))
  | some (.map es), some (.map es') => eqEs es es'
  | _, _ => false
theorem eqO_eq (a b : Option AObj) (h : eqO a b = true) : a = b := by
  rcases a with _ | ⟨c, e, r⟩ | es <;> rcases b with _ | ⟨c', e', r'⟩ | es' <;> simp only [eqO, Bool.and_eq_true] at h <;> try (cases h; done)
  · rfl
  · obtain ⟨h1, h2, h3⟩ := h
    rw [eqAL_eq _ _ h1, Nat.eq_of_beq_eq_true h2, eq_of_beq h3]
  · rw [eqEs_eq _ _ h]
noncomputable def eqT (a : Trie AObj) : Trie AObj → Bool := @Trie.rec AObj (fun _ => Trie AObj → Bool) (fun b => match b with | .e => true | _ => false) (fun _ o _ il ir b => match b with | .n l' o' r' => eqO o o' && (il l' && ir r') | _ => false) a
theorem eqT_eq : ∀ a b : Trie AObj, eqT a b = true → a = b
  | .e, b, h => by cases b with | e => rfl | n l o r => cases h
  | .n l o r, b, h => by
    cases b with
    | e => cases h
    | n l' o' r' =>
      change (eqO o o' && (eqT l l' && eqT r r')) = true at h
      simp only [Bool.and_eq_true] at h
      rw [eqO_eq _ _ h.1, eqT_eq l l' h.2.1, eqT_eq r r' h.2.2]
noncomputable def eqH (a b : AHeap) : Bool := Nat.beq a.next b.next && eqT a.tbl b.tbl
theorem eqH_eq (a b : AHeap) (h : eqH a b = true) : a = b := by
  obtain ⟨n, t⟩ := a
  obtain ⟨n', t'⟩ := b
  simp only [eqH, Bool.and_eq_true] at h
  rw [Nat.eq_of_beq_eq_true h.1, eqT_eq _ _ h.2]

/-! ### What is known of calls -/
/-- By functions: arguments, and what comes of them. -/
abbrev Memo := Trie (List (List AVal × AVal))
noncomputable def findK (args : List AVal) (l : List (List AVal × AVal)) : Option AVal := @List.rec (List AVal × AVal) (fun _ => Option AVal) none (fun x _ ih => @Bool.rec (fun _ => Option AVal) ih (some x.2) (eqAL x.1 args)) l
noncomputable def lookK (M : Memo) (g : FuncId) (args : List AVal) : Option AVal := bindO (M.get g) (findK args)

/-- A pure call that was run. -/
def KnowsR (IP : FuncId → Option IFunc) (G : AHeap) (g : FuncId) (args : List AVal) (v : AVal) : Prop := ∃ K fn u H1, IP g = some fn ∧ fn.mode = 2 ∧ bodyI (exec IP G K) fn G.next args G = some (u, H1) ∧ frzV H1 G.next 16 u = some v
def MemoOK (IP : FuncId → Option IFunc) (G : AHeap) (K : Nat) (L : FuncId → List AVal → Option AVal) : Prop := ∀ g args v, L g args = some v → ∃ fn u H1, IP g = some fn ∧ fn.mode = 2 ∧ bodyI (exec IP G K) fn G.next args G = some (u, H1) ∧ frzV H1 G.next 16 u = some v

/-- Calls of mode 3 that were run, at one heap. -/
abbrev Look3 := FuncId → List AVal → AHeap → Option AVal
noncomputable def look3 (HP : AHeap) (M : Memo) (g : FuncId) (args : List AVal) (H : AHeap) : Option AVal := bindO (M.get g) fun l => @Bool.rec (fun _ => Option AVal) none (findK args l) (eqH HP H)
noncomputable def no3 : Look3 := fun _ _ _ => none
def Memo3OK (IP : FuncId → Option IFunc) (G : AHeap) (K : Nat) (L3 : Look3) : Prop := ∀ g args H v, L3 g args H = some v → ∃ fn H1, IP g = some fn ∧ fn.mode = 3 ∧ bodyI (exec IP G K) fn H.next args H = some (v, H1) ∧ below H.next v = true
def Knows3 (IP : FuncId → Option IFunc) (G HP : AHeap) (g : FuncId) (args : List AVal) (v : AVal) : Prop := ∃ K fn H1, IP g = some fn ∧ fn.mode = 3 ∧ bodyI (exec IP G K) fn HP.next args HP = some (v, H1) ∧ below HP.next v = true
theorem no3_ok {IP : FuncId → Option IFunc} {G : AHeap} {K : Nat} : Memo3OK IP G K no3 := fun g args H v h => by cases h
theorem find_mem {args : List AVal} {v : AVal} : ∀ {l : List (List AVal × AVal)}, findK args l = some v → (args, v) ∈ l := by
  intro l
  induction l with
  | nil => intro h; cases h
  | cons x l ih =>
    intro h
    change @Bool.rec (fun _ => Option AVal) (findK args l) (some x.2) (eqAL x.1 args) = some v at h
    cases he : eqAL x.1 args with
    | false => rw [he] at h; exact List.mem_cons_of_mem _ (ih h)
    | true =>
      rw [he] at h
      have h1 := eqAL_eq _ _ he
      obtain ⟨a, b⟩ := x
      simp only at h1 h
      cases h
      rw [h1]
      exact List.mem_cons_self ..

noncomputable def tabKM (L : FuncId → List AVal → Option AVal) (L3 : Look3) (T : Trie IFunc) (G : AHeap) (ex : Nat → ICode → FEnv → AHeap → Option (AExit × FEnv × AHeap)) (lo : Nat) (g : FuncId) (args : List AVal) (H : AHeap) : Option (AVal × AHeap) := bindO (T.get g) fun fn =>
  @Nat.rec (fun _ => Option (AVal × AHeap)) (bodyK (ex lo) fn args H) (fun m _ => @Nat.rec (fun _ => Option (AVal × AHeap)) (bodyK (ex H.next) fn args H)
    (fun m _ => @Nat.rec (fun _ => Option (AVal × AHeap)) (bindO (mapO (snapV H 16) args) fun args' => @Option.rec AVal (fun _ => Option (AVal × AHeap)) (bindO (bodyK (ex G.next) fn args' G) fun r => bindO (frzV r.2 G.next 16 r.1) fun v => some (v, H)) (fun v => some (v, H)) (L g args'))
      (fun m _ => @Nat.rec (fun _ => Option (AVal × AHeap)) (@Option.rec AVal (fun _ => Option (AVal × AHeap)) (bindO (bodyK (ex H.next) fn args H) fun r => @Bool.rec (fun _ => Option (AVal × AHeap)) none (some (r.1, H)) (below H.next r.1)) (fun v => some (v, H)) (L3 g args H))
        (fun _ _ => cloneB fn.body args H) m) m) m) fn.mode

noncomputable def execKM (L : FuncId → List AVal → Option AVal) (L3 : Look3) (T : Trie IFunc) (G : AHeap) (f : Nat) : Nat → ICode → FEnv → AHeap → Option (AExit × FEnv × AHeap) :=
  @Nat.rec (fun _ => Nat → ICode → FEnv → AHeap → Option (AExit × FEnv × AHeap)) (fun _ _ _ _ => none)
    (fun _ ex lo c t H => @ICode.rec (fun _ => Option (AExit × FEnv × AHeap)) (some (.normal, t, H))
      (fun items kill => bindO (itemsK (pureT T) (tabKM L L3 T G ex lo) lo items t H) fun r => some (.normal, killF r.1 kill, r.2))
      (fun a b _ _ => seqK (ex lo a t H) (ex lo b))
      (fun x a b _ _ => condK (evalK t x) (ex lo a t H) (ex lo b t H))
      (fun id b _ => blockK id (ex lo b t H))
      (fun b _ => seqK (ex lo b t H) (ex lo (.loop b)))
      (fun id => some (.exit id, t, H))
      (some (.ret, t, H)) c) f

section
variable {L : FuncId → List AVal → Option AVal} {L3 : Look3} {T : Trie IFunc} {IP : FuncId → Option IFunc} {G : AHeap} {K : Nat}

theorem tabKM_le (hT : ∀ f, T.get f = IP f) (hM : MemoOK IP G K L) (hM3 : Memo3OK IP G K L3) {f : Nat} (ih : ∀ lo c e t H y t' H', EqE e t → execKM L L3 T G f lo c t H = some (y, t', H') → ∃ e', exec IP G (f + K) lo c e H = some (y, e', H') ∧ EqE e' t') (lo : Nat) :
    LeC ⟨tabKM L L3 T G (execKM L L3 T G f) lo, pureT T⟩ (callI (exec IP G (f + K)) IP G lo) := by
  refine ⟨?_, ?_⟩
  · intro g args H r hr
    change bindO (T.get g) _ = some r at hr
    simp only [callI, callB]
    rw [← hT g]
    rcases hg : T.get g with _ | fn
    · rw [hg] at hr; cases hr
    · rw [hg] at hr
      change @Nat.rec (fun _ => Option (AVal × AHeap)) _ _ fn.mode = some r at hr
      simp only
      rcases hm : fn.mode with _ | m
      · rw [hm] at hr
        simp only
        exact body_F ih ((bodyK_eq (execKM L L3 T G f) fn lo args H).symm.trans hr)
      · rcases m with _ | m
        · rw [hm] at hr
          simp only
          exact body_F ih ((bodyK_eq (execKM L L3 T G f) fn H.next args H).symm.trans hr)
        · rcases m with _ | m
          · rw [hm] at hr
            change bindO (mapO (snapV H 16) args) _ = some r at hr
            simp only
            rcases hmo : mapO (snapV H 16) args with _ | args'
            · rw [hmo] at hr; cases hr
            · rw [hmo] at hr
              change @Option.rec AVal (fun _ => Option (AVal × AHeap)) _ _ (L g args') = some r at hr
              simp only
              rcases hl : L g args' with _ | v
              · rw [hl] at hr
                change bindO (bodyK (execKM L L3 T G f G.next) fn args' G) _ = some r at hr
                rcases hb : bodyK (execKM L L3 T G f G.next) fn args' G with _ | ⟨u, H1⟩
                · rw [hb] at hr; cases hr
                · rw [hb] at hr
                  change bindO (frzV H1 G.next 16 u) _ = some r at hr
                  rw [body_F ih ((bodyK_eq (execKM L L3 T G f) fn G.next args' G).symm.trans hb)]
                  simp only
                  rcases hz : frzV H1 G.next 16 u with _ | v'
                  · rw [hz] at hr; cases hr
                  · rw [hz] at hr; exact hr
              · rw [hl] at hr
                change some (v, H) = some r at hr
                obtain ⟨fn', u, H1, h1, _, h2, h3⟩ := hM g args' v hl
                have hfn : fn' = fn := by rw [← hT g, hg] at h1; exact (Option.some.inj h1).symm
                subst hfn
                rw [bodyI_mono (exec_mono (Nat.le_add_left K f)) h2]
                simp only [h3]
                exact hr
          · rcases m with _ | m
            · rw [hm] at hr
              change @Option.rec AVal (fun _ => Option (AVal × AHeap)) _ _ (L3 g args H) = some r at hr
              simp only
              rcases hl : L3 g args H with _ | v
              rotate_left
              · rw [hl] at hr
                change some (v, H) = some r at hr
                obtain ⟨fn', H1, h1, _, h2, h3⟩ := hM3 g args H v hl
                have hfn : fn' = fn := by rw [← hT g, hg] at h1; exact (Option.some.inj h1).symm
                subst hfn
                rw [bodyI_mono (exec_mono (Nat.le_add_left K f)) h2]
                simp only [h3]
                exact hr
              rw [hl] at hr
              change bindO (bodyK (execKM L L3 T G f H.next) fn args H) _ = some r at hr
              rcases hb : bodyK (execKM L L3 T G f H.next) fn args H with _ | ⟨u, H1⟩
              · rw [hb] at hr; cases hr
              · rw [hb] at hr
                change @Bool.rec (fun _ => Option (AVal × AHeap)) none (some (u, H)) (below H.next u) = some r at hr
                rw [body_F ih ((bodyK_eq (execKM L L3 T G f) fn H.next args H).symm.trans hb)]
                simp only
                cases hbl : below H.next u <;> rw [hbl] at hr
                · cases hr
                · exact hr
            · rw [hm] at hr
              exact hr
  · funext g
    simp only [callI, pureB, pureT, ← hT g]
    rcases T.get g with _ | fn
    · rfl
    · rcases fn.mode with _ | m <;> rfl

theorem execKM_F (hT : ∀ f, T.get f = IP f) (hM : MemoOK IP G K L) (hM3 : Memo3OK IP G K L3) : ∀ (f lo : Nat) (c : ICode) (e : Env) (t : FEnv) (H : AHeap) (y : AExit) (t' : FEnv) (H' : AHeap), EqE e t → execKM L L3 T G f lo c t H = some (y, t', H') →
    ∃ e', exec IP G (f + K) lo c e H = some (y, e', H') ∧ EqE e' t' := by
  intro f
  induction f with
  | zero => intro lo c e t H y t' H' _ h; cases c <;> cases h
  | succ f ih =>
    intro lo c e t H y t' H' heq h
    have hfk : f + 1 + K = (f + K) + 1 := by omega
    rw [hfk]
    cases c <;> rw [exec]
    case skip => cases h; exact ⟨e, rfl, heq⟩
    case region items kill =>
      change (bindO (itemsK (pureT T) (tabKM L L3 T G (execKM L L3 T G f) lo) lo items t H) fun r => some (AExit.normal, killF r.1 kill, r.2)) = _ at h
      have hle := tabKM_le hT hM hM3 ih lo
      rw [show itemsK (pureT T) (tabKM L L3 T G (execKM L L3 T G f) lo) lo items t H = itemsF ⟨tabKM L L3 T G (execKM L L3 T G f) lo, pureT T⟩ lo items t H from itemsK_eq ⟨tabKM L L3 T G (execKM L L3 T G f) lo, pureT T⟩ lo items t H, bindO_eq] at h
      rcases hi : itemsF ⟨tabKM L L3 T G (execKM L L3 T G f) lo, pureT T⟩ lo items t H with _ | ⟨t1, H1⟩
      · rw [hi] at h; cases h
      · rw [hi] at h
        obtain ⟨e1, h1, h2⟩ := items_F hle heq hi
        cases h
        rw [h1]
        exact ⟨_, rfl, h2.kill kill⟩
    case seq a b =>
      change seqK (execKM L L3 T G f lo a t H) (execKM L L3 T G f lo b) = _ at h
      rw [seqK_eq] at h
      rcases ha : execKM L L3 T G f lo a t H with _ | ⟨x, t1, H1⟩
      · rw [ha] at h; cases h
      · rw [ha] at h
        obtain ⟨e1, h1, h2⟩ := ih lo a e t H x t1 H1 heq ha
        rw [h1]
        cases x with
        | normal => exact ih lo b e1 t1 H1 y t' H' h2 h
        | exit id => cases h; exact ⟨e1, rfl, h2⟩
        | ret => cases h; exact ⟨e1, rfl, h2⟩
    case cond x a b =>
      change condK (evalK t x) (execKM L L3 T G f lo a t H) (execKM L L3 T G f lo b t H) = _ at h
      rw [evalK_eq] at h
      have he : e.get = t.get := heq
      have hev : x.eval e = x.evalG t.get := by rw [← he, evalG_eq]
      rw [hev]
      rcases hv : x.evalG t.get with _ | v
      · rw [hv] at h; cases h
      · rw [hv] at h
        cases v <;> try (cases h; done)
        rename_i bb
        cases bb
        · exact ih lo b e t H y t' H' heq h
        · exact ih lo a e t H y t' H' heq h
    case block id b =>
      change blockK id (execKM L L3 T G f lo b t H) = _ at h
      rw [blockK_eq] at h
      rcases hb : execKM L L3 T G f lo b t H with _ | ⟨x, t1, H1⟩
      · rw [hb] at h; cases h
      · rw [hb] at h
        obtain ⟨e1, h1, h2⟩ := ih lo b e t H x t1 H1 heq hb
        rw [h1]
        cases x with
        | normal => cases h; exact ⟨e1, rfl, h2⟩
        | ret => cases h; exact ⟨e1, rfl, h2⟩
        | exit id' =>
          simp only at h ⊢
          by_cases hid : id' = id
          · rw [if_pos hid] at h ⊢; cases h; exact ⟨e1, rfl, h2⟩
          · rw [if_neg hid] at h ⊢; cases h; exact ⟨e1, rfl, h2⟩
    case loop b =>
      change seqK (execKM L L3 T G f lo b t H) (execKM L L3 T G f lo (.loop b)) = _ at h
      rw [seqK_eq] at h
      rcases ha : execKM L L3 T G f lo b t H with _ | ⟨x, t1, H1⟩
      · rw [ha] at h; cases h
      · rw [ha] at h
        obtain ⟨e1, h1, h2⟩ := ih lo b e t H x t1 H1 heq ha
        rw [h1]
        cases x with
        | normal => exact ih lo (.loop b) e1 t1 H1 y t' H' h2 h
        | exit id => cases h; exact ⟨e1, rfl, h2⟩
        | ret => cases h; exact ⟨e1, rfl, h2⟩
    case exit id => cases h; exact ⟨e, rfl, heq⟩
    case ret => cases h; exact ⟨e, rfl, heq⟩

noncomputable def callKM (L : FuncId → List AVal → Option AVal) (L3 : Look3) (T : Trie IFunc) (G : AHeap) (f : Nat) (lo : Nat) : FuncId → List AVal → AHeap → Option (AVal × AHeap) := tabKM L L3 T G (execKM L L3 T G f) lo
theorem callKM_F (hT : ∀ f, T.get f = IP f) (hM : MemoOK IP G K L) (hM3 : Memo3OK IP G K L3) {f lo : Nat} {g : FuncId} {args : List AVal} {H : AHeap} {r : AVal × AHeap} (h : callKM L L3 T G f lo g args H = some r) : acall IP G (f + K) lo g args H = some r :=
  (tabKM_le hT hM hM3 (fun lo c e t H y t' H' => execKM_F hT hM hM3 f lo c e t H y t' H') lo).le g args H r h
end

/-! ### Chains of runs -/
noncomputable def buildM : List (Nat × List (List AVal × AVal)) → Memo
  | [] => .e
  | (k, x) :: l => Trie.put (some x) (k + 1) (buildM l) k
theorem buildM_get : ∀ (l : List (Nat × List (List AVal × AVal))) (f : Nat) (x : List (List AVal × AVal)), (buildM l).get f = some x → (f, x) ∈ l := by
  intro l
  induction l with
  | nil => intro f x h; cases h
  | cons y l ih =>
    obtain ⟨k, z⟩ := y
    intro f x h
    simp only [buildM] at h
    rw [Trie.get_put _ _ _ _ _ (Nat.lt_succ_self k)] at h
    by_cases he : f = k
    · subst he; rw [if_pos rfl] at h; cases h; exact List.mem_cons_self ..
    · rw [if_neg he] at h; exact List.mem_cons_of_mem _ (ih f x h)

/-- All that is written down is known. -/
def Known (IP : FuncId → Option IFunc) (G : AHeap) (l : List (Nat × List (List AVal × AVal))) : Prop := ∀ x ∈ l, ∀ y ∈ x.2, KnowsR IP G x.1 y.1 y.2

theorem known_ok {IP : FuncId → Option IFunc} {G : AHeap} {l : List (Nat × List (List AVal × AVal))} (h : Known IP G l) : ∃ K, MemoOK IP G K (lookK (buildM l)) := by
  have key : ∀ l : List (Nat × List (List AVal × AVal)), Known IP G l → ∃ K, ∀ x ∈ l, ∀ y ∈ x.2, ∃ fn u H1, IP x.1 = some fn ∧ fn.mode = 2 ∧ bodyI (exec IP G K) fn G.next y.1 G = some (u, H1) ∧ frzV H1 G.next 16 u = some y.2 := by
    intro l
    induction l with
    | nil => intro _; exact ⟨0, fun x hx => by cases hx⟩
    | cons x l ih =>
      intro hk
      obtain ⟨K1, h1⟩ := ih fun z hz => hk z (List.mem_cons_of_mem _ hz)
      have inner : ∀ m : List (List AVal × AVal), (∀ y ∈ m, KnowsR IP G x.1 y.1 y.2) → ∃ K, ∀ y ∈ m, ∃ fn u H1, IP x.1 = some fn ∧ fn.mode = 2 ∧ bodyI (exec IP G K) fn G.next y.1 G = some (u, H1) ∧ frzV H1 G.next 16 u = some y.2 := by
        intro m
        induction m with
        | nil => intro _; exact ⟨0, fun x hx => by cases hx⟩
        | cons y m ihm =>
          intro hm
          obtain ⟨K2, h2⟩ := ihm fun z hz => hm z (List.mem_cons_of_mem _ hz)
          obtain ⟨K3, fn, u, H1, a1, a2, a3, a4⟩ := hm y (List.mem_cons_self ..)
          refine ⟨max K2 K3, fun z hz => ?_⟩
          rcases List.mem_cons.1 hz with rfl | hz
          · exact ⟨fn, u, H1, a1, a2, bodyI_mono (exec_mono (Nat.le_max_right _ _)) a3, a4⟩
          · obtain ⟨fn', u', H1', b1, b2, b3, b4⟩ := h2 z hz
            exact ⟨fn', u', H1', b1, b2, bodyI_mono (exec_mono (Nat.le_max_left _ _)) b3, b4⟩
      obtain ⟨K2, h2⟩ := inner x.2 (hk x (List.mem_cons_self ..))
      refine ⟨max K1 K2, fun z hz y hy => ?_⟩
      rcases List.mem_cons.1 hz with rfl | hz
      · obtain ⟨fn', u', H1', b1, b2, b3, b4⟩ := h2 y hy
        exact ⟨fn', u', H1', b1, b2, bodyI_mono (exec_mono (Nat.le_max_right _ _)) b3, b4⟩
      · obtain ⟨fn', u', H1', b1, b2, b3, b4⟩ := h1 z hz y hy
        exact ⟨fn', u', H1', b1, b2, bodyI_mono (exec_mono (Nat.le_max_left _ _)) b3, b4⟩
  obtain ⟨K, hK⟩ := key l h
  refine ⟨K, fun g args v hl => ?_⟩
  unfold lookK at hl
  rw [bindO_eq] at hl
  rcases hg : (buildM l).get g with _ | m
  · rw [hg] at hl; cases hl
  · rw [hg] at hl
    exact hK (g, m) (buildM_get l g m hg) (args, v) (find_mem hl)

noncomputable def isVal (v : AVal) (r : Option (AVal × AHeap)) : Bool := @Option.rec (AVal × AHeap) (fun _ => Bool) false (fun x => eqA v x.1) r
/-- All that is written down of mode 3 is known. -/
def Known3 (IP : FuncId → Option IFunc) (G HP : AHeap) (l : List (Nat × List (List AVal × AVal))) : Prop := ∀ x ∈ l, ∀ y ∈ x.2, Knows3 IP G HP x.1 y.1 y.2
theorem memo3_mono {IP : FuncId → Option IFunc} {G : AHeap} {K K' : Nat} {L3 : Look3} (h : Memo3OK IP G K L3) (hk : K ≤ K') : Memo3OK IP G K' L3 := fun g args H v hl => by
  obtain ⟨fn, H1, h1, h2, h3, h4⟩ := h g args H v hl
  exact ⟨fn, H1, h1, h2, bodyI_mono (exec_mono hk) h3, h4⟩
theorem memo_mono {IP : FuncId → Option IFunc} {G : AHeap} {K K' : Nat} {L : FuncId → List AVal → Option AVal} (h : MemoOK IP G K L) (hk : K ≤ K') : MemoOK IP G K' L := fun g args v hl => by
  obtain ⟨fn, u, H1, h1, h2, h3, h4⟩ := h g args v hl
  exact ⟨fn, u, H1, h1, h2, bodyI_mono (exec_mono hk) h3, h4⟩
theorem known3_ok {IP : FuncId → Option IFunc} {G HP : AHeap} {l : List (Nat × List (List AVal × AVal))} (h : Known3 IP G HP l) : ∃ K, Memo3OK IP G K (look3 HP (buildM l)) := by
  have key : ∀ l : List (Nat × List (List AVal × AVal)), Known3 IP G HP l → ∃ K, ∀ x ∈ l, ∀ y ∈ x.2, ∃ fn H1, IP x.1 = some fn ∧ fn.mode = 3 ∧ bodyI (exec IP G K) fn HP.next y.1 HP = some (y.2, H1) ∧ below HP.next y.2 = true := by
    intro l
    induction l with
    | nil => intro _; exact ⟨0, fun x hx => by cases hx⟩
    | cons x l ih =>
      intro hk
      obtain ⟨K1, h1⟩ := ih fun z hz => hk z (List.mem_cons_of_mem _ hz)
      have inner : ∀ m : List (List AVal × AVal), (∀ y ∈ m, Knows3 IP G HP x.1 y.1 y.2) → ∃ K, ∀ y ∈ m, ∃ fn H1, IP x.1 = some fn ∧ fn.mode = 3 ∧ bodyI (exec IP G K) fn HP.next y.1 HP = some (y.2, H1) ∧ below HP.next y.2 = true := by
        intro m
        induction m with
        | nil => intro _; exact ⟨0, fun x hx => by cases hx⟩
        | cons y m ihm =>
          intro hm
          obtain ⟨K2, h2⟩ := ihm fun z hz => hm z (List.mem_cons_of_mem _ hz)
          obtain ⟨K3, fn, H1, a1, a2, a3, a4⟩ := hm y (List.mem_cons_self ..)
          refine ⟨max K2 K3, fun z hz => ?_⟩
          rcases List.mem_cons.1 hz with rfl | hz
          · exact ⟨fn, H1, a1, a2, bodyI_mono (exec_mono (Nat.le_max_right _ _)) a3, a4⟩
          · obtain ⟨fn', H1', b1, b2, b3, b4⟩ := h2 z hz
            exact ⟨fn', H1', b1, b2, bodyI_mono (exec_mono (Nat.le_max_left _ _)) b3, b4⟩
      obtain ⟨K2, h2⟩ := inner x.2 (hk x (List.mem_cons_self ..))
      refine ⟨max K1 K2, fun z hz y hy => ?_⟩
      rcases List.mem_cons.1 hz with rfl | hz
      · obtain ⟨fn', H1', b1, b2, b3, b4⟩ := h2 y hy
        exact ⟨fn', H1', b1, b2, bodyI_mono (exec_mono (Nat.le_max_right _ _)) b3, b4⟩
      · obtain ⟨fn', H1', b1, b2, b3, b4⟩ := h1 z hz y hy
        exact ⟨fn', H1', b1, b2, bodyI_mono (exec_mono (Nat.le_max_left _ _)) b3, b4⟩
  obtain ⟨K, hK⟩ := key l h
  refine ⟨K, fun g args H v hl => ?_⟩
  unfold look3 at hl
  rw [bindO_eq] at hl
  rcases hg : (buildM l).get g with _ | m
  · rw [hg] at hl; cases hl
  · rw [hg] at hl
    cases he : eqH HP H with
    | false => rw [he] at hl; cases hl
    | true =>
      rw [he] at hl
      have := eqH_eq _ _ he
      subst this
      exact hK (g, m) (buildM_get l g m hg) (args, v) (find_mem hl)
/-- What a run leans on. -/
structure Lean3 (tab : List (Nat × IFunc)) (G : AHeap) (L : FuncId → List AVal → Option AVal) (L3 : Look3) : Prop where
  ok : ∃ K, MemoOK (tabIP tab) G K L ∧ Memo3OK (tabIP tab) G K L3
theorem lean3_of {tab : List (Nat × IFunc)} {G HP : AHeap} {l l3 : List (Nat × List (List AVal × AVal))} (h : Known (tabIP tab) G l) (h3 : Known3 (tabIP tab) G HP l3) : Lean3 tab G (lookK (buildM l)) (look3 HP (buildM l3)) := by
  obtain ⟨K1, h1⟩ := known_ok h
  obtain ⟨K2, h2⟩ := known3_ok h3
  exact ⟨max K1 K2, memo_mono h1 (Nat.le_max_left _ _), memo3_mono h2 (Nat.le_max_right _ _)⟩
theorem lean3_no {tab : List (Nat × IFunc)} {G : AHeap} {l : List (Nat × List (List AVal × AVal))} (h : Known (tabIP tab) G l) : Lean3 tab G (lookK (buildM l)) no3 := by
  obtain ⟨K1, h1⟩ := known_ok h
  exact ⟨K1, h1, no3_ok⟩
/-- One run more. -/
theorem knows_run {tab : List (Nat × IFunc)} {G : AHeap} {L : FuncId → List AVal → Option AVal} {L3 : Look3} (hl : Lean3 tab G L L3) {g : FuncId} {fn : IFunc} (hf : tabIP tab g = some fn) (hm : fn.mode = 2) {args : List AVal} (ha : mapO (snapV G 16) args = some args) {v : AVal} {k : Nat}
    (h : isVal v (callKM L L3 (buildT tab) G k G.next g args G) = true) : KnowsR (tabIP tab) G g args v := by
  obtain ⟨K, hK, hK3⟩ := hl.ok
  rcases hc : callKM L L3 (buildT tab) G k G.next g args G with _ | ⟨u, H1⟩
  · rw [hc] at h; cases h
  · rw [hc] at h
    have h1 := eqA_eq _ _ h
    simp only at h1
    subst h1
    have h2 := callKM_F (buildT_get tab) hK hK3 hc
    simp only [acall, callI, callB, hf, hm, ha] at h2
    split at h2
    · rename_i w H2 hb
      split at h2
      · rename_i w' hz
        cases h2
        exact ⟨k + K, fn, w, H2, hf, hm, hb, hz⟩
      · cases h2
    · cases h2
/-- One run of mode 3 more. -/
theorem knows3_run {tab : List (Nat × IFunc)} {G HP : AHeap} {L : FuncId → List AVal → Option AVal} {L3 : Look3} (hl : Lean3 tab G L L3) {g : FuncId} {fn : IFunc} (hf : tabIP tab g = some fn) (hm : fn.mode = 3) {args : List AVal} {v : AVal} {k : Nat}
    (h : isVal v (callKM L L3 (buildT tab) G k HP.next g args HP) = true) : Knows3 (tabIP tab) G HP g args v := by
  obtain ⟨K, hK, hK3⟩ := hl.ok
  rcases hc : callKM L L3 (buildT tab) G k HP.next g args HP with _ | ⟨u, H1⟩
  · rw [hc] at h; cases h
  · rw [hc] at h
    have h1 := eqA_eq _ _ h
    simp only at h1
    subst h1
    have h2 := callKM_F (buildT_get tab) hK hK3 hc
    simp only [acall, callI, callB, hf, hm] at h2
    split at h2
    · rename_i w H2 hb
      split at h2
      · rename_i hbl
        cases h2
        exact ⟨k + K, fn, H2, hf, hm, hb, hbl⟩
      · cases h2
    · cases h2
/-- A closed call that leans on runs. -/
theorem closed_memo {tab : List (Nat × IFunc)} {G : AHeap} {L : FuncId → List AVal → Option AVal} {L3 : Look3} (hl : Lean3 tab G L L3) {f k : Nat} (h : isTrueP (callKM L L3 (buildT tab) G k G.next f [] G) = true) : ∃ H', Brings (tabIP tab) G G.next f [] G (.b true) H' := by
  obtain ⟨K, hK, hK3⟩ := hl.ok
  unfold isTrueP at h
  split at h
  · rename_i H' he
    exact ⟨H', k + K, callKM_F (buildT_get tab) hK hK3 he⟩
  · cases h
end Go.RI

/- RI: a function's hints, told by its code. Conditions: none. -/
namespace Go.RI
open Go
def killsOf : ICode → List (List Nat)
  | .skip => [[]]
  | .region _ k => [k]
  | .seq a b => killsOf a ++ killsOf b
  | .cond _ a b => killsOf a ++ killsOf b
  | .block _ b => killsOf b
  | .loop b => killsOf b
  | _ => []
def hzA (o : List (Nat × List Nat)) : List (List Nat) → Nat → List Hint
  | [], _ => []
  | k :: l, i => ((match o.find? fun x => x.1 == i with | some x => x.2 | none => []), k) :: hzA o l (i + 1)
/-- The hints of code; 'o': the orders that aren't the text's. -/
def hz (o : List (Nat × List Nat)) (c : ICode) : List Hint := hzA o (killsOf c) 0
end Go.RI

