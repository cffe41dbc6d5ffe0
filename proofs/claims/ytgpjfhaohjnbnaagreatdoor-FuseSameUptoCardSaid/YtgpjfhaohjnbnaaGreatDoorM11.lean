import Derived.Test.YtgpjfhaohjnbnaaGreatDoorM09
import Derived.Test.YtgpjfhaohjnbnaaGreatDoorM10
import Derived.Test.YtgpjfhaohjnbnaaGreatDoorM07
set_option linter.unusedVariables false
set_option linter.unusedSimpArgs false
set_option linter.unusedSectionVars false
/- RI, part QE: trees of a piece type are pieces. Conditions: none. -/
namespace Go.RI
open Go
structure PceTys (P : Program) (tI tS tV tLV tLS tO tLO tSt tLSt tP : TypeId) : Prop where
  i : P.underlying tI = some (.int .i64)
  s : P.underlying tS = some .string
  v : ∃ fs, P.underlying tV = some (.struct fs) ∧ fs.toList.map (·.type) = [tI, tI, tS, tLV, tLS]
  lv : P.underlying tLV = some (.slice tV)
  ls : P.underlying tLS = some (.slice tS)
  o : ∃ fs, P.underlying tO = some (.struct fs) ∧ fs.toList.map (·.type) = [tI, tI, tV]
  lo : P.underlying tLO = some (.slice tO)
  st : ∃ fs, P.underlying tSt = some (.struct fs) ∧ fs.toList.map (·.type) = [tI, tI, tLO, tS, tLS]
  lst : P.underlying tLSt = some (.slice tSt)
  p : ∃ fs, P.underlying tP = some (.struct fs) ∧ fs.toList.map (·.type) = [tI, tI, tI, tI, tLSt, tLO, tI, tI, tO, tI]
section
variable {P : Program}
theorem tyM_int {t : TypeId} {n m : Nat} {l : List AVal} (hu : P.underlying t = some (.int .i64)) (h : TyM P n t l m) : ∃ i, l = [.i .i64 i] := by
  cases n with
  | zero => cases h
  | succ n => unfold TyM at h; rw [hu] at h; obtain ⟨i, h1, _⟩ := h; exact ⟨i, h1⟩
theorem tyM_str {t : TypeId} {n m : Nat} {l : List AVal} (hu : P.underlying t = some .string) (h : TyM P n t l m) : ∃ s : Str, l = Enc.cells s ∧ 1 + s.length ≤ m := by
  cases n with
  | zero => cases h
  | succ n => unfold TyM at h; rw [hu] at h; obtain ⟨s, h1, h2⟩ := h; exact ⟨s, h1, by omega⟩
theorem tyM_slice {t e : TypeId} {n m : Nat} {l : List AVal} (hu : P.underlying t = some (.slice e)) {α : Type} [Enc α] (μ : α → Nat) (hx : ∀ n x m, TyM P n e x m → ∃ a : α, x = Enc.cells a ∧ μ a ≤ m) (h : TyM P n t l m) : ∃ bs : List α, l = [.fs false false bs.length (encs bs)] ∧ (bs.map μ).sum + 1 ≤ m := by
  cases n with
  | zero => cases h
  | succ n =>
    unfold TyM at h
    rw [hu] at h
    obtain ⟨es, rfl, h1, h2⟩ := h
    have : ∃ bs : List α, bs.length = es.length ∧ (es.map (·.1)).flatten = encs bs ∧ (bs.map μ).sum ≤ (es.map (·.2)).sum := by
      clear h1
      induction es with
      | nil => exact ⟨[], rfl, rfl, Nat.le_refl _⟩
      | cons x es ih =>
        obtain ⟨bs, g1, g2, g3⟩ := ih fun y hy => h2 y (List.mem_cons_of_mem _ hy)
        obtain ⟨a, g4, g5⟩ := hx _ _ _ (h2 x (List.mem_cons_self ..)).1
        exact ⟨a :: bs, by simp [g1], by simp [g2, g4], by simp only [List.map_cons, List.sum_cons]; omega⟩
    obtain ⟨bs, g1, g2, g3⟩ := this
    exact ⟨bs, by rw [g1, g2], by omega⟩
theorem tyM_struct {t : TypeId} {n m : Nat} {l : List AVal} {ts : List TypeId} (hu : ∃ fs, P.underlying t = some (.struct fs) ∧ fs.toList.map (·.type) = ts) (h : TyM P (n + 1) t l m) :
    ∃ xs : List (List AVal × Nat), l = (xs.map (·.1)).flatten ∧ xs.length = ts.length ∧ (xs.map (·.2)).sum + 1 ≤ m ∧ ∀ (i : Nat) t x, ts[i]? = some t → xs[i]? = some x → TyM P n t x.1 x.2 := by
  obtain ⟨fs, hu, rfl⟩ := hu
  unfold TyM at h
  rw [hu] at h
  obtain ⟨xs, h1, h2, h3, h4⟩ := h
  refine ⟨xs, h1, by simpa using h2, h3, fun i t x ht hx => ?_⟩
  rw [List.getElem?_map] at ht
  obtain ⟨f, hf, rfl⟩ := Option.map_eq_some_iff.1 ht
  exact (h4 i f x hf hx).1
theorem sum_bulkS : ∀ l : List Str, (l.map fun s => 1 + s.length).sum = bulkS l
  | [] => rfl
  | s :: l => by simp only [List.map_cons, List.sum_cons, bulkS]; rw [sum_bulkS l]
theorem sum_bulkL : ∀ l : List Val, (l.map Val.bulk).sum = bulkL l
  | [] => rfl
  | v :: l => by simp only [List.map_cons, List.sum_cons, bulkL]; rw [sum_bulkL l]
theorem list3 {α : Type} {l : List α} (h : l.length = 3) : ∃ a b c, l = [a, b, c] := by
  match l, h with
  | [a, b, c], _ => exact ⟨a, b, c, rfl⟩
theorem list5 {α : Type} {l : List α} (h : l.length = 5) : ∃ a b c d e, l = [a, b, c, d, e] := by
  match l, h with
  | [a, b, c, d, e], _ => exact ⟨a, b, c, d, e, rfl⟩
theorem list10 {α : Type} {l : List α} (h : l.length = 10) : ∃ a b c d e f g i j k, l = [a, b, c, d, e, f, g, i, j, k] := by
  match l, h with
  | [a, b, c, d, e, f, g, i, j, k], _ => exact ⟨a, b, c, d, e, f, g, i, j, k, rfl⟩
variable {tI tS tV tLV tLS tO tLO tSt tLSt tP : TypeId}
theorem tyM_strs (K : PceTys P tI tS tV tLV tLS tO tLO tSt tLSt tP) {n m : Nat} {l : List AVal} (h : TyM P n tLS l m) : ∃ ns : List Str, l = [.fs false false ns.length (encs ns)] ∧ bulkS ns + 1 ≤ m := by
  obtain ⟨ns, h1, h2⟩ := tyM_slice K.ls (fun s : Str => 1 + s.length) (fun n x m hx => tyM_str K.s hx) h
  exact ⟨ns, h1, by rw [← sum_bulkS]; exact h2⟩
theorem tyM_val (K : PceTys P tI tS tV tLV tLS tO tLO tSt tLSt tP) : ∀ (n m : Nat) (l : List AVal), TyM P n tV l m → ∃ v : Val, l = Enc.cells v ∧ v.bulk ≤ m := by
  intro n
  induction n using Nat.strongRecOn with
  | _ n ih =>
    intro m l h
    cases n with
    | zero => cases h
    | succ n =>
      obtain ⟨xs, rfl, h1, h2, h3⟩ := tyM_struct K.v h
      obtain ⟨x0, x1, x2, x3, x4, rfl⟩ := list5 h1
      obtain ⟨k, e0⟩ := tyM_int K.i (h3 0 tI x0 rfl rfl)
      obtain ⟨i, e1⟩ := tyM_int K.i (h3 1 tI x1 rfl rfl)
      obtain ⟨s, e2, b2⟩ := tyM_str K.s (h3 2 tS x2 rfl rfl)
      have h4 := h3 3 tLV x3 rfl rfl
      obtain ⟨ns, e4, b4⟩ := tyM_strs K (h3 4 tLS x4 rfl rfl)
      have : ∃ vs : List Val, x3.1 = [.fs false false vs.length (encs vs)] ∧ (vs.map Val.bulk).sum + 1 ≤ x3.2 := by
        cases n with
        | zero => cases h4
        | succ n =>
          unfold TyM at h4
          rw [K.lv] at h4
          obtain ⟨es, g0, g1, g2⟩ := h4
          have : ∃ bs : List Val, bs.length = es.length ∧ (es.map (·.1)).flatten = encs bs ∧ (bs.map Val.bulk).sum ≤ (es.map (·.2)).sum := by
            clear g0 g1
            induction es with
            | nil => exact ⟨[], rfl, rfl, Nat.le_refl _⟩
            | cons x es ihe =>
              obtain ⟨bs, f1, f2, f3⟩ := ihe fun y hy => g2 y (List.mem_cons_of_mem _ hy)
              obtain ⟨a, f4, f5⟩ := ih n (by omega) _ _ (g2 x (List.mem_cons_self ..)).1
              exact ⟨a :: bs, by simp [f1], by rw [List.map_cons, List.flatten_cons, f2, f4, encs_cons], by simp only [List.map_cons, List.sum_cons]; omega⟩
          obtain ⟨bs, f1, f2, f3⟩ := this
          exact ⟨bs, by rw [g0, f1, f2], by omega⟩
      obtain ⟨vs, e3, b3⟩ := this
      refine ⟨.mk k i s vs ns, ?_, ?_⟩
      · simp only [List.map_cons, List.map_nil, List.flatten_cons, List.flatten_nil, e0, e1, e2, e3, e4, cells_val, cells_str]
        rfl
      · rw [sum_bulkL] at b3
        simp only [List.map_cons, List.map_nil, List.sum_cons, List.sum_nil] at h2
        simp only [Val.bulk]
        omega
def opnB (o : Opn) : Nat := 1 + o.v.bulk
def stpB (i : Stp) : Nat := (i.l.map opnB).sum + i.s.length + bulkS i.names + 1
theorem tyM_opn (K : PceTys P tI tS tV tLV tLS tO tLO tSt tLSt tP) (n : Nat) (l : List AVal) (m : Nat) (h : TyM P n tO l m) : ∃ o : Opn, l = Enc.cells o ∧ 1 + o.v.bulk ≤ m := by
  cases n with
  | zero => cases h
  | succ n =>
    obtain ⟨xs, rfl, h1, h2, h3⟩ := tyM_struct K.o h
    obtain ⟨x0, x1, x2, rfl⟩ := list3 h1
    obtain ⟨k, e0⟩ := tyM_int K.i (h3 0 tI x0 rfl rfl)
    obtain ⟨i, e1⟩ := tyM_int K.i (h3 1 tI x1 rfl rfl)
    obtain ⟨v, e2, b2⟩ := tyM_val K _ _ _ (h3 2 tV x2 rfl rfl)
    refine ⟨⟨k, i, v⟩, ?_, ?_⟩
    · simp only [List.map_cons, List.map_nil, List.flatten_cons, List.flatten_nil, e0, e1, e2, cells_opn, cells_val]
      rfl
    · simp only [List.map_cons, List.map_nil, List.sum_cons, List.sum_nil] at h2
      show 1 + v.bulk ≤ m
      omega
theorem sum_len {α : Type} (μ : α → Nat) (hp : ∀ a, 1 ≤ μ a) : ∀ l : List α, l.length ≤ (l.map μ).sum
  | [] => Nat.le_refl _
  | a :: l => by have := sum_len μ hp l; have := hp a; simp only [List.map_cons, List.sum_cons, List.length_cons]; omega
theorem sum_mem {α : Type} (μ : α → Nat) : ∀ {l : List α} {a : α}, a ∈ l → μ a ≤ (l.map μ).sum
  | b :: l, a, h => by
    simp only [List.map_cons, List.sum_cons]
    rcases List.mem_cons.1 h with rfl | h
    · omega
    · have := sum_mem μ h; omega
theorem tyM_opns (K : PceTys P tI tS tV tLV tLS tO tLO tSt tLSt tP) {n m : Nat} {l : List AVal} (h : TyM P n tLO l m) : ∃ os : List Opn, l = [.fs false false os.length (encs os)] ∧ (os.map opnB).sum + 1 ≤ m :=
  tyM_slice K.lo opnB (fun n x m hx => tyM_opn K n x m hx) h
theorem opns_ok {os : List Opn} (h : (os.map opnB).sum < 549755813887) : os.length < 1099511627776 ∧ ∀ o ∈ os, okO o := by
  refine ⟨?_, fun o ho => ?_⟩
  · have := sum_len opnB (fun a => by unfold opnB; omega) os
    omega
  · have := sum_mem opnB ho
    unfold okO
    unfold opnB at this h
    omega
theorem tyM_stp (K : PceTys P tI tS tV tLV tLS tO tLO tSt tLSt tP) (n : Nat) (l : List AVal) (m : Nat) (h : TyM P n tSt l m) : ∃ i : Stp, l = Enc.cells i ∧ stpB i ≤ m := by
  cases n with
  | zero => cases h
  | succ n =>
    obtain ⟨xs, rfl, h1, h2, h3⟩ := tyM_struct K.st h
    obtain ⟨x0, x1, x2, x3, x4, rfl⟩ := list5 h1
    simp only [List.map_cons, List.map_nil, List.sum_cons, List.sum_nil] at h2
    obtain ⟨k, e0⟩ := tyM_int K.i (h3 0 tI x0 rfl rfl)
    obtain ⟨i, e1⟩ := tyM_int K.i (h3 1 tI x1 rfl rfl)
    obtain ⟨os, e2, b2⟩ := tyM_opns K (h3 2 tLO x2 rfl rfl)
    obtain ⟨s, e3, b3⟩ := tyM_str K.s (h3 3 tS x3 rfl rfl)
    obtain ⟨ns, e4, b4⟩ := tyM_strs K (h3 4 tLS x4 rfl rfl)
    refine ⟨⟨k, i, os, s, ns⟩, ?_, by show (os.map opnB).sum + s.length + bulkS ns + 1 ≤ m; omega⟩
    simp only [List.map_cons, List.map_nil, List.flatten_cons, List.flatten_nil, e0, e1, e2, e3, e4, cells_stp, cells_str]
    rfl
theorem stp_ok {i : Stp} (h : stpB i < 549755813887) : okStp i := by
  unfold stpB at h
  have := opns_ok (os := i.l) (by omega)
  exact ⟨by omega, by omega, this.1, this.2⟩
theorem tyM_pce (K : PceTys P tI tS tV tLV tLS tO tLO tSt tLSt tP) (n : Nat) (l : List AVal) (m : Nat) (h : TyM P n tP l m) (hm : m < 549755813887) : ∃ x : Pce, l = Enc.cells x ∧ okPce x := by
  cases n with
  | zero => cases h
  | succ n =>
    obtain ⟨xs, rfl, h1, h2, h3⟩ := tyM_struct K.p h
    obtain ⟨x0, x1, x2, x3, x4, x5, x6, x7, x8, x9, rfl⟩ := list10 h1
    simp only [List.map_cons, List.map_nil, List.sum_cons, List.sum_nil] at h2
    obtain ⟨a0, e0⟩ := tyM_int K.i (h3 0 tI x0 rfl rfl)
    obtain ⟨a1, e1⟩ := tyM_int K.i (h3 1 tI x1 rfl rfl)
    obtain ⟨a2, e2⟩ := tyM_int K.i (h3 2 tI x2 rfl rfl)
    obtain ⟨a3, e3⟩ := tyM_int K.i (h3 3 tI x3 rfl rfl)
    obtain ⟨ss, e4, b4⟩ := tyM_slice K.lst stpB (fun n x m hx => tyM_stp K n x m hx) (h3 4 tLSt x4 rfl rfl)
    obtain ⟨os, e5, b5⟩ := tyM_opns K (h3 5 tLO x5 rfl rfl)
    obtain ⟨a6, e6⟩ := tyM_int K.i (h3 6 tI x6 rfl rfl)
    obtain ⟨a7, e7⟩ := tyM_int K.i (h3 7 tI x7 rfl rfl)
    obtain ⟨o, e8, b8⟩ := tyM_opn K _ _ _ (h3 8 tO x8 rfl rfl)
    obtain ⟨a9, e9⟩ := tyM_int K.i (h3 9 tI x9 rfl rfl)
    have hs := opns_ok (os := os) (by omega)
    refine ⟨⟨a0, a1, a2, a3, ss, os, a6, a7, o, a9⟩, ?_, fun i hi => stp_ok ?_, ?_, hs.1, hs.2, ?_⟩
    · simp only [List.map_cons, List.map_nil, List.flatten_cons, List.flatten_nil, e0, e1, e2, e3, e4, e5, e6, e7, e8, e9, cells_pce, cells_opn]
      rfl
    · have := sum_mem stpB hi
      simp only at this
      omega
    · have := sum_len stpB (fun a => by unfold stpB; omega) ss
      show ss.length < _
      omega
    · show o.v.bulk < _
      omega
end
end Go.RI
namespace Go.RI
open Go
def inR (n : Int) : Prop := -9223372036854775808 ≤ n ∧ n ≤ 9223372036854775807
theorem wrap_def (n : Int) : wrapI .i64 n = if -9223372036854775808 ≤ n ∧ n ≤ 9223372036854775807 then n else if n % 18446744073709551616 ≥ 9223372036854775808 then n % 18446744073709551616 - 18446744073709551616 else n % 18446744073709551616 := rfl
theorem wrap_mod (n : Int) : ∃ k, wrapI .i64 n = n + k * 18446744073709551616 := by
  rw [wrap_def]
  split
  · exact ⟨0, by omega⟩
  · split
    · exact ⟨-(n / 18446744073709551616) - 1, by omega⟩
    · exact ⟨-(n / 18446744073709551616), by omega⟩
theorem wrap_in (n : Int) : inR (wrapI .i64 n) := by
  unfold inR
  rw [wrap_def]
  split
  · assumption
  · split <;> omega
theorem wrap_eqm {a b k : Int} (h : a = b + k * 18446744073709551616) : wrapI .i64 a = wrapI .i64 b := by
  obtain ⟨i, hi⟩ := wrap_mod a
  obtain ⟨j, hj⟩ := wrap_mod b
  have h1 := wrap_in a
  have h2 := wrap_in b
  unfold inR at h1 h2
  omega
theorem wrapI_addr (a b : Int) : wrapI .i64 (a + wrapI .i64 b) = wrapI .i64 (a + b) := by
  obtain ⟨k, hk⟩ := wrap_mod b
  exact wrap_eqm (k := k) (by omega)
theorem wrapI_addl (a b : Int) : wrapI .i64 (wrapI .i64 a + b) = wrapI .i64 (a + b) := by
  obtain ⟨k, hk⟩ := wrap_mod a
  exact wrap_eqm (k := k) (by omega)
theorem may_num (n : Int) : mayV (numV n) = true := by simp [mayV, fitsV, fitsL, numV, ownV, bareV, lens]
theorem ints_add {a b : Val} (ha : mayV a = true) (hb : mayV b = true) : intsS 9 a b = if a.kind = 1 ∧ b.kind = 1 then some (numV (wrapI .i64 (a.n + b.n))) else none := by
  unfold intsS
  split
  · rename_i h; simp [binaryV, binV2, intsV, resV, ha, hb, h]
  · rfl
theorem ints_sub {a b : Val} (ha : mayV a = true) (hb : mayV b = true) : intsS 10 a b = if a.kind = 1 ∧ b.kind = 1 then some (numV (wrapI .i64 (a.n - b.n))) else none := by
  unfold intsS
  split
  · rename_i h; simp [binaryV, binV2, intsV, resV, ha, hb, h]
  · rfl
theorem ints_lt {a b : Val} (ha : mayV a = true) (hb : mayV b = true) : intsS 16 a b = if a.kind = 1 ∧ b.kind = 1 then some (yesV (decide (a.n < b.n))) else none := by
  unfold intsS
  split
  · rename_i h; simp [binaryV, binV2, intsV, resV, ha, hb, h]
  · rfl
def ev (homes made : List Val) (s : Stp) : Option Val := stepV s (s.l.map (ofO homes made))
def MadeBy (homes : List Val) (l : List Stp) (made : List Val) : Prop := made.length = l.length ∧ ∀ (k : Nat) (s : Stp), l[k]? = some s → ev homes (made.take k) s = made[k]?
theorem of_take {homes made : List Val} {k : Nat} {o : Opn} (h : o.kind = 2 → 0 ≤ o.n ∧ o.n < k) : ofO homes (made.take k) o = ofO homes made o := by
  unfold ofO
  split
  · rfl
  · split
    · rename_i h2
      obtain ⟨h3, h4⟩ := h h2
      rw [List.getElem?_take, if_pos (by omega)]
    · rfl
theorem needs_two {s : Stp} (h : s.op = 43 ∨ s.op = 44 ∨ s.op = 46) : needs s = (2, 2, bareI s) := by
  rcases h with h | h | h <;> simp [needs, h]
theorem ev_two {homes made : List Val} {s : Stp} {x y : Opn} (hl : s.l = [x, y]) (ho : s.op = 43 ∨ s.op = 44 ∨ s.op = 46) (hb : bareI s = true) :
    ev homes made s = if mayV (ofO homes made x) = true ∧ mayV (ofO homes made y) = true then opS s [ofO homes made x, ofO homes made y] else none := by
  unfold ev stepV
  rw [needs_two ho, hb, hl]
  simp
theorem ev_one {homes made : List Val} {op n : Int} {x : Opn} (ho : op = 48 ∨ op = 49) :
    ev homes made ⟨op, n, [x], [], []⟩ = if mayV (ofO homes made x) = true then opS ⟨op, n, [x], [], []⟩ [ofO homes made x] else none := by
  unfold ev stepV
  rw [needs_n (by simpa using ho)]
  simp [nmd]
theorem fits_bare {homes a : Int} {s : Stp} (h : stpFits homes a s = true) (ho : s.op = 43 ∨ s.op = 44 ∨ s.op = 46) : bareI s = true := by
  unfold stpFits at h
  rw [needs_two ho] at h
  simp only [Bool.and_eq_true] at h
  exact h.1.1.1
theorem num_of {homes made : List Val} {nh at_ : Int} {o : Opn} (h : isNum o = true) (hf : opnFits nh at_ o = true) : ofO homes made o = o.v ∧ o.v.kind = 1 ∧ mayV o.v = true := by
  simp only [isNum, Bool.and_eq_true, decide_eq_true_eq] at h
  obtain ⟨h1, h2⟩ := h
  refine ⟨by simp [ofO, h1], h2, ?_⟩
  unfold opnFits at hf
  simp [h1] at hf
  exact hf.2
theorem two_len {l : List Opn} (h : l.length = 2) : ∃ x y, l = [x, y] := by
  match l, h with
  | [x, y], _ => exact ⟨x, y, rfl⟩
theorem second_ev {homes made : List Val} {nh at_ : Int} {s : Stp} (op to sign : Int) (ho : (op = 43 ∧ to = 48 ∧ sign = 1) ∨ (op = 44 ∧ to = 48 ∧ sign = -1) ∨ (op = 46 ∧ to = 49 ∧ sign = 1)) (hf : stpFits nh at_ s = true) (hr : ∀ o ∈ s.l, inR o.v.n)
    (h : (rowSecond op to sign s).2 = true) : ev homes made (rowSecond op to sign s).1 = ev homes made s := by
  unfold rowSecond at h ⊢
  by_cases h1 : s.op = op
  · rw [if_pos h1] at h ⊢
    have hop : s.op = 43 ∨ s.op = 44 ∨ s.op = 46 := by omega
    obtain ⟨x, y, hl⟩ := two_len (fits_two hf hop)
    have hfy := fits_all hf y (by rw [hl]; simp)
    have hry := hr y (by rw [hl]; simp)
    simp only [hl, List.getElem?_cons_succ, List.getElem?_cons_zero, Option.getD_some] at h
    obtain ⟨e1, e2, e3⟩ := num_of (homes := homes) (made := made) h hfy
    rw [ev_two hl hop (fits_bare hf hop), e1]
    simp only [hl, List.take_succ_cons, List.take_zero, List.getElem?_cons_succ, List.getElem?_cons_zero, Option.getD_some]
    rw [ev_one (by omega)]
    simp only [e3, and_true]
    by_cases hm : mayV (ofO homes made x) = true
    · rw [if_pos hm, if_pos hm]
      rcases ho with ⟨rfl, rfl, rfl⟩ | ⟨rfl, rfl, rfl⟩ | ⟨rfl, rfl, rfl⟩
      · simp only [opS, h1]
        simp only [List.getElem?_cons_zero, List.getElem?_cons_succ, Option.getD_some]
        simp [ints_add hm e3, ints_add hm (may_num _), e2]
        simp [numV, wrapI_addr]
      · simp only [opS, h1]
        simp only [List.getElem?_cons_zero, List.getElem?_cons_succ, Option.getD_some]
        simp [ints_sub hm e3, ints_add hm (may_num _), e2]
        simp [numV, wrapI_addr, Int.sub_eq_add_neg]
      · simp only [opS, h1]
        simp only [List.getElem?_cons_zero, List.getElem?_cons_succ, Option.getD_some]
        simp [ints_lt hm e3, ints_lt hm (may_num _), e2]
        simp [numV, wrap_ok hry.1 hry.2]
    · rw [if_neg hm, if_neg hm]
  · rw [if_neg h1]
theorem first_ev {homes made : List Val} {nh at_ : Int} {s : Stp} (hf : stpFits nh at_ s = true) (h : (rowFirst s).2 = true) : ev homes made (rowFirst s).1 = ev homes made s := by
  unfold rowFirst at h ⊢
  by_cases h1 : s.op = 43
  · rw [if_pos h1] at h ⊢
    obtain ⟨x, y, hl⟩ := two_len (fits_two hf (.inl h1))
    have hfx := fits_all hf x (by rw [hl]; simp)
    simp only [hl, List.getElem?_cons_succ, List.getElem?_cons_zero, Option.getD_some] at h
    obtain ⟨e1, e2, e3⟩ := num_of (homes := homes) (made := made) h hfx
    rw [ev_two hl (.inl h1) (fits_bare hf (.inl h1)), e1]
    simp only [hl, List.drop_succ_cons, List.drop_zero, List.getElem?_cons_zero, Option.getD_some]
    rw [ev_one (.inl rfl)]
    simp only [e3, true_and]
    by_cases hm : mayV (ofO homes made y) = true
    · rw [if_pos hm, if_pos hm]
      simp only [opS, h1]
      simp only [List.getElem?_cons_zero, List.getElem?_cons_succ, Option.getD_some]
      simp [ints_add e3 hm, ints_add hm (may_num _), e2]
      simp [numV, Int.add_comm]
    · rw [if_neg hm, if_neg hm]
  · rw [if_neg h1]
theorem one_len {l : List Opn} (h : l.length = 1) : ∃ x, l = [x] := by
  match l, h with
  | [x], _ => exact ⟨x, rfl⟩
theorem bare_n {homes a : Int} {s : Stp} (h : stpFits homes a s = true) (ho : s.op = 48 ∨ s.op = 49) : s.s = [] ∧ s.names = [] := by
  unfold stpFits at h
  rw [needs_n ho] at h
  simp only [Bool.and_eq_true, beq_iff_eq, nmd, decide_eq_false_iff_not] at h
  obtain ⟨⟨⟨⟨h1, h2⟩, _⟩, _⟩, _⟩ := h
  refine ⟨h1, List.eq_nil_of_length_eq_zero (by omega)⟩
theorem chain_ev {homes made : List Val} {nh : Int} {l : List Stp} {s : Stp} (hl : Fits nh l) (hd : MadeBy homes l made) (hf : stpFits nh l.length s = true) (h : (rowChain l s).2 = true) : ev homes made (rowChain l s).1 = ev homes made s := by
  unfold rowChain at h ⊢
  by_cases h1 : s.op = 48 ∧ (s.l[0]?.getD default).kind = 2
  · rw [if_pos h1] at h ⊢
    obtain ⟨x, hx⟩ := one_len (fits_one hf (.inl h1.1))
    have hfx := fits_all hf x (by rw [hx]; simp)
    simp only [hx, List.getElem?_cons_zero, Option.getD_some] at h h1 ⊢
    obtain ⟨b1, b2⟩ := opnFits_step hfx h1.2
    obtain ⟨j, hj⟩ := get_of_lt (l := l) (i := x.n.toNat) (by omega)
    simp only [hj, Option.getD_some, decide_eq_true_eq] at h ⊢
    have hfj := hl _ _ hj
    obtain ⟨p, hp⟩ := one_len (fits_one hfj (.inl h))
    have hmj := hd.2 _ _ hj
    obtain ⟨q1, q2⟩ := bare_n hf (.inl h1.1)
    obtain ⟨r1, r2⟩ := bare_n hfj (.inl h)
    have es : s = ⟨48, s.n, [x], [], []⟩ := by cases s; simp at *; exact ⟨h1.1, hx, q1, q2⟩
    have ej : j = ⟨48, j.n, [p], [], []⟩ := by cases j; simp at *; exact ⟨h, hp, r1, r2⟩
    have hfp := fits_all hfj p (by rw [hp]; simp)
    have ep : ofO homes (made.take x.n.toNat) p = ofO homes made p := of_take fun hk => opnFits_step hfp hk
    rw [ej, ev_one (.inl rfl), ep] at hmj
    have ex : ofO homes made x = made[x.n.toNat]?.getD zeroVal := by simp [ofO, h1.2]
    have hlt : x.n.toNat < made.length := by rw [hd.1]; omega
    obtain ⟨v, hv⟩ := get_of_lt (l := made) hlt
    rw [hv] at hmj ex
    simp only [Option.getD_some] at ex
    rw [es, ev_one (.inl rfl), ex, hp, h, ev_one (.inl rfl)]
    by_cases hm : mayV (ofO homes made p) = true
    · rw [if_pos hm] at hmj ⊢
      simp [opS] at hmj
      rw [ints_add hm (may_num _)] at hmj
      split at hmj
      · rename_i hk
        obtain rfl := Option.some.inj hmj
        rw [if_pos (may_num _)]
        simp [opS]
        rw [ints_add hm (may_num _), ints_add (may_num _) (may_num _)]
        simp [numV, hk.1, wrapI_addr, wrapI_addl, Int.add_assoc]
      · cases hmj
    · rw [if_neg hm] at hmj; cases hmj
  · rw [if_neg h1]
theorem row_ev {homes made : List Val} {nh : Int} {l : List Stp} {s : Stp} (n : Nat) (hl : Fits nh l) (hd : MadeBy homes l made) (hf : stpFits nh l.length s = true) (hr : ∀ o ∈ s.l, inR o.v.n) (h : (rowAtN n l s).2 = true) : ev homes made (rowAtN n l s).1 = ev homes made s := by
  match n with
  | 0 => exact second_ev 43 48 1 (by omega) hf hr h
  | 1 => exact first_ev hf h
  | 2 => exact second_ev 44 48 (-1) (by omega) hf hr h
  | 3 => exact second_ev 46 49 1 (by omega) hf hr h
  | _ + 4 => exact chain_ev hl hd hf h
theorem row_rng {l : List Stp} {s : Stp} (n : Nat) (hl : ∀ j ∈ l, ∀ o ∈ j.l, inR o.v.n) (hr : ∀ o ∈ s.l, inR o.v.n) (h : (rowAtN n l s).2 = true) (hs : Sound l s) : ∀ o ∈ (rowAtN n l s).1.l, inR o.v.n := by
  have sec : ∀ op to sign : Int, ∀ o ∈ (rowSecond op to sign s).1.l, inR o.v.n := by
    intro op to sign o ho
    unfold rowSecond at ho
    split at ho
    · exact hr o (List.mem_of_mem_take ho)
    · exact hr o ho
  match n with
  | 0 => exact sec _ _ _
  | 1 =>
    intro o ho
    simp only [rowAtN, rowFirst] at ho
    split at ho
    · exact hr o (List.mem_of_mem_drop ho)
    · exact hr o ho
  | 2 => exact sec _ _ _
  | 3 => exact sec _ _ _
  | _ + 4 =>
    intro o ho
    simp only [rowAtN] at ho h
    unfold rowChain at ho h
    split at ho
    · rename_i h1
      obtain ⟨x, m, hm⟩ := one_of (hs.2.1 (.inl h1.1))
      simp only [hm, List.getElem?_cons_zero, Option.getD_some] at ho h1
      obtain ⟨h3, h4⟩ := hs.2.2 x (by rw [hm]; simp) h1.2
      obtain ⟨j, hj⟩ := get_of_lt (l := l) (i := x.n.toNat) (by omega)
      rw [hj] at ho
      exact hl j (List.mem_of_getElem? hj) o ho
    · exact hr o ho
theorem turned_ev {homes made : List Val} {nh : Int} {l : List Stp} {s : Stp} (hl : Fits nh l) (hd : MadeBy homes l made) (hlr : ∀ j ∈ l, ∀ o ∈ j.l, inR o.v.n) (hf : stpFits nh l.length s = true) (hr : ∀ o ∈ s.l, inR o.v.n) :
    ev homes made (turned l s) = ev homes made s ∧ ∀ o ∈ (turned l s).l, inR o.v.n := by
  have key := turned_keeps (l := l) (P := fun j => stpFits nh l.length j = true ∧ (∀ o ∈ j.l, inR o.v.n) ∧ ev homes made j = ev homes made s) (fits_sounds hl)
    (fun n j hs hp h => ⟨row_fits n hl hp.1 h, row_rng n hlr hp.2.1 h hs, (row_ev n hl hd hp.1 hp.2.1 h).trans hp.2.2⟩) s (fits_sound hf) ⟨hf, hr, rfl⟩
  exact ⟨key.2.2, key.2.1⟩
theorem made_add {homes made : List Val} {nh : Int} {l : List Stp} {s : Stp} {v : Val} (hd : MadeBy homes l made) (hf : Fits nh l) (h : ev homes made s = some v) : MadeBy homes (l ++ [s]) (made ++ [v]) := by
  refine ⟨by simp [hd.1], fun k t hk => ?_⟩
  rcases Nat.lt_or_ge k l.length with h1 | h1
  · rw [List.getElem?_append_left h1] at hk
    rw [List.getElem?_append_left (by rw [hd.1]; exact h1), List.take_append_of_le_length (by rw [hd.1]; omega)]
    exact hd.2 k t hk
  · have hk2 : k = l.length := by
      rcases Nat.lt_or_ge k (l.length + 1) with h2 | h2
      · omega
      · rw [List.getElem?_eq_none (by simp; omega)] at hk; cases hk
    subst hk2
    simp at hk
    subst hk
    have : made.length = l.length := hd.1
    rw [← this]
    simp [h]
theorem fuse_steps {homes : List Val} {nh : Int} : ∀ (l acc : List Stp) (made : List Val), Fits nh acc → MadeBy homes acc made → (∀ j ∈ acc, ∀ o ∈ j.l, inR o.v.n) → (∀ (k : Nat) (s : Stp), l[k]? = some s → stpFits nh (acc.length + k) s = true) → (∀ j ∈ l, ∀ o ∈ j.l, inR o.v.n) →
    ∃ more, fuseL acc l = acc ++ more ∧ stepsV homes more made = stepsV homes l made
  | [], acc, made, _, _, _, _, _ => ⟨[], by simp [fuseL], rfl⟩
  | s :: l, acc, made, hf, hd, hr, hfs, hrs => by
    have h0 := hfs 0 s rfl
    simp at h0
    obtain ⟨e1, e2⟩ := turned_ev hf hd hr h0 (hrs s (by simp))
    have hft := turned_fits hf h0
    have e3 : stepV (turned acc s) ((turned acc s).l.map (ofO homes made)) = stepV s (s.l.map (ofO homes made)) := e1
    simp only [fuseL]
    cases hv : stepV s (s.l.map (ofO homes made)) with
    | none =>
      refine ⟨(fuseL (acc ++ [turned acc s]) l).drop acc.length, ?_, ?_⟩
      · have : ∀ (l a : List Stp), ∃ m, fuseL a l = a ++ m := by
          intro l
          induction l with
          | nil => exact fun a => ⟨[], by simp [fuseL]⟩
          | cons b l ih => intro a; obtain ⟨m, hm⟩ := ih (a ++ [turned a b]); exact ⟨turned a b :: m, by simp [fuseL, hm]⟩
        obtain ⟨m, hm⟩ := this l (acc ++ [turned acc s])
        rw [hm]; simp
      · have : ∀ (l a : List Stp), ∃ m, fuseL a l = a ++ m := by
          intro l
          induction l with
          | nil => exact fun a => ⟨[], by simp [fuseL]⟩
          | cons b l ih => intro a; obtain ⟨m, hm⟩ := ih (a ++ [turned a b]); exact ⟨turned a b :: m, by simp [fuseL, hm]⟩
        obtain ⟨m, hm⟩ := this l (acc ++ [turned acc s])
        rw [hm]
        simp [stepsV, e3, hv]
    | some v =>
      obtain ⟨more, h1, h2⟩ := fuse_steps l (acc ++ [turned acc s]) (made ++ [v]) (fits_add hf hft) (made_add hd hf (by rw [e1]; exact hv)) (fun j hj => by
        rcases List.mem_append.1 hj with h | h
        · exact hr j h
        · simp at h; subst h; exact e2) (fun k t hk => by
        have := hfs (k + 1) t (by simpa using hk)
        rw [show (((acc ++ [turned acc s]).length : Nat) : Int) + k = acc.length + ((k + 1 : Nat) : Int) by simp; omega]
        exact this) (fun j hj => hrs j (by simp [hj]))
      refine ⟨turned acc s :: more, by rw [h1]; simp, ?_⟩
      simp only [stepsV, e3, hv, h2]
theorem fuse_do {x : Pce} (hc : checkP x = true) (hr : ∀ j ∈ x.ins, ∀ o ∈ j.l, inR o.v.n) (homes : List Val) : doP (fuseP x) homes = doP x homes := by
  obtain ⟨more, h1, h2⟩ := fuse_steps (homes := homes) (nh := x.homes) x.ins [] [] (fun k s h => by simp at h) ⟨rfl, fun k s h => by simp at h⟩ (fun j hj => by cases hj) (fun k s hk => by
    have := check_fits hc k s hk
    simpa using this) hr
  simp at h1
  unfold doP
  rw [fuseP_check hc, hc]
  have : (fuseP x).ins = more := h1
  rw [this, h2]
  rfl
end Go.RI
namespace Go.RI
open Go
mutual
def rngV : AVal → Prop
  | .i .i64 n => inR n
  | .fs _ _ _ l => rngL l
  | .ag l => rngL l
  | _ => True
def rngL : List AVal → Prop
  | [] => True
  | v :: l => rngV v ∧ rngL l
end
theorem rngL_iff : ∀ l : List AVal, rngL l ↔ ∀ v ∈ l, rngV v
  | [] => by simp [rngL]
  | v :: l => by simp [rngL, rngL_iff l]
theorem rngL_app {l m : List AVal} : rngL (l ++ m) ↔ rngL l ∧ rngL m := by simp only [rngL_iff, List.mem_append]; constructor; exact fun h => ⟨fun v hv => h v (.inl hv), fun v hv => h v (.inr hv)⟩; exact fun h v hv => hv.elim (h.1 v) (h.2 v)
theorem rngL_flat {ls : List (List AVal)} (h : ∀ l ∈ ls, rngL l) : rngL ls.flatten := by
  induction ls with
  | nil => trivial
  | cons a ls ih => rw [List.flatten_cons, rngL_app]; exact ⟨h a (by simp), ih fun l hl => h l (by simp [hl])⟩
theorem wf_rng {i : Int} (h : (Lit.int .i64 i).wf = true) : inR i := by
  simp only [Lit.wf, Bool.and_eq_true, decide_eq_true_eq] at h
  exact h
theorem tyM_rng {P : Program} : ∀ (n : Nat) (t : TypeId) (l : List AVal) (m : Nat), TyM P n t l m → rngL l
  | 0, t, l, m, h => by simp [TyM] at h
  | n + 1, t, l, m, h => by
    unfold TyM at h
    split at h
    · obtain ⟨b, rfl⟩ := h; exact ⟨trivial, trivial⟩
    · rename_i k _
      obtain ⟨i, rfl, hw⟩ := h
      refine ⟨?_, trivial⟩
      cases k <;> first | exact wf_rng hw | trivial
    · obtain ⟨s, rfl, _⟩ := h; exact ⟨trivial, trivial⟩
    · obtain ⟨es, rfl, _, he⟩ := h
      refine ⟨?_, trivial⟩
      show rngL _
      refine rngL_flat fun l hl => ?_
      obtain ⟨x, hx, rfl⟩ := List.mem_map.1 hl
      exact tyM_rng n _ _ _ (he x hx).1
    · rename_i fs _
      obtain ⟨xs, rfl, hlen, _, he⟩ := h
      refine rngL_flat fun l hl => ?_
      obtain ⟨x, hx, rfl⟩ := List.mem_map.1 hl
      obtain ⟨i, hi⟩ := List.mem_iff_getElem?.1 hx
      have hil : i < xs.length := by
        rcases Nat.lt_or_ge i xs.length with h | h
        · exact h
        · rw [List.getElem?_eq_none h] at hi; cases hi
      obtain ⟨f, hf⟩ := get_of_lt (l := fs.toList) (i := i) (by omega)
      exact tyM_rng n _ _ _ (he i f x hf hi).1
    · exact h.elim
theorem rng_encs {α : Type} [Enc α] {l : List α} (h : rngL (encs l)) : ∀ a ∈ l, rngL (Enc.cells a) := by
  induction l with
  | nil => intro a ha; cases ha
  | cons b l ih =>
    rw [encs_cons, rngL_app] at h
    intro a ha
    rcases List.mem_cons.1 ha with rfl | ha
    · exact h.1
    · exact ih h.2 a ha
theorem pce_rng {x : Pce} (h : rngL (Enc.cells x)) : ∀ j ∈ x.ins, ∀ o ∈ j.l, inR o.v.n := by
  intro j hj o ho
  rw [cells_pce] at h
  simp only [rngL, rngV] at h
  have h1 := rng_encs h.2.2.2.2.1 j hj
  rw [cells_stp] at h1
  simp only [rngL, rngV] at h1
  have h2 := rng_encs h1.2.2.1 o ho
  rw [cells_opn] at h2
  simp only [rngL, rngV] at h2
  exact h2.2.2.2.1
end Go.RI
namespace Go.Proofs.YtgpjfhaohjnbnaaGreatDoor
open Go Go.RI
section
variable {G : AHeap} (hG : G.next = 2)
include hG
theorem t_sameAll (a b : List Val) (ha : bulkL a < 1099511627776) (t1 f1 t2 f2 : Bool) : pureR IP G 28 [.fs t1 f1 a.length (encs a), .fs t2 f2 b.length (encs b)] = some (.b (decide (a = b))) := by
  have hal := bulkL_len a
  refine pure_run ip28 rfl ?_
  simp -implicitDefEqProofs [I28, hG]
  refine test_intro ?_ ?_ <;> intro h <;> simp -implicitDefEqProofs [hG]
  · have hl : a.length = b.length := by have := of_decide_eq_true h; omega
    refine wp_loop_list (l := a) (by omega) (fun i todo e H => e = [(0, .fs t1 f1 a.length (encs a)), (1, .fs t2 f2 b.length (encs b)), (5, .i .i64 i)] ∧ H = G ∧ a.take i = b.take i) ?_ ?_ ?_
    · rintro i x todo e H hx hd hlt hlt2 hlt3 ⟨rfl, rfl, hn⟩
      obtain ⟨y, hy⟩ := get_of_lt (l := b) (i := i) (by omega)
      have hlt4 : (i : Int) < (b.length : Int) := by omega
      clear hlt
      have c1 := t_sameR hG x y (by have := bulkL_mem (List.mem_of_getElem? hx); omega) false false false false
      simp only [valC] at c1
      simp -implicitDefEqProofs [L28a, hlt2, hlt3, hlt4, hx, hy, hG, c1]
      refine test_intro ?_ ?_ <;> intro h2 <;> simp -implicitDefEqProofs [hlt3, hG]
      · have : x = y := by simpa using h2
        subst this
        exact take_succ_eq hn hx hy
      · intro he
        subst he
        rw [hx] at hy; cases hy
        simp at h2
    · rintro e H ⟨rfl, rfl, hn⟩
      simp -implicitDefEqProofs [L28a, hG]
      exact eq_of_take hl hn
    · simp
  · intro he
    subst he
    simp at h
theorem do_bulk (x : Pce) (homes : List Val) : bulkL (doR x homes).1 < 1099511627776 := by
  unfold doR
  cases hd : doP x homes with
  | none => simp -implicitDefEqProofs [bulkL]
  | some r =>
    obtain ⟨l, to⟩ := r
    unfold doP at hd
    split at hd
    · rename_i hc
      have hcp := checkP_iff.1 hc.1
      have hset : x.sets.length ≤ 64 := by have := hcp.1; unfold numsP at this; omega
      have hof := List.all_eq_true.1 hcp.2.2.2
      have hhb : ∀ v ∈ homes, v.bulk ≤ 2304 := fun v hv => all_bulk hc.2.2 hv
      split at hd
      · rename_i made hm
        have key : ∀ (l : List Stp) (m made : List Val), stepsV homes l m = some made → (∀ v ∈ m, v.bulk ≤ 2304) → ∀ v ∈ made, v.bulk ≤ 2304 := by
          intro l
          induction l with
          | nil => intro m made h hb; cases h; exact hb
          | cons s l ih =>
            intro m made h hb
            rw [stepsV] at h
            split at h
            · rename_i v hv
              refine ih _ _ h fun w hw => ?_
              rcases List.mem_append.1 hw with h1 | h1
              · exact hb w h1
              · simp at h1; subst h1; exact step_ok hv
            · cases h
        have hmb := key _ _ _ hm (fun v hv => by cases hv)
        rw [Option.map_eq_some_iff] at hd
        obtain ⟨t, _, ht⟩ := hd
        cases ht
        have := bulkL_le (B := 2304) (l := x.sets.map (ofO homes made)) (fun v hv => by
          obtain ⟨o, ho, rfl⟩ := List.mem_map.1 hv
          exact of_bulk (hof o ho) hhb hmb)
        simp at this
        simp only
        omega
      · cases hd
    · cases hd
def bringsB (a b : List Val × Int × Bool) : Bool := (a.2.2 == b.2.2) && (decide (a.2.1 = b.2.1) && decide (a.1 = b.1))
theorem t_brings (c17 : CheckOk G) (cN : NeedsOk G) (x y : Pce) (hx : okPce x) (hy : okPce y) (homes : List Val) (hb : bulkL homes < 1099511627776) (t1 t2 t3 t4 th : Bool) :
    pureR IP G 8 [.ag (pceC x t1 t2 false false), .ag (pceC y t3 t4 false false), .fs th false homes.length (encs homes)] = some (.b (bringsB (doR x homes) (doR y homes))) := by
  have c1 := t_do hG c17 cN x hx homes hb t1 t2 th
  have c2 := t_do hG c17 cN y hy homes hb t3 t4 th
  have c3 := t_sameAll hG (doR x homes).1 (doR y homes).1 (do_bulk hG x homes) false false false false
  generalize doR x homes = a at c1 c3 ⊢
  generalize doR y homes = b at c2 c3 ⊢
  obtain ⟨l, to, is⟩ := a
  obtain ⟨m, at_, so⟩ := b
  simp only [pceC] at c1 c2 ⊢
  unfold bringsB
  simp only at c1 c2 c3 ⊢
  cases hbb : (is == so)
  · refine pure_run ip8 rfl ?_
    simp -implicitDefEqProofs [I8, hG, c1, c2, hbb]
  · by_cases hto : to = at_
    · refine pure_run ip8 rfl ?_
      simp -implicitDefEqProofs [I8, hG, c1, c2, c3, hbb, hto]
    · refine pure_run ip8 rfl ?_
      simp -implicitDefEqProofs [I8, hG, c1, c2, hbb, hto]
theorem brings_self (a : List Val × Int × Bool) : bringsB a a = true := by simp -implicitDefEqProofs [bringsB]
end
end Go.Proofs.YtgpjfhaohjnbnaaGreatDoor
namespace Go.Proofs.YtgpjfhaohjnbnaaGreatDoor
open Go Go.RI
section
variable {G : AHeap} (hG : G.next = 2)
include hG
set_option maxHeartbeats 1000000 in
theorem t_fuseSame (cw : pureR IP G 4 [] = some (.b true)) (c17 : CheckOk G) (cN : NeedsOk G) (x : Pce) (hx : okPce x) (hr : ∀ j ∈ x.ins, ∀ o ∈ j.l, inR o.v.n) (homes : List Val) (hb : bulkL homes < 1099511627776) :
    ∃ H', Brings IP G G.next 3 [.ag (Enc.cells x), .fs false false homes.length (encs homes)] G (.b true) H' := by
  have c1 := t_meant hG x hx false false false false
  have c2 := t_of hG c17 x hx false false false false
  simp only [pceC] at c1 c2
  refine law_brings ip3 rfl rfl ?_
  cases hc : checkP x
  · have c3 := c17 x hx false false false false
    rw [hc] at c2 c3
    simp only [pceC] at c3
    simp at c1 c2 c3
    simp -implicitDefEqProofs [I3, hG, cw, c1, c2, c3]
  · rw [hc] at c2
    have hy := fuseP_ok hc hx
    have c3 := c17 (fuseP x) hy false false false false
    have c4 := t_brings hG c17 cN x (fuseP x) hx hy homes hb false false false false false
    have e : doR (fuseP x) homes = doR x homes := by unfold doR; rw [fuse_do hc hr]
    rw [e, brings_self hG] at c4
    rw [fuseP_check hc] at c3
    generalize fuseP x = y at c2 c3 c4
    simp only [pceC] at c3 c4
    simp at c1 c2 c3 c4
    simp -implicitDefEqProofs [I3, hG, cw, c1, c2, c3, c4]
end
end Go.Proofs.YtgpjfhaohjnbnaaGreatDoor
namespace Go.Proofs.YtgpjfhaohjnbnaaGreatDoor
open Go Go.RI
def opNum (n : Int) : Opn := ⟨3, 0, .mk 1 n [] [] []⟩
def opHome (n : Int) : Opn := ⟨1, n, zeroVal⟩
def opStep (n : Int) : Opn := ⟨2, n, zeroVal⟩
def stTwo (op : Int) (a b : Opn) : Stp := ⟨op, 0, [a, b], [], []⟩
def stOne (op n : Int) (a : Opn) : Stp := ⟨op, n, [a], [], []⟩
section
variable {G : AHeap} (hG : G.next = 2)
include hG
theorem t_mkNum (n : Int) : pureR IP G 13 [.i .i64 n] = some (.ag (Enc.cells (opNum n))) := by
  refine pure_run ip13 rfl ?_
  simp -implicitDefEqProofs [I13, hG, opNum]
theorem t_mkHome (n : Int) : pureR IP G 12 [.i .i64 n] = some (.ag (Enc.cells (opHome n))) := by
  refine pure_run ip12 rfl ?_
  simp -implicitDefEqProofs [I12, hG, opHome, zeroVal]
theorem t_mkStep (n : Int) : pureR IP G 15 [.i .i64 n] = some (.ag (Enc.cells (opStep n))) := by
  refine pure_run ip15 rfl ?_
  simp -implicitDefEqProofs [I15, hG, opStep, zeroVal]
theorem t_mkTwo (op : Int) (a b : Opn) : pureR IP G 11 [.i .i64 op, .ag (Enc.cells a), .ag (Enc.cells b)] = some (.ag (Enc.cells (stTwo op a b))) := by
  refine pure_run ip11 rfl ?_
  simp -implicitDefEqProofs [I11, hG, stTwo]
theorem t_mkOne (op n : Int) (a : Opn) : pureR IP G 14 [.i .i64 op, .i .i64 n, .ag (Enc.cells a)] = some (.ag (Enc.cells (stOne op n a))) := by
  refine pure_run ip14 rfl ?_
  simp -implicitDefEqProofs [I14, hG, stOne]
theorem t_fused (c17 : ∀ x : Pce, okPce x → ∀ t1 t2 t3 t4 : Bool, pureR IP G 7 [.ag (pceC x t1 t2 t3 t4)] = some (.i .i64 (if checkP x then 0 else 2))) (x y : Pce) (hx : okPce x) (hy : okPce y) (t1 t2 t3 t4 t5 t6 : Bool) : pureR IP G 9 [.ag (pceC x t1 t2 t3 t4), .ag (pceC y t5 t6 false false)] = some (.b (checkP x && decide (fuseP x = y))) := by
  have c1 := t_of hG c17 x hx t1 t2 t3 t4
  have c2 := t_told hG y hy t5 t6
  simp only [pceC] at c1 c2
  refine pure_run ip9 rfl ?_
  cases hc : checkP x
  · rw [hc] at c1
    simp at c1
    simp -implicitDefEqProofs [I9, hG, pceC, c1]
  · rw [hc] at c1
    have c3 := t_told hG (fuseP x) (fuseP_ok hc hx) false false
    have c4 := t_samePce hG (fuseP x) y (fuseP_ok hc hx) false false false false false false false false
    simp only [pceC] at c3 c4
    simp at c1 c2 c3
    simp -implicitDefEqProofs [I9, hG, pceC, c1, c2, c3, c4]
end
end Go.Proofs.YtgpjfhaohjnbnaaGreatDoor
namespace Go.Proofs.YtgpjfhaohjnbnaaGreatDoor
open Go Go.RI
def ofP (homes : Int) (l : List Stp) : Pce := ⟨0, 0, 1, homes, l, [opStep ((l.length - 1 : Nat) : Int)], 0, 0, ⟨0, 0, zeroVal⟩, 0⟩
section
variable {G : AHeap} (hG : G.next = 2)
include hG
theorem t_mkOf {H : AHeap} (lo : Nat) (homes : Int) (id n : Nat) (c : Option Nat) (hn : n < 1000) : theCalls IP G lo 10 [.i .i64 homes, .sl id 0 n c] H =
    some (.ag [.i .i64 0, .i .i64 0, .i .i64 1, .i .i64 homes, .sl id 0 n c, .sl (H.next + 1) 0 1 (some 1), .i .i64 0, .i .i64 0, .i .i64 0, .i .i64 0, .i .i64 0, .i .i64 0, .s [], .ns, .ns, .i .i64 0],
      ((H.push (.cells [.i .i64 0, .i .i64 0, .i .i64 0, .i .i64 0, .ns, .ns, .i .i64 0, .i .i64 0, .i .i64 0, .i .i64 0, .i .i64 0, .i .i64 0, .s [], .ns, .ns, .i .i64 0] 1 false)).push (.cells (Enc.cells (opStep ((n - 1 : Nat) : Int))) 7 false)).put H.next
        (some (.cells [.i .i64 0, .i .i64 0, .i .i64 1, .i .i64 homes, .sl id 0 n c, .sl (H.next + 1) 0 1 (some 1), .i .i64 0, .i .i64 0, .i .i64 0, .i .i64 0, .i .i64 0, .i .i64 0, .s [], .ns, .ns, .i .i64 0] 1 false))) := by
  have e : max (wrapI .i64 ((n : Int) - 1)) 0 = ((n - 1 : Nat) : Int) := by
    rw [wrapI_i64 (by omega) (by omega)]; omega
  have c1 := t_mkStep hG ((n - 1 : Nat) : Int)
  simp only [cells_opn, opStep] at c1
  refine calls_one ip10 rfl rfl ?_
  rw [ends_fin]
  simp -implicitDefEqProofs [I10, e, c1, opStep]
theorem t_workF1 (c17 : ∀ x : Pce, okPce x → ∀ t1 t2 t3 t4 : Bool, pureR IP G 7 [.ag (pceC x t1 t2 t3 t4)] = some (.i .i64 (if checkP x then 0 else 2))) :
    pureR IP G 9 [.ag (pceC (ofP 1 [stTwo 43 (opHome 0) (opNum 5)]) true true false false), .ag (pceC (ofP 1 [stOne 48 5 (opHome 0)]) true true false false)] = some (.b true) := by
  rw [t_fused hG c17 _ _ (by simp -implicitDefEqProofs [ofP, stTwo, stOne, opHome, opNum, opStep, okPce, okStp, okO, zeroVal, Val.bulk, bulkS, bulkL]) (by simp -implicitDefEqProofs [ofP, stTwo, stOne, opHome, opNum, opStep, okPce, okStp, okO, zeroVal, Val.bulk, bulkS, bulkL])]
  have : (checkP (ofP 1 [stTwo 43 (opHome 0) (opNum 5)]) && decide (fuseP (ofP 1 [stTwo 43 (opHome 0) (opNum 5)]) = ofP 1 [stOne 48 5 (opHome 0)])) = true := by decide
  rw [this]
theorem t_workF2 (c17 : ∀ x : Pce, okPce x → ∀ t1 t2 t3 t4 : Bool, pureR IP G 7 [.ag (pceC x t1 t2 t3 t4)] = some (.i .i64 (if checkP x then 0 else 2))) :
    pureR IP G 9 [.ag (pceC (ofP 1 [stTwo 44 (opHome 0) (opNum 5), stTwo 43 (opNum 7) (opStep 0)]) true true false false), .ag (pceC (ofP 1 [stOne 48 (-5) (opHome 0), stOne 48 2 (opHome 0)]) true true false false)] = some (.b true) := by
  rw [t_fused hG c17 _ _ (by simp -implicitDefEqProofs [ofP, stTwo, stOne, opHome, opNum, opStep, okPce, okStp, okO, zeroVal, Val.bulk, bulkS, bulkL]) (by simp -implicitDefEqProofs [ofP, stTwo, stOne, opHome, opNum, opStep, okPce, okStp, okO, zeroVal, Val.bulk, bulkS, bulkL])]
  have : (checkP (ofP 1 [stTwo 44 (opHome 0) (opNum 5), stTwo 43 (opNum 7) (opStep 0)]) && decide (fuseP (ofP 1 [stTwo 44 (opHome 0) (opNum 5), stTwo 43 (opNum 7) (opStep 0)]) = ofP 1 [stOne 48 (-5) (opHome 0), stOne 48 2 (opHome 0)])) = true := by decide
  rw [this]
theorem t_workF3 (c17 : ∀ x : Pce, okPce x → ∀ t1 t2 t3 t4 : Bool, pureR IP G 7 [.ag (pceC x t1 t2 t3 t4)] = some (.i .i64 (if checkP x then 0 else 2))) :
    pureR IP G 9 [.ag (pceC (ofP 1 [stTwo 46 (opHome 0) (opNum 5), stTwo 46 (opNum 5) (opHome 0), stTwo 44 (opNum 5) (opHome 0)]) true true false false), .ag (pceC (ofP 1 [stOne 49 5 (opHome 0), stTwo 46 (opNum 5) (opHome 0), stTwo 44 (opNum 5) (opHome 0)]) true true false false)] = some (.b true) := by
  rw [t_fused hG c17 _ _ (by simp -implicitDefEqProofs [ofP, stTwo, stOne, opHome, opNum, opStep, okPce, okStp, okO, zeroVal, Val.bulk, bulkS, bulkL]) (by simp -implicitDefEqProofs [ofP, stTwo, stOne, opHome, opNum, opStep, okPce, okStp, okO, zeroVal, Val.bulk, bulkS, bulkL])]
  have : (checkP (ofP 1 [stTwo 46 (opHome 0) (opNum 5), stTwo 46 (opNum 5) (opHome 0), stTwo 44 (opNum 5) (opHome 0)]) && decide (fuseP (ofP 1 [stTwo 46 (opHome 0) (opNum 5), stTwo 46 (opNum 5) (opHome 0), stTwo 44 (opNum 5) (opHome 0)]) = ofP 1 [stOne 49 5 (opHome 0), stTwo 46 (opNum 5) (opHome 0), stTwo 44 (opNum 5) (opHome 0)])) = true := by decide
  rw [this]
theorem t_step (c17 : ∀ x : Pce, okPce x → ∀ t1 t2 t3 t4 : Bool, pureR IP G 7 [.ag (pceC x t1 t2 t3 t4)] = some (.i .i64 (if checkP x then 0 else 2))) (l : List Stp) (i : Stp) (hl : l.length < 1000000) (hlo : ∀ j ∈ l, okStp j) (hi : okStp i) (t f : Bool) : pureR IP G 16 [.fs t f l.length (encs l), .ag (Enc.cells i)] =
    some (.ag (Enc.cells (if checkP ⟨0, 0, 0, 64, l ++ [i], [], 0, 0, ⟨0, 0, zeroVal⟩, 0⟩ then turned l i else i))) := by
  have c1 := c17 ⟨0, 0, 0, 64, l ++ [i], [], 0, 0, ⟨0, 0, zeroVal⟩, 0⟩ ⟨fun j hj => by
    rcases List.mem_append.1 hj with hj | hj
    · exact hlo j hj
    · rw [List.mem_singleton.1 hj]; exact hi, by simp; omega, by simp, by simp, by simp -implicitDefEqProofs [okO, zeroVal, Val.bulk, bulkS, bulkL]⟩ true false false false
  have c3 := t_ownStep hG i hi false false
  obtain ⟨b, hb⟩ : ∃ b, checkP ⟨0, 0, 0, 64, l ++ [i], [], 0, 0, ⟨0, 0, zeroVal⟩, 0⟩ = b := ⟨_, rfl⟩
  rw [hb] at c1 ⊢
  simp -implicitDefEqProofs [pceC, zeroVal] at c1 c3
  refine pure_run ip16 rfl ?_
  simp -implicitDefEqProofs [I16, hG]
  refine step_clone (lo' := 2) (by simp) (by omega) (by omega) (by omega) (by simp -implicitDefEqProofs [hG]) ?_
  intro cv H1 hn1 hL hnew1 hf1
  have k1 : H1.get 2 = _ := hf1 2 (by simp -implicitDefEqProofs [hG])
  have k2 : H1.get 3 = _ := hf1 3 (by simp -implicitDefEqProofs [hG])
  have k3 : H1.get 4 = _ := hf1 4 (by simp -implicitDefEqProofs [hG])
  have k4 : H1.get 5 = _ := hf1 5 (by simp -implicitDefEqProofs [hG])
  simp -implicitDefEqProofs [hG] at k1 k2 k3 k4 hn1
  simp -implicitDefEqProofs [k1, k2, k3, k4]
  refine step_appH hL (lo' := 2) (m := 1) (ys := Enc.cells i) (by omega) (by omega) (more_lit (cs := Enc.cells i) (e := 5) (ro := false) (by simp -implicitDefEqProofs [k3]) (by simp) (by omega)) (by simp) (by omega) (by omega) (by omega) (by omega) ?_
  intro H2 hn2 hA hf2
  have hne : ∀ id, id < 6 → ∀ id0 n0 c0, cv = .sl id0 0 n0 c0 → id ≠ id0 := fun id h id0 n0 c0 e => by
    have := hnew1 id0 n0 c0 e
    simp -implicitDefEqProofs [hG] at this
    omega
  have m1 : H2.get 2 = _ := (hf2 2 (by omega) (hne _ (by omega))).trans k1
  have m2 : H2.get 3 = _ := (hf2 3 (by omega) (hne _ (by omega))).trans k2
  have m3 : H2.get 5 = _ := (hf2 5 (by omega) (hne _ (by omega))).trans k4
  have s1 : ∀ p, snapV (H2.put 5 p) 15 (.sl H1.next 0 (l.length + 1) none) = some (.fs true false (l.length + 1) (encs (l ++ [i]))) := fun p => by
    have := acc_snap (k := 14) (acc_keep hA (H' := H2.put 5 p) (by simp) fun id a b hv => by cases hv; simp -implicitDefEqProofs [show H1.next ≠ 5 by omega]) (cells' := encs (l ++ [i])) (by rw [show encs l ++ Enc.cells i = encs (l ++ [i]) by simp]; exact snap_encs)
    simpa using this
  simp at s1
  cases b
  · simp -implicitDefEqProofs [m1, m2, m3, s1, c1, c3]
  · have hf := check_fits hb
    have hfl : Fits 64 l := fun k s hk => hf k s (by
      show (l ++ [i])[k]? = some s
      rw [List.getElem?_append_left (by
        rcases Nat.lt_or_ge k l.length with h | h
        · exact h
        · rw [List.getElem?_eq_none h] at hk; cases hk)]
      exact hk)
    have hfi : stpFits 64 l.length i = true := hf l.length i (by simp)
    have c2 := t_turned hG l i (fits_sounds hfl) (fits_sound hfi) t false
    have c4 := t_ownStep hG (turned l i) (turned_ok hlo (fits_sounds hfl) (fits_sound hfi) hi) false false
    simp at c2 c4
    simp -implicitDefEqProofs [m1, m2, m3, s1, c1, c2, c4]
end
end Go.Proofs.YtgpjfhaohjnbnaaGreatDoor
namespace Go.Proofs.YtgpjfhaohjnbnaaGreatDoor
open Go Go.RI
section
variable {G : AHeap} (hG : G.next = 2)
include hG
set_option maxHeartbeats 4000000 in
theorem t_works (c17 : ∀ x : Pce, okPce x → ∀ t1 t2 t3 t4 : Bool, pureR IP G 7 [.ag (pceC x t1 t2 t3 t4)] = some (.i .i64 (if checkP x then 0 else 2))) : pureR IP G 4 [] = some (.b true) := by
  have h0 := t_mkHome hG 0
  have n5 := t_mkNum hG 5
  have n7 := t_mkNum hG 7
  have s0 := t_mkStep hG 0
  have a1 := t_mkTwo hG 43 (opHome 0) (opNum 5)
  have a2 := t_mkOne hG 48 5 (opHome 0)
  have a3 := t_mkTwo hG 44 (opHome 0) (opNum 5)
  have a4 := t_mkTwo hG 43 (opNum 7) (opStep 0)
  have a5 := t_mkOne hG 48 (-5) (opHome 0)
  have a6 := t_mkOne hG 48 2 (opHome 0)
  have a7 := t_mkTwo hG 46 (opHome 0) (opNum 5)
  have a8 := t_mkTwo hG 46 (opNum 5) (opHome 0)
  have a9 := t_mkTwo hG 44 (opNum 5) (opHome 0)
  have a10 := t_mkOne hG 49 5 (opHome 0)
  have f1 := t_workF1 hG c17
  have f2 := t_workF2 hG c17
  have f3 := t_workF3 hG c17
  have st := t_step hG c17 [] (stTwo 43 (opHome 0) (opNum 5)) (by simp) (by simp) (by simp -implicitDefEqProofs [stTwo, opHome, opNum, okStp, okO, zeroVal, Val.bulk, bulkS, bulkL]) false false
  have e1 : (if checkP ⟨0, 0, 0, 64, [] ++ [stTwo 43 (opHome 0) (opNum 5)], [], 0, 0, ⟨0, 0, zeroVal⟩, 0⟩ then turned [] (stTwo 43 (opHome 0) (opNum 5)) else stTwo 43 (opHome 0) (opNum 5)) = stOne 48 5 (opHome 0) := by decide
  rw [e1] at st
  clear e1
  simp only [cells_opn, cells_stp, pceC, ofP, stTwo, stOne, opHome, opNum, opStep, zeroVal] at h0 n5 n7 s0 a1 a2 a3 a4 a5 a6 a7 a8 a9 a10 f1 f2 f3 st
  simp at h0 n5 n7 s0 a1 a2 a3 a4 a5 a6 a7 a8 a9 a10 f1 f2 f3 st
  have k : ∀ {H : AHeap} (lo : Nat) (id n : Nat) (c : Option Nat) (hn : n < 1000), _ := fun {H} lo id n c hn => t_mkOf hG (H := H) lo 1 id n c hn
  simp only [cells_opn, opStep, zeroVal] at k
  refine pure_run ip4 rfl ?_
  simp -implicitDefEqProofs [I4, hG, h0, n5, n7, s0, a1, a2, a3, a4, a5, a6, a7, a8, a9, a10, k, f1, f2, f3, st]
end
end Go.Proofs.YtgpjfhaohjnbnaaGreatDoor
namespace Go.Proofs.YtgpjfhaohjnbnaaGreatDoor
open Go
noncomputable def G1 : RI.AHeap := (RI.G0 2).put 0 (some (.cells [.i .i64 0, .s [], .b false] 1 true))
end Go.Proofs.YtgpjfhaohjnbnaaGreatDoor
