import Derived.Test.YtgpjfhaohjnbnaaGreatDoorM09
import Derived.Test.YtgpjfhaohjnbnaaGreatDoorM05
set_option linter.unusedVariables false
set_option linter.unusedSimpArgs false
set_option linter.unusedSectionVars false
/- RI, part SG: names that rise, searched; shapes that types mean. Conditions: none. -/
namespace Go.RI
open Go
theorem ltB_irrefl (a : Str) : ltB a a = false := by
  cases h : ltB a a with
  | false => rfl
  | true => have := ltB_asym a a h; rw [h] at this; cases this
theorem ltB_trans : ∀ a b c : Str, ltB a b = true → ltB b c = true → ltB a c = true
  | _, [], _, h, _ => by simp [ltB] at h
  | _, _ :: _, [], _, h => by simp [ltB] at h
  | [], _ :: _, _ :: _, _, _ => by simp [ltB]
  | a :: x, b :: y, c :: z, h1, h2 => by
    simp only [ltB, Bool.or_eq_true, Bool.and_eq_true, decide_eq_true_eq, beq_iff_eq] at h1 h2 ⊢
    rcases h1 with h1 | ⟨rfl, h1⟩
    · rcases h2 with h2 | ⟨rfl, h2⟩
      · left; exact Nat.lt_trans h1 h2
      · left; exact h1
    · rcases h2 with h2 | ⟨rfl, h2⟩
      · left; exact h2
      · right; exact ⟨rfl, ltB_trans x y z h1 h2⟩
def Rises (ns : List Str) : Prop := ∀ (i j : Nat) (x y : Str), i < j → ns[i]? = some x → ns[j]? = some y → ltB x y = true
theorem rising_above : ∀ (l : List Str) (last : Str), rising last l = true → ∀ s ∈ l, ltB last s = true
  | [], _, _, s, h => by cases h
  | a :: l, last, h, s, hs => by
    simp only [rising, Bool.and_eq_true, Bool.not_eq_true', Bool.or_eq_false_iff, leS] at h
    obtain ⟨⟨⟨h1, h2⟩, _⟩, h3⟩ := h
    have hne : ¬ a = last := by intro e; subst e; simp at h2
    have hlt : ltB last a = true := by
      rcases ltB_total a last hne with h | h
      · rw [h1] at h; cases h
      · exact h
    rcases List.mem_cons.1 hs with rfl | hs
    · exact hlt
    · exact ltB_trans _ _ _ hlt (rising_above l a h3 s hs)
theorem rises_of : ∀ (l : List Str) (last : Str), rising last l = true → Rises l
  | [], _, _ => by intro i j x y _ h; simp at h
  | a :: l, last, h => by
    have h3 : rising a l = true := by simp only [rising, Bool.and_eq_true] at h; exact h.2
    intro i j x y hij hx hy
    cases j with
    | zero => omega
    | succ j =>
      simp at hy
      cases i with
      | zero => simp at hx; subst hx; exact rising_above l a h3 y (List.mem_of_getElem? hy)
      | succ i => simp at hx; exact rises_of l a h3 i j x y (by omega) hx hy
theorem find_some : ∀ {ns : List Str} {s : Str} {i : Nat}, ns[i]? = some s → (∀ k x, k < i → ns[k]? = some x → ltB x s = true) → ns.findIdx? (· == s) = some i
  | [], _, i, h, _ => by simp at h
  | a :: ns, s, 0, h, _ => by simp at h; subst h; simp [List.findIdx?_cons]
  | a :: ns, s, i + 1, h, hl => by
    simp at h
    have ha : (a == s) = false := by
      have := hl 0 a (by omega) rfl
      cases he : (a == s) with
      | false => rfl
      | true => rw [beq_iff_eq] at he; subst he; rw [ltB_irrefl] at this; cases this
    rw [List.findIdx?_cons, find_some h fun k x hk hx => hl (k + 1) x (by omega) (by simpa using hx)]
    simp [ha]
theorem find_none {ns : List Str} {s : Str} {i : Nat} (hr : Rises ns) (hlo : ∀ k x, k < i → ns[k]? = some x → ltB x s = true) (hhi : ∀ k x, i ≤ k → ns[k]? = some x → ltB x s = false) (hne : ∀ x, ns[i]? = some x → x ≠ s) : ns.findIdx? (· == s) = none := by
  rw [List.findIdx?_eq_none_iff]
  intro x hx
  obtain ⟨k, hk⟩ := List.mem_iff_getElem?.1 hx
  cases he : (x == s) with
  | false => rfl
  | true =>
    rw [beq_iff_eq] at he
    subst he
    exfalso
    rcases Nat.lt_trichotomy k i with h | h | h
    · have := hlo k x h hk; rw [ltB_irrefl] at this; cases this
    · subst h; exact hne x hk rfl
    · have hi : i < ns.length := by
        have : k < ns.length := by
          rcases Nat.lt_or_ge k ns.length with h1 | h1
          · exact h1
          · rw [List.getElem?_eq_none h1] at hk; cases hk
        omega
      obtain ⟨y, hy⟩ := get_of_lt hi
      have h1 := hr i k y x h hy hk
      have h2 := hhi i y (Nat.le_refl _) hy
      rw [h1] at h2; cases h2
theorem may_rec {v : Val} (h : mayV v = true) (hk : v.kind = 5) : v.l.length = v.names.length ∧ v.names.length ≤ 8 ∧ Rises v.names := by
  unfold mayV at h
  rw [fitsV_eq] at h
  split at h
  · cases h
  · rename_i hc
    have ho : ownV v = true := by
      cases ho : ownV v with
      | true => rfl
      | false => exact absurd (.inr (.inr ho)) hc
    unfold ownV at ho
    simp [hk] at ho
    obtain ⟨⟨⟨⟨h1, h2⟩, h3⟩, _⟩, h4⟩ := ho
    exact ⟨by omega, by omega, rises_of _ _ h4⟩
theorem wrap_nu {m : Nat} (h : m < 4611686018427387904) : wrapI .u64 (m : Int) = (m : Int) := by
  obtain ⟨I, hI⟩ : ∃ I : Int, I = m := ⟨_, rfl⟩
  rw [← hI]
  exact wrapI_u64 (by omega) (by omega)
theorem wrap_ni {m : Nat} (h : m < 4611686018427387904) : wrapI .i64 (m : Int) = (m : Int) := by
  obtain ⟨I, hI⟩ : ∃ I : Int, I = m := ⟨_, rfl⟩
  rw [← hI]
  exact wrap_ok (by omega) (by omega)
theorem half_nat (n : Nat) : binV .shr (.i .u64 (n : Int)) (.i .u64 1) = some (.i .u64 ((n / 2 : Nat) : Int)) := by
  show some (AVal.i IntKind.u64 (Int.fdiv (n : Int) (2 ^ 1))) = _
  rw [Int.fdiv_eq_ediv_of_nonneg _ (by decide)]
  rfl
def shpOk : Shp → Prop := fun s => (s.kind = 4 → s.l.length = 1) ∧ (s.kind = 5 → s.l.length = s.names.length)
mutual
def deepOk : Shp → Prop
  | .mk k ns l => ((k = 4 → l.length = 1) ∧ (k = 5 → l.length = ns.length)) ∧ deepOkL l
def deepOkL : List Shp → Prop
  | [] => True
  | s :: l => deepOk s ∧ deepOkL l
end
theorem deepL_iff : ∀ l : List Shp, deepOkL l ↔ ∀ s ∈ l, deepOk s
  | [] => by simp [deepOkL]
  | s :: l => by simp [deepOkL, deepL_iff l]
theorem deep_eq (s : Shp) : deepOk s ↔ shpOk s ∧ ∀ x ∈ s.l, deepOk x := by
  cases s
  simp only [deepOk, shpOk, deepL_iff, Shp.kind_mk, Shp.l_mk, Shp.names_mk]
theorem kindOf_le (w : Str) : kindOf w ≠ 4 ∧ kindOf w ≠ 5 := by
  unfold kindOf
  repeat' split
  all_goals omega
theorem read_deep : ∀ f, (∀ t : Str, deepOk (readF f t).1) ∧ (∀ (ns : List Str) (l : List Shp) (t : Str), l.length = ns.length → (∀ x ∈ l, deepOk x) → deepOk (recF f ns l t).1) := by
  intro f
  induction f with
  | zero =>
    have hz : deepOk ⟨0, [], []⟩ := by simp [deepOk, deepOkL]
    exact ⟨fun t => by rw [readF]; exact hz, fun ns l t _ _ => by rw [recF]; exact hz⟩
  | succ f ih =>
    obtain ⟨ih1, ih2⟩ := ih
    constructor
    · intro t
      rw [readF]
      split
      · rw [deep_eq]
        simp only [shpOk, Shp.kind_mk, Shp.l_mk, Shp.names_mk]
        exact ⟨⟨fun _ => rfl, fun h => by simp at h⟩, fun x hx => by simp at hx; subst hx; exact ih1 _⟩
      · split
        · simp [deepOk, deepOkL]
        · split
          · exact ih2 [] [] _ rfl (fun x hx => by cases hx)
          · have := kindOf_le (t.take (wordN t))
            simp only [deepOk, deepOkL]
            exact ⟨⟨fun h => absurd h this.1, fun h => absurd h this.2⟩, trivial⟩
    · intro ns l t hl hd
      have hz : deepOk ⟨0, [], []⟩ := by simp [deepOk, deepOkL]
      have hadd : ∀ x ∈ l ++ [(readF f (cutC t 58).2.1).1], deepOk x := by
        intro x hx
        rcases List.mem_append.1 hx with h | h
        · exact hd x h
        · simp at h; subst h; exact ih1 _
      rw [recF]
      split
      · exact hz
      · split
        · rw [deep_eq]
          simp only [shpOk, Shp.kind_mk, Shp.l_mk, Shp.names_mk]
          exact ⟨⟨fun h => by simp at h, fun _ => by simp [hl]⟩, hadd⟩
        · split
          · exact ih2 _ _ _ (by simp [hl]) hadd
          · exact hz
theorem typed_deep (t : Str) : deepOk (typedS t).1 := by
  unfold typedS
  split
  · simp [deepOk, deepOkL]
  · exact (read_deep _).1 t
end Go.RI
namespace Go.Proofs.YtgpjfhaohjnbnaaGreatDoor
open Go Go.RI
section
variable {G : AHeap} (hG : G.next = 2)
include hG
theorem t_nan1 (a : Str) : pureR IP G 123 [.s a] = some (.b false) := by
  refine pure_run ip123 rfl ?_
  simp -implicitDefEqProofs [I123, hG]
theorem t_nan2 (a : Str) : pureR IP G 118 [.s a] = some (.b false) := by
  refine pure_run ip118 rfl ?_
  simp -implicitDefEqProofs [I118, hG]
theorem t_less (a b : Str) : pureR IP G 117 [.s a, .s b] = some (.b (ltB a b)) := by
  have c1 := fun a => t_nan1 hG a
  refine pure_run ip117 rfl ?_
  simp -implicitDefEqProofs [I117, hG, c1]
theorem t_bsearch (ns : List Str) (hr : Rises ns) (hl : ns.length ≤ 1000) (s : Str) (t : Bool) : ∃ (i : Nat) (b : Bool), pureR IP G 107 [.fs t false ns.length (encs ns), .s s] = some (.tu [.i .i64 i, .b b]) ∧ (b = true → ns.findIdx? (· == s) = some i ∧ i < ns.length) ∧ (b = false → ns.findIdx? (· == s) = none) := by
  have key : ∃ u H, (∃ n, bodyI (exec IP G n) I107 G.next [.fs t false ns.length (encs ns), .s s] G = some (u, H)) ∧ ∃ (i : Nat) (b : Bool), frzV H G.next 16 u = some (.tu [.i .i64 i, .b b]) ∧ ((b = true → ns.findIdx? (· == s) = some i ∧ i < ns.length) ∧ (b = false → ns.findIdx? (· == s) = none)) := by
    obtain ⟨n, u, H1, hb, hv⟩ := body_wp (fn := I107) (R := fun u H => ∃ (i : Nat) (b : Bool), frzV H G.next 16 u = some (.tu [.i .i64 i, .b b]) ∧ ((b = true → ns.findIdx? (· == s) = some i ∧ i < ns.length) ∧ (b = false → ns.findIdx? (· == s) = none))) (theCalls_knows (IP := IP) (G := G) G.next) (args := [.fs t false ns.length (encs ns), .s s]) (H := G) rfl (by
      rw [ends_fin]
      have c1 := fun a b => t_less hG a b
      have c2 := fun a => t_nan2 hG a
      simp -implicitDefEqProofs [I107, hG]
      refine wp_loop_inv (fun k e H => ∃ i j : Nat, i ≤ j ∧ j ≤ ns.length ∧ k = j - i ∧ H = G ∧ (∀ q x, q < i → ns[q]? = some x → ltB x s = true) ∧ (∀ q x, j ≤ q → ns[q]? = some x → ltB x s = false) ∧ e = [(0, .fs t false ns.length (encs ns)), (1, .s s), (6, .i .i64 ns.length), (7, .i .i64 i), (8, .i .i64 j)]) ?_ ns.length _ _ ?_
      · rintro k e H ⟨i, j, hij, hjn, hk, rfl, hlo, hhi, rfl⟩
        by_cases hlt : i < j
        · have h1 : (i : Int) < (j : Int) := by omega
          obtain ⟨h, hh⟩ : ∃ h, h = (i + j) / 2 := ⟨_, rfl⟩
          have hi2 : i ≤ h ∧ h < j := by omega
          have hhn : h < ns.length := by omega
          obtain ⟨x, hx⟩ := get_of_lt (l := ns) (i := h) hhn
          have e1 : (i : Int) + (j : Int) = ((i + j : Nat) : Int) := by omega
          have w1 : wrapI .i64 ((i + j : Nat) : Int) = ((i + j : Nat) : Int) := wrap_ni (by omega)
          have w2 : wrapI .u64 (((i + j : Nat) : Int)) = ((i + j : Nat) : Int) := wrap_nu (by omega)
          have w3 := half_nat (i + j)
          have w4 : wrapI .i64 (h : Int) = (h : Int) := wrap_ni (by omega)
          have w5 : wrapI .i64 ((h : Int) + 1) = (h : Int) + 1 := wrap_succ (by omega)
          have h2 : (h : Int) < (ns.length : Int) := Int.ofNat_lt.2 hhn
          have pair : ∀ q y, q < h → ns[q]? = some y → ltB y x = true := fun q y hq hy => hr q h y x hq hy hx
          have pair2 : ∀ q y, h < q → ns[q]? = some y → ltB x y = true := fun q y hq hy => hr h q x y hq hx hy
          rw [← hh] at w3
          clear hhn hh
          obtain ⟨m, hm⟩ : ∃ m, m = i + j := ⟨_, rfl⟩
          rw [← hm] at e1 w1 w2 w3
          clear hm
          cases hb : ltB x s
          · simp -implicitDefEqProofs [L107a, h1, e1, w1, w2, w3, w4, h2, hx, c1, hb]
            refine ⟨h - i, by omega, i, h, by omega, by omega, by omega, hlo, fun q y hq hy => ?_, rfl, rfl⟩
            rcases Nat.lt_or_ge h q with h3 | h3
            · cases hc : ltB y s with
              | false => rfl
              | true => have := ltB_trans _ _ _ (pair2 q y h3 hy) hc; rw [hb] at this; cases this
            · have : q = h := by omega
              subst this; rw [hx] at hy; cases hy; exact hb
          · simp -implicitDefEqProofs [L107a, h1, e1, w1, w2, w3, w4, w5, h2, hx, c1, hb]
            refine ⟨j - (h + 1), by omega, h + 1, j, by omega, by omega, by omega, fun q y hq hy => ?_, hhi, by simp, rfl⟩
            rcases Nat.lt_or_ge q h with h3 | h3
            · exact ltB_trans _ _ _ (pair q y h3 hy) hb
            · have : q = h := by omega
              subst this; rw [hx] at hy; cases hy; exact hb
        · have h1 : ¬ (i : Int) < (j : Int) := by omega
          have hij2 : j = i := by omega
          subst hij2
          by_cases hjl : j < ns.length
          · obtain ⟨x, hx⟩ := get_of_lt (l := ns) (i := j) hjl
            have h2 : (j : Int) < (ns.length : Int) := by omega
            have fs := fun e : x = s => find_some (ns := ns) (s := s) (i := j) (by rw [← e]; exact hx) hlo
            have fn := fun e : x ≠ s => find_none (ns := ns) (s := s) (i := j) hr hlo hhi fun y hy => by rw [hx] at hy; cases hy; exact e
            have hjl2 := hjl
            clear hjl
            by_cases hxs : x = s
            · subst hxs
              have fs := fs rfl
              clear fn
              simp -implicitDefEqProofs [L107a, h2, hx, c2]
              exact ⟨j, rfl, fs, hjl2⟩
            · have fn := fn hxs
              have hbe : (x == s) = false := by simpa using hxs
              clear fs
              simp -implicitDefEqProofs [L107a, h2, hx, c2, hbe]
              exact ⟨⟨j, rfl⟩, by simpa using fn⟩
          · have h2 : ¬ (j : Int) < (ns.length : Int) := by omega
            have fn := find_none (ns := ns) (s := s) (i := j) hr hlo hhi fun y hy => by rw [List.getElem?_eq_none (by omega)] at hy; cases hy
            simp -implicitDefEqProofs [L107a, h2]
            exact ⟨⟨j, rfl⟩, by simpa using fn⟩
      · exact ⟨0, ns.length, by omega, by omega, by omega, rfl, fun q x h => by omega, fun q x h hx => (by rw [List.getElem?_eq_none h] at hx; cases hx), by simp⟩)
    exact ⟨u, H1, ⟨n, hb⟩, hv⟩
  obtain ⟨u, H1, ⟨n, hb⟩, i, b, hz, h1, h2⟩ := key
  exact ⟨i, b, pureR_some ⟨_, n, u, H1, ip107, hb, hz⟩, h1, h2⟩
theorem t_afield (a : Val) (s : Str) (ha : a.bulk < 549755813888) (hs : s.length < 549755813887) : pureR IP G 80 [.ag [.i .i64 a.kind, .i .i64 a.n, .s a.s, .fs false false a.l.length (encs a.l), .fs false false a.names.length (encs a.names)], .s s] = some (.tu [.ag (Enc.cells (fieldV a s).1), .i .i64 (fieldV a s).2.1, .i .i64 (fieldV a s).2.2]) := by
  have m1 := t_may hG [a] (by simp -implicitDefEqProofs [bulkL]; omega) true false
  have c1 := t_anamed hG [s] (by simp -implicitDefEqProofs [bulkS]; omega) true
  simp at m1 c1
  unfold fieldV
  cases hm : mayV a
  · simp -implicitDefEqProofs [hm] at m1
    refine pure_run ip80 rfl ?_
    simp -implicitDefEqProofs [I80, hG, m1, zeroVal]
  simp -implicitDefEqProofs [hm] at m1
  cases hr : recordS [s]
  · rw [hr] at c1
    refine pure_run ip80 rfl ?_
    simp -implicitDefEqProofs [I80, hG, m1, c1, zeroVal]
  rw [hr] at c1
  rw [if_neg (by simp)]
  by_cases hk : a.kind = 5
  · rw [if_pos hk]
    obtain ⟨e1, e2, e3⟩ := may_rec hm hk
    obtain ⟨i, b, d1, d2, d3⟩ := t_bsearch hG a.names e3 (by omega) s false
    simp only [hk] at m1
    cases b
    · rw [d3 rfl]
      refine pure_run ip80 rfl ?_
      simp -implicitDefEqProofs [I80, hG, m1, c1, hk, d1, zeroVal]
    · obtain ⟨d4, d5⟩ := d2 rfl
      rw [d4]
      obtain ⟨x, hx⟩ := get_of_lt (l := a.l) (i := i) (by omega)
      have o1 := t_aown hG x (by have := bulkL_mem (List.mem_of_getElem? hx); have := Val.bulk_eq a; omega) false false
      have h1 : (i : Int) < (a.l.length : Int) := by omega
      simp at o1
      simp only [hx]
      clear d5 d2 d3
      refine pure_run ip80 rfl ?_
      simp -implicitDefEqProofs [I80, hG, m1, c1, hk, d1, o1, h1, hx]
  · rw [if_neg hk]
    refine pure_run ip80 rfl ?_
    simp -implicitDefEqProofs [I80, hG, m1, c1, hk, zeroVal]
end
end Go.Proofs.YtgpjfhaohjnbnaaGreatDoor
namespace Go.Proofs.YtgpjfhaohjnbnaaGreatDoor
open Go Go.RI
def lensOk (v : Val) : Prop := (v.kind = 5 → v.l.length = v.names.length) ∧ (v.kind ≠ 4 → v.kind ≠ 5 → v.l = [])
mutual
def fineV : Val → Prop
  | .mk k n s l ns => lensOk (.mk k n s l ns) ∧ fineL l
def fineL : List Val → Prop
  | [] => True
  | v :: l => fineV v ∧ fineL l
end
theorem fine_eq (v : Val) : fineV v ↔ lensOk v ∧ fineL v.l := by cases v; simp -implicitDefEqProofs [fineV]
theorem fineL_iff : ∀ l : List Val, fineL l ↔ ∀ v ∈ l, fineV v
  | [] => by simp -implicitDefEqProofs [fineL]
  | v :: l => by simp -implicitDefEqProofs [fineL, fineL_iff l]
theorem own_lens {v : Val} (h : ownV v = true) : lensOk v := by
  unfold ownV at h
  unfold lensOk
  split at h
  · rename_i hk; simp -implicitDefEqProofs [bareV, hk] at h ⊢; exact h.2.1.2
  split at h
  · rename_i hk; simp -implicitDefEqProofs [bareV, hk] at h ⊢; exact h.1.2
  split at h
  · rename_i hk; simp -implicitDefEqProofs [bareV, hk] at h ⊢; exact h.2.1.2
  split at h
  · rename_i hk; simp -implicitDefEqProofs [bareV, hk] at h ⊢; exact h.2.1.2
  split at h
  · rename_i hk; simp -implicitDefEqProofs [bareV, hk] at h ⊢; exact h.2.1
  split at h
  · rename_i hk; simp -implicitDefEqProofs [hk]
  split at h
  · rename_i hk; simp -implicitDefEqProofs [bareV, hk] at h ⊢; omega
  · cases h
mutual
theorem fits_fine : ∀ (v : Val) (w left : Int), (fitsV v w left).2 = true → fineV v
  | .mk k n s l ns, w, left, h => by
    simp only [fitsV] at h
    split at h
    · cases h
    · rename_i hc
      have ho : ownV (.mk k n s l ns) = true := by
        cases ho : ownV (.mk k n s l ns) with
        | true => rfl
        | false => exact absurd (.inr (.inr ho)) hc
      exact ⟨own_lens ho, fitsL_fine l _ _ h⟩
theorem fitsL_fine : ∀ (l : List Val) (w left : Int), (fitsL l w left).2 = true → fineL l
  | [], _, _, _ => trivial
  | v :: l, w, left, h => by
    simp only [fitsL] at h
    split at h
    · rename_i hv; exact ⟨fits_fine v w left hv, fitsL_fine l _ _ h⟩
    · cases h
end
section
variable {G : AHeap} (hG : G.next = 2)
include hG
theorem t_has : ∀ b, b < 1099511627776 → ∀ (v : Val) (s : Shp), v.bulk ≤ b → fineV v → deepOk s → ∀ t1 t2 t3 t4 : Bool, pureR IP G 108 [.ag [.i .i64 s.kind, .fs t1 false s.names.length (encs s.names), .fs t2 false s.l.length (encs s.l)], .ag [.i .i64 v.kind, .i .i64 v.n, .s v.s, .fs t3 false v.l.length (encs v.l), .fs t4 false v.names.length (encs v.names)]] = some (.b (hasTV s v)) := by
  intro b
  induction b with
  | zero => intro _ v s h; have := v.bulk_pos; omega
  | succ b ih =>
    intro hb v s hv hf hd t1 t2 t3 t4
    rw [Val.bulk_eq] at hv
    have hl1 := bulkL_len v.l
    have hl2 := bulkS_len v.names
    rw [hasTV_eq]
    have c1 := t_equalS hG v.names s.names (by omega) t4 false t1 false
    by_cases hk : v.kind = s.kind
    · by_cases hn : v.names = s.names
      · rw [decide_eq_true hk, decide_eq_true hn]
        rw [decide_eq_true hn] at c1
        simp only [Bool.true_and]
        rw [fine_eq] at hf
        rw [deep_eq] at hd
        have hlen : ∀ i : Nat, i < v.l.length → (if s.kind = 4 then 0 else i) < s.l.length := by
          intro i hi
          split
          · rename_i h4; have := hd.1.1 h4; omega
          · rename_i h4
            by_cases h5 : s.kind = 5
            · have e1 := hd.1.2 h5
              have e2 := hf.1.1 (hk.trans h5)
              rw [e1, ← hn]; omega
            · have := hf.1.2 (by rw [hk]; exact h4) (by rw [hk]; exact h5)
              rw [this] at hi; simp at hi
        refine pure_run ip108 rfl ?_
        simp -implicitDefEqProofs [I108, hG, hk, c1]
        refine wp_loop_list (l := v.l) (by omega) (fun i todo e H => e = [(2, .p 2 0), (21, .fs t3 false v.l.length (encs v.l)), (22, .i .i64 v.l.length), (23, .i .i64 i)] ∧ H.get 2 = some (.cells [.i .i64 s.kind, .fs t1 false s.names.length (encs s.names), .fs t2 false s.l.length (encs s.l)] 1 false) ∧ 3 ≤ H.next ∧ hasL s v.l 0 = hasL s todo i) ?_ ?_ ?_
        · rintro i x todo e H hx hdr hlt hlt2 hlt3 ⟨rfl, hg, hn1, he⟩
          have hxm := List.mem_of_getElem? hx
          have hfx := (fineL_iff _).1 hf.2 x hxm
          have hi := hlen i hlt
          obtain ⟨d, hd2⟩ : ∃ d, H.next = d + 3 := ⟨H.next - 3, by omega⟩
          rw [hasL] at he
          by_cases h4 : s.kind = 4
          · rw [if_pos h4] at hi he
            obtain ⟨y, hy⟩ := get_of_lt (l := s.l) (i := 0) hi
            have hy0 : (0 : Int) < (s.l.length : Int) := by omega
            have hyn : 0 < s.l.length := hi
            have c2 := ih (by omega) x y (by have := bulkL_mem hxm; omega) hfx (hd.2 y (List.mem_of_getElem? hy)) false false false false
            rw [hy] at he
            simp only [Option.getD_some] at he
            have hsl : ∃ r, encs s.l = Enc.cells y ++ r := by
              have := drop_encs s.l 0
              rw [hy] at this
              simp only [Nat.zero_mul, List.drop_zero, cellsO_some] at this
              exact ⟨_, this⟩
            obtain ⟨r, hr⟩ := hsl
            simp at hr
            clear hlt hi hlen
            rw [h4] at hg
            cases hv2 : hasTV y x
            · rw [hv2] at c2 he
              simp only [Bool.false_and] at he
              simp -implicitDefEqProofs [L108a, hlt2, hlt3, hx, hg, hd2, hyn, c2, hr]
              exact he
            · rw [hv2] at c2 he
              simp only [Bool.true_and] at he
              simp -implicitDefEqProofs [L108a, hlt2, hlt3, hx, hg, hd2, hyn, c2, hr, h4]
              exact he
          · rw [if_neg h4] at hi he
            obtain ⟨y, hy⟩ := get_of_lt (l := s.l) (i := i) hi
            have hy0 : (i : Int) < (s.l.length : Int) := by omega
            have c2 := ih (by omega) x y (by have := bulkL_mem hxm; omega) hfx (hd.2 y (List.mem_of_getElem? hy)) false false false false
            rw [hy] at he
            simp only [Option.getD_some] at he
            have hsl : (encs s.l).drop (i * 3) = Enc.cells y ++ restE s.l (i + 1) := by
              have := drop_encs s.l i
              rw [hy] at this
              exact this
            simp at hsl
            clear hlt hi hlen
            cases hv2 : hasTV y x
            · rw [hv2] at c2 he
              simp only [Bool.false_and] at he
              simp -implicitDefEqProofs [L108a, hlt2, hlt3, hx, hg, hd2, hy0, c2, hsl, h4]
              exact he
            · rw [hv2] at c2 he
              simp only [Bool.true_and] at he
              simp -implicitDefEqProofs [L108a, hlt2, hlt3, hx, hg, hd2, hy0, c2, hsl, h4]
              exact he
        · rintro e H ⟨rfl, hg, hn1, he⟩
          simp -implicitDefEqProofs [L108a, hG]
          rw [he]; rfl
        · exact ⟨by simp -implicitDefEqProofs [hG], by simp -implicitDefEqProofs [hG], by simp -implicitDefEqProofs [hG], rfl⟩
      · rw [decide_eq_true hk, decide_eq_false hn]
        rw [decide_eq_false hn] at c1
        refine pure_run ip108 rfl ?_
        simp -implicitDefEqProofs [I108, hG, hk, c1]
    · rw [decide_eq_false hk]
      refine pure_run ip108 rfl ?_
      simp -implicitDefEqProofs [I108, hG, hk]
theorem t_is (v : Val) (hv : v.bulk < 549755813888) (t : Str) (ht : t.length < 1099511627776) : pureR IP G 82 [.ag [.i .i64 v.kind, .i .i64 v.n, .s v.s, .fs false false v.l.length (encs v.l), .fs false false v.names.length (encs v.names)], .s t] = some (.b (isTV v t)) := by
  have c1 := t_typed hG t ht
  have c2 := t_check hG v (by omega) false false
  have hd := typed_deep t
  unfold isTV
  obtain ⟨s, hs⟩ : ∃ s, s = (typedS t).1 := ⟨_, rfl⟩
  obtain ⟨ok, hok⟩ : ∃ ok, ok = (typedS t).2 := ⟨_, rfl⟩
  rw [← hs, ← hok] at c1
  rw [← hs] at hd ⊢
  rw [← hok]
  clear hs hok
  simp at c1
  cases ok
  · refine pure_run ip82 rfl ?_
    simp -implicitDefEqProofs [I82, hG, c1]
  cases hm : mayV v
  · rw [hm] at c2
    simp at c2
    refine pure_run ip82 rfl ?_
    simp -implicitDefEqProofs [I82, hG, c1, c2]
  · rw [hm] at c2
    simp at c2
    have c3 := t_has hG v.bulk (by omega) v s (Nat.le_refl _) (fits_fine v _ _ hm) hd false false false false
    refine pure_run ip82 rfl ?_
    simp -implicitDefEqProofs [I82, hG, c1, c2, c3]
end
end Go.Proofs.YtgpjfhaohjnbnaaGreatDoor
namespace Go.RI
open Go
section
variable {H : AHeap}
@[simp] theorem boxR_fs {t f : Bool} {n : Nat} {l : List AVal} : boxR H (.fs t f n l) = some (some (.p H.next 0), H.push (.cells [.fs t f n l] 1 false)) := rfl
def findN (k : Int) : List (AVal × AVal) → Nat → Option (Option (Nat × AVal)) := findA false [1] [.i .i64 k]
@[simp] theorem findN_nil {k : Int} {i : Nat} : findN k [] i = some none := rfl
@[simp] theorem findN_cons {k k' : Int} {v : AVal} {es : List (AVal × AVal)} {i : Nat} : findN k ((.i .i64 k', v) :: es) i = if k = k' then some (some (i, v)) else findN k es (i + 1) := by
  unfold findN
  simp only [findA, keyC]
  by_cases h : k = k'
  · subst h; simp
  · simp [h]
noncomputable def lookN (z : AVal) (okf : Bool) (k : Int) : Option AObj → Option AVal
  | some (.map es) => match findN k es 0 with
    | some (some (_, v)) => some (if okf then .tu [v, .b true] else v)
    | some none => some (if okf then .tu [z, .b false] else z)
    | none => none
  | _ => none
@[simp] theorem look_num {z : AVal} {okf : Bool} {id : Nat} {k : Int} : lookV H false [1] z okf (.m id) (.i .i64 k) = lookN z okf k (H.get id) := by
  simp only [lookV, mapEs, lookN]
  rcases H.get id with _ | ⟨c, esz, ro⟩ | es
  · rfl
  · rfl
  · simp [keyC, findN]
    rcases findA false [1] [.i .i64 k] es 0 with _ | _ | ⟨_, _⟩ <;> rfl
def lookF (z : AVal) (okf : Bool) : Option (Option (Nat × AVal)) → Option AVal
  | some (some (_, v)) => some (if okf then .tu [v, .b true] else v)
  | some none => some (if okf then .tu [z, .b false] else z)
  | none => none
@[simp] theorem lookF_some {z v : AVal} {okf : Bool} {i : Nat} : lookF z okf (some (some (i, v))) = some (if okf then .tu [v, .b true] else v) := rfl
@[simp] theorem lookF_none {z : AVal} {okf : Bool} : lookF z okf (some none) = some (if okf then .tu [z, .b false] else z) := rfl
@[simp] theorem lookN_map {z : AVal} {okf : Bool} {k : Int} {es : List (AVal × AVal)} : lookN z okf k (some (.map es)) = lookF z okf (findN k es 0) := by
  simp only [lookN]
  rcases findN k es 0 with _ | _ | ⟨_, _⟩ <;> rfl
noncomputable def upF (id : Nat) (H : AHeap) (k v : AVal) (es : List (AVal × AVal)) : Option (Option (Nat × AVal)) → Option AHeap
  | some none => some (H.put id (some (.map (es ++ [(k, v)]))))
  | some (some (i, _)) => some (H.put id (some (.map (es.set i (k, v)))))
  | none => none
@[simp] theorem upF_none {id : Nat} {k v : AVal} {es : List (AVal × AVal)} : upF id H k v es (some none) = some (H.put id (some (.map (es ++ [(k, v)])))) := rfl
noncomputable def upN (lo id : Nat) (H : AHeap) (k : Int) (v : AVal) : Option AObj → Option AHeap
  | some (.map es) => if lo ≤ id ∧ v.tup = false then upF id H (.i .i64 k) v es (findN k es 0) else none
  | _ => none
@[simp] theorem upN_map {lo id : Nat} {k : Int} {v : AVal} {es : List (AVal × AVal)} : upN lo id H k v (some (.map es)) = if lo ≤ id ∧ v.tup = false then upF id H (.i .i64 k) v es (findN k es 0) else none := rfl
@[simp] theorem up_num {lo id : Nat} {k : Int} {v : AVal} : mapupV lo H false [1] (.i .i64 k) v (.m id) = upN lo id H k v (H.get id) := by
  simp only [mapupV, upN]
  by_cases hc : lo ≤ id ∧ v.tup = false
  · rw [if_pos hc]
    rcases H.get id with _ | ⟨c, esz, ro⟩ | es
    · rfl
    · rfl
    · simp only [if_pos hc]
      simp [keyC, findN]
      rcases findA false [1] [.i .i64 k] es 0 with _ | _ | ⟨_, _⟩ <;> rfl
  · rw [if_neg hc]
    rcases H.get id with _ | ⟨c, esz, ro⟩ | es
    · rfl
    · rfl
    · simp only [if_neg hc]
end
@[simp] theorem num_bulk (n : Int) : (numV n).bulk = 1 := by simp [numV, Val.bulk, bulkL, bulkS]
@[simp] theorem yes_bulk (b : Bool) : (yesV b).bulk = 1 := by simp [yesV, Val.bulk, bulkL, bulkS]
@[simp] theorem zero_bulk : zeroVal.bulk = 1 := by simp [zeroVal, Val.bulk, bulkL, bulkS]
theorem made_bulk (v : Val) : (madeV v).1.bulk ≤ v.bulk := by
  unfold madeV
  split
  · exact Nat.le_refl _
  · have := v.bulk_pos; simp; omega
theorem unary_bulk (op : Int) (a : Val) : (unaryV op a).1.bulk = 1 := by
  unfold unaryV
  repeat' split
  all_goals simp
theorem ints_bulk (op a b : Int) : (intsV op a b).1.bulk = 1 := by
  unfold intsV
  repeat' split
  all_goals simp
theorem texts_bulk (op : Int) (a b : Str) : (textsV op a b).1.bulk ≤ 1 + a.length + b.length := by
  unfold textsV
  split
  · refine Nat.le_trans (made_bulk _) ?_; simp [Val.bulk, bulkL, bulkS]; omega
  · repeat' split
    all_goals (simp; omega)
theorem longer_bulk (a : Val) (m : List Val) : (longerV a m).1.bulk ≤ 1 + bulkL a.l + bulkL m := by
  unfold longerV
  refine Nat.le_trans (made_bulk _) ?_
  simp [Val.bulk, bulkL_app, bulkS]; omega
theorem get_bulk {l : List Val} (i : Nat) : (l[i]?.getD zeroVal).bulk ≤ 1 + bulkL l := by
  cases h : l[i]? with
  | none => simp
  | some x => have := bulkL_mem (List.mem_of_getElem? h); simp; omega
theorem binV2_bulk (op : Int) (a b : Val) : (binV2 op a b).1.bulk ≤ 1 + a.bulk + b.bulk := by
  have h1 := Val.bulk_eq a
  have h2 := Val.bulk_eq b
  unfold binV2
  split
  · simp; omega
  split
  · simp; omega
  split
  · rw [ints_bulk]; omega
  split
  · have := texts_bulk op a.s b.s; omega
  split
  · have := longer_bulk a [b]; simp [bulkL] at this; omega
  split
  · have := longer_bulk a b.l; omega
  split
  · split
    · have := get_bulk (l := a.l) b.n.toNat; simp only; omega
    · simp; omega
  · simp; omega
theorem binary_bulk (op : Int) (a b : Val) : (binaryV op a b).1.bulk ≤ 1 + a.bulk + b.bulk := by
  unfold binaryV
  split
  · simp; omega
  · exact binV2_bulk op a b
theorem list_bulk (l : List Val) : (listV l).1.bulk ≤ 1 + bulkL l := by
  unfold listV
  split
  · refine Nat.le_trans (made_bulk _) ?_; simp [Val.bulk, bulkS]
  · simp
theorem rec_bulk (ns : List Str) (l : List Val) : (recV ns l).1.bulk ≤ 1 + bulkL l + bulkS ns := by
  unfold recV
  split
  · refine Nat.le_trans (made_bulk _) ?_; simp [Val.bulk]
  · simp; omega
theorem field_bulk (a : Val) (s : Str) : (fieldV a s).1.bulk ≤ 1 + a.bulk := by
  have h1 := Val.bulk_eq a
  unfold fieldV
  split
  · simp
  split
  · split
    · rename_i i _; have := get_bulk (l := a.l) i; simp only; omega
    · simp
  · simp
def Makes (r : Val × Bool) (o : Option Val) : Prop := (r.2 = true → o = some r.1) ∧ (r.2 = false → o = none)
def resR (r : Val × Int × Int) : Val × Bool := (r.1, decide (r.2.1 = 0) && decide (r.2.2 = 0))
theorem makes_res (r : Val × Int × Int) : Makes (resR r) (resV r) := by
  unfold Makes resR resV
  constructor
  · intro h; simp at h; rw [if_pos h]
  · intro h; simp at h; rw [if_neg]; intro h2; exact h h2.1 h2.2
def intsR (op : Int) (a b : Val) : Val × Bool := if a.kind = 1 ∧ b.kind = 1 then resR (binaryV op a b) else (zeroVal, false)
theorem makes_ints (op : Int) (a b : Val) : Makes (intsR op a b) (intsS op a b) := by
  unfold intsR intsS
  split
  · exact makes_res _
  · exact ⟨fun h => (by cases h), fun _ => rfl⟩
theorem makes_if (a : Val) (b : Bool) : Makes (a, b) (if b = true then some a else none) := by
  cases b
  · exact ⟨fun h => (by cases h), fun _ => rfl⟩
  · exact ⟨fun _ => rfl, fun h => (by cases h)⟩
theorem intsR_bulk (op : Int) (a b : Val) : (intsR op a b).1.bulk ≤ 1 + a.bulk + b.bulk := by
  unfold intsR
  split
  · exact binary_bulk op a b
  · simp; omega
end Go.RI
namespace Go.Proofs.YtgpjfhaohjnbnaaGreatDoor
open Go Go.RI
section
variable {G : AHeap} (hG : G.next = 2)
include hG
theorem t_lmade (v : Val) (f e : Int) : pureR IP G 66 [.ag [.i .i64 v.kind, .i .i64 v.n, .s v.s, .fs false false v.l.length (encs v.l), .fs false false v.names.length (encs v.names)], .i .i64 f, .i .i64 e] = some (.tu [.ag (Enc.cells v), .b (decide (f = 0) && decide (e = 0))]) := by
  by_cases hf : f = 0
  · refine pure_run ip66 rfl ?_
    simp -implicitDefEqProofs [I66, hG, hf]
  · refine pure_run ip66 rfl ?_
    simp -implicitDefEqProofs [I66, hG, hf]
theorem t_notInt (v : Val) : pureR IP G 109 [.ag (Enc.cells v)] = some (.b (!decide (v.kind = 1))) := by
  refine pure_run ip109 rfl ?_
  simp -implicitDefEqProofs [I109, hG]
theorem t_lints (op : Int) (a b : Val) (ha : a.bulk < 137438953472) (hb : b.bulk < 137438953472) (t : Bool) : pureR IP G 87 [.i .i64 op, .fs t false 2 (Enc.cells a ++ Enc.cells b)] = some (.tu [.ag (Enc.cells (intsR op a b).1), .b (intsR op a b).2]) := by
  have c1 := t_anyV hG 109 (fun v => !decide (v.kind = 1)) (fun lo l H => pu109) [a, b] (by simp) (fun v _ => t_notInt hG v) t false
  have c2 := t_binary hG op a b ha hb
  have c3 := t_lmade hG (binaryV op a b).1 (binaryV op a b).2.1 (binaryV op a b).2.2
  have e : (([a, b] : List Val).any fun v => !decide (v.kind = 1)) = !(decide (a.kind = 1 ∧ b.kind = 1)) := by simp -implicitDefEqProofs [Bool.decide_and]
  rw [e] at c1
  obtain ⟨r, hr⟩ : ∃ r, r = binaryV op a b := ⟨_, rfl⟩
  rw [← hr] at c2 c3
  unfold intsR resR
  rw [← hr]
  clear hr e
  by_cases hk : a.kind = 1 ∧ b.kind = 1
  · rw [if_pos hk]
    rw [decide_eq_true hk] at c1
    simp at c1 c2 c3
    refine pure_run ip87 rfl ?_
    simp -implicitDefEqProofs [I87, hG, c1, c2, c3]
  · rw [if_neg hk]
    rw [decide_eq_false hk] at c1
    simp at c1
    refine pure_run ip87 rfl ?_
    simp -implicitDefEqProofs [I87, hG, c1, zeroVal]
theorem t_mk1 (l : List Val) (hl : bulkL l < 274877906944) (t : Bool) : pureR IP G 75 [.fp [.fs t false l.length (encs l)]] = some (.tu [.ag (Enc.cells (resR (listV l)).1), .b (resR (listV l)).2]) := by
  have c1 := t_alist hG l hl t
  have c2 := t_lmade hG (listV l).1 (listV l).2.1 (listV l).2.2
  unfold resR
  generalize listV l = r at c1 c2 ⊢
  simp at c1 c2
  refine pure_run ip75 rfl ?_
  simp -implicitDefEqProofs [I75, hG, c1, c2]
theorem t_mk2 (i : Stp) (hn : bulkS i.names < 549755813888) (l : List Val) (hl : bulkL l < 274877906944) (t t1 t2 : Bool) : pureR IP G 77 [.fp [.i .i64 i.op, .i .i64 i.n, .fs t1 false i.l.length (encs i.l), .s i.s, .fs t2 false i.names.length (encs i.names)], .fp [.fs t false l.length (encs l)]] = some (.tu [.ag (Enc.cells (resR (recV i.names l)).1), .b (resR (recV i.names l)).2]) := by
  have c1 := t_arec hG i.names l hn hl t2 t
  have c2 := t_lmade hG (recV i.names l).1 (recV i.names l).2.1 (recV i.names l).2.2
  unfold resR
  generalize recV i.names l = r at c1 c2 ⊢
  simp at c1 c2
  refine pure_run ip77 rfl ?_
  simp -implicitDefEqProofs [I77, hG, c1, c2]
theorem t_mk3 (i : Stp) (hs : i.s.length < 549755813887) (a : Val) (m : List Val) (hl : a.bulk < 274877906944) (t t1 t2 : Bool) : pureR IP G 79 [.fp [.fs t false (m.length + 1) (Enc.cells a ++ encs m)], .fp [.i .i64 i.op, .i .i64 i.n, .fs t1 false i.l.length (encs i.l), .s i.s, .fs t2 false i.names.length (encs i.names)]] = some (.tu [.ag (Enc.cells (resR (fieldV a i.s)).1), .b (resR (fieldV a i.s)).2]) := by
  have c1 := t_afield hG a i.s (by omega) hs
  have c2 := t_lmade hG (fieldV a i.s).1 (fieldV a i.s).2.1 (fieldV a i.s).2.2
  unfold resR
  generalize fieldV a i.s = r at c1 c2 ⊢
  simp at c1 c2
  refine pure_run ip79 rfl ?_
  simp -implicitDefEqProofs [I79, hG, c1, c2]
theorem t_mk4 (i : Stp) (hs : i.s.length < 549755813887) (a : Val) (m : List Val) (hl : a.bulk < 274877906944) (t t1 t2 : Bool) : pureR IP G 81 [.fp [.fs t false (m.length + 1) (Enc.cells a ++ encs m)], .fp [.i .i64 i.op, .i .i64 i.n, .fs t1 false i.l.length (encs i.l), .s i.s, .fs t2 false i.names.length (encs i.names)]] = some (.tu [.ag (Enc.cells a), .b (isTV a i.s)]) := by
  have c1 := t_is hG a (by omega) i.s (by omega)
  generalize isTV a i.s = r at c1 ⊢
  refine pure_run ip81 rfl ?_
  simp -implicitDefEqProofs [I81, hG, c1]
theorem t_mk5 (i : Stp) (a : Val) (m : List Val) (t t1 t2 : Bool) : pureR IP G 83 [.fp [.fs t false (m.length + 1) (Enc.cells a ++ encs m)], .fp [.i .i64 i.op, .i .i64 i.n, .fs t1 false i.l.length (encs i.l), .s i.s, .fs t2 false i.names.length (encs i.names)]] = some (.tu [.ag (Enc.cells a), .b (decide (a.kind = i.n))]) := by
  refine pure_run ip83 rfl ?_
  simp -implicitDefEqProofs [I83, hG]
theorem t_mk6 (a : Val) (m : List Val) (hl : a.bulk < 274877906944) (t : Bool) : pureR IP G 84 [.fp [.fs t false (m.length + 1) (Enc.cells a ++ encs m)]] = some (.tu [.ag (Enc.cells (resR (unaryV 6 a)).1), .b (resR (unaryV 6 a)).2]) := by
  have c1 := t_unary hG 6 a (by omega)
  have c2 := t_lmade hG (unaryV 6 a).1 (unaryV 6 a).2.1 (unaryV 6 a).2.2
  unfold resR
  generalize unaryV 6 a = r at c1 c2 ⊢
  simp at c1 c2
  refine pure_run ip84 rfl ?_
  simp -implicitDefEqProofs [I84, hG, c1, c2]
theorem t_mk7 (a : Val) (m : List Val) (hl : a.bulk < 274877906944) (t : Bool) : pureR IP G 85 [.fp [.fs t false (m.length + 1) (Enc.cells a ++ encs m)]] = some (.tu [.ag (Enc.cells (resR (unaryV 7 a)).1), .b (resR (unaryV 7 a)).2]) := by
  have c1 := t_unary hG 7 a (by omega)
  have c2 := t_lmade hG (unaryV 7 a).1 (unaryV 7 a).2.1 (unaryV 7 a).2.2
  unfold resR
  generalize unaryV 7 a = r at c1 c2 ⊢
  simp at c1 c2
  refine pure_run ip85 rfl ?_
  simp -implicitDefEqProofs [I85, hG, c1, c2]
theorem t_mk8 (a b : Val) (ha : a.bulk < 137438953472) (hb : b.bulk < 137438953472) (t : Bool) : pureR IP G 86 [.fp [.fs t false 2 (Enc.cells a ++ Enc.cells b)]] = some (.tu [.ag (Enc.cells (intsR 9 a b).1), .b (intsR 9 a b).2]) := by
  have c1 := t_lints hG 9 a b ha hb t
  generalize intsR 9 a b = r at c1 ⊢
  simp at c1
  refine pure_run ip86 rfl ?_
  simp -implicitDefEqProofs [I86, hG, c1]
theorem t_mk9 (a b : Val) (ha : a.bulk < 137438953472) (hb : b.bulk < 137438953472) (t : Bool) : pureR IP G 88 [.fp [.fs t false 2 (Enc.cells a ++ Enc.cells b)]] = some (.tu [.ag (Enc.cells (intsR 10 a b).1), .b (intsR 10 a b).2]) := by
  have c1 := t_lints hG 10 a b ha hb t
  generalize intsR 10 a b = r at c1 ⊢
  simp at c1
  refine pure_run ip88 rfl ?_
  simp -implicitDefEqProofs [I88, hG, c1]
theorem t_mk10 (a b : Val) (ha : a.bulk < 137438953472) (hb : b.bulk < 137438953472) (t : Bool) : pureR IP G 89 [.fp [.fs t false 2 (Enc.cells a ++ Enc.cells b)]] = some (.tu [.ag (Enc.cells (intsR 11 a b).1), .b (intsR 11 a b).2]) := by
  have c1 := t_lints hG 11 a b ha hb t
  generalize intsR 11 a b = r at c1 ⊢
  simp at c1
  refine pure_run ip89 rfl ?_
  simp -implicitDefEqProofs [I89, hG, c1]
theorem t_mk11 (a b : Val) (ha : a.bulk < 137438953472) (hb : b.bulk < 137438953472) (t : Bool) : pureR IP G 90 [.fp [.fs t false 2 (Enc.cells a ++ Enc.cells b)]] = some (.tu [.ag (Enc.cells (intsR 16 a b).1), .b (intsR 16 a b).2]) := by
  have c1 := t_lints hG 16 a b ha hb t
  generalize intsR 16 a b = r at c1 ⊢
  simp at c1
  refine pure_run ip90 rfl ?_
  simp -implicitDefEqProofs [I90, hG, c1]
theorem t_mk12 (a b : Val) (ha : a.bulk < 137438953472) (hb : b.bulk < 137438953472) (t : Bool) : pureR IP G 91 [.fp [.fs t false 2 (Enc.cells a ++ Enc.cells b)]] = some (.tu [.ag (Enc.cells (intsR 17 a b).1), .b (intsR 17 a b).2]) := by
  have c1 := t_lints hG 17 a b ha hb t
  generalize intsR 17 a b = r at c1 ⊢
  simp at c1
  refine pure_run ip91 rfl ?_
  simp -implicitDefEqProofs [I91, hG, c1]
theorem t_mk13 (a : Val) (m : List Val) (n : Int) (ha : a.bulk < 137438953472) (t : Bool) : pureR IP G 92 [.fp [.fs t false (m.length + 1) (Enc.cells a ++ encs m)], .fp (Enc.cells (numV n))] = some (.tu [.ag (Enc.cells (intsR 9 a (numV n)).1), .b (intsR 9 a (numV n)).2]) := by
  have c1 := t_lints hG 9 a (numV n) ha (by simp) true
  generalize intsR 9 a (numV n) = r at c1 ⊢
  generalize numV n = w at c1 ⊢
  simp at c1
  refine pure_run ip92 rfl ?_
  simp -implicitDefEqProofs [I92, hG, c1]
theorem t_mk14 (a : Val) (m : List Val) (n : Int) (ha : a.bulk < 137438953472) (t : Bool) : pureR IP G 93 [.fp [.fs t false (m.length + 1) (Enc.cells a ++ encs m)], .fp (Enc.cells (numV n))] = some (.tu [.ag (Enc.cells (intsR 16 a (numV n)).1), .b (intsR 16 a (numV n)).2]) := by
  have c1 := t_lints hG 16 a (numV n) ha (by simp) true
  generalize intsR 16 a (numV n) = r at c1 ⊢
  generalize numV n = w at c1 ⊢
  simp at c1
  refine pure_run ip93 rfl ?_
  simp -implicitDefEqProofs [I93, hG, c1]
end
end Go.Proofs.YtgpjfhaohjnbnaaGreatDoor
namespace Go.Proofs.YtgpjfhaohjnbnaaGreatDoor
open Go Go.RI
def mkEs (d : Nat) : List (AVal × AVal) :=
  [(.i .i64 20, .fn (.func 75) [] [.p (d + 1) 0]), (.i .i64 21, .fn (.func 77) [] [.p d 0, .p (d + 1) 0]), (.i .i64 22, .fn (.func 79) [] [.p (d + 1) 0, .p d 0]),
   (.i .i64 23, .fn (.func 81) [] [.p (d + 1) 0, .p d 0]), (.i .i64 40, .fn (.func 83) [] [.p (d + 1) 0, .p d 0]), (.i .i64 41, .fn (.func 84) [] [.p (d + 1) 0]),
   (.i .i64 42, .fn (.func 85) [] [.p (d + 1) 0]), (.i .i64 43, .fn (.func 86) [] [.p (d + 1) 0]), (.i .i64 44, .fn (.func 88) [] [.p (d + 1) 0]),
   (.i .i64 45, .fn (.func 89) [] [.p (d + 1) 0]), (.i .i64 46, .fn (.func 90) [] [.p (d + 1) 0]), (.i .i64 47, .fn (.func 91) [] [.p (d + 1) 0]),
   (.i .i64 48, .fn (.func 92) [] [.p (d + 1) 0, .p (d + 2) 0]), (.i .i64 49, .fn (.func 93) [] [.p (d + 1) 0, .p (d + 2) 0])]
section
variable {G : AHeap} (hG : G.next = 2)
include hG
theorem t_makers (i : Stp) (l : List Val) (t t1 t2 f : Bool) (H : AHeap) : ∃ v H', (∀ lo, theCalls IP G lo 65 [.ag [.i .i64 i.op, .i .i64 i.n, .fs t1 false i.l.length (encs i.l), .s i.s, .fs t2 false i.names.length (encs i.names)], .fs t f l.length (encs l)] H = some (v, H')) ∧
    (v = .m (H.next + 3) ∧ H'.next = H.next + 4 ∧ (∀ id, id < H.next → H'.get id = H.get id) ∧ H'.get H.next = some (.cells [.i .i64 i.op, .i .i64 i.n, .fs t1 false i.l.length (encs i.l), .s i.s, .fs t2 false i.names.length (encs i.names)] 1 false) ∧ H'.get (H.next + 1) = some (.cells [.fs t f l.length (encs l)] 1 false) ∧
      H'.get (H.next + 2) = some (.cells [.i .i64 1, .i .i64 i.n, .s [], .ns, .ns] 1 false) ∧ H'.get (H.next + 3) = some (.map (mkEs H.next))) := by
  obtain ⟨d, hd⟩ : ∃ d, d = H.next := ⟨_, rfl⟩
  have a2 : d + 1 + 1 = d + 2 := rfl
  have a3 : d + 2 + 1 = d + 3 := rfl
  have a4 : d + 3 + 1 = d + 4 := rfl
  have k2 : d ≤ d + 2 := by omega
  have k3 : d ≤ d + 3 := by omega
  rw [← hd]
  refine calls_one_of ip65 rfl rfl ?_
  rw [ends_fin, ← hd]
  simp -implicitDefEqProofs [I65, numV, mkEs, ← hd, a2, a3, a4, k2, k3]
  intro id hid
  simp -implicitDefEqProofs [← hd, show ¬ id = d by omega, show ¬ id = d + 1 by omega, show ¬ id = d + 2 by omega, show ¬ id = d + 3 by omega]
end
end Go.Proofs.YtgpjfhaohjnbnaaGreatDoor
namespace Go.Proofs.YtgpjfhaohjnbnaaGreatDoor
open Go Go.RI
section
variable {G : AHeap} (hG : G.next = 2)
include hG
theorem t_stepNot (v : Val) (hv : v.bulk < 1099511627776) : pureR IP G 64 [.ag (Enc.cells v)] = some (.b (!mayV v)) := by
  have c1 := t_mayBe hG v hv false false
  refine pure_run ip64 rfl ?_
  simp -implicitDefEqProofs [I64, hG, c1]
theorem t_stepAny (l : List Val) (hl : bulkL l < 68719476736) (t f : Bool) : pureR IP G 43 [.fs t f l.length (encs l), .fn (.func 64) [] []] = some (.b (!l.all mayV)) := by
  have c1 := t_anyV hG 64 (fun v => !mayV v) (fun lo l H => pu64) l (by have := bulkL_len l; omega) (fun v hv => t_stepNot hG v (by have := bulkL_mem hv; omega)) t f
  have e : (l.any fun v => !mayV v) = !(l.all mayV) := by simp -implicitDefEqProofs [List.not_all_eq_any_not]
  rw [e] at c1
  exact c1
def NeedsOk (G : AHeap) : Prop := ∀ (i : Stp), bulkS i.names < 549755813888 → i.s.length < 549755813887 → ∀ t1 t2 : Bool, pureR IP G 38 [.ag [.i .i64 i.op, .i .i64 i.n, .fs t1 false i.l.length (encs i.l), .s i.s, .fs t2 false i.names.length (encs i.names)]] = some (.tu [.i .i64 (needs i).1, .i .i64 (needs i).2.1, .b (needs i).2.2])
def StepOk (G : AHeap) (i : Stp) : Prop := ∀ (l : List Val), bulkL l < 68719476736 → ∀ t t1 t2 f : Bool, (needs i).2.2 = true → (needs i).1 ≤ l.length → (l.length : Int) ≤ (needs i).2.1 → l.all mayV = true →
  pureR IP G 46 [.ag [.i .i64 i.op, .i .i64 i.n, .fs t1 false i.l.length (encs i.l), .s i.s, .fs t2 false i.names.length (encs i.names)], .fs t f l.length (encs l)] = some (.tu [.ag (Enc.cells ((opS i l).getD zeroVal)), .b (opS i l).isSome])
set_option maxHeartbeats 1000000 in
theorem t_stepRefuse (cN : NeedsOk G) (i : Stp) (hi : okStp i) (l : List Val) (hl : bulkL l < 68719476736) (t t1 t2 f : Bool) (h : ¬ ((needs i).2.2 = true ∧ (needs i).1 ≤ l.length ∧ (l.length : Int) ≤ (needs i).2.1 ∧ l.all mayV = true)) :
    pureR IP G 46 [.ag [.i .i64 i.op, .i .i64 i.n, .fs t1 false i.l.length (encs i.l), .s i.s, .fs t2 false i.names.length (encs i.names)], .fs t f l.length (encs l)] = some (.tu [.ag (Enc.cells zeroVal), .b false]) := by
  obtain ⟨hns, hs, hil, hio⟩ := hi
  have c0 := cN i hns hs t1 t2
  have c1 := t_stepAny hG l hl t false
  generalize (needs i).2.2 = ok at h c0
  generalize (needs i).2.1 = mo at h c0
  generalize (needs i).1 = le at h c0
  generalize l.all mayV = al at h c1
  cases ok
  · refine pure_run ip46 rfl ?_
    simp -implicitDefEqProofs [I46, hG, c0, zeroVal]
  by_cases h1 : (l.length : Int) < le
  · refine pure_run ip46 rfl ?_
    simp -implicitDefEqProofs [I46, hG, c0, h1, zeroVal]
  by_cases h2 : mo < (l.length : Int)
  · refine pure_run ip46 rfl ?_
    simp -implicitDefEqProofs [I46, hG, c0, h1, h2, zeroVal]
  cases al
  · refine pure_run ip46 rfl ?_
    simp -implicitDefEqProofs [I46, hG, c0, c1, h1, h2, zeroVal]
  · exact absurd ⟨rfl, by omega, by omega, rfl⟩ h
set_option maxHeartbeats 1000000 in
theorem t_stepMk (cN : NeedsOk G) (K n : Int) (il : List Opn) (s : Str) (ns : List Str) (hi : okStp ⟨K, n, il, s, ns⟩) (l : List Val) (hl : bulkL l < 68719476736) (t t1 t2 f : Bool) (q1 : (needs ⟨K, n, il, s, ns⟩).2.2 = true) (q2 : (needs ⟨K, n, il, s, ns⟩).1 ≤ l.length) (q3 : (l.length : Int) ≤ (needs ⟨K, n, il, s, ns⟩).2.1) (q4 : l.all mayV = true)
    (j : Nat) (g : FuncId) (caps : List AVal) (hfind : findN K (mkEs 4) 0 = some (some (j, .fn (.func g) [] caps))) (r : Val × Bool) (o : Option Val) (hm : Makes r o) (hb : r.1.bulk < 1099511627776)
    (hcall : ∀ H1 : AHeap, H1.get 4 = some (.cells [.i .i64 K, .i .i64 n, .fs t1 false il.length (encs il), .s s, .fs t2 false ns.length (encs ns)] 1 false) → H1.get 5 = some (.cells [.fs t f l.length (encs l)] 1 false) → H1.get 6 = some (.cells [.i .i64 1, .i .i64 n, .s [], .ns, .ns] 1 false) →
      theCalls IP G 2 g caps H1 = some (.tu [.ag (Enc.cells r.1), .b r.2], H1)) :
    pureR IP G 46 [.ag [.i .i64 K, .i .i64 n, .fs t1 false il.length (encs il), .s s, .fs t2 false ns.length (encs ns)], .fs t f l.length (encs l)] = some (.tu [.ag (Enc.cells (o.getD zeroVal)), .b o.isSome]) := by
  obtain ⟨hns, hs, hil, hio⟩ := hi
  have c0 := cN ⟨K, n, il, s, ns⟩ hns hs t1 t2
  have c1 := t_stepAny hG l hl t false
  rw [q4] at c1
  obtain ⟨mv, H1, cm, rfl, hn1, hf1, r0, r1, r2, r3⟩ := t_makers hG ⟨K, n, il, s, ns⟩ l t t1 t2 f ((G.push (.cells [.i .i64 K, .i .i64 n, .fs t1 false il.length (encs il), .s s, .fs t2 false ns.length (encs ns)] 1 false)).push (.cells [.i .i64 0, .i .i64 0, .s [], .ns, .ns] 1 false))
  have g0 := hf1 2 (by simp -implicitDefEqProofs [hG])
  have g1 := hf1 3 (by simp -implicitDefEqProofs [hG])
  have c4 := t_lown hG r.1 hb false false
  have h1 : ¬ (l.length : Int) < (needs ⟨K, n, il, s, ns⟩).1 := by omega
  have h2 : ¬ (needs ⟨K, n, il, s, ns⟩).2.1 < (l.length : Int) := by omega
  rw [q1] at c0
  generalize (needs ⟨K, n, il, s, ns⟩).1 = le at c0 h1
  generalize (needs ⟨K, n, il, s, ns⟩).2.1 = mo at c0 h2
  obtain ⟨m1, m2⟩ := hm
  clear hb q1 q2 q3 q4 hl hns hs hil hio hf1
  obtain ⟨v, ok⟩ := r
  simp -implicitDefEqProofs [hG] at c0 c1 cm hn1 r0 r1 r2 r3 g0 g1
  have c3 := hcall H1 r0 r1 r2
  simp only at c3
  cases ok
  · rw [m2 rfl]
    simp at c3
    refine pure_run ip46 rfl ?_
    simp -implicitDefEqProofs [I46, hG, c0, c1, h1, h2, cm, g0, g1, r0, r1, r2, r3, hfind, c3, zeroVal]
  · rw [m1 rfl]
    simp at c3 c4
    refine pure_run ip46 rfl ?_
    simp -implicitDefEqProofs [I46, hG, c0, c1, h1, h2, cm, g0, g1, r0, r1, r2, r3, hfind, c3, c4]
theorem one_val {l : List Val} {i : Stp} (h : (needs i).1 = 1) (q : (needs i).1 ≤ l.length) : ∃ a m, l = a :: m := one_of (by omega)
theorem two_val {l : List Val} {i : Stp} (h : (needs i).1 = 2) (h2 : (needs i).2.1 = 2) (q2 : (needs i).1 ≤ l.length) (q3 : (l.length : Int) ≤ (needs i).2.1) : ∃ a b, l = [a, b] := by
  match l, q2, q3 with
  | [], q2, _ => rw [h] at q2; simp at q2
  | [_], q2, _ => rw [h] at q2; simp at q2
  | [a, b], _, _ => exact ⟨a, b, rfl⟩
  | _ :: _ :: _ :: _, _, q3 => rw [h2] at q3; simp at q3; omega
theorem t_stepOk20 (cN : NeedsOk G) (n : Int) (il : List Opn) (s : Str) (ns : List Str) (hi : okStp ⟨20, n, il, s, ns⟩) : StepOk G ⟨20, n, il, s, ns⟩ := by
  intro l hl t t1 t2 f q1 q2 q3 q4
  have hi' := hi
  obtain ⟨hns, hs, hil, hio⟩ := hi'
  have eo : opS ⟨20, n, il, s, ns⟩ l = resV (listV l) := by simp -implicitDefEqProofs [opS]
  rw [eo]
  have c3 := t_mk1 hG l (by omega) t
  refine t_stepMk hG cN 20 n il s ns hi l hl t t1 t2 f q1 q2 q3 q4 0 75 [.p 5 0] (by simp -implicitDefEqProofs [mkEs]) (resR (listV l)) _ (makes_res (listV l)) (by have := list_bulk l; simp only [resR]; omega) fun H1 r0 r1 r2 => ?_
  simp at r0 r1 r2 c3
  simp -implicitDefEqProofs [r0, r1, r2, c3]
theorem t_stepOk21 (cN : NeedsOk G) (n : Int) (il : List Opn) (s : Str) (ns : List Str) (hi : okStp ⟨21, n, il, s, ns⟩) : StepOk G ⟨21, n, il, s, ns⟩ := by
  intro l hl t t1 t2 f q1 q2 q3 q4
  have hi' := hi
  obtain ⟨hns, hs, hil, hio⟩ := hi'
  have eo : opS ⟨21, n, il, s, ns⟩ l = resV (recV ns l) := by simp -implicitDefEqProofs [opS]
  rw [eo]
  have c3 := t_mk2 hG ⟨21, n, il, s, ns⟩ hns l (by omega) t t1 t2
  refine t_stepMk hG cN 21 n il s ns hi l hl t t1 t2 f q1 q2 q3 q4 1 77 [.p 4 0, .p 5 0] (by simp -implicitDefEqProofs [mkEs]) (resR (recV ns l)) _ (makes_res (recV ns l)) (by have := rec_bulk ns l; simp only [resR]; have : bulkS ns < 549755813888 := hns; omega) fun H1 r0 r1 r2 => ?_
  simp at r0 r1 r2 c3
  simp -implicitDefEqProofs [r0, r1, r2, c3]
theorem t_stepOk22 (cN : NeedsOk G) (n : Int) (il : List Opn) (s : Str) (ns : List Str) (hi : okStp ⟨22, n, il, s, ns⟩) : StepOk G ⟨22, n, il, s, ns⟩ := by
  intro l hl t t1 t2 f q1 q2 q3 q4
  have hi' := hi
  obtain ⟨hns, hs, hil, hio⟩ := hi'
  obtain ⟨a, m, rfl⟩ := one_val hG (i := ⟨22, n, il, s, ns⟩) (by simp -implicitDefEqProofs [needs]) q2
  have hba : a.bulk < 68719476736 := by simp only [bulkL] at hl; omega
  have eo : opS ⟨22, n, il, s, ns⟩ (a :: m) = resV (fieldV a s) := by simp -implicitDefEqProofs [opS]
  rw [eo]
  have c3 := t_mk3 hG ⟨22, n, il, s, ns⟩ hs a m (by omega) t t1 t2
  refine t_stepMk hG cN 22 n il s ns hi (a :: m) hl t t1 t2 f q1 q2 q3 q4 2 79 [.p 5 0, .p 4 0] (by simp -implicitDefEqProofs [mkEs]) (resR (fieldV a s)) _ (makes_res (fieldV a s)) (by have := field_bulk a s; simp only [resR]; omega) fun H1 r0 r1 r2 => ?_
  simp at r0 r1 r2 c3
  simp -implicitDefEqProofs [r0, r1, r2, c3]
theorem t_stepOk23 (cN : NeedsOk G) (n : Int) (il : List Opn) (s : Str) (ns : List Str) (hi : okStp ⟨23, n, il, s, ns⟩) : StepOk G ⟨23, n, il, s, ns⟩ := by
  intro l hl t t1 t2 f q1 q2 q3 q4
  have hi' := hi
  obtain ⟨hns, hs, hil, hio⟩ := hi'
  obtain ⟨a, m, rfl⟩ := one_val hG (i := ⟨23, n, il, s, ns⟩) (by simp -implicitDefEqProofs [needs]) q2
  have hba : a.bulk < 68719476736 := by simp only [bulkL] at hl; omega
  have eo : opS ⟨23, n, il, s, ns⟩ (a :: m) = (if isTV a s then some a else none) := by simp -implicitDefEqProofs [opS]
  rw [eo]
  have c3 := t_mk4 hG ⟨23, n, il, s, ns⟩ hs a m (by omega) t t1 t2
  refine t_stepMk hG cN 23 n il s ns hi (a :: m) hl t t1 t2 f q1 q2 q3 q4 3 81 [.p 5 0, .p 4 0] (by simp -implicitDefEqProofs [mkEs]) (((a, isTV a s) : Val × Bool)) _ ((makes_if a (isTV a s))) (by simp only; omega) fun H1 r0 r1 r2 => ?_
  simp at r0 r1 r2 c3
  simp -implicitDefEqProofs [r0, r1, r2, c3]
theorem t_stepOk40 (cN : NeedsOk G) (n : Int) (il : List Opn) (s : Str) (ns : List Str) (hi : okStp ⟨40, n, il, s, ns⟩) : StepOk G ⟨40, n, il, s, ns⟩ := by
  intro l hl t t1 t2 f q1 q2 q3 q4
  have hi' := hi
  obtain ⟨hns, hs, hil, hio⟩ := hi'
  obtain ⟨a, m, rfl⟩ := one_val hG (i := ⟨40, n, il, s, ns⟩) (by simp -implicitDefEqProofs [needs]) q2
  have hba : a.bulk < 68719476736 := by simp only [bulkL] at hl; omega
  have eo : opS ⟨40, n, il, s, ns⟩ (a :: m) = (if decide (a.kind = n) = true then some a else none) := by simp -implicitDefEqProofs [opS]
  rw [eo]
  have c3 := t_mk5 hG ⟨40, n, il, s, ns⟩ a m t t1 t2
  refine t_stepMk hG cN 40 n il s ns hi (a :: m) hl t t1 t2 f q1 q2 q3 q4 4 83 [.p 5 0, .p 4 0] (by simp -implicitDefEqProofs [mkEs]) (((a, decide (a.kind = n)) : Val × Bool)) _ ((makes_if a (decide (a.kind = n)))) (by simp only; omega) fun H1 r0 r1 r2 => ?_
  simp at r0 r1 r2 c3
  simp -implicitDefEqProofs [r0, r1, r2, c3]
theorem t_stepOk41 (cN : NeedsOk G) (n : Int) (il : List Opn) (s : Str) (ns : List Str) (hi : okStp ⟨41, n, il, s, ns⟩) : StepOk G ⟨41, n, il, s, ns⟩ := by
  intro l hl t t1 t2 f q1 q2 q3 q4
  have hi' := hi
  obtain ⟨hns, hs, hil, hio⟩ := hi'
  obtain ⟨a, m, rfl⟩ := one_val hG (i := ⟨41, n, il, s, ns⟩) (by simp -implicitDefEqProofs [needs]) q2
  have hba : a.bulk < 68719476736 := by simp only [bulkL] at hl; omega
  have eo : opS ⟨41, n, il, s, ns⟩ (a :: m) = resV (unaryV 6 a) := by simp -implicitDefEqProofs [opS]
  rw [eo]
  have c3 := t_mk6 hG a m (by omega) t
  refine t_stepMk hG cN 41 n il s ns hi (a :: m) hl t t1 t2 f q1 q2 q3 q4 5 84 [.p 5 0] (by simp -implicitDefEqProofs [mkEs]) (resR (unaryV 6 a)) _ (makes_res (unaryV 6 a)) (by have := unary_bulk 6 a; simp only [resR]; omega) fun H1 r0 r1 r2 => ?_
  simp at r0 r1 r2 c3
  simp -implicitDefEqProofs [r0, r1, r2, c3]
theorem t_stepOk42 (cN : NeedsOk G) (n : Int) (il : List Opn) (s : Str) (ns : List Str) (hi : okStp ⟨42, n, il, s, ns⟩) : StepOk G ⟨42, n, il, s, ns⟩ := by
  intro l hl t t1 t2 f q1 q2 q3 q4
  have hi' := hi
  obtain ⟨hns, hs, hil, hio⟩ := hi'
  obtain ⟨a, m, rfl⟩ := one_val hG (i := ⟨42, n, il, s, ns⟩) (by simp -implicitDefEqProofs [needs]) q2
  have hba : a.bulk < 68719476736 := by simp only [bulkL] at hl; omega
  have eo : opS ⟨42, n, il, s, ns⟩ (a :: m) = resV (unaryV 7 a) := by simp -implicitDefEqProofs [opS]
  rw [eo]
  have c3 := t_mk7 hG a m (by omega) t
  refine t_stepMk hG cN 42 n il s ns hi (a :: m) hl t t1 t2 f q1 q2 q3 q4 6 85 [.p 5 0] (by simp -implicitDefEqProofs [mkEs]) (resR (unaryV 7 a)) _ (makes_res (unaryV 7 a)) (by have := unary_bulk 7 a; simp only [resR]; omega) fun H1 r0 r1 r2 => ?_
  simp at r0 r1 r2 c3
  simp -implicitDefEqProofs [r0, r1, r2, c3]
theorem t_stepOk43 (cN : NeedsOk G) (n : Int) (il : List Opn) (s : Str) (ns : List Str) (hi : okStp ⟨43, n, il, s, ns⟩) : StepOk G ⟨43, n, il, s, ns⟩ := by
  intro l hl t t1 t2 f q1 q2 q3 q4
  have hi' := hi
  obtain ⟨hns, hs, hil, hio⟩ := hi'
  obtain ⟨a, b, rfl⟩ := two_val hG (i := ⟨43, n, il, s, ns⟩) (by simp -implicitDefEqProofs [needs]) (by simp -implicitDefEqProofs [needs]) q2 q3
  have hba : a.bulk < 68719476736 := by simp only [bulkL] at hl; omega
  have hbb : b.bulk < 68719476736 := by simp only [bulkL] at hl; omega
  have eo : opS ⟨43, n, il, s, ns⟩ [a, b] = intsS 9 a b := by simp -implicitDefEqProofs [opS]
  rw [eo]
  have c3 := t_mk8 hG a b (by omega) (by omega) t
  refine t_stepMk hG cN 43 n il s ns hi [a, b] hl t t1 t2 f q1 q2 q3 q4 7 86 [.p 5 0] (by simp -implicitDefEqProofs [mkEs]) (intsR 9 a b) _ (makes_ints 9 a b) (by have := intsR_bulk 9 a b; omega) fun H1 r0 r1 r2 => ?_
  simp at r0 r1 r2 c3
  simp -implicitDefEqProofs [r0, r1, r2, c3]
theorem t_stepOk44 (cN : NeedsOk G) (n : Int) (il : List Opn) (s : Str) (ns : List Str) (hi : okStp ⟨44, n, il, s, ns⟩) : StepOk G ⟨44, n, il, s, ns⟩ := by
  intro l hl t t1 t2 f q1 q2 q3 q4
  have hi' := hi
  obtain ⟨hns, hs, hil, hio⟩ := hi'
  obtain ⟨a, b, rfl⟩ := two_val hG (i := ⟨44, n, il, s, ns⟩) (by simp -implicitDefEqProofs [needs]) (by simp -implicitDefEqProofs [needs]) q2 q3
  have hba : a.bulk < 68719476736 := by simp only [bulkL] at hl; omega
  have hbb : b.bulk < 68719476736 := by simp only [bulkL] at hl; omega
  have eo : opS ⟨44, n, il, s, ns⟩ [a, b] = intsS 10 a b := by simp -implicitDefEqProofs [opS]
  rw [eo]
  have c3 := t_mk9 hG a b (by omega) (by omega) t
  refine t_stepMk hG cN 44 n il s ns hi [a, b] hl t t1 t2 f q1 q2 q3 q4 8 88 [.p 5 0] (by simp -implicitDefEqProofs [mkEs]) (intsR 10 a b) _ (makes_ints 10 a b) (by have := intsR_bulk 10 a b; omega) fun H1 r0 r1 r2 => ?_
  simp at r0 r1 r2 c3
  simp -implicitDefEqProofs [r0, r1, r2, c3]
theorem t_stepOk45 (cN : NeedsOk G) (n : Int) (il : List Opn) (s : Str) (ns : List Str) (hi : okStp ⟨45, n, il, s, ns⟩) : StepOk G ⟨45, n, il, s, ns⟩ := by
  intro l hl t t1 t2 f q1 q2 q3 q4
  have hi' := hi
  obtain ⟨hns, hs, hil, hio⟩ := hi'
  obtain ⟨a, b, rfl⟩ := two_val hG (i := ⟨45, n, il, s, ns⟩) (by simp -implicitDefEqProofs [needs]) (by simp -implicitDefEqProofs [needs]) q2 q3
  have hba : a.bulk < 68719476736 := by simp only [bulkL] at hl; omega
  have hbb : b.bulk < 68719476736 := by simp only [bulkL] at hl; omega
  have eo : opS ⟨45, n, il, s, ns⟩ [a, b] = intsS 11 a b := by simp -implicitDefEqProofs [opS]
  rw [eo]
  have c3 := t_mk10 hG a b (by omega) (by omega) t
  refine t_stepMk hG cN 45 n il s ns hi [a, b] hl t t1 t2 f q1 q2 q3 q4 9 89 [.p 5 0] (by simp -implicitDefEqProofs [mkEs]) (intsR 11 a b) _ (makes_ints 11 a b) (by have := intsR_bulk 11 a b; omega) fun H1 r0 r1 r2 => ?_
  simp at r0 r1 r2 c3
  simp -implicitDefEqProofs [r0, r1, r2, c3]
theorem t_stepOk46 (cN : NeedsOk G) (n : Int) (il : List Opn) (s : Str) (ns : List Str) (hi : okStp ⟨46, n, il, s, ns⟩) : StepOk G ⟨46, n, il, s, ns⟩ := by
  intro l hl t t1 t2 f q1 q2 q3 q4
  have hi' := hi
  obtain ⟨hns, hs, hil, hio⟩ := hi'
  obtain ⟨a, b, rfl⟩ := two_val hG (i := ⟨46, n, il, s, ns⟩) (by simp -implicitDefEqProofs [needs]) (by simp -implicitDefEqProofs [needs]) q2 q3
  have hba : a.bulk < 68719476736 := by simp only [bulkL] at hl; omega
  have hbb : b.bulk < 68719476736 := by simp only [bulkL] at hl; omega
  have eo : opS ⟨46, n, il, s, ns⟩ [a, b] = intsS 16 a b := by simp -implicitDefEqProofs [opS]
  rw [eo]
  have c3 := t_mk11 hG a b (by omega) (by omega) t
  refine t_stepMk hG cN 46 n il s ns hi [a, b] hl t t1 t2 f q1 q2 q3 q4 10 90 [.p 5 0] (by simp -implicitDefEqProofs [mkEs]) (intsR 16 a b) _ (makes_ints 16 a b) (by have := intsR_bulk 16 a b; omega) fun H1 r0 r1 r2 => ?_
  simp at r0 r1 r2 c3
  simp -implicitDefEqProofs [r0, r1, r2, c3]
theorem t_stepOk47 (cN : NeedsOk G) (n : Int) (il : List Opn) (s : Str) (ns : List Str) (hi : okStp ⟨47, n, il, s, ns⟩) : StepOk G ⟨47, n, il, s, ns⟩ := by
  intro l hl t t1 t2 f q1 q2 q3 q4
  have hi' := hi
  obtain ⟨hns, hs, hil, hio⟩ := hi'
  obtain ⟨a, b, rfl⟩ := two_val hG (i := ⟨47, n, il, s, ns⟩) (by simp -implicitDefEqProofs [needs]) (by simp -implicitDefEqProofs [needs]) q2 q3
  have hba : a.bulk < 68719476736 := by simp only [bulkL] at hl; omega
  have hbb : b.bulk < 68719476736 := by simp only [bulkL] at hl; omega
  have eo : opS ⟨47, n, il, s, ns⟩ [a, b] = intsS 17 a b := by simp -implicitDefEqProofs [opS]
  rw [eo]
  have c3 := t_mk12 hG a b (by omega) (by omega) t
  refine t_stepMk hG cN 47 n il s ns hi [a, b] hl t t1 t2 f q1 q2 q3 q4 11 91 [.p 5 0] (by simp -implicitDefEqProofs [mkEs]) (intsR 17 a b) _ (makes_ints 17 a b) (by have := intsR_bulk 17 a b; omega) fun H1 r0 r1 r2 => ?_
  simp at r0 r1 r2 c3
  simp -implicitDefEqProofs [r0, r1, r2, c3]
theorem t_stepOk48 (cN : NeedsOk G) (n : Int) (il : List Opn) (s : Str) (ns : List Str) (hi : okStp ⟨48, n, il, s, ns⟩) : StepOk G ⟨48, n, il, s, ns⟩ := by
  intro l hl t t1 t2 f q1 q2 q3 q4
  have hi' := hi
  obtain ⟨hns, hs, hil, hio⟩ := hi'
  obtain ⟨a, m, rfl⟩ := one_val hG (i := ⟨48, n, il, s, ns⟩) (by simp -implicitDefEqProofs [needs]) q2
  have hba : a.bulk < 68719476736 := by simp only [bulkL] at hl; omega
  have eo : opS ⟨48, n, il, s, ns⟩ (a :: m) = intsS 9 a (numV n) := by simp -implicitDefEqProofs [opS]
  rw [eo]
  have c3 := t_mk13 hG a m n (by omega) t
  refine t_stepMk hG cN 48 n il s ns hi (a :: m) hl t t1 t2 f q1 q2 q3 q4 12 92 [.p 5 0, .p 6 0] (by simp -implicitDefEqProofs [mkEs]) (intsR 9 a (numV n)) _ (makes_ints 9 a (numV n)) (by have := intsR_bulk 9 a (numV n); simp at this; omega) fun H1 r0 r1 r2 => ?_
  generalize intsR 9 a (numV n) = r at c3 ⊢
  simp -implicitDefEqProofs [numV] at c3
  simp at r0 r1 r2
  simp -implicitDefEqProofs [r0, r1, r2, c3]
theorem t_stepOk49 (cN : NeedsOk G) (n : Int) (il : List Opn) (s : Str) (ns : List Str) (hi : okStp ⟨49, n, il, s, ns⟩) : StepOk G ⟨49, n, il, s, ns⟩ := by
  intro l hl t t1 t2 f q1 q2 q3 q4
  have hi' := hi
  obtain ⟨hns, hs, hil, hio⟩ := hi'
  obtain ⟨a, m, rfl⟩ := one_val hG (i := ⟨49, n, il, s, ns⟩) (by simp -implicitDefEqProofs [needs]) q2
  have hba : a.bulk < 68719476736 := by simp only [bulkL] at hl; omega
  have eo : opS ⟨49, n, il, s, ns⟩ (a :: m) = intsS 16 a (numV n) := by simp -implicitDefEqProofs [opS]
  rw [eo]
  have c3 := t_mk14 hG a m n (by omega) t
  refine t_stepMk hG cN 49 n il s ns hi (a :: m) hl t t1 t2 f q1 q2 q3 q4 13 93 [.p 5 0, .p 6 0] (by simp -implicitDefEqProofs [mkEs]) (intsR 16 a (numV n)) _ (makes_ints 16 a (numV n)) (by have := intsR_bulk 16 a (numV n); simp at this; omega) fun H1 r0 r1 r2 => ?_
  generalize intsR 16 a (numV n) = r at c3 ⊢
  simp -implicitDefEqProofs [numV] at c3
  simp at r0 r1 r2
  simp -implicitDefEqProofs [r0, r1, r2, c3]
end
end Go.Proofs.YtgpjfhaohjnbnaaGreatDoor
namespace Go.Proofs.YtgpjfhaohjnbnaaGreatDoor
open Go Go.RI
theorem needs_rest {i : Stp} (h20 : i.op ≠ 20) (h21 : i.op ≠ 21) (h22 : i.op ≠ 22) (h23 : i.op ≠ 23) (hlo : i.op < 40 ∨ 49 < i.op) (h : (needs i).2.2 = true) : ((needs i).1 = 2 ∧ (needs i).2.1 = 2) ∨ ((needs i).1 = 1 ∧ (needs i).2.1 = 1) := by
  unfold needs at h ⊢
  rw [if_neg h20, if_neg h21, if_neg h22, if_neg h23, if_neg (by omega), if_neg (by omega)] at h ⊢
  split
  · left; simp
  · rename_i h1
    rw [if_neg h1] at h
    split
    · right; simp
    · rename_i h2
      rw [if_neg h2] at h
      simp at h
section
variable {G : AHeap} (hG : G.next = 2)
include hG
set_option maxHeartbeats 1000000 in
theorem t_stepOkRest (cN : NeedsOk G) (i : Stp) (hi : okStp i) (h20 : i.op ≠ 20) (h21 : i.op ≠ 21) (h22 : i.op ≠ 22) (h23 : i.op ≠ 23) (hlo : i.op < 40 ∨ 49 < i.op) : StepOk G i := by
  intro l hl t t1 t2 f q1 q2 q3 q4
  obtain ⟨op, n, il, s, ns⟩ := i
  obtain ⟨hns, hs, hil, hio⟩ := hi
  have c0 := cN ⟨op, n, il, s, ns⟩ hns hs t1 t2
  have c1 := t_stepAny hG l hl t false
  rw [q4] at c1
  simp only at h20 h21 h22 h23 hlo
  have k40 : ¬ op = 40 := by omega
  have k41 : ¬ op = 41 := by omega
  have k42 : ¬ op = 42 := by omega
  have k43 : ¬ op = 43 := by omega
  have k44 : ¬ op = 44 := by omega
  have k45 : ¬ op = 45 := by omega
  have k46 : ¬ op = 46 := by omega
  have k47 : ¬ op = 47 := by omega
  have k48 : ¬ op = 48 := by omega
  have k49 : ¬ op = 49 := by omega
  obtain ⟨mv, H1, cm, rfl, hn1, hf1, r0, r1, r2, r3⟩ := t_makers hG ⟨op, n, il, s, ns⟩ l t t1 t2 f ((G.push (.cells [.i .i64 op, .i .i64 n, .fs t1 false il.length (encs il), .s s, .fs t2 false ns.length (encs ns)] 1 false)).push (.cells [.i .i64 0, .i .i64 0, .s [], .ns, .ns] 1 false))
  have g0 := hf1 2 (by simp -implicitDefEqProofs [hG])
  have g1 := hf1 3 (by simp -implicitDefEqProofs [hG])
  rw [q1] at c0
  rcases needs_rest (i := ⟨op, n, il, s, ns⟩) h20 h21 h22 h23 hlo q1 with ⟨e1, e2⟩ | ⟨e1, e2⟩
  · obtain ⟨a, b, rfl⟩ : ∃ a b, l = [a, b] := by
      match l, q2, q3 with
      | [], q2, _ => rw [e1] at q2; simp at q2
      | [_], q2, _ => rw [e1] at q2; simp at q2
      | [a, b], _, _ => exact ⟨a, b, rfl⟩
      | _ :: _ :: _ :: _, _, q3 => rw [e2] at q3; simp at q3; omega
    have hba : a.bulk < 68719476736 := by simp only [bulkL] at hl; omega
    have hbb : b.bulk < 68719476736 := by simp only [bulkL] at hl; omega
    have eo : opS ⟨op, n, il, s, ns⟩ [a, b] = resV (binaryV op a b) := by simp -implicitDefEqProofs [opS, h20, h21, h22, h23, k40, k41, k42, k43, k44, k45, k46, k47, k48, k49, e1]
    rw [eo]
    have c2 := t_binary hG op a b (by omega) (by omega)
    have c3 := t_lmade hG (binaryV op a b).1 (binaryV op a b).2.1 (binaryV op a b).2.2
    have hb : (binaryV op a b).1.bulk < 1099511627776 := by have := binary_bulk op a b; omega
    have c4 := t_lown hG (binaryV op a b).1 hb false false
    rw [e1, e2] at c0
    generalize binaryV op a b = r at c2 c3 c4 ⊢
    obtain ⟨v, fl, e⟩ := r
    clear eo hb q1 q2 q3 q4 hl hns hs hil hio hf1 e1 e2 hba hbb hlo
    simp -implicitDefEqProofs [hG] at c0 c1 cm hn1 r0 r1 r2 r3 g0 g1 c2 c3 c4
    unfold resV
    cases hok : (decide (fl = 0) && decide (e = 0))
    · rw [hok] at c3
      rw [if_neg (by simpa using hok)]
      refine pure_run ip46 rfl ?_
      simp -implicitDefEqProofs [I46, hG, c0, c1, cm, g0, g1, r0, r1, r2, r3, mkEs, c2, c3, h20, h21, h22, h23, k40, k41, k42, k43, k44, k45, k46, k47, k48, k49, zeroVal]
    · rw [hok] at c3
      rw [if_pos (by simpa using hok)]
      refine pure_run ip46 rfl ?_
      simp -implicitDefEqProofs [I46, hG, c0, c1, cm, g0, g1, r0, r1, r2, r3, mkEs, c2, c3, c4, h20, h21, h22, h23, k40, k41, k42, k43, k44, k45, k46, k47, k48, k49]
  · obtain ⟨a, rfl⟩ : ∃ a, l = [a] := by
      match l, q2, q3 with
      | [], q2, _ => rw [e1] at q2; simp at q2
      | [a], _, _ => exact ⟨a, rfl⟩
      | _ :: _ :: _, _, q3 => rw [e2] at q3; simp at q3; omega
    have hba : a.bulk < 68719476736 := by simp only [bulkL] at hl; omega
    have eo : opS ⟨op, n, il, s, ns⟩ [a] = resV (unaryV op a) := by simp -implicitDefEqProofs [opS, h20, h21, h22, h23, k40, k41, k42, k43, k44, k45, k46, k47, k48, k49, e1]
    rw [eo]
    have c2 := t_unary hG op a (by omega)
    have c3 := t_lmade hG (unaryV op a).1 (unaryV op a).2.1 (unaryV op a).2.2
    have hb : (unaryV op a).1.bulk < 1099511627776 := by have := unary_bulk op a; omega
    have c4 := t_lown hG (unaryV op a).1 hb false false
    rw [e1, e2] at c0
    generalize unaryV op a = r at c2 c3 c4 ⊢
    obtain ⟨v, fl, e⟩ := r
    clear eo hb q1 q2 q3 q4 hl hns hs hil hio hf1 e1 e2 hba hlo
    simp -implicitDefEqProofs [hG] at c0 c1 cm hn1 r0 r1 r2 r3 g0 g1 c2 c3 c4
    unfold resV
    cases hok : (decide (fl = 0) && decide (e = 0))
    · rw [hok] at c3
      rw [if_neg (by simpa using hok)]
      refine pure_run ip46 rfl ?_
      simp -implicitDefEqProofs [I46, hG, c0, c1, cm, g0, g1, r0, r1, r2, r3, mkEs, c2, c3, h20, h21, h22, h23, k40, k41, k42, k43, k44, k45, k46, k47, k48, k49, zeroVal]
    · rw [hok] at c3
      rw [if_pos (by simpa using hok)]
      refine pure_run ip46 rfl ?_
      simp -implicitDefEqProofs [I46, hG, c0, c1, cm, g0, g1, r0, r1, r2, r3, mkEs, c2, c3, c4, h20, h21, h22, h23, k40, k41, k42, k43, k44, k45, k46, k47, k48, k49]
theorem t_stepOk (cN : NeedsOk G) (i : Stp) (hi : okStp i) : StepOk G i := by
  by_cases hr : i.op ≠ 20 ∧ i.op ≠ 21 ∧ i.op ≠ 22 ∧ i.op ≠ 23 ∧ (i.op < 40 ∨ 49 < i.op)
  · exact t_stepOkRest hG cN i hi hr.1 hr.2.1 hr.2.2.1 hr.2.2.2.1 hr.2.2.2.2
  · obtain ⟨op, n, il, s, ns⟩ := i
    simp only at hr
    have : op = 20 ∨ op = 21 ∨ op = 22 ∨ op = 23 ∨ op = 40 ∨ op = 41 ∨ op = 42 ∨ op = 43 ∨ op = 44 ∨ op = 45 ∨ op = 46 ∨ op = 47 ∨ op = 48 ∨ op = 49 := by omega
    rcases this with rfl | rfl | rfl | rfl | rfl | rfl | rfl | rfl | rfl | rfl | rfl | rfl | rfl | rfl
    · exact t_stepOk20 hG cN n il s ns hi
    · exact t_stepOk21 hG cN n il s ns hi
    · exact t_stepOk22 hG cN n il s ns hi
    · exact t_stepOk23 hG cN n il s ns hi
    · exact t_stepOk40 hG cN n il s ns hi
    · exact t_stepOk41 hG cN n il s ns hi
    · exact t_stepOk42 hG cN n il s ns hi
    · exact t_stepOk43 hG cN n il s ns hi
    · exact t_stepOk44 hG cN n il s ns hi
    · exact t_stepOk45 hG cN n il s ns hi
    · exact t_stepOk46 hG cN n il s ns hi
    · exact t_stepOk47 hG cN n il s ns hi
    · exact t_stepOk48 hG cN n il s ns hi
    · exact t_stepOk49 hG cN n il s ns hi
theorem t_liftStep (cN : NeedsOk G) (i : Stp) (hi : okStp i) (l : List Val) (hl : bulkL l < 68719476736) (t t1 t2 f : Bool) : pureR IP G 46 [.ag [.i .i64 i.op, .i .i64 i.n, .fs t1 false i.l.length (encs i.l), .s i.s, .fs t2 false i.names.length (encs i.names)], .fs t f l.length (encs l)] = some (.tu [.ag (Enc.cells ((stepV i l).getD zeroVal)), .b (stepV i l).isSome]) := by
  unfold stepV
  by_cases h : (needs i).2.2 = true ∧ (needs i).1 ≤ l.length ∧ (l.length : Int) ≤ (needs i).2.1 ∧ l.all mayV = true
  · rw [if_pos h]
    exact t_stepOk hG cN i hi l hl t t1 t2 f h.1 h.2.1 h.2.2.1 h.2.2.2
  · rw [if_neg h]
    exact t_stepRefuse hG cN i hi l hl t t1 t2 f h
end
end Go.Proofs.YtgpjfhaohjnbnaaGreatDoor
namespace Go.RI
open Go
theorem own_names {v : Val} (h : ownV v = true) : v.names.length ≤ 8 := by
  unfold ownV at h
  split at h
  · rename_i hk; simp [bareV] at h; simp [h.2.2]
  split at h
  · rename_i hk; simp [bareV] at h; simp [h.2]
  split at h
  · rename_i hk; simp [bareV] at h; simp [h.2.2]
  split at h
  · rename_i hk; simp [bareV] at h; simp [h.2.2]
  split at h
  · rename_i hk; simp [bareV] at h; simp [h.2.2]
  split at h
  · rename_i hk; simp [bareV] at h; simp [h.2.2]
  split at h
  · rename_i hk; simp [bareV] at h; omega
  · cases h
mutual
theorem fits_bulk : ∀ (v : Val) (w left : Int), (fitsV v w left).2 = true → (v.bulk : Int) ≤ 9 * (left - (fitsV v w left).1)
  | .mk k n s l ns, w, left, h => by
    simp only [fitsV] at h ⊢
    split at h
    · cases h
    · rename_i hc
      rw [if_neg hc]
      have ho : ownV (.mk k n s l ns) = true := by
        cases ho : ownV (.mk k n s l ns) with
        | true => rfl
        | false => exact absurd (.inr (.inr ho)) hc
      have h1 := own_names ho
      simp only [Val.names_mk] at h1
      have h2 := lens_bulk ns
      have h3 := fitsL_bulk l (w + 1) _ h
      simp only [Val.bulk]
      omega
theorem fitsL_bulk : ∀ (l : List Val) (w left : Int), (fitsL l w left).2 = true → (bulkL l : Int) ≤ 9 * (left - (fitsL l w left).1)
  | [], _, _, _ => by simp [bulkL, fitsL]
  | v :: l, w, left, h => by
    simp only [fitsL] at h ⊢
    split at h
    · rename_i hv
      rw [if_pos hv]
      have h1 := fits_bulk v w left hv
      have h2 := fitsL_bulk l w _ h
      simp only [bulkL]
      omega
    · cases h
end
theorem may_bulk {v : Val} (h : mayV v = true) : v.bulk ≤ 2304 := by
  have h1 := fits_bulk v 0 256 h
  have h2 := (fitsV_le v 0 256 h).1
  omega
theorem all_bulk {l : List Val} (h : l.all mayV = true) {v : Val} (hv : v ∈ l) : v.bulk ≤ 2304 := may_bulk (List.all_eq_true.1 h v hv)
theorem bulkL_le {B : Nat} : ∀ {l : List Val}, (∀ v ∈ l, v.bulk ≤ B) → bulkL l ≤ l.length * B
  | [], _ => by simp [bulkL]
  | v :: l, h => by
    have h1 := h v (by simp)
    have h2 := bulkL_le (l := l) fun x hx => h x (by simp [hx])
    simp only [bulkL, List.length_cons, Nat.add_mul, Nat.one_mul]
    omega
theorem res_eq {r : Val × Int × Int} {v : Val} (h : resV r = some v) : v = r.1 ∧ r.2.1 = 0 ∧ r.2.2 = 0 := by
  unfold resV at h
  split at h
  · rename_i hc; exact ⟨(Option.some.inj h).symm, hc⟩
  · cases h
theorem made_ok {v : Val} (h : (madeV v).2 = 0) : (madeV v).1.bulk ≤ 2304 := by
  unfold madeV at h ⊢
  split
  · rename_i hm; exact may_bulk hm
  · simp
theorem texts_ok {op : Int} {a b : Str} (h : (textsV op a b).2 = 0) : (textsV op a b).1.bulk ≤ 2304 := by
  unfold textsV at h ⊢
  split
  · rename_i h9; rw [if_pos h9] at h; exact made_ok h
  · repeat' split
    all_goals simp
theorem binary_ok {op : Int} {a b : Val} (ha : mayV a = true) {v : Val} (h : resV (binaryV op a b) = some v) : v.bulk ≤ 2304 := by
  obtain ⟨rfl, h1, h2⟩ := res_eq h
  have hab := may_bulk ha
  have hb := Val.bulk_eq a
  unfold binaryV at h1 h2 ⊢
  split at h1
  · rename_i hc; rw [if_pos hc]; simp
  · rename_i hc
    rw [if_neg hc]
    simp only at h1 ⊢
    unfold binV2 at h1 ⊢
    split
    · simp
    rename_i k1
    rw [if_neg k1] at h1
    split
    · simp
    rename_i k2
    rw [if_neg k2] at h1
    split
    · rw [ints_bulk]; omega
    rename_i k3
    rw [if_neg k3] at h1
    split
    · rename_i k4; rw [if_pos k4] at h1; exact texts_ok h1
    rename_i k4
    rw [if_neg k4] at h1
    split
    · rename_i k5; rw [if_pos k5] at h1; exact made_ok h1
    rename_i k5
    rw [if_neg k5] at h1
    split
    · rename_i k6; rw [if_pos k6] at h1; exact made_ok h1
    split
    · split
      · simp only
        cases hx : a.l[b.n.toNat]? with
        | none => simp
        | some x => have := bulkL_mem (List.mem_of_getElem? hx); simp; omega
      · simp
    · simp
theorem intsS_ok {op : Int} {a b : Val} (ha : mayV a = true) {v : Val} (h : intsS op a b = some v) : v.bulk ≤ 2304 := by
  unfold intsS at h
  split at h
  · exact binary_ok ha h
  · cases h
theorem may_zero : mayV zeroVal = true := by simp [mayV, fitsV, fitsL, zeroVal, ownV, bareV, lens]
theorem may_get {l : List Val} (h : l.all mayV = true) (i : Nat) : mayV (l[i]?.getD zeroVal) = true := by
  cases hx : l[i]? with
  | none => exact may_zero
  | some x => exact List.all_eq_true.1 h x (List.mem_of_getElem? hx)
theorem res_list {l : List Val} (hall : l.all mayV = true) {v : Val} (h : resV (listV l) = some v) : v.bulk ≤ 2304 := by
  obtain ⟨rfl, h1, _⟩ := res_eq h
  unfold listV at h1 ⊢
  rw [if_pos hall] at h1 ⊢
  exact made_ok h1
theorem res_rec {ns : List Str} {l : List Val} {v : Val} (h : resV (recV ns l) = some v) : v.bulk ≤ 2304 := by
  obtain ⟨rfl, h1, h2⟩ := res_eq h
  unfold recV at h1 h2 ⊢
  split
  · rename_i hr; rw [if_pos hr] at h1; exact made_ok h1
  · simp
theorem res_field {a : Val} {s : Str} (ha : mayV a = true) {v : Val} (h : resV (fieldV a s) = some v) : v.bulk ≤ 2304 := by
  obtain ⟨rfl, h1, h2⟩ := res_eq h
  have hab := may_bulk ha
  have hbe := Val.bulk_eq a
  unfold fieldV
  split
  · simp
  split
  · split
    · rename_i k _
      simp only
      cases hx : a.l[k]? with
      | none => simp
      | some x => have := bulkL_mem (List.mem_of_getElem? hx); simp; omega
    · simp
  · simp
theorem res_unary {op : Int} {a : Val} {v : Val} (h : resV (unaryV op a) = some v) : v.bulk ≤ 2304 := by
  obtain ⟨rfl, _⟩ := res_eq h
  rw [unary_bulk]; omega
theorem res_if {a : Val} {b : Bool} (ha : mayV a = true) {v : Val} (h : (if b = true then some a else none) = some v) : v.bulk ≤ 2304 := by
  cases b
  · cases h
  · cases h; exact may_bulk ha
theorem step_ok {i : Stp} {l : List Val} {v : Val} (h : stepV i l = some v) : v.bulk ≤ 2304 := by
  unfold stepV at h
  split at h
  · rename_i hc
    have hall := hc.2.2.2
    have ha := may_get hall 0
    by_cases k20 : i.op = 20
    · have e : opS i l = resV (listV l) := by simp [opS, k20]
      rw [e] at h
      exact res_list hall h
    by_cases k21 : i.op = 21
    · have e : opS i l = resV (recV i.names l) := by simp [opS, k21]
      rw [e] at h
      exact res_rec h
    by_cases k22 : i.op = 22
    · have e : opS i l = resV (fieldV (l[0]?.getD zeroVal) i.s) := by simp [opS, k22]
      rw [e] at h
      exact res_field ha h
    by_cases k23 : i.op = 23
    · have e : opS i l = (if isTV (l[0]?.getD zeroVal) i.s = true then some (l[0]?.getD zeroVal) else none) := by simp [opS, k23]
      rw [e] at h
      exact res_if ha h
    by_cases k40 : i.op = 40
    · have e : opS i l = (if decide ((l[0]?.getD zeroVal).kind = i.n) = true then some (l[0]?.getD zeroVal) else none) := by simp [opS, k40]
      rw [e] at h
      exact res_if ha h
    by_cases k41 : i.op = 41
    · have e : opS i l = resV (unaryV 6 (l[0]?.getD zeroVal)) := by simp [opS, k41]
      rw [e] at h
      exact res_unary h
    by_cases k42 : i.op = 42
    · have e : opS i l = resV (unaryV 7 (l[0]?.getD zeroVal)) := by simp [opS, k42]
      rw [e] at h
      exact res_unary h
    by_cases k43 : i.op = 43
    · have e : opS i l = intsS 9 (l[0]?.getD zeroVal) (l[1]?.getD zeroVal) := by simp [opS, k43]
      rw [e] at h
      exact intsS_ok ha h
    by_cases k44 : i.op = 44
    · have e : opS i l = intsS 10 (l[0]?.getD zeroVal) (l[1]?.getD zeroVal) := by simp [opS, k44]
      rw [e] at h
      exact intsS_ok ha h
    by_cases k45 : i.op = 45
    · have e : opS i l = intsS 11 (l[0]?.getD zeroVal) (l[1]?.getD zeroVal) := by simp [opS, k45]
      rw [e] at h
      exact intsS_ok ha h
    by_cases k46 : i.op = 46
    · have e : opS i l = intsS 16 (l[0]?.getD zeroVal) (l[1]?.getD zeroVal) := by simp [opS, k46]
      rw [e] at h
      exact intsS_ok ha h
    by_cases k47 : i.op = 47
    · have e : opS i l = intsS 17 (l[0]?.getD zeroVal) (l[1]?.getD zeroVal) := by simp [opS, k47]
      rw [e] at h
      exact intsS_ok ha h
    by_cases k48 : i.op = 48
    · have e : opS i l = intsS 9 (l[0]?.getD zeroVal) (numV i.n) := by simp [opS, k48]
      rw [e] at h
      exact intsS_ok ha h
    by_cases k49 : i.op = 49
    · have e : opS i l = intsS 16 (l[0]?.getD zeroVal) (numV i.n) := by simp [opS, k49]
      rw [e] at h
      exact intsS_ok ha h
    by_cases n2 : (needs i).1 = 2
    · have e : opS i l = resV (binaryV i.op (l[0]?.getD zeroVal) (l[1]?.getD zeroVal)) := by simp [opS, k20, k21, k22, k23, k40, k41, k42, k43, k44, k45, k46, k47, k48, k49, n2]
      rw [e] at h
      exact binary_ok ha h
    · have e : opS i l = resV (unaryV i.op (l[0]?.getD zeroVal)) := by simp [opS, k20, k21, k22, k23, k40, k41, k42, k43, k44, k45, k46, k47, k48, k49, n2]
      rw [e] at h
      exact res_unary h
  · cases h
theorem record_len {ns : List Str} (h : recordS ns = true) : ns.length ≤ 8 := by
  simp only [recordS, Bool.and_eq_true, decide_eq_true_eq] at h; omega
theorem needs_most {i : Stp} (h : (needs i).2.2 = true) : (needs i).2.1 ≤ 8 := by
  unfold needs at h ⊢
  split
  · simp
  rename_i h1
  rw [if_neg h1] at h
  split
  · rename_i h2
    rw [if_pos h2] at h
    simp only [Bool.and_eq_true] at h
    have := record_len h.2
    simp only; omega
  · repeat' split
    all_goals simp
theorem fits_most {homes a : Int} {s : Stp} (h : stpFits homes a s = true) : s.l.length ≤ 8 := by
  unfold stpFits at h
  simp only [Bool.and_eq_true, decide_eq_true_eq] at h
  have := needs_most h.1.1.1
  omega
theorem of_bulk {nh ns : Int} {homes made : List Val} {o : Opn} (h : opnFits nh ns o = true) (hh : ∀ v ∈ homes, v.bulk ≤ 2304) (hm : ∀ v ∈ made, v.bulk ≤ 2304) : (ofO homes made o).bulk ≤ 2304 := by
  unfold ofO
  split
  · cases hx : homes[o.n.toNat]? with
    | none => simp
    | some x => exact hh x (List.mem_of_getElem? hx)
  split
  · cases hx : made[o.n.toNat]? with
    | none => simp
    | some x => exact hm x (List.mem_of_getElem? hx)
  · rename_i h1 h2
    unfold opnFits at h
    rw [if_neg h1, if_neg h2] at h
    split at h
    · simp only [Bool.and_eq_true] at h; exact may_bulk h.2
    · cases h
theorem opnFits_home {homes a : Int} {o : Opn} (h : opnFits homes a o = true) (hk : o.kind = 1) : 0 ≤ o.n ∧ o.n < homes := by
  unfold opnFits at h
  rw [if_pos hk] at h
  simp only [Bool.and_eq_true, decide_eq_true_eq] at h
  exact h.1
theorem put_last (made : List Val) (v : Val) : putCells (encs made ++ [.i .i64 0, .i .i64 0, .s [], .ns, .ns]) (made.length * 5) (Enc.cells v) = encs (made ++ [v]) := by
  have h := putCells_mid (Enc.cells v) (encs made) [] [.i .i64 0, .i .i64 0, .s [], .ns, .ns] 0 (by simp)
  rw [List.append_nil, Nat.add_zero, len_val] at h
  rw [h, encs_append]
  simp
end Go.RI
namespace Go.Proofs.YtgpjfhaohjnbnaaGreatDoor
open Go Go.RI
section
variable {G : AHeap} (hG : G.next = 2)
include hG
theorem t_doNot (v : Val) (hv : v.bulk < 1099511627776) : pureR IP G 44 [.ag (Enc.cells v)] = some (.b (!mayV v)) := by
  have c1 := t_mayBe hG v hv false false
  refine pure_run ip44 rfl ?_
  simp -implicitDefEqProofs [I44, hG, c1]
theorem t_doAny (l : List Val) (hl : bulkL l < 1099511627776) (t f : Bool) : pureR IP G 43 [.fs t f l.length (encs l), .fn (.func 44) [] []] = some (.b (!l.all mayV)) := by
  have c1 := t_anyV hG 44 (fun v => !mayV v) (fun lo l H => pu44) l (by have := bulkL_len l; omega) (fun v hv => t_doNot hG v (by have := bulkL_mem hv; omega)) t f
  have e : (l.any fun v => !mayV v) = !(l.all mayV) := by simp -implicitDefEqProofs [List.not_all_eq_any_not]
  rw [e] at c1
  exact c1
theorem t_doOf (o : Opn) (homes made : List Val) (h1 : o.kind = 1 → 0 ≤ o.n ∧ o.n < homes.length) (h2 : o.kind = 2 → 0 ≤ o.n ∧ o.n < made.length) (ta tb : Bool) :
    pureR IP G 45 [.ag [.i .i64 o.kind, .i .i64 o.n, .i .i64 o.v.kind, .i .i64 o.v.n, .s o.v.s, .fs false false o.v.l.length (encs o.v.l), .fs false false o.v.names.length (encs o.v.names)], .fp [.fs ta false homes.length (encs homes)], .fp [.fs tb false made.length (encs made)]] = some (.ag (Enc.cells (ofO homes made o))) := by
  by_cases k1 : o.kind = 1
  · obtain ⟨a1, a2⟩ := h1 k1
    obtain ⟨x, hx⟩ := get_of_lt (l := homes) (i := o.n.toNat) (by omega)
    have hx2 : homes[o.n.toNat]'(by omega) = x := by rw [List.getElem?_eq_getElem (by omega)] at hx; exact Option.some.inj hx
    have e : ofO homes made o = x := by simp -implicitDefEqProofs [ofO, k1, hx]
    have hd := drop_encs homes o.n.toNat
    rw [hx, show Enc.sz Val = 5 from rfl] at hd
    rw [e]
    clear e h1 h2
    simp at hd
    refine pure_run ip45 rfl ?_
    simp -implicitDefEqProofs [I45, hG, k1, a1, a2, hd, hx2]
  by_cases k2 : o.kind = 2
  · obtain ⟨a1, a2⟩ := h2 k2
    obtain ⟨x, hx⟩ := get_of_lt (l := made) (i := o.n.toNat) (by omega)
    have hx2 : made[o.n.toNat]'(by omega) = x := by rw [List.getElem?_eq_getElem (by omega)] at hx; exact Option.some.inj hx
    have e : ofO homes made o = x := by simp -implicitDefEqProofs [ofO, k2, hx]
    have hd := drop_encs made o.n.toNat
    rw [hx, show Enc.sz Val = 5 from rfl] at hd
    rw [e]
    clear e h1 h2
    simp at hd
    refine pure_run ip45 rfl ?_
    simp -implicitDefEqProofs [I45, hG, k2, a1, a2, hd, hx2]
  · have e : ofO homes made o = o.v := by simp -implicitDefEqProofs [ofO, k1, k2]
    rw [e]
    refine pure_run ip45 rfl ?_
    simp -implicitDefEqProofs [I45, hG, k1, k2]
theorem do_snaps {H : AHeap} {homes made : List Val} {th : Bool} {sv : AVal} (g1 : H.get 3 = some (.cells [.fs th false homes.length (encs homes)] 1 false)) (g2 : H.get 4 = some (.cells [sv] 1 false)) (hA : Acc H 5 sv 5 made.length (encs made)) :
    ∃ tb, (snapV H 16 (.p 3 0) = some (.fp [.fs th false homes.length (encs homes)])) ∧ snapV H 16 (.p 4 0) = some (.fp [.fs tb false made.length (encs made)]) := by
  have s := acc_snap (k := 14) hA snap_encs
  refine ⟨decide (0 < made.length), ?_, ?_⟩
  · simp -implicitDefEqProofs [g1]
  · simp -implicitDefEqProofs [g2, s]
theorem t_do_l (s : Stp) (homes made : List Val) (hlen : s.l.length < 1000000) (ho : ∀ o ∈ s.l, (o.kind = 1 → 0 ≤ o.n ∧ o.n < homes.length) ∧ (o.kind = 2 → 0 ≤ o.n ∧ o.n < made.length)) (t1 th : Bool) (xn i m : Nat) (ins : AVal) (sv : AVal) (d : Nat) (Q : Post) (H : AHeap)
    (hd : 5 ≤ d) (hn : d ≤ H.next) (g1 : H.get 3 = some (.cells [.fs th false homes.length (encs homes)] 1 false)) (g2 : H.get 4 = some (.cells [sv] 1 false)) (hA : Acc H 5 sv 5 made.length (encs made)) (hsv : ∀ id n c, sv = .sl id 0 n c → id < d)
    (hQ : ∀ lv w H', H.next ≤ H'.next → (∀ id, id < d → H'.get id = H.get id) → Acc H' d lv 5 s.l.length (encs (s.l.map (ofO homes made))) → Q (.exit 2) [(2, .p 2 0), (4, .ns), (7, .p 4 0), (8, .fn (.func 45) [] [.p 3 0, .p 4 0]), (10, .p xn 0), (11, lv), (35, ins), (36, .i .i64 m), (37, .i .i64 i), (42, .fs t1 false s.l.length (encs s.l)), (43, .i .i64 s.l.length), (44, .i .i64 s.l.length), (45, w)] H') :
    wp (theCalls IP G 2) 2 (.loop L27a) Q [(2, .p 2 0), (4, .ns), (7, .p 4 0), (8, .fn (.func 45) [] [.p 3 0, .p 4 0]), (10, .p xn 0), (11, .ns), (35, ins), (36, .i .i64 m), (37, .i .i64 i), (42, .fs t1 false s.l.length (encs s.l)), (43, .i .i64 s.l.length), (44, .i .i64 0)] H := by
  refine wp_loop_list (l := s.l) (by omega) (fun k todo e H' => ∃ lv, e = [(2, .p 2 0), (4, .ns), (7, .p 4 0), (8, .fn (.func 45) [] [.p 3 0, .p 4 0]), (10, .p xn 0), (11, lv), (35, ins), (36, .i .i64 m), (37, .i .i64 i), (42, .fs t1 false s.l.length (encs s.l)), (43, .i .i64 s.l.length), (44, .i .i64 k)] ∧ H.next ≤ H'.next ∧ (∀ id, id < d → H'.get id = H.get id) ∧ Acc H' d lv 5 k (encs ((s.l.take k).map (ofO homes made)))) ?_ ?_ ?_
  · rintro k o todo e H' hx hdr hlt hlt2 hlt3 ⟨lv, rfl, hn1, hf, hL⟩
    obtain ⟨b1, b2⟩ := ho o (List.mem_of_getElem? hx)
    have k1 := (hf 3 (by omega)).trans g1
    have k2 := (hf 4 (by omega)).trans g2
    have hA1 : Acc H' 5 sv 5 made.length (encs made) := acc_keep hA hn1 fun id n c hv => hf id (hsv id n c hv)
    have n1 : ¬ 3 = H'.next := by omega
    have n2 : ¬ 4 = H'.next := by omega
    have n3 : 2 ≤ H'.next := by omega
    obtain ⟨H1, hH1⟩ : ∃ H1, H1 = (H'.push (.cells [.i .i64 0, .i .i64 0, .i .i64 0, .i .i64 0, .s [], .ns, .ns] 1 false)).put H'.next (some (.cells (Enc.cells o) 1 false)) := ⟨_, rfl⟩
    have hk1 : ∀ id, id < H'.next → H1.get id = H'.get id := fun id h => by rw [hH1]; simp -implicitDefEqProofs [show ¬ id = H'.next by omega]
    have q1 := (hk1 3 (by omega)).trans k1
    have q2 := (hk1 4 (by omega)).trans k2
    have q3 : H1.get H'.next = some (.cells (Enc.cells o) 1 false) := by rw [hH1]; simp
    have q4 : H1.next = H'.next + 1 := by rw [hH1]; simp
    obtain ⟨tb, s1, s2⟩ := do_snaps hG q1 q2 (acc_keep hA1 (by omega) fun id n c hv => hk1 id (by have := hsv id n c hv; omega))
    have c1 := t_doOf hG o homes made b1 b2 th tb
    simp at hH1 q3 s1 s2 c1
    clear hlt
    simp -implicitDefEqProofs [L27a, hlt2, hlt3, hx, n3, ← hH1, q3, s1, s2, c1, q4]
    refine step_app (lo' := d) (acc_keep hL (by simp -implicitDefEqProofs [q4]; omega) ?_) (m := 1) (ys := Enc.cells (ofO homes made o)) (by omega) (by simp -implicitDefEqProofs [q4]; omega) (more_lit (cs := Enc.cells (ofO homes made o)) (e := 5) (ro := false) (by simp -implicitDefEqProofs [q4]) (by simp) (by omega)) (by simp) (by omega) (by omega) (by omega) (by omega) ?_
    · intro id a b hv
      have := acc_lt hL id a b hv
      rw [get_push_lt (by omega)]
      exact hk1 id this.2
    intro H2 hn2 hL2 hf2
    simp -implicitDefEqProofs [q4] at hn2 hL2 hf2
    simp -implicitDefEqProofs [hlt3]
    refine ⟨by omega, fun id hid => ?_, by simpa [List.take_add_one, hx, q4] using hL2⟩
    rw [hf2 id (by omega) fun id0 n0 c0 hv => by have := (acc_lt hL _ _ _ hv).1; omega]
    simp -implicitDefEqProofs [show ¬ id = H'.next + 1 by omega, hk1 id (by omega), hf id hid]
  · rintro e H' ⟨lv, rfl, hn1, hf, hL⟩
    rw [List.take_length] at hL
    simp -implicitDefEqProofs [L27a]
    exact hQ lv _ H' hn1 hf hL
  · exact ⟨.ns, by simp, Nat.le_refl _, fun _ _ => rfl, acc_none⟩
end
end Go.Proofs.YtgpjfhaohjnbnaaGreatDoor
namespace Go.Proofs.YtgpjfhaohjnbnaaGreatDoor
open Go Go.RI
section
variable {G : AHeap} (hG : G.next = 2)
include hG
theorem t_do_steps (cN : NeedsOk G) (x : Pce) (hc : checkP x = true) (hx : okPce x) (homes : List Val) (hh : (homes.length : Int) = x.homes) (hm : homes.all mayV = true) (t1 t2 th : Bool) (Q : Post) (H : AHeap)
    (g0 : H.get 2 = some (.cells (pceC x t1 t2 false false) 1 false)) (g1 : H.get 3 = some (.cells [.fs th false homes.length (encs homes)] 1 false)) (g2 : H.get 4 = some (.cells [.ns] 1 false)) (hn : 5 ≤ H.next)
    (hQ1 : ∀ made, stepsV homes x.ins [] = some made → made.length = x.ins.length → (∀ v ∈ made, v.bulk ≤ 2304) → ∀ sv w H', 5 ≤ H'.next → H'.get 2 = some (.cells (pceC x t1 t2 false false) 1 false) → H'.get 3 = some (.cells [.fs th false homes.length (encs homes)] 1 false) → H'.get 4 = some (.cells [sv] 1 false) → Acc H' 5 sv 5 made.length (encs made) →
      Q (.exit 0) [(2, .p 2 0), (4, .ns), (7, .p 4 0), (8, .fn (.func 45) [] [.p 3 0, .p 4 0]), (35, .fs t1 false x.ins.length (encs x.ins)), (36, .i .i64 x.ins.length), (37, .i .i64 x.ins.length), (38, w)] H')
    (hQ2 : stepsV homes x.ins [] = none → ∀ H', Q .ret [(4, .ns), (5, .i .i64 0), (6, .b false)] H') :
    wp (theCalls IP G 2) 2 (.loop L27b) Q [(2, .p 2 0), (4, .ns), (7, .p 4 0), (8, .fn (.func 45) [] [.p 3 0, .p 4 0]), (35, .fs t1 false x.ins.length (encs x.ins)), (36, .i .i64 x.ins.length), (37, .i .i64 0)] H := by
  have hfits := check_fits hc
  have hins : x.ins.length ≤ 4096 := by have := (checkP_iff.1 hc).1; unfold numsP at this; omega
  have hhb : ∀ v ∈ homes, v.bulk ≤ 2304 := fun v hv => all_bulk hm hv
  refine wp_loop_list (l := x.ins) (by omega) (fun i todo e H' => ∃ made sv, e = [(2, .p 2 0), (4, .ns), (7, .p 4 0), (8, .fn (.func 45) [] [.p 3 0, .p 4 0]), (35, .fs t1 false x.ins.length (encs x.ins)), (36, .i .i64 x.ins.length), (37, .i .i64 i)] ∧
    5 ≤ H'.next ∧ H'.get 2 = some (.cells (pceC x t1 t2 false false) 1 false) ∧ H'.get 3 = some (.cells [.fs th false homes.length (encs homes)] 1 false) ∧ H'.get 4 = some (.cells [sv] 1 false) ∧ Acc H' 5 sv 5 made.length (encs made) ∧ made.length = i ∧ (∀ v ∈ made, v.bulk ≤ 2304) ∧ stepsV homes x.ins [] = stepsV homes todo made) ?_ ?_ ?_
  · rintro i s todo e H' hs hdr hlt hlt2 hlt3 ⟨made, sv, rfl, n1, k0, k1, k2, hA, hml, hmb, he⟩
    subst hml
    have hfs := hfits _ s hs
    have hok := hx.1 s (List.mem_of_getElem? hs)
    have hsl := fits_most hfs
    have hof := fits_all hfs
    have hops : ∀ o ∈ s.l, (o.kind = 1 → 0 ≤ o.n ∧ o.n < homes.length) ∧ (o.kind = 2 → 0 ≤ o.n ∧ o.n < made.length) := fun o ho => ⟨fun h => by have := opnFits_home (hof o ho) h; omega, fun h => by have := opnFits_step (hof o ho) h; omega⟩
    have hlb : bulkL (s.l.map (ofO homes made)) ≤ s.l.length * 2304 := by
      have := bulkL_le (B := 2304) (l := s.l.map (ofO homes made)) (fun v hv => by
        obtain ⟨o, ho, rfl⟩ := List.mem_map.1 hv
        exact of_bulk (hof o ho) hhb hmb)
      simpa using this
    have hlb2 : bulkL (s.l.map (ofO homes made)) < 68719476736 := by omega
    obtain ⟨H1, hH1⟩ : ∃ H1, H1 = (H'.push (.cells [.i .i64 0, .i .i64 0, .ns, .s [], .ns] 1 false)).put H'.next (some (.cells (Enc.cells s) 1 false)) := ⟨_, rfl⟩
    have hk1 : ∀ id, id < H'.next → H1.get id = H'.get id := fun id h => by rw [hH1]; simp -implicitDefEqProofs [show ¬ id = H'.next by omega]
    have q0 := (hk1 2 (by omega)).trans k0
    have q1 := (hk1 3 (by omega)).trans k1
    have q2 := (hk1 4 (by omega)).trans k2
    have q3 : H1.get H'.next = some (.cells (Enc.cells s) 1 false) := by rw [hH1]; simp
    have q4 : H1.next = H'.next + 1 := by rw [hH1]; simp
    have hA1 : Acc H1 5 sv 5 made.length (encs made) := acc_keep hA (by omega) fun id n c hv => hk1 id (acc_lt hA _ _ _ hv).2
    have n3 : 2 ≤ H'.next := by omega
    have hlt4 := hlt
    clear hlt
    simp at hH1 q3
    simp -implicitDefEqProofs [L27b, hlt2, hlt3, hs, n3, ← hH1, q3]
    refine t_do_l hG s homes made (by omega) hops false th H'.next made.length x.ins.length _ sv (H'.next + 1) _ H1 (by omega) (by omega) q1 q2 hA1 (fun id n c hv => by have := (acc_lt hA _ _ _ hv).2; omega) ?_
    intro lv w H2 hn2 hf2 hL
    have c4 := t_liftStep hG cN s hok (s.l.map (ofO homes made)) hlb2 (decide (0 < s.l.length)) false false false
    have sl := acc_snap (k := 15) hL snap_encs
    have r3 := (hf2 H'.next (by omega)).trans q3
    simp only [List.length_map] at c4
    rw [stepsV] at he
    obtain ⟨v, hv⟩ : ∃ v, v = stepV s (s.l.map (ofO homes made)) := ⟨_, rfl⟩
    rw [← hv] at c4 he
    have n4 : 2 ≤ H2.next := by omega
    simp at sl c4 r3
    cases v with
    | none =>
      simp at c4
      simp -implicitDefEqProofs [hlt3, r3, sl, c4, n4]
      exact hQ2 he _
    | some v =>
      have hvb := step_ok hv.symm
      simp at c4
      obtain ⟨H3, hH3⟩ : ∃ H3, H3 = (H2.push (.cells [.i .i64 0, .i .i64 0, .s [], .ns, .ns] 1 false)).put H2.next (some (.cells (Enc.cells v) 1 false)) := ⟨_, rfl⟩
      have hk3 : ∀ id, id < H2.next → H3.get id = H2.get id := fun id h => by rw [hH3]; simp -implicitDefEqProofs [show ¬ id = H2.next by omega]
      have u2 := ((hk3 4 (by omega)).trans (hf2 4 (by omega))).trans q2
      have u3 : H3.get H2.next = some (.cells (Enc.cells v) 1 false) := by rw [hH3]; simp
      have u4 : H3.next = H2.next + 1 := by rw [hH3]; simp
      have hA3 : Acc H3 5 sv 5 made.length (encs made) := acc_keep hA1 (by omega) fun id n c hv => by
        have := (acc_lt hA _ _ _ hv).2
        exact (hk3 id (by omega)).trans (hf2 id (by omega))
      simp at hH3 u3
      simp -implicitDefEqProofs [hlt3, r3, sl, c4, n4, ← hH3, u2, u3, u4, hold_len hA3.hold]
      refine step_app (lo' := 5) (acc_keep hA3 (by simp) ?_) (m := 1) (ys := [.i .i64 0, .i .i64 0, .s [], .ns, .ns]) (by omega) (by simp -implicitDefEqProofs [u4]; omega) (more_lit (cs := [.i .i64 0, .i .i64 0, .s [], .ns, .ns]) (e := 5) (ro := false) (by simp -implicitDefEqProofs [u4]) (by simp) (by omega)) (by simp) (by omega) (by omega) (by omega) (by omega) ?_
      · intro id a b hw
        have := acc_lt hA3 id a b hw
        exact get_push_lt this.2
      intro H4 hn4 hA4 hf4
      have r4 := acc_row hA4
      have hn5 : H4.next = H2.next + 3 := by rw [hn4]; simp -implicitDefEqProofs [u4]
      have hid : (H3.push (.cells [.i .i64 0, .i .i64 0, .s [], .ns, .ns] 5 false)).next = H2.next + 2 := by simp -implicitDefEqProofs [u4]
      rw [hid] at hA4 r4
      have hk4 : ∀ id, id < 5 → H4.get id = H3.get id := fun id h => by
        rw [hf4 id (by rw [hid]; omega) fun id0 n0 c0 hw => by have := (acc_lt hA3 _ _ _ hw).1; omega]
        exact get_push_lt (by omega)
      have v0 := (((hk4 2 (by omega)).trans (hk3 2 (by omega))).trans (hf2 2 (by omega))).trans q0
      have v1 := (((hk4 3 (by omega)).trans (hk3 3 (by omega))).trans (hf2 3 (by omega))).trans q1
      have v2 := (hk4 4 (by omega)).trans u2
      have pc := put_last made v
      have m1 : (made.length : Int) < (made.length : Int) + 1 := by omega
      have m2 : made.length * 5 + 5 ≤ (made.length + 1) * 5 := by omega
      have m3 : 2 ≤ H2.next + 2 := by omega
      have m4 : ¬ H2.next + 2 = 4 := by omega
      have m5 : ¬ 4 = H2.next + 2 := by omega
      have m6 : ¬ 3 = H2.next + 2 := by omega
      have m7 : ¬ 2 = H2.next + 2 := by omega
      simp at pc
      have hid2 : H3.next + 1 = H2.next + 2 := by omega
      simp -implicitDefEqProofs [hid2, r4, v0, v1, v2, hlt3, pc, m1, m2, m3, m4, m5, m6, m7]
      refine ⟨by omega, by omega, made ++ [v], .inr ⟨H2.next + 2, by simp, by omega, by simp; omega, by simp -implicitDefEqProofs [m4, m5], by simp; omega⟩, by simp, fun w hw => ?_, by simpa using he⟩
      rcases List.mem_append.1 hw with h | h
      · exact hmb w h
      · simp at h; subst h; exact hvb
  · rintro e H' ⟨made, sv, rfl, n1, k0, k1, k2, hA, hml, hmb, he⟩
    simp -implicitDefEqProofs [L27b]
    exact hQ1 made he hml hmb sv _ H' n1 k0 k1 k2 hA
  · exact ⟨[], .ns, by simp, hn, g0, g1, g2, acc_none, rfl, fun v hv => (by cases hv), rfl⟩
theorem t_do_sets (x : Pce) (hc : checkP x = true) (homes made : List Val) (hh : (homes.length : Int) = x.homes) (hml : made.length = x.ins.length) (hhb : ∀ v ∈ homes, v.bulk ≤ 2304) (hmb : ∀ v ∈ made, v.bulk ≤ 2304) (t2 th : Bool) (to : Int) (sv : AVal) (d : Nat) (Q : Post) (H : AHeap)
    (hd : 5 ≤ d) (hn : d ≤ H.next) (g1 : H.get 3 = some (.cells [.fs th false homes.length (encs homes)] 1 false)) (g2 : H.get 4 = some (.cells [sv] 1 false)) (hA : Acc H 5 sv 5 made.length (encs made)) (hsv : ∀ id n c, sv = .sl id 0 n c → id < d)
    (hQ : ∀ lv w H', Acc H' d lv 5 x.sets.length (encs (x.sets.map (ofO homes made))) → Q (.exit 4) [(4, lv), (5, .i .i64 to), (8, .fn (.func 45) [] [.p 3 0, .p 4 0]), (91, .fs t2 false x.sets.length (encs x.sets)), (92, .i .i64 x.sets.length), (93, .i .i64 x.sets.length), (94, w)] H') :
    wp (theCalls IP G 2) 2 (.loop L27c) Q [(4, .ns), (5, .i .i64 to), (8, .fn (.func 45) [] [.p 3 0, .p 4 0]), (91, .fs t2 false x.sets.length (encs x.sets)), (92, .i .i64 x.sets.length), (93, .i .i64 0)] H := by
  have hcp := checkP_iff.1 hc
  have hset : x.sets.length ≤ 64 := by have := hcp.1; unfold numsP at this; omega
  have hof := List.all_eq_true.1 hcp.2.2.2
  refine wp_loop_list (l := x.sets) (by omega) (fun k todo e H' => ∃ lv, e = [(4, lv), (5, .i .i64 to), (8, .fn (.func 45) [] [.p 3 0, .p 4 0]), (91, .fs t2 false x.sets.length (encs x.sets)), (92, .i .i64 x.sets.length), (93, .i .i64 k)] ∧ H.next ≤ H'.next ∧ (∀ id, id < d → H'.get id = H.get id) ∧ Acc H' d lv 5 k (encs ((x.sets.take k).map (ofO homes made)))) ?_ ?_ ?_
  · rintro k o todo e H' hx hdr hlt hlt2 hlt3 ⟨lv, rfl, hn1, hf, hL⟩
    have hoo := hof o (List.mem_of_getElem? hx)
    have b1 : o.kind = 1 → 0 ≤ o.n ∧ o.n < homes.length := fun h => by have := opnFits_home hoo h; omega
    have b2 : o.kind = 2 → 0 ≤ o.n ∧ o.n < made.length := fun h => by have := opnFits_step hoo h; omega
    have hvb := of_bulk (homes := homes) (made := made) hoo hhb hmb
    have k1 := (hf 3 (by omega)).trans g1
    have k2 := (hf 4 (by omega)).trans g2
    have hA1 : Acc H' 5 sv 5 made.length (encs made) := acc_keep hA hn1 fun id n c hv => hf id (hsv id n c hv)
    have n3 : 2 ≤ H'.next := by omega
    obtain ⟨H1, hH1⟩ : ∃ H1, H1 = (H'.push (.cells [.i .i64 0, .i .i64 0, .i .i64 0, .i .i64 0, .s [], .ns, .ns] 1 false)).put H'.next (some (.cells (Enc.cells o) 1 false)) := ⟨_, rfl⟩
    have hk1 : ∀ id, id < H'.next → H1.get id = H'.get id := fun id h => by rw [hH1]; simp -implicitDefEqProofs [show ¬ id = H'.next by omega]
    have q1 := (hk1 3 (by omega)).trans k1
    have q2 := (hk1 4 (by omega)).trans k2
    have q3 : H1.get H'.next = some (.cells (Enc.cells o) 1 false) := by rw [hH1]; simp
    have q4 : H1.next = H'.next + 1 := by rw [hH1]; simp
    obtain ⟨tb, s1, s2⟩ := do_snaps hG q1 q2 (acc_keep hA1 (by omega) fun id n c hv => hk1 id (by have := hsv id n c hv; omega))
    have c1 := t_doOf hG o homes made b1 b2 th tb
    have c2 := t_lown hG (ofO homes made o) (by omega) false false
    simp at hH1 q3 s1 s2 c1 c2
    clear hlt
    simp -implicitDefEqProofs [L27c, hlt2, hlt3, hx, n3, ← hH1, q3, s1, s2, c1, c2, q4]
    refine step_app (lo' := d) (acc_keep hL (by simp -implicitDefEqProofs [q4]; omega) ?_) (m := 1) (ys := Enc.cells (ofO homes made o)) (by omega) (by simp -implicitDefEqProofs [q4]; omega) (more_lit (cs := Enc.cells (ofO homes made o)) (e := 5) (ro := false) (by simp -implicitDefEqProofs [q4]) (by simp) (by omega)) (by simp) (by omega) (by omega) (by omega) (by omega) ?_
    · intro id a b hv
      have := acc_lt hL id a b hv
      rw [get_push_lt (by omega)]
      exact hk1 id this.2
    intro H2 hn2 hL2 hf2
    simp -implicitDefEqProofs [q4] at hn2 hL2 hf2
    simp -implicitDefEqProofs [hlt3]
    refine ⟨by omega, fun id hid => ?_, by simpa [List.take_add_one, hx, q4] using hL2⟩
    rw [hf2 id (by omega) fun id0 n0 c0 hv => by have := (acc_lt hL _ _ _ hv).1; omega]
    simp -implicitDefEqProofs [show ¬ id = H'.next + 1 by omega, hk1 id (by omega), hf id hid]
  · rintro e H' ⟨lv, rfl, hn1, hf, hL⟩
    rw [List.take_length] at hL
    simp -implicitDefEqProofs [L27c]
    exact hQ lv _ H' hL
  · exact ⟨.ns, by simp, Nat.le_refl _, fun _ _ => rfl, acc_none⟩
end
end Go.Proofs.YtgpjfhaohjnbnaaGreatDoor
namespace Go.Proofs.YtgpjfhaohjnbnaaGreatDoor
open Go Go.RI
def CheckOk (G : AHeap) : Prop := ∀ x : Pce, okPce x → ∀ t1 t2 t3 t4 : Bool, pureR IP G 7 [.ag (pceC x t1 t2 t3 t4)] = some (.i .i64 (if checkP x then 0 else 2))
def doR (x : Pce) (homes : List Val) : List Val × Int × Bool := match doP x homes with
  | some (l, to) => (l, to, true)
  | none => ([], 0, false)
section
variable {G : AHeap} (hG : G.next = 2)
include hG
set_option maxHeartbeats 1000000 in
theorem t_do (c17 : CheckOk G) (cN : NeedsOk G) (x : Pce) (hx : okPce x) (homes : List Val) (hb : bulkL homes < 1099511627776) (t1 t2 th : Bool) : pureR IP G 27 [.ag (pceC x t1 t2 false false), .fs th false homes.length (encs homes)] =
    some (.tu [.fs false false (doR x homes).1.length (encs (doR x homes).1), .i .i64 (doR x homes).2.1, .b (doR x homes).2.2]) := by
  have c1 := c17 x hx t1 t2 false false
  have c2 := t_doAny hG homes hb th false
  unfold doR doP
  cases hc : checkP x
  · rw [hc] at c1
    simp -implicitDefEqProofs [pceC] at c1
    rw [if_neg (by simp)]
    refine pure_run ip27 rfl ?_
    simp -implicitDefEqProofs [I27, hG, c1, pceC]
  rw [hc] at c1
  by_cases hh : (homes.length : Int) = x.homes
  · cases hm : homes.all mayV
    · rw [hm] at c2
      rw [if_neg (by simp)]
      simp -implicitDefEqProofs [pceC] at c1
      refine pure_run ip27 rfl ?_
      simp -implicitDefEqProofs [I27, hG, c1, c2, hh, pceC]
    · rw [hm] at c2
      rw [if_pos ⟨rfl, hh, rfl⟩]
      have hhb : ∀ v ∈ homes, v.bulk ≤ 2304 := fun v hv => all_bulk hm hv
      simp -implicitDefEqProofs [pceC] at c1
      refine pure_run ip27 rfl ?_
      simp -implicitDefEqProofs [I27, hG, c1, c2, hh, pceC]
      refine t_do_steps hG cN x hc hx homes hh hm t1 t2 th _ _ (by simp -implicitDefEqProofs [hG, pceC]) (by simp -implicitDefEqProofs [hG]) (by simp -implicitDefEqProofs [hG]) (by simp -implicitDefEqProofs [hG]) ?_ ?_
      · intro made hs hml hmb sv w H' hn g0 g1 g2 hA
        simp only [hs]
        have gg0 := g0
        simp only [pceC] at g0
        have fin : ∀ (lv : AVal) (d : Nat) (H2 : AHeap), 5 ≤ d → Acc H2 d lv 5 x.sets.length (encs (x.sets.map (ofO homes made))) → frzV H2 2 15 lv = some (.fs false false x.sets.length (encs (x.sets.map (ofO homes made)))) := fun lv d H2 h1 h2 => hold_frz (k := 14) (hold_mono h2.hold (by omega)) frz_encs
        by_cases he : x.exit = 2
        · have hcf : opnFits x.homes x.ins.length x.cond = true := by
            have := (checkP_iff.1 hc).2.2.1
            unfold condP at this
            rw [if_pos he] at this
            exact this
          have b1 : x.cond.kind = 1 → 0 ≤ x.cond.n ∧ x.cond.n < homes.length := fun h => by have := opnFits_home hcf h; omega
          have b2 : x.cond.kind = 2 → 0 ≤ x.cond.n ∧ x.cond.n < made.length := fun h => by have := opnFits_step hcf h; omega
          obtain ⟨tb, s1, s2⟩ := do_snaps hG g1 g2 hA
          have c3 := t_doOf hG x.cond homes made b1 b2 th tb
          unfold toP
          rw [if_pos he]
          obtain ⟨v, hv⟩ : ∃ v, v = ofO homes made x.cond := ⟨_, rfl⟩
          rw [← hv] at c3 ⊢
          simp at s1 s2 c3
          have n1 : 2 ≤ H'.next := by omega
          have n2 : ¬ 2 = H'.next := by omega
          by_cases hk : v.kind = 2
          · rw [if_pos hk]
            by_cases hv1 : v.n = 1
            · rw [if_pos hv1]
              simp -implicitDefEqProofs [g0, he, s1, s2, c3, hk, hv1, n1, n2]
              refine t_do_sets hG x hc homes made hh hml hhb hmb t2 th _ sv (H'.next + 1) _ _ (by omega) (by simp) (by simp -implicitDefEqProofs [show ¬ 3 = H'.next by omega, g1]) (by simp -implicitDefEqProofs [show ¬ 4 = H'.next by omega, g2]) (acc_keep hA (by simp) fun id n c hv => by have := (acc_lt hA _ _ _ hv).2; simp -implicitDefEqProofs [show ¬ id = H'.next by omega]) (fun id n c hv => by have := (acc_lt hA _ _ _ hv).2; omega) ?_
              intro lv w H2 hL
              have := fin lv _ H2 (by omega) hL
              simp -implicitDefEqProofs [this]
            · rw [if_neg hv1]
              simp -implicitDefEqProofs [g0, he, s1, s2, c3, hk, hv1, n1, n2]
              refine t_do_sets hG x hc homes made hh hml hhb hmb t2 th _ sv (H'.next + 1) _ _ (by omega) (by simp) (by simp -implicitDefEqProofs [show ¬ 3 = H'.next by omega, g1]) (by simp -implicitDefEqProofs [show ¬ 4 = H'.next by omega, g2]) (acc_keep hA (by simp) fun id n c hv => by have := (acc_lt hA _ _ _ hv).2; simp -implicitDefEqProofs [show ¬ id = H'.next by omega]) (fun id n c hv => by have := (acc_lt hA _ _ _ hv).2; omega) ?_
              intro lv w H2 hL
              have := fin lv _ H2 (by omega) hL
              simp -implicitDefEqProofs [this]
          · rw [if_neg hk]
            simp -implicitDefEqProofs [g0, he, s1, s2, c3, hk, n1, n2]
        · unfold toP
          rw [if_neg he]
          simp -implicitDefEqProofs [g0, he]
          refine t_do_sets hG x hc homes made hh hml hhb hmb t2 th _ sv H'.next _ _ hn (Nat.le_refl _) g1 g2 hA (fun id n c hv => (acc_lt hA _ _ _ hv).2) ?_
          intro lv w H2 hL
          have := fin lv _ H2 hn hL
          simp -implicitDefEqProofs [this]
      · intro hs H'
        simp -implicitDefEqProofs [hs]
  · rw [if_neg (fun h => hh h.2.1)]
    simp -implicitDefEqProofs [pceC] at c1
    refine pure_run ip27 rfl ?_
    simp -implicitDefEqProofs [I27, hG, c1, hh, pceC]
end
end Go.Proofs.YtgpjfhaohjnbnaaGreatDoor
namespace Go.RI
open Go
def TyM (P : Program) : Nat → TypeId → List AVal → Nat → Prop
  | 0, _, _, _ => False
  | n + 1, t, l, m => match P.underlying t with
    | some .bool => ∃ b, l = [.b b]
    | some (.int k) => ∃ i, l = [.i k i] ∧ (Lit.int k i).wf = true
    | some .string => ∃ s, l = [.s s] ∧ s.length + 1 ≤ m
    | some (.slice e) => ∃ es : List (List AVal × Nat), l = [.fs false false es.length (es.map (·.1)).flatten] ∧ (es.map (·.2)).sum + 1 ≤ m ∧ ∀ x ∈ es, TyM P n e x.1 x.2 ∧ x.1.length = P.cellsOf e
    | some (.struct fs) => ∃ xs : List (List AVal × Nat), l = (xs.map (·.1)).flatten ∧ xs.length = fs.toList.length ∧ (xs.map (·.2)).sum + 1 ≤ m ∧ ∀ (i : Nat) f x, fs.toList[i]? = some f → xs[i]? = some x → TyM P n f.type x.1 x.2 ∧ x.1.length = P.cellsOf f.type
    | _ => False
structure Meas {H : Type} (μ : DataW H → Nat) : Prop where
  one : ∀ d, 0 + 1 ≤ μ d
  str : ∀ s, s.length + 1 ≤ μ (.lit (.string s))
  sl : ∀ l r, (l.map μ).sum + 1 ≤ μ (.slice l r)
  ag : ∀ l, (l.map μ).sum + 1 ≤ μ (.agg l)
section
variable {w : World}
variable {H : Type} {enc : TypeId × Value → H} {P : Program} {base : Nat} {spare : Nat → Bool} {held : Bool}
variable {r : TypeId → List Value → Option (DataW H × List MemPlace)} {t : TypeId} {cs : List Value} {d : DataW H} {ps : List MemPlace}
theorem tile_rdM {n : Nat} {ts : List TypeId} {μ : DataW H → Nat} {cs : List Value}
    (ih : ∀ t cs d ps, t ∈ ts → DataW.trod enc P w base spare held n t cs = some (d, ps) → ∃ l, RdL w l cs ∧ TyM P n t l (μ d)) :
    ∀ (fs : List Field) (o N : Nat) (ys : List (DataW H × List MemPlace)), tile P fs o N = true → (∀ f ∈ fs, f.type ∈ ts) → cs.length = N → fs.mapM (fun f => DataW.trod enc P w base spare held n f.type ((cs.drop f.offset).take (P.cellsOf f.type))) = some ys → (∀ f ∈ fs, f.offset + P.cellsOf f.type ≤ N) →
      ∃ xs : List (List AVal × Nat), RdL w (xs.map (·.1)).flatten (cs.drop o) ∧ xs.length = fs.length ∧ (xs.map (·.2)).sum = ((ys.map (·.1)).map μ).sum ∧ ∀ (i : Nat) f x, fs[i]? = some f → xs[i]? = some x → TyM P n f.type x.1 x.2 ∧ x.1.length = P.cellsOf f.type := by
  intro fs
  induction fs with
  | nil =>
    intro o N ys ht _ hl hm _
    simp only [tile, beq_iff_eq] at ht
    subst ht
    rw [List.mapM_nil] at hm
    cases hm
    refine ⟨[], ?_, rfl, rfl, fun i f x h => by simp at h⟩
    rw [List.drop_of_length_le (by omega)]
    simp [RdL]
  | cons f fs ihf =>
    intro o N ys ht hts hl hm hb
    simp only [tile, Bool.and_eq_true, beq_iff_eq] at ht
    obtain ⟨rfl, ht⟩ := ht
    rw [List.mapM_cons] at hm
    simp only [bind, Option.bind_eq_some_iff, pure] at hm
    obtain ⟨⟨d, p⟩, h1, ys', h2, h3⟩ := hm
    cases h3
    obtain ⟨x, hx, hty⟩ := ih f.type _ d p (hts f (by simp)) h1
    obtain ⟨xs, hxs, hlen, hsum, hall⟩ := ihf (f.offset + P.cellsOf f.type) N ys' ht (fun g hg => hts g (by simp [hg])) hl h2 (fun g hg => hb g (by simp [hg]))
    have hxl : x.length = P.cellsOf f.type := by
      rw [RdL_len hx, List.length_take, List.length_drop]
      have := hb f (by simp)
      omega
    refine ⟨(x, μ d) :: xs, ?_, by simp [hlen], by simp only [List.map_cons, List.sum_cons]; rw [hsum], fun i g y hg hy => ?_⟩
    · have : cs.drop f.offset = (cs.drop f.offset).take (P.cellsOf f.type) ++ cs.drop (f.offset + P.cellsOf f.type) := by
        conv => lhs; rw [← List.take_append_drop (P.cellsOf f.type) (cs.drop f.offset)]
        rw [List.drop_drop]
      rw [this, List.map_cons, List.flatten_cons]
      exact RdL_append hx hxs
    · cases i with
      | zero => simp at hg hy; subst hg hy; exact ⟨hty, hxl⟩
      | succ i => exact hall i g y (by simpa using hg) (by simpa using hy)
theorem trod_rdM {ts : List TypeId} (hts : ts.all (okTy P ts) = true) {μ : DataW H → Nat} (hsm : Meas μ) (hsp : ∀ b, spare b = true) :
    ∀ (n : Nat) (t : TypeId) (cs : List Value) (d : DataW H) (ps : List MemPlace), t ∈ ts → DataW.trod enc P w base spare held n t cs = some (d, ps) → ∃ l, RdL w l cs ∧ TyM P n t l (μ d) := by
  intro n
  induction n with
  | zero => intro t cs d ps _ h; simp [DataW.trod] at h
  | succ n ih =>
    intro t cs d ps ht h
    have hok := List.all_eq_true.1 hts t ht
    unfold okTy at hok
    rw [DataW.trod_step] at h
    unfold TyM
    cases hu : P.underlying t with
    | none => rw [hu] at hok; cases hok
    | some T =>
      rw [hu] at hok
      cases T <;> simp only at hok <;> try (cases hok; done)
      case bool =>
        obtain ⟨b, rfl, rfl⟩ := step_bool hu h
        exact ⟨[.b b], RdL_one (by simp [Rd, noId, one, ren]), b, rfl⟩
      case int k =>
        obtain ⟨m, rfl, rfl, hw⟩ := step_int hu h
        exact ⟨[.i k m], RdL_one (by simp [Rd, noId, one, ren]), m, rfl, hw⟩
      case string =>
        obtain ⟨s, rfl, rfl⟩ := step_string hu h
        exact ⟨[.s s.data.toList], RdL_one (by simp [Rd, noId, one, ren]), _, rfl, hsm.str _⟩
      case slice e =>
        simp only [Bool.and_eq_true, decide_eq_true_eq, List.contains_iff_mem] at hok
        obtain ⟨he, hc⟩ := hok
        rcases step_slice hu h with rfl | ⟨a, len, cap, elems, rest, rfl, hlc, hel, hrest, rfl⟩
        · exact ⟨[.fs false false 0 []], RdL_one (by simp [Rd]), [], rfl, hsm.one _, fun x hx => by simp at hx⟩
        · have hB := fun r => hsm.sl (elems.map (·.1)) r
          have hlen : elems.length = len := by simpa using mapM_some_length hel
          by_cases h0 : len = 0
          · subst h0
            refine ⟨[.fs false false 0 []], RdL_one ?_, [], rfl, hsm.one _, fun x hx => by simp at hx⟩
            simp only [Rd]
            refine ⟨trivial, trivial, .inl ⟨trivial, trivial, .inr ?_⟩⟩
            by_cases hc0 : cap = 0
            · subst hc0; exact .inl ⟨a, rfl⟩
            · rw [hsp, if_pos rfl] at hrest
              obtain ⟨b, hb, hfb⟩ := Go.Lib.mapM_at hrest 0 0 (by rw [List.getElem?_range (by omega)])
              simp only [Option.bind_eq_some_iff] at hfb
              obtain ⟨c0, hc1, _⟩ := hfb
              have := (cells_at hc1 hc).1
              have ha : a.add ((0 + 0) * P.cellsOf e) = a := by simp [Addr.add]
              rw [ha] at this
              obtain ⟨ab, ao, asp⟩ := a
              cases this
              exact .inr ⟨ab, ao, cap, rfl⟩
          · have el : ∀ i, i < len → ∃ csi x bd, (elems.map (·.1))[i]? = some bd ∧ w.cells? base (a.add (i * P.cellsOf e)) (P.cellsOf e) = some csi ∧ RdL w x csi ∧ TyM P n e x (μ bd) := fun i hi => by
              obtain ⟨b, hb, hfb⟩ := Go.Lib.mapM_at hel i i (by simp [hi])
              simp only [Option.bind_eq_some_iff] at hfb
              obtain ⟨csi, h1, h2⟩ := hfb
              obtain ⟨bd, bp⟩ := b
              obtain ⟨x, h3, h4⟩ := ih e csi bd bp he h2
              exact ⟨csi, x, bd, by rw [List.getElem?_map, hb]; rfl, h1, h3, h4⟩
            obtain ⟨cs0, _, _, _, hc0, _, _⟩ := el 0 (by omega)
            have ha0 : a.add (0 * P.cellsOf e) = a := by simp [Addr.add]
            rw [ha0] at hc0
            obtain ⟨hspot, C, ty, fz, hC, _, _⟩ := cells_at hc0 hc
            have row : ∀ i, i < len → ∃ x bd, (elems.map (·.1))[i]? = some bd ∧ RdL w x ((C.toList.drop (a.off + i * P.cellsOf e)).take (P.cellsOf e)) ∧ TyM P n e x (μ bd) ∧ x.length = P.cellsOf e ∧ a.off + i * P.cellsOf e + P.cellsOf e ≤ C.size := fun i hi => by
              obtain ⟨csi, x, bd, h0, h1, h2, h3⟩ := el i hi
              obtain ⟨_, C', ty', fz', hC', hsz, hcs⟩ := cells_at h1 hc
              have hb : (a.add (i * P.cellsOf e)).block = a.block := by unfold Addr.add; split <;> rfl
              have ho : (a.add (i * P.cellsOf e)).off = a.off + i * P.cellsOf e := by unfold Addr.add; split <;> simp_all
              rw [hb, hC] at hC'
              cases hC'
              rw [ho] at hcs hsz
              subst hcs
              refine ⟨x, bd, h0, h2, h3, ?_, hsz⟩
              rw [RdL_len h2]
              simp only [List.length_take, List.length_drop, Array.length_toList]
              omega
            have : ∃ es : List (List AVal × Nat), es.length = len ∧ ∀ (i : Nat) x, es[i]? = some x → RdL w x.1 ((C.toList.drop (a.off + i * P.cellsOf e)).take (P.cellsOf e)) ∧ TyM P n e x.1 x.2 ∧ x.1.length = P.cellsOf e ∧ ∃ bd, (elems.map (·.1))[i]? = some bd ∧ x.2 = μ bd := by
              clear hlen hel hB hlc hrest h
              clear el
              have key : ∀ m, m ≤ len → ∃ es : List (List AVal × Nat), es.length = m ∧ ∀ (i : Nat) x, es[i]? = some x → RdL w x.1 ((C.toList.drop (a.off + i * P.cellsOf e)).take (P.cellsOf e)) ∧ TyM P n e x.1 x.2 ∧ x.1.length = P.cellsOf e ∧ ∃ bd, (elems.map (·.1))[i]? = some bd ∧ x.2 = μ bd := by
                intro m
                induction m with
                | zero => intro _; exact ⟨[], rfl, fun i x hx => by simp at hx⟩
                | succ m ihm =>
                  intro hm
                  obtain ⟨es, h1, h2⟩ := ihm (by omega)
                  obtain ⟨x, bd, g0, g1, g2, g3, _⟩ := row m (by omega)
                  refine ⟨es ++ [(x, μ bd)], by simp [h1], fun i y hy => ?_⟩
                  by_cases hi : i < es.length
                  · rw [List.getElem?_append_left hi] at hy; exact h2 i y hy
                  · rw [List.getElem?_append_right (by omega)] at hy
                    have hi0 : i - es.length = 0 := by
                      rcases Nat.eq_zero_or_pos (i - es.length) with h | h
                      · exact h
                      · rw [List.getElem?_eq_none (by simp; omega)] at hy; cases hy
                    rw [hi0] at hy
                    simp at hy
                    subst hy
                    have : i = m := by omega
                    subst this
                    exact ⟨g1, g2, g3, bd, g0, rfl⟩
              exact key len (Nat.le_refl _)
            obtain ⟨es, hes, hall2⟩ := this
            refine ⟨[.fs false false len (es.map (·.1)).flatten], RdL_one ?_, es, by rw [hes], ?_, ?_⟩
            · simp only [Rd]
              have hfl := flat_rd (w := w) (c := P.cellsOf e) C.toList (es.map (·.1)) a.off (fun i x hx => by
                rw [List.getElem?_map] at hx
                obtain ⟨y, hy, rfl⟩ := Option.map_eq_some_iff.1 hx
                exact ⟨(hall2 i y hy).1, (hall2 i y hy).2.2.1⟩)
              rw [List.length_map] at hfl
              obtain ⟨xl, _, _, _, _, _, hsz⟩ := row (len - 1) (by omega)
              have hsz2 : a.off + len * P.cellsOf e ≤ C.size := by
                have : len * P.cellsOf e = (len - 1) * P.cellsOf e + P.cellsOf e := by
                  conv => lhs; rw [show len = (len - 1) + 1 by omega, Nat.add_mul, Nat.one_mul]
                omega
              refine ⟨trivial, trivial, .inr ⟨by omega, a.block, a.off, cap, P.cellsOf e, C, ty, fz, ?_, hlc, hC, ?_, hsz2, ?_⟩⟩
              · obtain ⟨ab, ao, asp⟩ := a; cases hspot; rfl
              · rw [RdL_len hfl, hes, List.length_take, List.length_drop]; have : C.toList.length = C.size := rfl; omega
              · rw [hes] at hfl; exact hfl
            · have hs : es.map (·.2) = (elems.map (·.1)).map μ := by
                apply List.ext_getElem?
                intro i
                rw [List.getElem?_map, List.getElem?_map]
                rcases Nat.lt_or_ge i len with hi | hi
                · obtain ⟨x, hx⟩ := List.getElem?_eq_some_iff.2 ⟨by omega, rfl⟩ |> fun h => (⟨es[i]'(by omega), h⟩ : ∃ x, es[i]? = some x)
                  obtain ⟨bd, h1, h2⟩ := (hall2 i x hx).2.2.2
                  rw [hx, h1]
                  simp [h2]
                · rw [List.getElem?_eq_none (by omega), List.getElem?_eq_none (by simp; omega)]; rfl
              rw [hs]
              exact hB _
            · intro x hx
              obtain ⟨i, hi⟩ := List.getElem?_of_mem hx
              exact ⟨(hall2 i x hi).2.1, (hall2 i x hi).2.2.1⟩
      case struct fs =>
        simp only [Bool.and_eq_true, List.all_eq_true, List.contains_iff_mem] at hok
        obtain ⟨hl, ys, hm, rfl⟩ := step_struct hu h
        obtain ⟨xs, h1, h2, h3, h4⟩ := tile_rdM ih fs.toList 0 (P.cellsOf t) ys hok.1 hok.2 hl hm (tile_le _ _ _ hok.1).2
        exact ⟨(xs.map (·.1)).flatten, by simpa using h1, xs, rfl, h2, by rw [h3]; exact hsm.ag _, h4⟩
end
def TyVM (P : Program) (n : Nat) (t : TypeId) (x : AVal) (m : Nat) : Prop := ∃ l, TyM P n t l m ∧ (match P.underlying t with
  | some (.struct _) => x = .ag l
  | _ => l = [x])
section
variable {H : Type} {enc : TypeId × Value → H} {P : Program} {W W' : World}
theorem arg_rdM {ts : List TypeId} (hts : ts.all (okTy P ts) = true) {μ : DataW H → Nat} (hsm : Meas μ) {t : TypeId} (ht : t ∈ ts) {base : Nat} {v : Value} (hv : Value.okWide P W .any base t v) {d : DataW H} {p : List MemPlace}
    (h : DataW.Trod enc P W 0 (fun _ => true) true t v d p) : ∃ n x, RdV W x v ∧ TyVM P n t x (μ d) := by
  obtain ⟨n, hn⟩ := h
  obtain ⟨l, h1, h2⟩ := trod_rdM hts hsm (fun _ => rfl) n t _ d p ht hn
  have hok := List.all_eq_true.1 hts t ht
  unfold okTy at hok
  cases n with
  | zero => simp [TyM] at h2
  | succ n =>
    have h2' := h2
    unfold TyM at h2
    unfold Value.okWide at hv
    cases hu : P.underlying t with
    | none => rw [hu] at hok; cases hok
    | some T =>
      rw [hu] at hok h2 hv
      have leaf : ∀ x, l = [x] → (∀ cs, v ≠ .agg cs) → (∀ l, x ≠ .ag l) → (match some T with | some (.struct _) => x = .ag l | _ => l = [x]) → ∃ n x, RdV W x v ∧ TyVM P n t x (μ d) := by
        intro x hx hna hxa hm
        subst hx
        have : v.cells.toList = [v] := by cases v <;> first | rfl | exact (hna _ rfl).elim
        rw [this] at h1
        simp only [RdL] at h1
        obtain ⟨v', r, he, hr, _⟩ := h1
        cases he
        refine ⟨n + 1, x, ?_, [x], h2', by rw [hu]; exact hm⟩
        cases x <;> first | exact hr | exact (hxa _ rfl).elim
      cases T <;> simp only at hok <;> try (cases hok; done)
      case bool =>
        obtain ⟨b, rfl⟩ := h2
        refine leaf _ rfl (fun cs e => ?_) (fun l e => by cases e) rfl
        subst e
        simp [Cell.okWide, Cell.ok, hu] at hv
      case int k =>
        obtain ⟨i, rfl, _⟩ := h2
        refine leaf _ rfl (fun cs e => ?_) (fun l e => by cases e) rfl
        subst e
        simp [Cell.okWide, Cell.ok, hu] at hv
      case string =>
        obtain ⟨s, rfl, _⟩ := h2
        refine leaf _ rfl (fun cs e => ?_) (fun l e => by cases e) rfl
        subst e
        simp [Cell.okWide, Cell.ok, hu] at hv
      case slice e =>
        obtain ⟨es, rfl, _⟩ := h2
        refine leaf _ rfl (fun cs e => ?_) (fun l e => by cases e) rfl
        subst e
        simp [Cell.okWide, Cell.ok, hu] at hv
      case struct fs =>
        obtain ⟨cs, rfl, _⟩ := hv
        exact ⟨n + 1, .ag l, ⟨cs, rfl, h1⟩, l, h2', by rw [hu]⟩
end
end Go.RI
