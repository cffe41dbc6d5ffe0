/- RI, part S: a region that leaves its order open comes to what the interpreter makes of it in one order. Conditions: none. -/
import Derived.Test.YteoliiakbmomeaaRiR
namespace Go.RI
open Go

def guardReads : Option (Nat × Bool) → List Nat
  | none => []
  | some (t, _) => [t]
def Item.reads (x : Item) : List Nat := x.op.reads ++ guardReads x.guard

def Env.only (us : List Nat) : Env → Env
  | [] => []
  | (k, v) :: e => if us.contains k then (k, v) :: Env.only us e else Env.only us e

theorem Env.get_only (us : List Nat) (e : Env) (s : Nat) : (e.only us).get s = if us.contains s then e.get s else none := by
  induction e with
  | nil => simp [Env.only, Env.get]
  | cons x e ih =>
    obtain ⟨k, v⟩ := x
    simp only [Env.only]
    by_cases hk : us.contains k = true
    · rw [if_pos hk]
      simp only [Env.get]
      by_cases hks : k = s
      · subst hks; rw [if_pos rfl, if_pos hk, if_pos rfl]
      · rw [if_neg hks, ih, if_neg hks]
    · rw [if_neg hk, ih]
      by_cases hs : us.contains s = true
      · have hks : k ≠ s := fun e => hk (e ▸ hs)
        rw [if_pos hs, if_pos hs]
        simp only [Env.get, hks, if_false]
      · rw [if_neg hs, if_neg hs]

theorem agree_only {us vs : List Nat} (e : Env) (h : ∀ u ∈ us, u ∈ vs) : Agree us (e.only vs) e := fun u hu => by
  rw [Env.get_only, if_pos (by simpa using h u hu)]

theorem wanted_congr {e e' : Env} {g : Option (Nat × Bool)} (h : Agree (guardReads g) e e') : wantedI e g = wantedI e' g := by
  cases g with
  | none => rfl
  | some x => obtain ⟨t, b⟩ := x; simp only [wantedI]; rw [h t (by simp [guardReads])]

/-! ### Orders -/
def Closed (ops : Array Oper) (listed : Array Bool) : Prop := ∀ (j : Nat) (o : Oper) (e : Edge), ops[j]? = some o → listed.getD j false = true → e ∈ o.after → Region.binds .any e = true → listed.getD e.on false = true
def ReadyOr (ops : Array Oper) (listed : Array Bool) (j : Nat) : Prop := ∀ (o : Oper) (e : Edge), ops[j]? = some o → e ∈ o.after → Region.binds .any e = true → listed.getD e.on false = true
/-- In whatever order: i ahead of j. -/
def Bef (ops : Array Oper) (i j : Nat) : Prop := ∀ listed, Closed ops listed → ReadyOr ops listed j → listed.getD i false = true

structure Plan (P : Program) (nt : Nat) (ops : Array Oper) (order : List Nat) (xs : List Item) : Prop where
  len : xs.length = order.length
  item : ∀ (t i : Nat), order[t]? = some i → ∃ (o : Oper) (x : Item) (io : IOp), ops[i]? = some o ∧ xs[t]? = some x ∧ trOpC P o = some io ∧ x.op = io.quiet ∧ trGuard ops o.guard = some x.guard ∧ x.dst = o.dst ∧ dstOk nt x.dst = true
  all : ∀ i, i < ops.size → ∃ t : Nat, order[t]? = some i
  uniq : ∀ (t t' i : Nat), order[t]? = some i → order[t']? = some i → t = t'
  topo : ∀ (t i : Nat) (o : Oper) (e : Edge), order[t]? = some i → ops[i]? = some o → e ∈ o.after → Region.binds .any e = true → ∃ t' : Nat, t' < t ∧ order[t']? = some e.on
  greedy : ∀ (p q i c : Nat) (x : Item), order[p]? = some i → order[q]? = some c → q < p → xs[q]? = some x → x.op.act = true → (∀ (q' : Nat) (x' : Item), q < q' → q' < p → xs[q']? = some x' → x'.op.act = false) → Bef ops c i
  dst : ∀ (t t' : Nat) (x x' : Item) (s : Nat), xs[t]? = some x → xs[t']? = some x' → x.dst = some s → x'.dst = some s → t = t'
  conf : ∀ (t t' i i' : Nat) (x x' : Item) (u : Nat), order[t]? = some i → order[t']? = some i' → xs[t]? = some x → xs[t']? = some x' → u ∈ x.reads → x'.dst = some u → t' = t ∨ Bef ops i' i ∨ Bef ops i i'
  re : ∀ (p t i c : Nat) (x y : Item), order[p]? = some i → order[t]? = some c → xs[p]? = some x → xs[t]? = some y → p < t → x.op.looks = true → y.op.act = true →
    Bef ops i c ∨ ∃ s : Nat, x.dst = some s ∧ (s, x.op, x.guard) ∈ y.re ∧ ∀ u ∈ x.reads, ∀ (j : Nat) (z : Item), j ≤ t → xs[j]? = some z → z.dst = some u → j < p

theorem slV_same {esz : Nat} {H H' : AHeap} {u : AVal} {l h m : Option Nat} {v : AVal} (hs : slV esz H u l h m = some (v, H')) (hn : H'.next = H.next) : H' = H := by
  cases u <;> simp only [slV] at hs <;> try (cases hs; done)
  case ns => split at hs <;> cases hs; rfl
  case es => split at hs <;> cases hs; rfl
  case sl id off len cap =>
    cases cap with
    | some c => simp only at hs; split at hs <;> cases hs; rfl
    | none =>
      cases m with
      | some m' => simp only at hs; split at hs <;> cases hs; rfl
      | none =>
        simp only at hs
        split at hs
        · split at hs
          · cases hs; rfl
          · split at hs
            · split at hs
              · split at hs <;> cases hs; rfl
              · cases hs
            · cases hs; simp at hn
        · cases hs
  case fs tmp full len cs =>
    split at hs
    · cases m with
      | some m' => simp only at hs; split at hs <;> cases hs; rfl
      | none => simp only at hs; split at hs <;> cases hs; rfl
    · cases hs

theorem quiet_opI {call : CallI} {lo : Nat} {io : IOp} {e : Env} {H : AHeap} {v : Option AVal} {H' : AHeap} (h : opI call lo io.quiet e H = some (v, H')) : opI call lo io e H = some (v, H') := by
  cases io <;> simp only [IOp.quiet] at h <;> try (exact h)
  case sl esz x l hi mx =>
    simp only [opI, aop] at h ⊢
    split at h
    · rename_i u a b c h1 h2 h3 h4
      split at h
      · rename_i w' H3 hs
        split at h
        · rename_i hn
          cases h
          have := slV_same hs hn.1
          subst this
          simp [hs]
        · cases h
      · cases h
    · cases h

theorem quiet_aop {lo : Nat} {io : IOp} {e : Env} {H : AHeap} {v : Option AVal} {H' : AHeap} (h : aop lo io.quiet e H = some (v, H')) : aop lo io e H = some (v, H') := by
  cases io <;> simp only [IOp.quiet] at h <;> try (exact h)
  case sl esz x l hi mx =>
    simp only [aop] at h ⊢
    split at h
    · rename_i u a b c h1 h2 h3 h4
      split at h
      · rename_i w' H3 hs
        split at h
        · rename_i hn
          cases h
          have := slV_same hs hn.1
          subst this
          simp [hs]
        · cases h
      · cases h
    · cases h

/-- The interpreter's states, place by place. -/
theorem trace_of {call : CallI} {lo : Nat} : ∀ (xs : List Item) (e : Env) (H : AHeap) (e' : Env) (H' : AHeap), itemsI call lo xs e H = some (e', H') →
    ∃ (E : Nat → Env) (Hh : Nat → AHeap), E 0 = e ∧ Hh 0 = H ∧ E xs.length = e' ∧ Hh xs.length = H' ∧ ∀ (t : Nat) x, xs[t]? = some x → itemI call lo x (E t) (Hh t) = some (E (t + 1), Hh (t + 1)) ∧ (skipI call x.op || (keepI x.op x.re (E t) (E (t + 1)) || reOk lo (E (t + 1)) (Hh (t + 1)) x.re)) = true := by
  intro xs
  induction xs with
  | nil =>
    intro e H e' H' h
    simp only [itemsI, Option.some.injEq, Prod.mk.injEq] at h
    exact ⟨fun _ => e, fun _ => H, rfl, rfl, h.1, h.2, fun t x hx => by simp at hx⟩
  | cons x xs ih =>
    intro e H e' H' h
    simp only [itemsI] at h
    split at h
    · rename_i e1 H1 hi
      split at h
      · rename_i hre
        obtain ⟨E, Hh, h1, h2, h3, h4, h5⟩ := ih e1 H1 e' H' h
        refine ⟨fun t => match t with | 0 => e | t + 1 => E t, fun t => match t with | 0 => H | t + 1 => Hh t, rfl, rfl, h3, h4, ?_⟩
        intro t y hy
        cases t with
        | zero =>
          simp only [List.getElem?_cons_zero, Option.some.injEq] at hy; subst hy
          simp only [h1, h2]
          exact ⟨hi, hre⟩
        | succ t => exact h5 t y (by simpa using hy)
      · cases h
    · cases h

theorem item_env {call : CallI} {lo : Nat} {x : Item} {e e' : Env} {H H' : AHeap} (h : itemI call lo x e H = some (e', H')) : ∃ v, e' = putD e x.dst v := by
  simp only [itemI] at h
  split at h
  · cases h
  · cases h; exact ⟨_, rfl⟩
  · split at h
    · cases h; exact ⟨_, rfl⟩
    · cases h; exact ⟨_, rfl⟩
    · cases h

theorem get_putD_ne {e : Env} {d : Option Nat} {v : AVal} {s : Nat} (h : d ≠ some s) : (putD e d v).get s = e.get s := by
  cases d with
  | none => rfl
  | some t => simp only [putD]; rw [Env.get_put, if_neg (fun e => h (by rw [e]))]
theorem get_putD_eq {e : Env} {v : AVal} {s : Nat} : (putD e (some s) v).get s = some v := by
  simp only [putD]; rw [Env.get_put, if_pos rfl]

theorem kinds (o : IOp) (h : o.act = false) : (o.looks = false ∧ o.makes = false) ∨ o.looks = true ∨ o.makes = true := by
  cases o <;> simp_all [IOp.act, IOp.looks, IOp.makes]

theorem makes_act {o : IOp} (h : o.makes = true) : o.act = false := by cases o <;> simp_all [IOp.makes, IOp.act]
theorem looks_act {o : IOp} (h : o.looks = true) : o.act = false := by cases o <;> simp_all [IOp.looks, IOp.act]

theorem opI_plain {call : CallI} {lo : Nat} {o : IOp} {e : Env} {H : AHeap} (h : o.act = false) : opI call lo o e H = aop lo o e H := by
  cases o <;> simp_all [IOp.act, opI]

theorem makes_push {lo : Nat} {o : IOp} {e : Env} {H : AHeap} (hm : o.makes = true) {v : Option AVal} {H' : AHeap} (h : aop lo o e H = some (v, H')) :
    ∃ c esz u, v = some u ∧ H' = H.push (.cells c esz false) := by
  cases o <;> simp only [IOp.makes] at hm <;> (try (cases hm; done)) <;> simp only [aop] at h
  case alloc z => cases h; exact ⟨_, _, _, rfl, rfl⟩
  case box x =>
    split at h
    · split at h
      · cases h; exact ⟨_, _, _, rfl, rfl⟩
      · cases h
    · cases h
  case bsl a b z ps =>
    split at h
    · split at h
      · cases h; exact ⟨_, _, _, rfl, rfl⟩
      · cases h
    · cases h
  case mksl a b z x y =>
    split at h
    · split at h
      · cases h; exact ⟨_, _, _, rfl, rfl⟩
      · cases h
    · cases h

theorem Wf.push {H : AHeap} (h : Wf H) (o : AObj) : Wf (H.push o) := fun j hj => by
  rw [AHeap.next_push] at hj
  rw [AHeap.get_push, if_neg (by omega)]
  exact h j (by omega)

/-- A place that does not act leaves the heap, or puts one row more behind it. -/
theorem float_step {call : CallI} {lo : Nat} {x : Item} {e e' : Env} {H H' : AHeap} (ha : x.op.act = false) (h : itemI call lo x e H = some (e', H')) (hw : Wf H) : Ext H H' ∧ Wf H' := by
  have op : ∀ v, opI call lo x.op e H = some (v, H') → Ext H H' ∧ Wf H' := by
    intro v hv
    rw [opI_plain ha] at hv
    rcases kinds x.op ha with ⟨h1, h2⟩ | h1 | h1
    · obtain ⟨rfl, _⟩ := aop_still ha h1 h2 hv; exact ⟨Ext.refl _, hw⟩
    · obtain ⟨rfl, _⟩ := looks_ext hw (Ext.refl H) h1 hv; exact ⟨Ext.refl _, hw⟩
    · obtain ⟨c, esz, u, _, rfl⟩ := makes_push h1 hv; exact ⟨Ext.push _ _, hw.push _⟩
  simp only [itemI] at h
  split at h
  · cases h
  · cases h; exact ⟨Ext.refl _, hw⟩
  · split at h
    · rename_i hv; cases h; exact op _ hv
    · rename_i hv; cases h; exact op _ hv
    · cases h

theorem keepL_mem {ids : List Nat} {e : Env} : ∀ {l : List (Nat × IOp × Option (Nat × Bool))}, keepL ids e l = true → ∀ s o g, (s, o, g) ∈ l → ∃ n b id off, o = .load n b ∧ b.eval e = some (.p id off) ∧ id ∉ ids := by
  intro l
  induction l with
  | nil => intro _ s o g h; cases h
  | cons x l ih =>
    obtain ⟨t, o', g'⟩ := x
    intro h s o g hm
    simp only [keepL, Bool.and_eq_true] at h
    rcases List.mem_cons.1 hm with he | hm
    · cases he
      have h1 := h.1
      split at h1
      · split at h1
        · rename_i n b id off hb
          exact ⟨_, _, id, off, rfl, hb, by simpa using h1⟩
        · cases h1
      · cases h1
    · exact ih h.2 s o g hm
theorem appV_keep {lo esz bytes : Nat} {H H' : AHeap} {x y v : AVal} (hs : appV lo H esz bytes x y = some (v, H')) {ids : List Nat} (ht : touchV x = some ids) (hw : Wf H) {id : Nat} (hid : id ∉ ids) {o : AObj} (ho : H.get id = some o) : H'.get id = some o := by
  have hlt : id < H.next := by
    rcases Nat.lt_or_ge id H.next with h | h
    · exact h
    · rw [hw id h] at ho; cases ho
  have push : ∀ o', (H.push o').get id = some o := fun o' => by rw [AHeap.get_push, if_neg (by omega)]; exact ho
  unfold appV at hs
  split at hs
  · cases hs
  · rename_i n ys hm
    split at hs
    · cases x <;> simp only [touchV] at ht <;> simp only at hs
      case ns =>
        split at hs
        · cases hs; exact ho
        · split at hs <;> cases hs; exact push _
      case es =>
        split at hs
        · cases hs; exact ho
        · split at hs <;> cases hs; exact push _
      case sl id0 off len cap =>
        split at hs
        · rename_i hn
          have : H' = H := by
            split at hs
            · split at hs <;> cases hs; rfl
            · cases hs; rfl
          subst this; exact ho
        · rename_i hn
          cases cap with
          | some c =>
            simp only at hs ht
            split at hs
            · rename_i hc
              have hne : id ≠ id0 := by
                rw [if_neg (by omega)] at ht
                cases ht
                simpa using hid
              split at hs
              · split at hs
                · split at hs
                  · cases hs; rw [AHeap.get_put, if_neg hne]; exact ho
                  · cases hs
                · cases hs
              · cases hs
            · split at hs
              · split at hs
                · cases hs; exact push _
                · split at hs
                  · cases hs; exact push _
                  · cases hs
              · cases hs
          | none =>
            simp only at hs ht
            cases ht
            have hne : id ≠ id0 := by simpa using hid
            split at hs
            · split at hs
              · split at hs
                · cases hs
                  rw [AHeap.get_push, AHeap.next_put, if_neg (by omega), AHeap.get_put, if_neg hne]; exact ho
                · cases hs
              · cases hs
            · cases hs
      case fs tmp full len l =>
        split at hs
        · cases hs; exact ho
        · split at hs <;> cases hs; exact push _
      all_goals cases hs
    · cases hs
/-- What was loaded ahead of an append reads as it did. -/
theorem keep_get {call : CallI} {lo : Nat} {x : Item} {e e' : Env} {H H' : AHeap} (hi : itemI call lo x e H = some (e', H')) (hk : keepI x.op x.re e e' = true) (hw : Wf H) {s : Nat} {o : IOp} {g : Option (Nat × Bool)} (hm : (s, o, g) ∈ x.re) :
    ∃ n b id off, o = .load n b ∧ b.eval e' = some (.p id off) ∧ ∀ c, H.get id = some c → H'.get id = some c := by
  unfold keepI at hk
  split at hk
  · rename_i ids ht
    obtain ⟨n, b, id, off, h1, h2, h3⟩ := keepL_mem hk s o g hm
    refine ⟨n, b, id, off, h1, h2, fun c hc => ?_⟩
    unfold touch at ht
    split at ht
    · rename_i esz bytes a y hop
      split at ht
      · rename_i v hv
        simp only [itemI, hop] at hi
        split at hi
        · cases hi
        · cases hi; exact hc
        · simp only [opI, aop, hv] at hi
          split at hi
          · rename_i u H2 ho
            cases hi
            split at ho
            · rename_i a1 b1 ha1 hb1
              cases ha1
              rw [Option.map_eq_some_iff] at ho
              obtain ⟨⟨v2, H3⟩, h5, h6⟩ := ho
              cases h6
              exact appV_keep h5 ht hw h3 hc
            · cases ho
          · rename_i H2 ho
            cases hi
            split at ho
            · rw [Option.map_eq_some_iff] at ho
              obtain ⟨⟨v2, H3⟩, h5, h6⟩ := ho
              cases h6
            · cases ho
          · cases hi
      · cases ht
    · cases ht
  · cases hk

theorem reOk_mem {lo : Nat} {e : Env} {H : AHeap} : ∀ {l : List (Nat × IOp × Option (Nat × Bool))}, reOk lo e H l = true → ∀ s o g, (s, o, g) ∈ l → wantedI e g = some true →
    ∃ v H', e.get s = some v ∧ aop lo o e H = some (some v, H') := by
  intro l
  induction l with
  | nil => intro _ s o g h; cases h
  | cons y l ih =>
    obtain ⟨t, o1, g1⟩ := y
    intro h s o g hm hw
    simp only [reOk, Bool.and_eq_true] at h
    rcases List.mem_cons.1 hm with he | hm
    · cases he
      have h1 := h.1
      rw [hw] at h1
      simp only at h1
      split at h1
      · rename_i v v' H' hv hv'
        have := same_eq _ _ h1
        subst this
        exact ⟨v, H', hv, hv'⟩
      · cases h1
    · exact ih h.2 s o g hm hw

end Go.RI
