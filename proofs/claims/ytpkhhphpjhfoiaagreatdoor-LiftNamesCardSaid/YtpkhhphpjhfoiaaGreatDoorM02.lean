import Derived.Test.YtpkhhphpjhfoiaaGreatDoorM01
import Derived.LoopN
import Derived.OrdersIn
/- RI, part N: whatever the interpreter makes of an operation that is no call, the machine makes. Conditions: none. -/
namespace Go.RI
open Go
set_option linter.unusedSimpArgs false
set_option linter.unusedVariables false
set_option linter.unusedSectionVars false

section
variable {ds : List Deferred} {P : Program} {G : AHeap} {lo : Nat} {ρ : Ren} {D : Nat → Prop} {n : Nat} {e : Env} {a : Act} {H : AHeap} {w : World}

theorem bin_all (r : Rel P G ds ρ D n e a H w) {o : Oper} {op : BinOp} {t t' : TypeId} {x y : Operand} (ho : o.op = .binOp op t x y t') {x' y' : Opd} (hx' : trOpd P x = some x') (hy' : trOpd P y = some y')
    {io : IOp} (hio : trBin P op t x' y' = some io) {v : Option AVal} {H' : AHeap} (hs : aop lo io e H = some (v, H')) : Sim G lo ρ D H w ((execOp a.eval o).run P w) v H' := by
  have bin : io = .bin op x' y' → Sim G lo ρ D H w ((execOp a.eval o).run P w) v H' := by
    rintro rfl
    simp only [aop] at hs
    split at hs
    · rename_i u1 u2 h1 h2
      rw [Option.map_eq_some_iff] at hs
      obtain ⟨z, hz, he⟩ := hs
      cases he
      exact bin_sim r ho (opd_sim r hx' h1).1 (opd_sim r hy' h2).1 hz
    · cases hs
  have eqb : (op = .eql ∨ op = .neq) → P.underlying t = some .bool → io = .eqB (op == .neq) x' y' → Sim G lo ρ D H w ((execOp a.eval o).run P w) v H' := by
    rintro hop ht rfl
    simp only [aop] at hs
    split at hs
    · rename_i u1 u2 h1 h2
      cases hs
      have := eqB_sim (lo := lo) r ho hop ht (u := u1) (v := u2) (by rw [(opd_sim r hx' h1).1]; rfl) (by rw [(opd_sim r hy' h2).1]; rfl)
      rcases hop with rfl | rfl <;> simpa using this
    · cases hs
  have eqn : ∀ k d, (op = .eql ∨ op = .neq) → P.underlying t = some d → nilD k d = true → (k = 4 → isConst y = true) → io = .eqNil k (op == .neq) x' y' → Sim G lo ρ D H w ((execOp a.eval o).run P w) v H' := by
    rintro k d hop ht hd hk4 rfl
    simp only [aop] at hs
    split at hs
    · rename_i u1 u2 h1 h2
      simp only [Option.map_map, Option.map_eq_some_iff] at hs
      obtain ⟨z, hz, he⟩ := hs
      cases he
      have := eqNil_sim (lo := lo) r ho hop ht hd hk4 (opd_sim r hx' h1).1 (opd_sim r hx' h1).2 (opd_sim r hy' h2).1 (opd_sim r hy' h2).2 hz
      rcases hop with rfl | rfl <;> simpa using this
    · cases hs
  have eqa : ∀ fs ks, (op = .eql ∨ op = .neq) → P.underlying t = some (.struct fs) → P.stoodInHeld t = false → P.eqGuardType P.depth t = false → flatF P fs.toList 0 = some ks → io = .eqAg ks (op == .neq) x' y' →
      Sim G lo ρ D H w ((execOp a.eval o).run P w) v H' := by
    rintro fs ks hop ht h3 h4 h5 rfl
    simp only [aop] at hs
    split at hs
    · rename_i u1 u2 h1 h2
      simp only [Option.map_map, Option.map_eq_some_iff] at hs
      obtain ⟨z, hz, he⟩ := hs
      cases he
      have := eqAg_sim (lo := lo) r ho hop ht h3 h4 h5 (opd_sim r hx' h1).1 (opd_sim r hy' h2).1 hz
      rcases hop with rfl | rfl <;> simpa using this
    · cases hs
  have eqr : ∀ m el ks, (op = .eql ∨ op = .neq) → P.underlying t = some (.array m el) → P.eqGuardType P.depth t = false → keyKs P t = some (true, ks) → io = .eqAg ks (op == .neq) x' y' →
      Sim G lo ρ D H w ((execOp a.eval o).run P w) v H' := by
    rintro m el ks hop ht h4 h5 rfl
    simp only [aop] at hs
    split at hs
    · rename_i u1 u2 h1 h2
      simp only [Option.map_map, Option.map_eq_some_iff] at hs
      obtain ⟨z, hz, he⟩ := hs
      cases he
      have hx := (opd_sim r hx' h1).1
      have hy := (opd_sim r hy' h2).1
      have hq := keyEq_sim (ρ := ρ) (w := w) h5 (u := .ag u1) (v := .ag u2) rfl rfl hz
      simp only [Op.equal, Op.maxDepth] at hq
      refine sim_val r.heap ?_ (by simp [ok])
      rcases hop with rfl | rfl
      · have h3 := run_eql_struct (P := P) w t (renL ρ u1).toArray (renL ρ u2).toArray
        simp only [ren] at hq
        rw [hq] at h3
        simp [execOp, ho, hx, hy, ren, run_eqGuard_agg w .eql t x y _ _ h4, h3]
      · have h3 := run_neq_struct (P := P) w t (renL ρ u1).toArray (renL ρ u2).toArray
        simp only [ren] at hq
        rw [hq] at h3
        simp [execOp, ho, hx, hy, ren, run_eqGuard_agg w .neq t x y _ _ h4, h3]
    · cases hs
  have both : (op = .eql ∨ op = .neq) → (match P.underlying t with
      | some .bool => some (IOp.eqB (op == .neq) x' y')
      | some (.int _) => some (.bin op x' y')
      | some .string => some (.bin op x' y')
      | some (.slice _) => some (.eqNil 0 (op == .neq) x' y')
      | some (.pointer _) => some (.eqNil 1 (op == .neq) x' y')
      | some (.map _ _) => some (.eqNil 2 (op == .neq) x' y')
      | some (.func _ _ _) => some (.eqNil 3 (op == .neq) x' y')
      | some (.interface _) => if isCO y' = true then some (.eqNil 4 (op == .neq) x' y') else none
      | some (.struct fs) => if P.stoodInHeld t = false ∧ P.eqGuardType P.depth t = false then (flatF P fs.toList 0).map fun ks => .eqAg ks (op == .neq) x' y' else none
      | some (.array _ _) => if P.eqGuardType P.depth t = false then match keyKs P t with
          | some (true, ks) => some (.eqAg ks (op == .neq) x' y')
          | _ => none
        else none
      | _ => none) = some io → Sim G lo ρ D H w ((execOp a.eval o).run P w) v H' := by
    intro hop h
    split at h
    · rename_i ht; cases h; exact eqb hop ht rfl
    · cases h; exact bin rfl
    · cases h; exact bin rfl
    · rename_i ht; cases h; exact eqn 0 _ hop ht rfl (fun h => by cases h) rfl
    · rename_i ht; cases h; exact eqn 1 _ hop ht rfl (fun h => by cases h) rfl
    · rename_i ht; cases h; exact eqn 2 _ hop ht rfl (fun h => by cases h) rfl
    · rename_i ht; cases h; exact eqn 3 _ hop ht rfl (fun h => by cases h) rfl
    · rename_i ht
      split at h
      · rename_i hco
        cases h
        refine eqn 4 _ hop ht rfl (fun _ => ?_) rfl
        clear eqn eqb eqa eqr bin hs
        cases y with
        | tmp t => simp only [trOpd, Option.some.injEq] at hy'; subst hy'; simp [isCO] at hco
        | const v => rfl
        | global g =>
          simp only [trOpd] at hy'
          split at hy'
          · cases hy'; simp [isCO] at hco
          · cases hy'
        | func f => simp only [trOpd, Option.some.injEq] at hy'; subst hy'; simp [isCO] at hco
      · cases h
    · rename_i ht
      split at h
      · rename_i hc
        rw [Option.map_eq_some_iff] at h
        obtain ⟨ks, hks, rfl⟩ := h
        exact eqa _ ks hop ht hc.1 hc.2 hks rfl
      · cases h
    · rename_i m el ht
      split at h
      · rename_i hc
        split at h
        · rename_i ks hks
          cases h
          exact eqr m el ks hop ht hc hks rfl
        · cases h
      · cases h
    · cases h
  cases op <;> simp only [trBin] at hio <;> first
    | exact both (.inl rfl) hio
    | exact both (.inr rfl) hio
    | (cases hio; exact bin rfl)

theorem aop_sim (r : Rel P G ds ρ D n e a H w) (hlo : G.next ≤ lo) {o : Oper} {io : IOp} (ho : trOp P o = some io) {v : Option AVal} {H' : AHeap} (hs : aop lo io e H = some (v, H')) :
    Sim G lo ρ D H w ((execOp a.eval o).run P w) v H' := by
  cases hop : o.op <;> simp only [trOp, hop] at ho <;> try (cases ho; done)
  case move x =>
    rw [Option.map_eq_some_iff] at ho
    obtain ⟨x', hx', rfl⟩ := ho
    simp only [aop, Option.map_eq_some_iff] at hs
    obtain ⟨u, hu, he⟩ := hs
    cases he
    exact mov_sim r (.inl hop) (opd_sim r hx' hu).1 (opd_sim r hx' hu).2
  case assign x =>
    rw [Option.map_eq_some_iff] at ho
    obtain ⟨x', hx', rfl⟩ := ho
    simp only [aop, Option.map_eq_some_iff] at hs
    obtain ⟨u, hu, he⟩ := hs
    cases he
    exact mov_sim r (.inr hop) (opd_sim r hx' hu).1 (opd_sim r hx' hu).2
  case pick c x y =>
    split at ho
    · rename_i c' x' y' hc hx hy
      cases ho
      simp only [aop] at hs
      split at hs
      · rename_i hcv
        simp only [Option.map_eq_some_iff] at hs
        obtain ⟨u, hu, he⟩ := hs
        cases he
        exact pick_sim r hop (b := true) (by rw [(opd_sim r hc hcv).1]; rfl) (by simpa using (opd_sim r hx hu).1) (opd_sim r hx hu).2
      · rename_i hcv
        simp only [Option.map_eq_some_iff] at hs
        obtain ⟨u, hu, he⟩ := hs
        cases he
        exact pick_sim r hop (b := false) (by rw [(opd_sim r hc hcv).1]; rfl) (by simpa using (opd_sim r hy hu).1) (opd_sim r hy hu).2
      · cases hs
    · cases ho
  case alloc t =>
    rw [Option.map_eq_some_iff] at ho
    obtain ⟨z, hz, rfl⟩ := ho
    simp only [aop] at hs
    cases hs
    exact alloc_sim r hop hz
  case box t x =>
    rw [Option.map_eq_some_iff] at ho
    obtain ⟨x', hx', rfl⟩ := ho
    simp only [aop] at hs
    split at hs
    · rename_i u hu
      split at hs
      · rename_i ht
        cases hs
        exact box_sim r hop (opd_sim r hx' hu).1 (opd_sim r hx' hu).2 ht
      · cases hs
    · cases hs
  case build t parts =>
    split at ho
    · rename_i pl z hpl hz
      rw [Option.map_eq_some_iff] at ho
      obtain ⟨l', hl', rfl⟩ := ho
      simp only [aop] at hs
      split at hs
      · rename_i ps hps
        simp only [Option.map_map, Option.map_eq_some_iff] at hs
        obtain ⟨cs, hcs, he⟩ := hs
        cases he
        exact build_sim r hop hpl hz hl' hps hcs
      · cases hs
    · cases ho
  case buildSlice t len parts =>
    split at ho
    · rename_i el ht
      split at ho
      · rename_i i z hi hz
        split at ho
        · rename_i hc
          rw [Option.map_eq_some_iff] at ho
          obtain ⟨l', hl', rfl⟩ := ho
          simp only [aop] at hs
          split at hs
          · rename_i ps hps
            split at hs
            · rename_i cs hcs
              cases hs
              exact bsl_sim r hop ht hi hz hc.1 hc.2 hl' hps hcs
            · cases hs
          · cases hs
        · cases ho
      · cases ho
    · cases ho
  case load t x =>
    split at ho
    · rename_i d i x' hd hi hx'
      cases ho
      simp only [aop, Option.map_eq_some_iff, Option.bind_eq_some_iff] at hs
      obtain ⟨u, ⟨p, hp, hl⟩, he⟩ := hs
      cases he
      exact load_sim r hop hd hi (opd_sim r hx' hp).1 (opd_sim r hx' hp).2 hl
    · cases ho
  case store t x y =>
    split at ho
    · rename_i i x' y' hi hx' hy'
      cases ho
      simp only [aop] at hs
      split at hs
      · rename_i p u hp hu
        rw [Option.map_eq_some_iff] at hs
        obtain ⟨H1, h1, he⟩ := hs
        cases he
        exact storeV_sim r hlo hop hi (opd_sim r hx' hp).1 (opd_sim r hx' hp).2 (opd_sim r hy' hu).1 (opd_sim r hy' hu).2 h1
      · cases hs
    · cases ho
  case nilCheck x =>
    rw [Option.map_eq_some_iff] at ho
    obtain ⟨x', hx', rfl⟩ := ho
    simp only [aop] at hs
    split at hs
    · rename_i id off hu
      cases hs
      exact nck_sim r hop (opd_sim r hx' hu).1 (opd_sim r hx' hu).2 (.inl ⟨_, _, rfl⟩)
    · rename_i f p q hu
      cases hs
      exact nck_sim r hop (opd_sim r hx' hu).1 (opd_sim r hx' hu).2 (.inr (.inl ⟨_, _, _, rfl⟩))
    · rename_i t u hu
      cases hs
      exact nck_sim r hop (opd_sim r hx' hu).1 (opd_sim r hx' hu).2 (.inr (.inr ⟨_, _, rfl⟩))
    · rename_i l hu
      have := (opd_sim r hx' hu).2
      simp [ok] at this
    · cases hs
  case binOp op t x y t' =>
    split at ho
    · rename_i x' y' hx' hy'
      exact bin_all r hop hx' hy' ho hs
    · cases ho
  case unOp op t x =>
    rw [Option.map_eq_some_iff] at ho
    obtain ⟨x', hx', rfl⟩ := ho
    simp only [aop, Option.map_eq_some_iff, Option.bind_eq_some_iff] at hs
    obtain ⟨z, ⟨u, hu, hz⟩, he⟩ := hs
    cases he
    exact un_sim r hop (opd_sim r hx' hu).1 hz
  case convert s t x =>
    split at ho
    · rename_i k0 k x' hs0 ht hx'
      cases ho
      simp only [aop] at hs
      split at hs
      · rename_i k' m hu
        cases hs
        exact conv_sim r hop hs0 ht (k' := k') (by rw [(opd_sim r hx' hu).1]; rfl)
      · cases hs
    · rename_i x' hs0 ht hx'
      cases ho
      simp only [aop] at hs
      split at hs
      · rename_i u hu
        cases hs
        exact same_sim r hop hs0 ht (opd_sim r hx' hu).1
      · cases hs
    · rename_i el x' hs0 ht hx'
      split at ho
      · rename_i hel
        cases ho
        simp only [aop] at hs
        split at hs
        · rename_i u hu
          cases hs
          exact s2b_sim r hop hs0 ht hel (opd_sim r hx' hu).1
        · cases hs
      · cases ho
    · cases ho
  case makeInterface t x =>
    split at ho
    · cases ho
    · rename_i d hne ht
      rw [Option.map_eq_some_iff] at ho
      obtain ⟨x', hx', rfl⟩ := ho
      simp only [aop, Option.map_map, Option.map_eq_some_iff] at hs
      obtain ⟨u, hu, he⟩ := hs
      cases he
      exact iface_sim r hop ht (fun ms hms => hne ms hms) (opd_sim r hx' hu).1 (opd_sim r hx' hu).2
    · cases ho
  case makeFunc fn x y =>
    cases fn <;> simp only at ho <;> try (cases ho; done)
    case func f =>
      split at ho
      · rename_i x' y' hx' hy'
        cases ho
        simp only [aop] at hs
        split at hs
        · rename_i u v' hu hv
          cases hs
          exact mkf_sim r hop (opds_sim r hx' hu).1 (opds_sim r hx' hu).2 (opds_sim r hy' hv).1 (opds_sim r hy' hv).2
        · cases hs
      · cases ho
  case makeSlice t l c =>
    split at ho
    · rename_i el ht
      split at ho
      · rename_i i z l' c' hi hz hl' hc'
        split at ho
        · rename_i hzl
          cases ho
          simp only [aop] at hs
          split at hs
          · rename_i k1 n1 k2 n2 hn hm
            split at hs
            · rename_i hc
              cases hs
              exact mksl_sim r hop ht hi hz hzl (k := k1) (k' := k2) (by rw [(opd_sim r hl' hn).1]; rfl) (by rw [(opd_sim r hc' hm).1]; rfl) hc.1 hc.2.1 hc.2.2.1 hc.2.2.2
            · cases hs
          · cases hs
        · cases ho
      · cases ho
    · cases ho
  case slice t x l h m =>
    split at ho
    · rename_i ht
      split at ho
      · rename_i x' l' h' hx' hl' hh'
        cases ho
        simp only [aop] at hs
        split at hs
        · rename_i u l1 h1 hu hl1 hh1
          simp only [Option.map_eq_some_iff] at hs
          obtain ⟨z, hz, he⟩ := hs
          cases he
          exact slS_sim r hop ht (opd_sim r hx' hu).1 (opt_sim r hl' hl1) (opt_sim r hh' hh1) hz
        · cases hs
      · cases ho
    · rename_i el ht
      split at ho
      · rename_i i x' l' h' m' hi hx' hl' hh' hm'
        cases ho
        simp only [aop] at hs
        split at hs
        · rename_i u l1 h1 m1 hu hl1 hh1 hm1
          rw [Option.map_eq_some_iff] at hs
          obtain ⟨⟨z, H1⟩, hz, he⟩ := hs
          cases he
          exact sl_sim r hop ht hi (opd_sim r hx' hu).1 (opd_sim r hx' hu).2 (opt_sim r hl' hl1) (opt_sim r hh' hh1) (opt_sim r hm' hm1) hz
        · cases hs
      · cases ho
    · cases ho
  case fieldAddr s x j =>
    split at ho
    · rename_i fs hfs
      split at ho
      · rename_i f hf
        split at ho
        · rename_i i x' hi hx'
          split at ho
          · rename_i hsz
            cases ho
            simp only [aop, Option.map_eq_some_iff, Option.bind_eq_some_iff] at hs
            obtain ⟨z, ⟨u, hu, hz⟩, he⟩ := hs
            cases he
            exact off_sim r hop hfs hf hi hsz (opd_sim r hx' hu).1 (opd_sim r hx' hu).2 hz
          · cases ho
        · cases ho
      · cases ho
    · cases ho
  case field s x j =>
    split at ho
    · rename_i fs hfs
      split at ho
      · rename_i f hf
        split at ho
        · rename_i d i x' hd hi hx'
          cases ho
          simp only [aop, Option.map_eq_some_iff, Option.bind_eq_some_iff] at hs
          obtain ⟨z, ⟨u, hu, hz⟩, he⟩ := hs
          cases he
          exact part_sim r hop hfs hf hd hi (opd_sim r hx' hu).1 (opd_sim r hx' hu).2 hz
        · cases ho
      · cases ho
    · cases ho
  case indexAddr t x y =>
    split at ho
    · rename_i el ht
      split at ho
      · rename_i i x' y' hi hx' hy'
        cases ho
        simp only [aop] at hs
        split at hs
        · rename_i u v' hu hv
          simp only [Option.map_eq_some_iff] at hs
          obtain ⟨z, hz, he⟩ := hs
          cases he
          exact iaddr_sim r hop ht hi (opd_sim r hx' hu).1 (opd_sim r hx' hu).2 (opd_sim r hy' hv).1 hz
        · cases hs
      · cases ho
    · rename_i len el ht
      split at ho
      · rename_i i x' y' hi hx' hy'
        cases ho
        simp only [aop] at hs
        split at hs
        · rename_i u v' hu hv
          simp only [Option.map_eq_some_iff] at hs
          obtain ⟨z, hz, he⟩ := hs
          cases he
          exact iaddrA_sim r hop ht hi (opd_sim r hx' hu).1 (opd_sim r hx' hu).2 (opd_sim r hy' hv).1 hz
        · cases hs
      · cases ho
    · cases ho
  case index t x y =>
    split at ho
    · rename_i ht
      split at ho
      · rename_i x' y' hx' hy'
        cases ho
        simp only [aop] at hs
        split at hs
        · rename_i u v' hu hv
          simp only [Option.map_eq_some_iff] at hs
          obtain ⟨z, hz, he⟩ := hs
          cases he
          exact idxS_sim r hop ht (opd_sim r hx' hu).1 (opd_sim r hy' hv).1 hz
        · cases hs
      · cases ho
    · rename_i len el ht
      split at ho
      · rename_i d i x' y' hd hi hx' hy'
        cases ho
        simp only [aop] at hs
        split at hs
        · rename_i u v' hu hv
          simp only [Option.map_eq_some_iff] at hs
          obtain ⟨z, hz, he⟩ := hs
          cases he
          exact idxA_sim r hop ht hd hi (opd_sim r hx' hu).1 (opd_sim r hx' hu).2 (opd_sim r hy' hv).1 hz
        · cases hs
      · cases ho
    · cases ho
  case extract x k =>
    rw [Option.map_eq_some_iff] at ho
    obtain ⟨x', hx', rfl⟩ := ho
    simp only [aop, Option.map_eq_some_iff, Option.bind_eq_some_iff] at hs
    obtain ⟨z, ⟨u, hu, hz⟩, he⟩ := hs
    cases he
    exact ext_sim r hop (opd_sim r hx' hu).1 (opd_sim r hx' hu).2 hz
  case makeMap t hint =>
    cases hint with
    | some _ => cases ho
    | none =>
      cases ho
      simp only [aop] at hs
      cases hs
      exact mkmap_sim r hop
  case mapUpdate t x y z =>
    split at ho
    · rename_i kt el ht
      split at ho
      · rename_i ag ks x' y' z' hk hx' hy' hz'
        cases ho
        simp only [aop] at hs
        split at hs
        · rename_i m k u hm hkv hu
          rw [Option.map_eq_some_iff] at hs
          obtain ⟨H1, h1, he⟩ := hs
          cases he
          exact mapup_sim r hlo (.inl hop) ht hk (opd_sim r hx' hm).1 (opd_sim r hx' hm).2 (opd_sim r hy' hkv).1 (opd_sim r hy' hkv).2 (opd_sim r hz' hu).1 (opd_sim r hz' hu).2 h1
        · cases hs
      · cases ho
    · cases ho
  case insert t x y z =>
    split at ho
    · rename_i kt el ht
      split at ho
      · rename_i ag ks x' y' z' hk hx' hy' hz'
        cases ho
        simp only [aop] at hs
        split at hs
        · rename_i m k u hm hkv hu
          rw [Option.map_eq_some_iff] at hs
          obtain ⟨H1, h1, he⟩ := hs
          cases he
          exact mapup_sim r hlo (.inr hop) ht hk (opd_sim r hx' hm).1 (opd_sim r hx' hm).2 (opd_sim r hy' hkv).1 (opd_sim r hy' hkv).2 (opd_sim r hz' hu).1 (opd_sim r hz' hu).2 h1
        · cases hs
      · cases ho
    · cases ho
  case lookup t x y okf =>
    split at ho
    · rename_i kt el ht
      split at ho
      · rename_i ag ks z x' y' hk hz hx' hy'
        cases ho
        simp only [aop] at hs
        split at hs
        · rename_i m k hm hkv
          simp only [Option.map_eq_some_iff] at hs
          obtain ⟨u, hu, he⟩ := hs
          cases he
          exact look_sim r hop ht hk hz (opd_sim r hx' hm).1 (opd_sim r hx' hm).2 (opd_sim r hy' hkv).1 hu
        · cases hs
      · cases ho
    · cases ho
  case call c =>
    unfold trBi at ho
    split at ho
    · -- len
      rename_i x t
      have fin : ∀ (k : Nat) (d : TypeDesc) (x' : Opd), P.underlying t = some d → lenD k d = true → trOpd P x = some x' → io = .lenk k x' → Sim G lo ρ D H w ((execOp a.eval o).run P w) v H' := by
        rintro k d x' hd hk hx' rfl
        simp only [aop, Option.map_map, Option.map_eq_some_iff, Option.bind_eq_some_iff] at hs
        obtain ⟨m, ⟨u, hu, hm⟩, he⟩ := hs
        cases he
        exact len_sim r hop hd (opd_sim r hx' hu).1 (opd_sim r hx' hu).2 hk hm
      split at ho
      · rename_i hd hx'; cases ho; exact fin 0 _ _ hd rfl hx' rfl
      · rename_i hd hx'; cases ho; exact fin 1 _ _ hd rfl hx' rfl
      · rename_i hd hx'; cases ho; exact fin 2 _ _ hd rfl hx' rfl
      · cases ho
    · -- append
      rename_i x y t t2
      split at ho
      · rename_i el d2 ht ht2
        split at ho
        · rename_i i z x' y' hi hz hx' hy'
          split at ho
          · rename_i hc
            split at ho
            · rename_i hsl
              cases ho
              simp only [aop] at hs
              split at hs
              · rename_i u v' hu hv
                rw [Option.map_eq_some_iff] at hs
                obtain ⟨⟨res, H1⟩, hr, he⟩ := hs
                cases he
                refine app_sim r hlo hop ht ht2 ?_ hi hz hc (opd_sim r hx' hu).1 (opd_sim r hx' hu).2 (opd_sim r hy' hv).1 (opd_sim r hy' hv).2 hr
                cases d2 <;> simp_all [strSl]
              · cases hs
            · split at ho
              · rename_i hint
                cases ho
                simp only [aop] at hs
                split at hs
                · rename_i u k' k hu hv
                  rw [Option.map_eq_some_iff] at hs
                  obtain ⟨⟨res, H1⟩, hr, he⟩ := hs
                  cases he
                  obtain ⟨kk, rfl⟩ : ∃ kk, d2 = .int kk := by cases d2 <;> simp_all [isIntD]
                  exact appz_sim r hlo hop ht ht2 hi hz (opd_sim r hx' hu).1 (opd_sim r hx' hu).2 (by rw [(opd_sim r hy' hv).1]; rfl) hr
                · cases hs
              · cases ho
          · cases ho
        · cases ho
      · cases ho
    · -- copy
      rename_i x y t t2
      split at ho
      · rename_i el ht
        split at ho
        · rename_i i x' y' hi hx' hy'
          cases ho
          simp only [aop] at hs
          split at hs
          · rename_i u v' hu hv
            rw [Option.map_eq_some_iff] at hs
            obtain ⟨⟨res, H1⟩, hr, he⟩ := hs
            cases he
            exact cpy_sim r hlo hop ht hi (opd_sim r hx' hu).1 (opd_sim r hx' hu).2 (opd_sim r hy' hv).1 (opd_sim r hy' hv).2 hr
          · cases hs
        · cases ho
      · cases ho
    · -- max
      rename_i x l ts'
      split at ho
      · rename_i x' l' hx' hl'
        cases ho
        simp only [aop] at hs
        split at hs
        · rename_i u us hu hus
          simp only [Option.map_eq_some_iff] at hs
          obtain ⟨z, hz, he⟩ := hs
          cases he
          exact mm_sim r (mx := true) hop (opd_sim r hx' hu).1 (opd_sim r hx' hu).2 (opds_sim r hl' hus).1 (opds_sim r hl' hus).2 hz
        · cases hs
      · cases ho
    · -- min
      rename_i x l ts'
      split at ho
      · rename_i x' l' hx' hl'
        cases ho
        simp only [aop] at hs
        split at hs
        · rename_i u us hu hus
          simp only [Option.map_eq_some_iff] at hs
          obtain ⟨z, hz, he⟩ := hs
          cases he
          exact mm_sim r (mx := false) hop (opd_sim r hx' hu).1 (opd_sim r hx' hu).2 (opds_sim r hl' hus).1 (opds_sim r hl' hus).2 hz
        · cases hs
      · cases ho
    · cases ho

end
end Go.RI

/- RI, part O: code, functions, the interpreter; how the machine's code is turned. Conditions: none. -/
namespace Go.RI
open Go

/-- An operation in its place. 're': what was loaded ahead of it and must still read so. -/
structure Item where
  dst : Option Nat
  op : IOp
  guard : Option (Nat × Bool)
  re : List (Nat × IOp × Option (Nat × Bool))

inductive ICode where
  | skip
  | region (items : List Item) (kill : List Nat)
  | seq (a b : ICode)
  | cond (c : Opd) (a b : ICode)
  | block (id : Nat) (b : ICode)
  | loop (b : ICode)
  | exit (id : Nat)
  | ret

inductive IRes where
  | t (n : Nat)
  | c (n : Nat) (agg : Option Nat)

/-- 'mode': 0: it may turn the heap; 1: it turns nothing that was there; else it is pure: it is handed what its arguments read, in a heap of its own, and what it hands back is written by nobody any more (not at this level: see part T). -/
structure IFunc where
  body : ICode
  nt : Nat
  np : Nat
  res : List IRes
  mode : Nat

inductive AExit where
  | normal
  | exit (id : Nat)
  | ret

def AExit.conc : AExit → Exit
  | .normal => .normal
  | .exit id => .exit id
  | .ret => .ret

/-! ### Are two values the same, to the sign? -/
mutual
def same : AVal → AVal → Bool
  | .b v, .b v' => v == v'
  | .i k n, .i k' n' => k == k' && n == n'
  | .s v, .s v' => v == v'
  | .np, .np => true
  | .p id off, .p id' off' => id == id' && off == off'
  | .ns, .ns => true
  | .sl id off len cap, .sl id' off' len' cap' => id == id' && off == off' && len == len' && cap == cap'
  | .fn f a c, .fn f' a' c' => decide (f = f') && sameL a a' && sameL c c'
  | .nf, .nf => true
  | .ag l, .ag l' => sameL l l'
  | .tu l, .tu l' => sameL l l'
  | .nm, .nm => true
  | .m id, .m id' => id == id'
  | .ifc t v, .ifc t' v' => t == t' && same v v'
  | .nif, .nif => true
  | .es a, .es a' => decide (a = a')
  | _, _ => false
def sameL : List AVal → List AVal → Bool
  | [], [] => true
  | v :: l, v' :: l' => same v v' && sameL l l'
  | _, _ => false
end

mutual
theorem same_eq : ∀ (u v : AVal), same u v = true → u = v := by
  intro u v h
  cases u <;> cases v <;> simp only [same] at h <;> try (cases h; done)
  case b.b => simp at h; rw [h]
  case i.i => simp at h; rw [h.1, h.2]
  case s.s => simp at h; rw [h]
  case np.np => rfl
  case p.p => simp at h; rw [h.1, h.2]
  case ns.ns => rfl
  case sl.sl => simp at h; rw [h.1.1.1, h.1.1.2, h.1.2, h.2]
  case fn.fn => simp at h; rw [h.1.1, sameL_eq _ _ h.1.2, sameL_eq _ _ h.2]
  case nf.nf => rfl
  case ag.ag => rw [sameL_eq _ _ h]
  case tu.tu => rw [sameL_eq _ _ h]
  case nm.nm => rfl
  case m.m => simp at h; rw [h]
  case ifc.ifc => simp at h; rw [h.1, same_eq _ _ h.2]
  case nif.nif => rfl
  case es.es => rw [of_decide_eq_true h]
theorem sameL_eq : ∀ (u v : List AVal), sameL u v = true → u = v := by
  intro u v h
  cases u with
  | nil => cases v with
    | nil => rfl
    | cons _ _ => simp [sameL] at h
  | cons x u => cases v with
    | nil => simp [sameL] at h
    | cons y v => simp only [sameL, Bool.and_eq_true] at h; rw [same_eq _ _ h.1, sameL_eq _ _ h.2]
end

/-! ### What a pure call is handed, and what it hands back -/
def mapO (f : AVal → Option AVal) : List AVal → Option (List AVal)
  | [] => some []
  | v :: l => match f v with
    | some u => match mapO f l with
      | some us => some (u :: us)
      | none => none
    | none => none

noncomputable def rowO (H : AHeap) (id off len : Nat) : Option (List AVal) :=
  match H.get id with
  | some (.cells c esz _) => if off + len * esz ≤ c.length then some ((c.drop off).take (len * esz)) else none
  | _ => none

def capOk (len : Nat) : Option Nat → Bool
  | some m => decide (len ≤ m)
  | none => true

/-- A value as a pure call sees it: by what it reads. -/
noncomputable def snapV (H : AHeap) : Nat → AVal → Option AVal
  | 0, _ => none
  | n + 1, v => match v with
    | .p id off => match H.get id with
      | some (.cells c _ _) => if off ≤ c.length then (mapO (snapV H n) (c.drop off)).map .fp else none
      | _ => none
    | .ns | .es _ => some (.fs false false 0 [])
    | .sl id off len cap => if len = 0 then some (.fs false false 0 []) else if capOk len cap then match rowO H id off len with
        | some l => (mapO (snapV H n) l).map (.fs true false len)
        | none => none
      else none
    | .fn f a c => match mapO (snapV H n) a with
      | some a => match mapO (snapV H n) c with
        | some c => some (.fn f a c)
        | none => none
      | none => none
    | .ag l => (mapO (snapV H n) l).map .ag
    | .tu l => (mapO (snapV H n) l).map .tu
    | .m _ => none
    | .ifc t v => (snapV H n v).map (.ifc t)
    | .fs tmp _ len l => some (.fs tmp false len l)
    | v => some v

/-- What a pure call hands back: its own rows, from now on written by nobody. -/
noncomputable def frzV (H : AHeap) (g : Nat) : Nat → AVal → Option AVal
  | 0, _ => none
  | n + 1, v => match v with
    | .p _ _ => none
    | .fp _ => none
    | .ns | .es _ => some (.fs false false 0 [])
    | .sl id off len cap => if len = 0 then some (.fs false false 0 []) else if g ≤ id ∧ capOk len cap = true then match rowO H id off len with
        | some l => (mapO (frzV H g n) l).map (.fs false false len)
        | none => none
      else none
    | .fn f a c => match mapO (frzV H g n) a with
      | some a => match mapO (frzV H g n) c with
        | some c => some (.fn f a c)
        | none => none
      | none => none
    | .ag l => (mapO (frzV H g n) l).map .ag
    | .tu l => (mapO (frzV H g n) l).map .tu
    | .m _ => none
    | .ifc t v => (frzV H g n v).map (.ifc t)
    | .fs tmp _ len l => if tmp then none else some (.fs false false len l)
    | v => some v

/-- The code of slices.Clone. -/
def cloneCode (esz bytes : Nat) : ICode :=
  .seq (.region [⟨some 2, .mov (.c .ns), none, []⟩] [])
    (.seq (.seq (.region [⟨some 3, .mov (.t 0), none, []⟩, ⟨some 4, .eqNil 0 false (.t 3) (.c .ns), none, []⟩] [])
        (.cond (.t 4) (.seq (.region [⟨some 2, .mov (.c .ns), none, []⟩] []) .ret) .skip))
      (.seq (.region [⟨some 5, .bsl esz 0 [] [], none, []⟩, ⟨some 6, .mov (.t 0), none, []⟩, ⟨some 7, .app esz bytes (.t 5) (.t 6), none, []⟩, ⟨some 2, .mov (.t 7), none, []⟩] []) .ret))
def cloneOf : ICode → Option (Nat × Nat)
  | .seq _ (.seq _ (.seq (.region [_, _, ⟨_, .app esz bytes _ _, _, _⟩, _] _) _)) => some (esz, bytes)
  | _ => none
def isSl : AVal → Bool
  | .ns | .es _ | .sl _ _ _ _ | .fs _ _ _ _ => true
  | _ => false
/-- What it makes. -/
noncomputable def cloneV (H : AHeap) (esz bytes : Nat) (x : AVal) : Option (AVal × AHeap) :=
  match isSl x, moreV H esz x with
  | true, some (0, _) => some (.fs false true 0 [], H)
  | true, some (n + 1, cells) => if cells.length = (n + 1) * esz ∧ 0 < esz ∧ 0 < bytes ∧ (2 * (n + 1) + 192) * bytes ≤ 281474976710656 then some (.sl H.next 0 (n + 1) none, H.push (.cells cells esz false)) else none
  | _, _ => none
/-- Where a byte stands first. -/
def idxL (c : UInt8) : List UInt8 → Int → Int
  | [], _ => -1
  | b :: l, i => if b == c then i else idxL c l (i + 1)
/-- internal/bytealg.IndexByteString, which has no body. -/
def idxB (args : List AVal) : Option AVal :=
  match args with
  | [.s x, .i .u8 c] => some (.i .i64 (idxL c.toNat.toUInt8 x 0))
  | _ => none
def isSkip : ICode → Bool
  | .skip => true
  | _ => false
noncomputable def cloneB (c : ICode) (args : List AVal) (H : AHeap) : Option (AVal × AHeap) :=
  match isSkip c with
  | true => (idxB args).map fun v => (v, H)
  | false => match cloneOf c, args with
    | some (esz, bytes), [x] => cloneV H esz bytes x
    | _, _ => none

mutual
/-- It names nothing from 'n' on. -/
def below (n : Nat) : AVal → Bool
  | .p id _ => decide (id < n)
  | .sl id _ _ _ => decide (id < n)
  | .m id => decide (id < n)
  | .fn _ a c => belowL n a && belowL n c
  | .ag l => belowL n l
  | .tu l => belowL n l
  | .ifc _ v => below n v
  | _ => true
def belowL (n : Nat) : List AVal → Bool
  | [] => true
  | v :: l => below n v && belowL n l
end

/-! ### The interpreter -/
def putD (e : Env) : Option Nat → AVal → Env
  | none, _ => e
  | some t, v => e.put t v

def wantedI (e : Env) : Option (Nat × Bool) → Option Bool
  | none => some true
  | some (t, want) => match e.get t with
    | some (.b b) => some (b == want)
    | some _ => some false
    | none => none

/-- One heap holds what the other one holds, and perhaps more behind it. -/
structure Ext (H H' : AHeap) : Prop where
  next : H.next ≤ H'.next
  get : ∀ id, id < H.next → H'.get id = H.get id

theorem Ext.refl (H : AHeap) : Ext H H := ⟨Nat.le_refl _, fun _ _ => rfl⟩
theorem Ext.trans {H H1 H2 : AHeap} (a : Ext H H1) (b : Ext H1 H2) : Ext H H2 := ⟨Nat.le_trans a.next b.next, fun id h => (b.get id (Nat.lt_of_lt_of_le h a.next)).trans (a.get id h)⟩
theorem Ext.push (H : AHeap) (o : AObj) : Ext H (H.push o) := ⟨by rw [AHeap.next_push]; omega, fun id h => by rw [AHeap.get_push, if_neg (by omega)]⟩

/-- What calls come to; which ones turn nothing that was there. -/
structure CallI where
  call : FuncId → List AVal → AHeap → Option (AVal × AHeap)
  pure : FuncId → Bool
instance : CoeFun CallI fun _ => FuncId → List AVal → AHeap → Option (AVal × AHeap) := ⟨CallI.call⟩

def pureV (call : CallI) : Option AVal → Bool
  | some (.fn (.func f) _ _) => call.pure f
  | _ => false
def skipI (call : CallI) (e : Env) : IOp → Bool
  | .call f _ => call.pure f
  | .callv x _ => pureV call (x.eval e)
  | _ => false

/-- Which method: by the type that the interface value holds. -/
def tblGet : List (Nat × FuncId) → Nat → Option FuncId
  | [], _ => none
  | (t, f) :: l, k => if t = k then some f else tblGet l k

noncomputable def opI (call : CallI) (lo : Nat) (o : IOp) (e : Env) (H : AHeap) : Option (Option AVal × AHeap) :=
  match o with
  | .call f args => match evals e args with
    | some vs => match call f vs H with
      | some (v, H') => some (some v, H')
      | none => none
    | none => none
  | .callv x args => match x.eval e with
    | some (.fn (.func f) fst cap) => match evals e args with
      | some vs => match call f (fst ++ vs ++ cap) H with
        | some (v, H') => some (some v, H')
        | none => none
      | none => none
    | _ => none
  | .inv x tbl args => match x.eval e with
    | some (.ifc t v) => match tblGet tbl t, evals e args with
      | some f, some vs => match call f (v :: vs) H with
        | some (v, H') => some (some v, H')
        | none => none
      | _, _ => none
    | _ => none
  | o => aop lo o e H

noncomputable def itemI (call : CallI) (lo : Nat) (x : Item) (e : Env) (H : AHeap) : Option (Env × AHeap) :=
  match wantedI e x.guard with
  | none => none
  | some false => some (putD e x.dst (.tu []), H)
  | some true => match opI call lo x.op e H with
    | some (some v, H') => some (putD e x.dst v, H')
    | some (none, H') => some (putD e x.dst (.tu []), H')
    | none => none

/-- A load that brings the same ahead of an act (that sets 'dst') and behind it. -/
noncomputable def ldE (o : IOp) (dst : Option Nat) (e : Env) (H H' : AHeap) : Bool := match o with
  | .load n (.t s) => !(dst == some s) && (match e.get s with
    | some (.fp l) => (loadV H n (.fp l)).isSome
    | some p => (match loadV H n p, loadV H' n p with
      | some v, some v' => same v v'
      | _, _ => false)
    | none => false)
  | _ => false
/-- What was loaded ahead (of an act that sets 'dst') still reads so behind it. -/
noncomputable def reOk (lo : Nat) (dst : Option Nat) (e : Env) (H : AHeap) (e' : Env) (H' : AHeap) : List (Nat × IOp × Option (Nat × Bool)) → Bool
  | [] => true
  | (t, o, g) :: l => (match wantedI e' g with
    | some false => true
    | some true => (dynE o e' || (match e'.get t, aop lo o e' H' with
      | some v, some (some v', _) => same v v'
      | _, _ => false)) || ldE o dst e H H'
    | none => false) && reOk lo dst e H e' H' l

/-- Rows that an append may touch. -/
def touchV : AVal → Option (List Nat)
  | .ns => some []
  | .es _ => some []
  | .sl id _ _ none => some [id]
  | .sl id _ len (some c) => if c ≤ len then some [] else some [id]
  | .fs _ true _ _ => some []
  | _ => none
def touch (e : Env) : IOp → Option (List Nat)
  | .app _ _ x _ => match x.eval e with
    | some v => touchV v
    | none => none
  | .store _ x _ => match x.eval e with
    | some (.p id _) => some [id]
    | _ => none
  | _ => none
def keepL (fp : Bool) (ids : List Nat) (e' : Env) : List (Nat × IOp × Option (Nat × Bool)) → Bool
  | [] => true
  | (_, o, _) :: l => (match o with
    | .load _ b => match b.eval e' with
      | some (.p id _) => !ids.contains id
      | some (.fp _) => fp
      | _ => false
    | _ => false) && keepL fp ids e' l
def wrO : Option AObj → Bool
  | some o => o.wr
  | none => false
def isSt : IOp → Bool
  | .store _ _ _ => true
  | _ => false
/-- What was loaded ahead lies elsewhere than what is touched. -/
noncomputable def keepI (H : AHeap) (o : IOp) (re : List (Nat × IOp × Option (Nat × Bool))) (e e' : Env) : Bool := match touch e o with
  | some ids => keepL (isSt o && ids.all fun i => wrO (H.get i)) ids e' re
  | none => false

noncomputable def itemsI (call : CallI) (lo : Nat) : List Item → Env → AHeap → Option (Env × AHeap)
  | [], e, H => some (e, H)
  | x :: l, e, H => match itemI call lo x e H with
    | some (e', H') => if skipI call e x.op || (keepI H' x.op x.re e e' || reOk lo x.dst e H e' H' x.re) then itemsI call lo l e' H' else none
    | none => none

def initEnv : Nat → List AVal → Env
  | _, [] => []
  | k, v :: l => (k, v) :: initEnv (k + 1) l

noncomputable def resI (e : Env) (H : AHeap) : List IRes → Option (List AVal)
  | [] => some []
  | .t n :: l => match e.get n, resI e H l with
    | some v, some vs => some (v :: vs)
    | _, _ => none
  | .c n k :: l => match e.get n with
    | some p => match loadV H k p, resI e H l with
      | some v, some vs => some (v :: vs)
      | _, _ => none
    | none => none

def tupI : List AVal → AVal
  | [v] => v
  | l => .tu l

noncomputable def bodyI (ex : Nat → ICode → Env → AHeap → Option (AExit × Env × AHeap)) (fn : IFunc) (lo : Nat) (args : List AVal) (H : AHeap) : Option (AVal × AHeap) :=
  if args.length = fn.np then
    match ex lo fn.body (initEnv 0 args) H with
    | some (.exit _, _, _) => none
    | some (_, e, H') => match resI e H' fn.res with
      | some vs => some (tupI vs, H')
      | none => none
    | none => none
  else none

noncomputable def callB (ex : Nat → ICode → Env → AHeap → Option (AExit × Env × AHeap)) (IP : FuncId → Option IFunc) (G : AHeap) (lo : Nat) (f : FuncId) (args : List AVal) (H : AHeap) : Option (AVal × AHeap) :=
  match IP f with
  | none => none
  | some fn =>
    match fn.mode with
    | 0 => bodyI ex fn lo args H
    | 1 => bodyI ex fn H.next args H
    | 2 => match mapO (snapV H 16) args with
      | some args' => match bodyI ex fn G.next args' G with
        | some (v, H1) => match frzV H1 G.next 16 v with
          | some v' => some (v', H)
          | none => none
        | none => none
      | none => none
    | 3 => match bodyI ex fn H.next args H with
      | some (v, _) => if below H.next v then some (v, H) else none
      | none => none
    | _ => cloneB fn.body args H

def pureB (IP : FuncId → Option IFunc) (f : FuncId) : Bool := match IP f with
  | some fn => match fn.mode with
    | 0 => false
    | _ => true
  | none => false

noncomputable def callI (ex : Nat → ICode → Env → AHeap → Option (AExit × Env × AHeap)) (IP : FuncId → Option IFunc) (G : AHeap) (lo : Nat) : CallI := ⟨callB ex IP G lo, pureB IP⟩

noncomputable def exec (IP : FuncId → Option IFunc) (G : AHeap) : Nat → Nat → ICode → Env → AHeap → Option (AExit × Env × AHeap)
  | 0, _, _, _, _ => none
  | f + 1, lo, c, e, H =>
    match c with
    | .skip => some (.normal, e, H)
    | .region items kill => match itemsI (callI (exec IP G f) IP G lo) lo items e H with
      | some (e', H') => some (.normal, e'.kill kill, H')
      | none => none
    | .seq a b => match exec IP G f lo a e H with
      | some (.normal, e', H') => exec IP G f lo b e' H'
      | r => r
    | .cond x a b => match x.eval e with
      | some (.b true) => exec IP G f lo a e H
      | some (.b false) => exec IP G f lo b e H
      | _ => none
    | .block id b => match exec IP G f lo b e H with
      | some (.exit id', e', H') => if id' = id then some (.normal, e', H') else some (.exit id', e', H')
      | r => r
    | .loop b => match exec IP G f lo b e H with
      | some (.normal, e', H') => exec IP G f lo (.loop b) e' H'
      | r => r
    | .exit id => some (.exit id, e, H)
    | .ret => some (.ret, e, H)

/-- A call, with so much fuel. -/
noncomputable def acall (IP : FuncId → Option IFunc) (G : AHeap) (f : Nat) (lo : Nat) : CallI := callI (exec IP G f) IP G lo

/-! ### The machine's code, turned -/
/-- A method that a type has outright: of the value, or of the pointer. -/
def mOf (P : Program) (name : String) (t : TypeId) : Option FuncId :=
  match P.info? t, P.underlying t with
  | some i, some d => match i.methods.find? (·.name == name) with
    | some m => match m.path.toList, m.func, d with
      | [], some (f, true), .pointer _ => some f
      | [], some (_, false), .pointer _ => none
      | [], some (f, false), _ => some f
      | _, _, _ => none
    | none => none
  | _, _ => none
def mTbl (P : Program) (name : String) : List (Nat × FuncId) := (List.range P.types.size).filterMap fun t => (mOf P name t).map fun f => (t, f)

theorem mTbl_get {P : Program} {name : String} {t : Nat} {f : FuncId} (h : tblGet (mTbl P name) t = some f) : mOf P name t = some f := by
  have : ∀ l : List Nat, tblGet (l.filterMap fun t => (mOf P name t).map fun f => (t, f)) t = some f → mOf P name t = some f := by
    intro l
    induction l with
    | nil => intro h; cases h
    | cons k l ih =>
      intro h
      rw [List.filterMap_cons] at h
      cases hm : mOf P name k with
      | none => rw [hm] at h; exact ih h
      | some g =>
        rw [hm] at h
        simp only [Option.map_some, tblGet] at h
        split at h
        · rename_i hk; cases h; rw [← hk]; exact hm
        · exact ih h
  exact this _ h

def trCall (P : Program) (c : Call) : Option IOp :=
  match c.callee with
  | .value (.func f) => (trOpds P c.args.toList).map (.call f)
  | .value x => match trOpd P x, trOpds P c.args.toList with
    | some x, some l => some (.callv x l)
    | _, _ => none
  | .invoke x m => match trOpd P x, trOpds P c.args.toList with
    | some x, some l => some (.inv x (mTbl P m) l)
    | _, _ => none
  | _ => none

def IOp.isC : IOp → Bool
  | .call _ _ | .callv _ _ | .inv _ _ _ => true
  | _ => false

/-- As an operation stands in a region that leaves an order open. -/
def IOp.quiet : IOp → IOp
  | .sl esz x lo hi mx => .slq esz x lo hi mx
  | o => o

def trOpC (P : Program) (o : Oper) : Option IOp :=
  match trOp P o with
  | some io => if io.isC = false then some io else none
  | none => match o.op with
    | .call c => match trCall P c with
      | some io => some io
      | none => some .bad
    | _ => some .bad

def trGuard (ops : Array Oper) : Option (Nat × Bool) → Option (Option (Nat × Bool))
  | none => some none
  | some (j, want) => match (ops[j]?).bind (·.dst) with
    | some t => some (some (t, want))
    | none => none

def dstOk (nt : Nat) : Option Nat → Bool
  | none => true
  | some t => decide (t < nt)

def trItem (P : Program) (nt : Nat) (ops : Array Oper) (o : Oper) : Option Item :=
  match trOpC P o, trGuard ops o.guard with
  | some io, some g => if dstOk nt o.dst then some { dst := o.dst, op := io, guard := g, re := [] } else none
  | _, _ => none

def trItems (P : Program) (nt : Nat) (ops : Array Oper) : List Oper → Option (List Item)
  | [] => some []
  | o :: l => match trItem P nt ops o, trItems P nt ops l with
    | some x, some xs => some (x :: xs)
    | _, _ => none

end Go.RI

/- RI, part P: a place in a region: a call, a guard; a region that leaves no order open. Conditions: none. -/
namespace Go.RI
open Go
set_option linter.unusedSimpArgs false
set_option linter.unusedVariables false
set_option linter.unusedSectionVars false

/-- The wide fence, in a round of that record's, if there is one. -/
def FR (R : Option Nat) : Fence := { Fence.wide with round := R }
/-- What is translated is no defer statement. -/
theorem trOpC_nd {P : Program} {o : Oper} {io : IOp} (h : trOpC P o = some io) (hb : io ≠ .bad) : ∀ c, o.op ≠ .defer c := by
  intro c hc
  unfold trOpC trOp at h
  rw [hc] at h
  simp at h
  exact hb h.symm

/-- It is a function of the program's, with a body. -/
def HasBody (P : Program) (g : FuncId) : Prop := ∃ fn, P.funcs[g]? = some fn ∧ fn.body.isSome = true ∧ (fn.name == "runtime.NumGoroutine") = false
/-- The interpreter's calls are the machine's. -/
structure CallOK (P : Program) (G : AHeap) (lo : Nat) (call : CallI) : Prop where
  body : ∀ g args H r, call g args H = some r → HasBody P g ∨ ∃ n, r = (.i .i64 n, H) ∧ ∀ ρ w, (callFunc g (renL ρ args).toArray).run P w = .ok (.value (.int .i64 n)) w
  calls : ∀ g args H r H', call g args H = some (r, H') → HasBody P g → ∀ ρ D w, HRel G ρ D H w → okL ρ D args →
    Calls P g (renL ρ args).toArray w (fun e w' => ∃ ρ' D', e = .returned (ren ρ' r) ∧ Step lo ρ D H w ρ' D' H' w' ∧ HRel G ρ' D' H' w' ∧ ok ρ' D' r ∧ (call.pure g = true → Ext H H'))

section
variable {ds : List Deferred} {P : Program} {G : AHeap} {lo : Nat} {ρ : Ren} {D : Nat → Prop} {n : Nat} {e : Env} {a : Act} {H : AHeap} {w : World} {R : Option Nat} {m : Nat}

theorem run_callFunc {g : FuncId} {fn : Func} (hf : P.funcs[g]? = some fn) (hb : fn.body.isSome = true) (hn : (fn.name == "runtime.NumGoroutine") = false) (args : Array Value) : (callFunc g args).run P w = .ok (.enter g args) w := by
  obtain ⟨c, hc⟩ := Option.isSome_iff_exists.1 hb
  simp only [callFunc, Sem.run_bind, run_program, Result.andThen_ok, hf, hc]
  simp [hn]

/-- What comes of a call in the machine. -/
theorem upon_call {call : CallI} (hc : CallOK P G lo call) (r : Rel P G ds ρ D n e a H w) {o : Oper} {g : FuncId} {args : List AVal} {res : AVal} {H' : AHeap} (hcall : call g args H = some (res, H')) (hok : okL ρ D args) (hd : ∀ c, o.op ≠ .defer c)
    (hrun : (execOp a.eval o).run P w = (callFunc g (renL ρ args).toArray).run P w) {next : Act → World → Prop} {Q : Exit → Act → World → Prop}
    (h : ∀ ρ' D' w', Step lo ρ D H w ρ' D' H' w' → HRel G ρ' D' H' w' → ok ρ' D' res → (call.pure g = true → Ext H H') → next (a.put o.dst (ren ρ' res)) w') : o.wpIn (FR R) m P a w next Q := by
  rcases hc.body g args H _ hcall with ⟨fn, hf, hb, hn⟩ | ⟨n, hr, hx⟩
  · refine ⟨fun _ _ => trivial, ?_⟩
    rw [Oper.semAt_eq _ _ _ hd, hrun, run_callFunc hf hb hn, Oper.uponIn_enter]
    refine ⟨fun h => by simp [FR, Fence.wide] at h, ?_⟩
    have hcc : CallsIn (FR R) (m - 1) P g (renL ρ args).toArray w _ := callsIn_wide.2 (hc.calls g args H res H' hcall ⟨fn, hf, hb, hn⟩ ρ D w r.heap hok)
    refine hcc.mono ?_
    rintro en w' ⟨ρ', D', rfl, h1, h2, h3, h4⟩
    exact h ρ' D' w' h1 h2 h3 h4
  · cases hr
    refine ⟨fun _ _ => trivial, ?_⟩
    rw [Oper.semAt_eq _ _ _ hd, hrun, hx]
    exact h ρ D w (Step.refl lo ρ D H w r.heap.lt) r.heap (by simp [ok]) (fun _ => Ext.refl H)

theorem run_method {name : String} {t : TypeId} {f : FuncId} (h : mOf P name t = some f) (V : Value) (k : Nat) : (method (k + 1) t V name).run P w = .ok (f, V) w := by
  unfold mOf at h
  split at h
  · rename_i i d hi hd
    split at h
    · rename_i mm hm
      split at h
      · rename_i g el hp hf
        cases h
        simp [method, run_typeInfo' hi, hm, hp, follow, hf, receiverAt, run_underlying hd, Place.get]
      · cases h
      · rename_i hp hf hno2
        cases h
        have hne := hno2
        revert hne hd
        rename_i d _ _ _
        cases d <;> intro hd hne <;> first
          | (exfalso; exact hne _ rfl)
          | (simp [method, run_typeInfo' hi, hm, hp, follow, hf, receiverAt, run_underlying hd, Place.get]; done)
      · cases h
    · cases h
  · cases h

theorem opC_sim {call : CallI} (hc : CallOK P G lo call) (r : Rel P G ds ρ D n e a H w) (hlo : G.next ≤ lo) {o : Oper} {io : IOp} (ho : trOpC P o = some io) {v : Option AVal} {H' : AHeap} (hs : opI call lo io e H = some (v, H'))
    {next : Act → World → Prop} {Q : Exit → Act → World → Prop}
    (h : ∀ ρ' D' w', Step lo ρ D H w ρ' D' H' w' → HRel G ρ' D' H' w' → ok ρ' D' (v.getD (.tu [])) → (skipI call e io = true → Ext H H') → next (a.put o.dst (ren ρ' (v.getD (.tu [])))) w') : o.wpIn (FR R) m P a w next Q := by
  have hd := trOpC_nd ho (by rintro rfl; simp [opI, aop] at hs)
  have plain : skipI call e io = false → trOp P o = some io → aop lo io e H = some (v, H') → o.wpIn (FR R) m P a w next Q := by
    intro h0 h1 h2
    obtain ⟨ρ', D', w', hrun, hst, hrel, hok⟩ := aop_sim r hlo h1 h2
    refine ⟨fun _ _ => trivial, ?_⟩
    rw [Oper.semAt_eq _ _ _ hd, hrun]
    cases v with
    | none => exact h ρ' D' w' hst hrel (by simp [ok, okL]) (fun h => by rw [h0] at h; cases h)
    | some u => exact h ρ' D' w' hst hrel (hok u rfl) (fun h => by rw [h0] at h; cases h)
  unfold trOpC at ho
  split at ho
  · rename_i io' hio
    split at ho
    · rename_i hisc
      cases ho
      refine plain (by cases io <;> first | rfl | (simp [IOp.isC] at hisc)) hio ?_
      cases io <;> simp only [opI] at hs <;> first
        | exact hs
        | (simp [IOp.isC] at hisc)
    · cases ho
  · split at ho
    · rename_i hnone c hop
      have bad : some IOp.bad = some io → o.wpIn (FR R) m P a w next Q := fun h => by cases h; simp [opI, aop] at hs
      split at ho
      case h_2 => exact bad ho
      rename_i io0 hio0
      simp only [Option.some.injEq] at ho; subst ho
      replace ho := hio0
      unfold trCall at ho
      split at ho
      · rename_i f hcal
        rw [Option.map_eq_some_iff] at ho
        obtain ⟨l, hl, rfl⟩ := ho
        simp only [opI] at hs
        split at hs
        · rename_i vs hvs
          split at hs
          · rename_i res H1 hcall
            cases hs
            obtain ⟨h1, h2⟩ := opds_sim r hl hvs
            refine upon_call hc r hcall h2 hd ?_ (fun ρ' D' w' => by simpa [skipI] using h ρ' D' w')
            have harr : c.args.map a.eval = (renL ρ vs).toArray := by apply Array.ext'; rw [Array.toList_map, h1]
            simp [execOp, hop, resolve, hcal, Act.eval, Deferred.ofValue, invoke, harr]
          · cases hs
        · cases hs
      · rename_i x hne hcal
        split at ho
        · rename_i x' l hx hl
          cases ho
          simp only [opI] at hs
          split at hs
          · rename_i f fst cap hv
            split at hs
            · rename_i vs hvs
              split at hs
              · rename_i res H1 hcall
                cases hs
                obtain ⟨h1, h2⟩ := opds_sim r hl hvs
                obtain ⟨h3, h4⟩ := opd_sim r hx hv
                simp only [ok] at h4
                refine upon_call hc r hcall (okL_append (okL_append h4.1 h2) h4.2) hd ?_ (fun ρ' D' w' h1 h2 h3 hp => by simpa using h ρ' D' w' h1 h2 h3 (fun h => hp (by simpa [skipI, hv, pureV] using h)))
                have harr : c.args.map a.eval = (renL ρ vs).toArray := by apply Array.ext'; rw [Array.toList_map, h1]
                simp [execOp, hop, resolve, hcal, h3, ren, Deferred.ofValue, invoke, harr, renL_map]
              · cases hs
            · cases hs
          · cases hs
        · cases ho
      · rename_i x nm hcal
        split at ho
        · rename_i x' l hx hl
          cases ho
          simp only [opI] at hs
          split at hs
          · rename_i t v0 hv
            split at hs
            · rename_i f vs hf hvs
              split at hs
              · rename_i res H1 hcall
                cases hs
                obtain ⟨h1, h2⟩ := opds_sim r hl hvs
                obtain ⟨h3, h4⟩ := opd_sim r hx hv
                simp only [ok] at h4
                refine upon_call hc r hcall ⟨h4, h2⟩ hd ?_ (fun ρ' D' w' h1 h2 h3 _ => by simpa using h ρ' D' w' h1 h2 h3 (fun h => by simp [skipI] at h))
                have harr : c.args.map a.eval = (renL ρ vs).toArray := by apply Array.ext'; rw [Array.toList_map, h1]
                have hm := run_method (P := P) (w := w) (mTbl_get hf) (ren ρ v0) (P.types.size + 99)
                have hm' : (method (P.types.size + Made.depth) t (ren ρ v0) nm).run P w = .ok (f, ren ρ v0) w := hm
                simp [execOp, hop, resolve, hcal, h3, ren, invoke, harr, callMethod, hm', renL]
              · cases hs
            · cases hs
          · cases hs
        · cases ho
      · cases ho
    · cases ho; simp [opI, aop] at hs


/-! ### Guards -/
theorem guard_sim (r : ARel ds ρ D n e a) {ops : Array Oper} {o : Oper} {g : Option (Nat × Bool)} (hg : trGuard ops o.guard = some g) {b : Bool} (hw : wantedI e g = some b) : Region.wanted o (yielded ops a.tmps) = b := by
  unfold Region.wanted
  cases hog : o.guard with
  | none =>
    rw [hog] at hg
    simp only [trGuard, Option.some.injEq] at hg; subst hg
    simp only [wantedI, Option.some.injEq] at hw
    exact hw
  | some x =>
    obtain ⟨j, want⟩ := x
    rw [hog] at hg
    simp only [trGuard] at hg
    split at hg
    · rename_i t ht
      simp only [Option.some.injEq] at hg; subst hg
      simp only [wantedI] at hw
      have key : ∀ v, e.get t = some v → a.tmps[t]? = some (ren ρ v) := by
        intro v hv
        obtain ⟨h1, h2, _⟩ := r.get t v hv
        have hlt : t < a.tmps.size := by rw [r.size]; exact h1
        rw [Array.getElem?_eq_getElem hlt]
        simp only [Array.getD, hlt, dif_pos] at h2
        exact congrArg some h2
      split at hw
      · rename_i b' hv
        cases hw
        have := key _ hv
        simp only [yielded, ht, Option.bind_some, this, ren]
        cases b' <;> cases want <;> rfl
      · rename_i v hnb hv
        cases hw
        have := key _ hv
        simp only [yielded, ht, Option.bind_some, this]
        cases v <;> first
          | (simp [ren]; done)
          | (exact (hnb _ rfl).elim)
      · cases hw
    · cases hg

theorem put_sim (r : ARel ds ρ D n e a) {dst : Option Nat} (hd : dstOk n dst = true) {v : AVal} (hv : ok ρ D v) : ARel ds ρ D n (putD e dst v) (a.put dst (ren ρ v)) := by
  cases dst with
  | none => exact r
  | some t => exact r.put (by simpa [dstOk] using hd) hv

/-! ### A region that leaves no order open -/
theorem items_sim {call : CallI} (hc : CallOK P G lo call) (hlo : G.next ≤ lo) {ops : Array Oper} {Q : Exit → Act → World → Prop} : ∀ (os : List Oper) (k : Nat) (xs : List Item), (∀ j o, os[j]? = some o → ops[k + j]? = some o) →
    trItems P n ops os = some xs → ∀ (ρ : Ren) (D : Nat → Prop) (e : Env) (a : Act) (H : AHeap) (w : World) (e' : Env) (H' : AHeap), Rel P G ds ρ D n e a H w → itemsI call lo xs e H = some (e', H') →
    (∀ ρ' D' a' w', Step lo ρ D H w ρ' D' H' w' → HRel G ρ' D' H' w' → ARel ds ρ' D' n e' a' → Q .normal a' w') → wpOpsIn (FR R) m P ops Q (List.range' k os.length) a w := by
  intro os
  induction os with
  | nil =>
    intro k xs _ hx ρ D e a H w e' H' r hs h
    simp only [trItems, Option.some.injEq] at hx; subst hx
    simp only [itemsI, Option.some.injEq, Prod.mk.injEq] at hs
    obtain ⟨rfl, rfl⟩ := hs
    simp only [List.length_nil, List.range'_zero, wpOpsIn]
    exact h ρ D a w (Step.refl lo ρ D H w r.heap.lt) r.heap r.slots
  | cons o os ih =>
    intro k xs hal hx ρ D e a H w e' H' r hs h
    simp only [trItems] at hx
    split at hx
    · rename_i x xs' hxi hxs
      cases hx
      unfold trItem at hxi
      split at hxi
      · rename_i io g hio hg
        split at hxi
        · rename_i hdst
          cases hxi
          simp only [itemsI] at hs
          split at hs
          · rename_i e1 H1 hitem
            simp only [reOk, Bool.or_true, if_true] at hs
            have hok : ops[k]? = some o := by have := hal 0 o rfl; simpa using this
            have hal' : ∀ j o', os[j]? = some o' → ops[k + 1 + j]? = some o' := fun j o' hj => by
              have := hal (j + 1) o' (by simpa using hj)
              rw [← this]; congr 1; omega
            simp only [List.length_cons, List.range'_succ, wpOpsIn, hok]
            simp only [itemI] at hitem
            split at hitem
            · cases hitem
            · rename_i hw
              cases hitem
              rw [guard_sim r.slots hg hw]
              simp only [Bool.false_eq_true, if_false]
              have r1 : ARel ds ρ D n (putD e o.dst (.tu [])) (a.put o.dst undef) := put_sim r.slots hdst (v := .tu []) (by simp [ok, okL])
              exact ⟨fun _ _ => trivial, ih (k + 1) xs' hal' hxs ρ D _ _ H w e' H' ⟨r.gsize, r.gok, r.heap, r1⟩ hs h⟩
            · rename_i hw
              rw [guard_sim r.slots hg hw]
              simp only [if_true]
              have fin : ∀ (v : Option AVal), opI call lo io e H = some (v, H1) → e1 = putD e o.dst (v.getD (.tu [])) → o.wpIn (FR R) m P a w (wpOpsIn (FR R) m P ops Q (List.range' (k + 1) os.length)) Q := by
                intro v hop he1
                refine opC_sim hc r hlo hio hop ?_
                intro ρ' D' w' hst hrel hvok _
                have r1 : ARel ds ρ' D' n e1 (a.put o.dst (ren ρ' (v.getD (.tu [])))) := by rw [he1]; exact put_sim (r.slots.step hst) hdst hvok
                exact ih (k + 1) xs' hal' hxs ρ' D' e1 _ H1 w' e' H' ⟨r.gsize, r.gok, hrel, r1⟩ hs
                  (fun ρ2 D2 a2 w2 hst2 hrel2 har2 => h ρ2 D2 a2 w2 (hst.trans hst2) hrel2 har2)
              split at hitem
              · rename_i v H2 hop
                cases hitem
                exact fin (some v) hop rfl
              · rename_i H2 hop
                cases hitem
                exact fin none hop rfl
              · cases hitem
          · cases hs
        · cases hxi
      · cases hxi
    · cases hx

end
end Go.RI

/- RI, part Q: what an operation reads; what kinds of them there are; new rows told apart. Conditions: none. -/
namespace Go.RI
open Go

/-! ### What an operation reads -/
def Opd.reads : Opd → List Nat
  | .t n => [n]
  | _ => []
def readsL : List Opd → List Nat
  | [] => []
  | x :: l => x.reads ++ readsL l
def readsP : List (Nat × Nat × Opd) → List Nat
  | [] => []
  | (_, _, x) :: l => x.reads ++ readsP l
def readsO : Option Opd → List Nat
  | none => []
  | some x => x.reads

def IOp.reads : IOp → List Nat
  | .mov x | .un _ x | .conv _ x | .same x | .box x | .load _ x | .nck x | .off x _ | .part _ x _ | .ext x _ | .lenk _ x | .iface _ x | .s2b x => x.reads
  | .pick c a b => c.reads ++ (a.reads ++ b.reads)
  | .bin _ x y | .eqB _ x y | .eqNil _ _ x y | .eqAg _ _ x y | .look _ _ _ _ x y | .cpy _ x y | .store _ x y | .iaddr _ x y | .iaddrA _ _ x y | .idxS x y | .idxA _ _ _ x y | .mksl _ _ _ x y | .app _ _ x y | .appz _ _ _ x y => x.reads ++ y.reads
  | .alloc _ | .bad | .mkmap => []
  | .mapup _ _ x k v => x.reads ++ (k.reads ++ v.reads)
  | .build _ ps | .bsl _ _ _ ps => readsP ps
  | .mkf _ a c => readsL a ++ readsL c
  | .slS x lo hi => x.reads ++ (readsO lo ++ readsO hi)
  | .sl _ x lo hi mx | .slq _ x lo hi mx => x.reads ++ (readsO lo ++ (readsO hi ++ readsO mx))
  | .mm _ x l => x.reads ++ readsL l
  | .call _ l => readsL l
  | .callv x l | .inv x _ l => x.reads ++ readsL l

def Agree (us : List Nat) (e e' : Env) : Prop := ∀ u ∈ us, e.get u = e'.get u

theorem Agree.l {us vs : List Nat} {e e' : Env} (h : Agree (us ++ vs) e e') : Agree us e e' := fun u hu => h u (List.mem_append_left _ hu)
theorem Agree.r {us vs : List Nat} {e e' : Env} (h : Agree (us ++ vs) e e') : Agree vs e e' := fun u hu => h u (List.mem_append_right _ hu)

theorem eval_congr {x : Opd} {e e' : Env} (h : Agree x.reads e e') : x.eval e = x.eval e' := by
  cases x <;> simp only [Opd.eval]
  exact h _ (by simp [Opd.reads])

theorem evals_congr {e e' : Env} : ∀ {l : List Opd}, Agree (readsL l) e e' → evals e l = evals e' l
  | [], _ => rfl
  | x :: l, h => by simp only [evals, eval_congr (x := x) h.l, evals_congr (l := l) h.r]

theorem evalParts_congr {e e' : Env} : ∀ {l : List (Nat × Nat × Opd)}, Agree (readsP l) e e' → evalParts e l = evalParts e' l
  | [], _ => rfl
  | (_, _, x) :: l, h => by simp only [evalParts, eval_congr (x := x) h.l, evalParts_congr (l := l) h.r]

theorem optI_congr {e e' : Env} {x : Option Opd} (h : Agree (readsO x) e e') : optI e x = optI e' x := by
  cases x with
  | none => rfl
  | some x => simp only [optI, eval_congr (x := x) h]

theorem aop_congr {lo : Nat} {o : IOp} {e e' : Env} (H : AHeap) (h : Agree o.reads e e') : aop lo o e H = aop lo o e' H := by
  cases o <;> simp only [IOp.reads] at h <;> simp only [aop]
  case mov x => rw [eval_congr h]
  case pick c a b => rw [eval_congr h.l, eval_congr h.r.l, eval_congr h.r.r]
  case bin op x y => rw [eval_congr h.l, eval_congr h.r]
  case eqB n x y => rw [eval_congr h.l, eval_congr h.r]
  case eqNil k n x y => rw [eval_congr h.l, eval_congr h.r]
  case eqAg k n x y => rw [eval_congr h.l, eval_congr h.r]
  case un op x => rw [eval_congr h]
  case conv k x => rw [eval_congr h]
  case same x => rw [eval_congr h]
  case box x => rw [eval_congr h]
  case build z ps => rw [evalParts_congr h]
  case bsl a b z ps => rw [evalParts_congr h]
  case load n x => rw [eval_congr h]
  case store n x y => rw [eval_congr h.l, eval_congr h.r]
  case nck x => rw [eval_congr h]
  case off x k => rw [eval_congr h]
  case part n x k => rw [eval_congr h]
  case iaddr s x y => rw [eval_congr h.l, eval_congr h.r]
  case iaddrA s l x y => rw [eval_congr h.l, eval_congr h.r]
  case idxS x y => rw [eval_congr h.l, eval_congr h.r]
  case idxA n s l x y => rw [eval_congr h.l, eval_congr h.r]
  case ext x k => rw [eval_congr h]
  case mkf f a c => rw [evals_congr h.l, evals_congr h.r]
  case mksl s b z x y => rw [eval_congr h.l, eval_congr h.r]
  case slS x lo hi => rw [eval_congr h.l, optI_congr h.r.l, optI_congr h.r.r]
  case sl s x lo hi mx => rw [eval_congr h.l, optI_congr h.r.l, optI_congr h.r.r.l, optI_congr h.r.r.r]
  case slq s x lo hi mx => rw [eval_congr h.l, optI_congr h.r.l, optI_congr h.r.r.l, optI_congr h.r.r.r]
  case lenk k x => rw [eval_congr h]
  case app s b x y => rw [eval_congr h.l, eval_congr h.r]
  case mm b x l => rw [eval_congr h.l, evals_congr h.r]
  case iface t x => rw [eval_congr h]
  case s2b x => rw [eval_congr h]
  case mapup ag ks x k v => rw [eval_congr h.l, eval_congr h.r.l, eval_congr h.r.r]
  case look ag ks z okf x k => rw [eval_congr h.l, eval_congr h.r]
  case cpy s x y => rw [eval_congr h.l, eval_congr h.r]
  case appz s b z x y => rw [eval_congr h.l, eval_congr h.r]

theorem dynE_congr {o : IOp} {e e' : Env} (h : Agree o.reads e e') : dynE o e = dynE o e' := by
  cases o <;> simp only [IOp.reads] at h <;> simp only [dynE]
  case slq s x lo hi mx => rw [eval_congr h.l, optI_congr h.r.l, optI_congr h.r.r.l, optI_congr h.r.r.r]

theorem opI_congr {call : CallI} {lo : Nat} {o : IOp} {e e' : Env} (H : AHeap) (h : Agree o.reads e e') : opI call lo o e H = opI call lo o e' H := by
  cases o <;> simp only [opI] <;> first
    | exact aop_congr H h
    | (simp only [IOp.reads] at h; rw [evals_congr h])
    | (simp only [IOp.reads] at h; rw [eval_congr h.l, evals_congr h.r])

theorem skipI_congr {call : CallI} {o : IOp} {e e' : Env} (h : Agree o.reads e e') : skipI call e o = skipI call e' o := by
  cases o <;> simp only [skipI]
  simp only [IOp.reads] at h
  rw [eval_congr h.l]

/-! ### Kinds of operations -/
/-- It turns what was there, or calls. -/
def IOp.act : IOp → Bool
  | .store .. | .app .. | .call .. | .callv .. | .sl .. | .s2b .. | .bad | .mkmap | .mapup .. | .cpy .. | .appz .. | .inv .. => true
  | _ => false
/-- It looks into the heap. -/
def IOp.looks : IOp → Bool
  | .load .. | .slq .. | .lenk .. | .look .. => true
  | _ => false
/-- It makes a row. -/
def IOp.makes : IOp → Bool
  | .alloc .. | .box .. | .bsl .. | .mksl .. => true
  | _ => false

/-- An operation that neither looks nor makes nor acts hangs on no heap. -/
theorem aop_still {lo : Nat} {o : IOp} {e : Env} {H : AHeap} {v : Option AVal} {H' : AHeap} (h1 : o.act = false) (h2 : o.looks = false) (h3 : o.makes = false) (h : aop lo o e H = some (v, H')) :
    H' = H ∧ (∃ u, v = some u) ∧ ∀ H2, aop lo o e H2 = some (v, H2) := by
  cases o <;> simp only [IOp.act, IOp.looks, IOp.makes] at h1 h2 h3 <;> (try (cases h1; done)) <;> (try (cases h2; done)) <;> (try (cases h3; done)) <;> simp only [aop] at h ⊢
  all_goals first
    | (rw [Option.map_eq_some_iff] at h; obtain ⟨u, hu, he⟩ := h; cases he; exact ⟨rfl, ⟨u, rfl⟩, fun H2 => by rw [hu]; rfl⟩)
    | (split at h
       all_goals first
         | (cases h; done)
         | (rw [Option.map_eq_some_iff] at h; obtain ⟨u, hu, he⟩ := h; cases he; refine ⟨rfl, ⟨u, rfl⟩, fun H2 => ?_⟩; simp_all; done)
         | (simp only [Option.map_some, Option.some.injEq, Prod.mk.injEq] at h; obtain ⟨rfl, rfl⟩ := h; refine ⟨rfl, ⟨_, rfl⟩, fun H2 => ?_⟩; simp_all; done))
    | cases h

end Go.RI

/- RI, part R: rows that are made early or late; what is looked at stays. Conditions: none. -/
namespace Go.RI
open Go

/-- A new row, told apart from the interpreter's heap. -/
def Made (ρ : Ren) (D : Nat → Prop) (H : AHeap) (w : World) (run : Result Next) (v : Option AVal) (H' : AHeap) : Prop :=
  ∃ (c : List AVal) (esz : Nat) (u : AVal) (C : Array Value) (el : TypeId) (w' : World), v = some u ∧ H' = H.push (.cells c esz false) ∧
    run = .ok (.value (ren (upd ρ H.next ⟨w.heap.size, 0, C.size, esz⟩) u)) w' ∧ w'.heap = w.heap.push (.cells C el) ∧ w'.os = w.os ∧ w'.tape = w.tape ∧ w'.output = w.output ∧
    c.length ≤ C.size ∧ (∀ (j : Nat) v, c[j]? = some v → C[j]? = some (ren ρ v)) ∧ okL ρ D c ∧ oneL c = true ∧ (u = .p H.next 0 ∨ ∃ len cap, u = .sl H.next 0 len (some cap))

section
variable {ds : List Deferred} {P : Program} {G : AHeap} {lo : Nat} {ρ : Ren} {D : Nat → Prop} {n : Nat} {e : Env} {a : Act} {H H1 : AHeap} {w : World}

theorem trBin_makes {op : BinOp} {t : TypeId} {x y : Opd} {io : IOp} (h : trBin P op t x y = some io) : io.makes = false := by
  unfold trBin at h
  revert h
  repeat' split
  all_goals (intro h; first | (cases h; done) | (cases h; rfl) | (rw [Option.map_eq_some_iff] at h; obtain ⟨_, _, rfl⟩ := h; rfl))
theorem trBi_makes {c : Call} {io : IOp} (h : trBi P c = some io) : io.makes = false := by
  unfold trBi at h
  revert h
  repeat' split
  all_goals (intro h; first | (cases h; done) | (cases h; rfl))

theorem makes_sim (r : Rel P G ds ρ D n e a H1 w) {o : Oper} {io : IOp} (ho : trOp P o = some io) (hm : io.makes = true) {v : Option AVal} {H' : AHeap} (hs : aop lo io e H = some (v, H')) :
    Made ρ D H w ((execOp a.eval o).run P w) v H' := by
  cases hop : o.op <;> simp only [trOp, hop] at ho <;> try (cases ho; done)
  case alloc t =>
    rw [Option.map_eq_some_iff] at ho
    obtain ⟨z, hz, rfl⟩ := ho
    simp only [aop] at hs
    cases hs
    obtain ⟨i, v, _, _, hrun, hcells, hid, hone⟩ := zeroC_run hz
    refine ⟨z, 1, _, v.cells, t, { w with heap := w.heap.push (.cells v.cells t) }, rfl, rfl, ?_, rfl, rfl, rfl, rfl, by rw [hcells ρ]; simp [renL_length], fun j u hu => by rw [hcells ρ]; simp [renL_get, hu], noIdL_ok ρ D z hid, hone, .inl rfl⟩
    simp [execOp, hop, Instr.alloc, hrun, run_newVar, ren, upd_same]
  case box t x =>
    rw [Option.map_eq_some_iff] at ho
    obtain ⟨x', hx', rfl⟩ := ho
    simp only [aop] at hs
    split at hs
    · rename_i u hu
      split at hs
      · rename_i ht
        cases hs
        obtain ⟨h1, h2⟩ := opd_sim r hx' hu
        have hc := ren_cells ρ u
        refine ⟨u.cells, 1, _, (ren ρ u).cells, t, { w with heap := w.heap.push (.cells (ren ρ u).cells t) }, rfl, rfl, ?_, rfl, rfl, rfl, rfl, by rw [hc]; simp [renL_length], fun j u hu => by rw [hc]; simp [renL_get, hu], cells_ok h2, cells_one h2 ht, .inl rfl⟩
        simp [execOp, hop, Instr.box, h1, run_newVar, ren, upd_same]
      · cases hs
    · cases hs
  case buildSlice t len parts =>
    split at ho
    · rename_i el ht
      split at ho
      · rename_i i z hi hz
        split at ho
        · rename_i hc
          rw [Option.map_eq_some_iff] at ho
          obtain ⟨l', hl', rfl⟩ := ho
          simp only [aop] at hs
          split at hs
          · rename_i ps hps
            split at hs
            · rename_i cs hcs
              cases hs
              obtain ⟨i', v, hi', hzero, _, hcells, hid, hone⟩ := zeroC_run hz
              obtain rfl : i = i' := by rw [hi] at hi'; exact Option.some.inj hi'
              obtain ⟨hok0, hone0⟩ := repCells_ok (ρ := ρ) (D := D) z len hid hone
              obtain ⟨f1, f2, f3, f4⟩ := fill_sim r hl' hps hcs hok0 hone0
              have hrun : (Instr.buildSlice t len (parts.map fun (x : Nat × Operand) => (x.1, a.eval x.2))).run P w = .ok (.slice (some ⟨w.heap.size, 0, none⟩) len len) { w with heap := w.heap.push (.cells (renL ρ cs).toArray el) } := by
                have hsm : ¬ len * i.size > 2 ^ 24 := by have := hc.2; simp; omega
                by_cases h0 : len * i.size = 0
                · have hre : repCells z len = [] := List.eq_nil_of_length_eq_zero (by rw [repCells_length, hc.1]; exact h0)
                  rw [hre] at f1
                  simp only [renL] at f1
                  have hr0 : (Array.range 0).map (fun (_ : Nat) => (default : Value)) = #[] := by simp
                  simp [Instr.buildSlice, run_underlying ht, sizeOf, typeInfo, hi, h0, newRow, hr0, f1]
                · have hfill : Instr.fill (fun j => some (j * i.size, i.size)) ((Array.range (len * i.size)).map (v.cells[· % v.cells.size]!)) (parts.map fun (x : Nat × Operand) => (x.1, a.eval x.2)).toList = some (renL ρ cs).toArray := by
                    rw [zeros_eq ρ z i.size len hc.1 v.cells (hcells ρ), Array.toList_map]; exact f1
                  exact run_buildSlice w t el len _ _ i v ht hi hzero hsm h0 hfill
              refine ⟨cs, i.size, _, (renL ρ cs).toArray, el, { w with heap := w.heap.push (.cells (renL ρ cs).toArray el) }, rfl, rfl, ?_, rfl, rfl, rfl, rfl, by simp [renL_length], fun j u hu => by simp [renL_get, hu], f2, f3, .inr ⟨len, len, rfl⟩⟩
              simp [execOp, hop, hrun, ren, upd_same]
            · cases hs
          · cases hs
        · cases ho
      · cases ho
    · cases ho
  case makeSlice t l c =>
    split at ho
    · rename_i el ht
      split at ho
      · rename_i i z l' c' hi hz hl' hc'
        split at ho
        · rename_i hzl
          cases ho
          simp only [aop] at hs
          split at hs
          · rename_i k1 n1 k2 n2 hn hm'
            split at hs
            · rename_i hc
              cases hs
              obtain ⟨i', v, hi', hzero, _, hcells, hid, hone⟩ := zeroC_run hz
              obtain rfl : i = i' := by rw [hi] at hi'; exact Option.some.inj hi'
              obtain ⟨hok0, hone0⟩ := repCells_ok (ρ := ρ) (D := D) z n2.toNat hid hone
              have hrun := makeSlice_run (P := P) (w := w) (ρ := ρ) (k := k1) (k' := k2) ht hi hz hzl hc.1 hc.2.1 hc.2.2.1 hc.2.2.2
              refine ⟨repCells z n2.toNat, i.size, _, (renL ρ (repCells z n2.toNat)).toArray, el, { w with heap := w.heap.push (.cells (renL ρ (repCells z n2.toNat)).toArray el) }, rfl, rfl, ?_, rfl, rfl, rfl, rfl, by simp [renL_length], fun j u hu => by simp [renL_get, hu], hok0, hone0, .inr ⟨n1.toNat, n2.toNat, rfl⟩⟩
              have e1 : a.eval l = .int k1 n1 := by rw [(opd_sim r hl' hn).1]; rfl
              have e2 : a.eval c = .int k2 n2 := by rw [(opd_sim r hc' hm').1]; rfl
              simp [execOp, hop, e1, e2, hrun, ren, upd_same]
            · cases hs
          · cases hs
        · cases ho
      · cases ho
    · cases ho
  case binOp op t x y t' =>
    exfalso
    split at ho
    · rw [trBin_makes ho] at hm; cases hm
    · cases ho
  case call c =>
    exfalso
    rw [trBi_makes ho] at hm; cases hm
  case makeMap t hint =>
    exfalso
    cases hint with
    | some _ => cases ho
    | none => cases ho; simp [IOp.makes] at hm
  case makeFunc fn x y =>
    exfalso
    cases fn <;> simp only at ho <;> try (cases ho; done)
    split at ho
    · cases ho; simp [IOp.makes] at hm
    · cases ho
  all_goals
    exfalso
    revert ho hm
    repeat' split
    all_goals (intro hm ho; first | (cases ho; done) | (cases ho; simp [IOp.makes] at hm; done) | (simp only [Option.map_eq_some_iff] at ho; obtain ⟨_, _, rfl⟩ := ho; simp [IOp.makes] at hm; done))


/-- A new row that the interpreter's heap holds already. -/
theorem ghost_sim {G : AHeap} {ρ : Ren} {D : Nat → Prop} {A : AHeap} {w w' : World} (h : HRel G ρ D A w) {id : Nat} (hid : ¬ D id) (hlt : id < A.next) (hG : G.next ≤ id)
    {c : List AVal} {esz : Nat} (hg : A.get id = some (.cells c esz false)) {C : Array Value} {el : TypeId} (hw : w'.heap = w.heap.push (.cells C el)) (hC : c.length ≤ C.size)
    (hget : ∀ (j : Nat) v, c[j]? = some v → C[j]? = some (ren ρ v)) (hok : okL ρ D c) (hone : oneL c = true) :
    HRel G (upd ρ id ⟨w.heap.size, 0, C.size, esz⟩) (ins D id) A w' := by
  have hold : ∀ j, D j → ins D id j ∧ upd ρ id ⟨w.heap.size, 0, C.size, esz⟩ j = ρ j := fun j hd =>
    ⟨.inr hd, upd_other _ _ (fun e => hid (e ▸ hd))⟩
  have hblk : ∀ k, k < w.heap.size → w'.heap[k]? = w.heap[k]? := fun k hk => by rw [hw, Array.getElem?_push, if_neg (by omega)]
  exact {
    lt := fun j hd => by
      rcases hd with rfl | hd
      · exact hlt
      · exact h.lt j hd
    cells := fun j c' esz' ro hd hj => by
      by_cases hji : j = id
      · subst hji
        rw [hg] at hj
        obtain ⟨rfl, rfl, rfl⟩ : c = c' ∧ esz = esz' ∧ false = ro := by simpa using hj
        rw [upd_same]
        refine ⟨rfl, hC, ⟨C, el, (0, 0), ?_, ?_, ?_, ?_⟩, okL_mono hold c hok, hone⟩
        · rw [hw]; simp
        · simp
        · intro k v hv
          rw [ren_congr (fun i hd => (hold i hd).2) v (okL_get hok hv)]
          simpa using hget k v hv
        · intro _ o _ _; simp
      · have hd' : D j := hd.resolve_left hji
        rw [upd_other _ _ hji]
        exact (h.cells j c' esz' ro hd' hj).move hold (hblk _ (h.blk_lt hd' hj))
    maps := fun j es hd hj => by
      by_cases hji : j = id
      · subst hji; rw [hg] at hj; simp at hj
      · have hd' : D j := hd.resolve_left hji
        rw [upd_other _ _ hji]
        exact (h.maps j es hd' hj).move hold (hblk _ (h.blk_lt hd' hj))
    apart := fun i j o o' hdi hdj hne hi hj hwr => by
      by_cases hii : i = id
      · have hji : j ≠ id := fun e => hne (hii.trans e.symm)
        subst hii
        rw [upd_same, upd_other _ _ hji]
        have := h.blk_lt (hdj.resolve_left hji) hj
        simp only; omega
      · by_cases hji : j = id
        · subst hji
          rw [upd_same, upd_other _ _ hii]
          have := h.blk_lt (hdi.resolve_left hii) hi
          simp only; omega
        · rw [upd_other _ _ hii, upd_other _ _ hji]
          exact h.apart i j o o' (hdi.resolve_left hii) (hdj.resolve_left hji) hne hi hj hwr
    glob := fun g hgl => by
      obtain ⟨h1, h2, h3, h4⟩ := h.glob g hgl
      have hne : g ≠ id := by omega
      exact ⟨.inr h1, by rw [upd_other _ _ hne]; exact h2, by rw [upd_other _ _ hne]; exact h3, h4⟩
    gnext := h.gnext
    wf := h.wf }

/-- More in the interpreter's heap that the machine has not made yet. -/
theorem heapExt_sim {G : AHeap} {ρ : Ren} {D : Nat → Prop} {H H2 : AHeap} {w : World} (h : HRel G ρ D H w) (x : Ext H H2) (hw2 : Wf H2) : HRel G ρ D H2 w where
  lt := fun id hd => Nat.lt_of_lt_of_le (h.lt id hd) x.next
  cells := fun id c esz ro hd hg => h.cells id c esz ro hd (by rw [← x.get id (h.lt id hd)]; exact hg)
  maps := fun id es hd hg => h.maps id es hd (by rw [← x.get id (h.lt id hd)]; exact hg)
  apart := fun i j o o' hdi hdj hne hi hj hwr => h.apart i j o o' hdi hdj hne (by rw [← x.get i (h.lt i hdi)]; exact hi) (by rw [← x.get j (h.lt j hdj)]; exact hj) hwr
  glob := fun g hg => by
    obtain ⟨h1, h2, h3, h4⟩ := h.glob g hg
    exact ⟨h1, h2, h3, by rw [x.get g (Nat.lt_of_lt_of_le hg h.gnext)]; exact h4⟩
  gnext := Nat.le_trans h.gnext x.next
  wf := hw2

theorem Step.ext {lo : Nat} {ρ ρ' : Ren} {D D' : Nat → Prop} {H H' H2 : AHeap} {w w' : World} (s : Step lo ρ D H w ρ' D' H' w') (hlt : ∀ id, D' id → id < H'.next) (x : Ext H' H2) : Step lo ρ D H w ρ' D' H2 w' where
  old := s.old
  new := s.new
  ghost := fun id h1 h2 => (x.get id (Nat.lt_of_lt_of_le h1 s.next)).trans (s.ghost id h1 h2)
  low := fun id h1 h2 => (x.get id (Nat.lt_of_lt_of_le h2 s.next)).trans (s.low id h1 h2)
  next := Nat.le_trans s.next x.next
  wr := fun id o' h1 h2 h3 h4 => s.wr id o' h1 h2 (by rw [← x.get id (Nat.lt_of_lt_of_le h1 s.next)]; exact h3) h4
  fresh := fun id o' h1 h2 h3 h4 => s.fresh id o' h1 h2 (by rw [← x.get id (hlt id h1)]; exact h3) h4
  os := s.os
  tape := s.tape
  output := s.output
  froz := s.froz
  size := s.size
  frame := s.frame

theorem Step.ghostly {lo : Nat} {ρ ρ' : Ren} {D D' : Nat → Prop} {H A : AHeap} {w w' w2 : World} (s : Step lo ρ D H w ρ' D' A w') {id : Nat} (hid : H.next ≤ id) (hn : ¬ D' id) (hD : ∀ id, D id → id < H.next) {L : Loc} (hL : w'.heap.size ≤ L.blk)
    {x : Obj} (hw : w2.heap = w'.heap.push x) (hos : w2.os = w'.os) (htp : w2.tape = w'.tape) (hout : w2.output = w'.output) : Step lo ρ D H w (upd ρ' id L) (ins D' id) A w2 where
  old := fun j hd => ⟨.inr (s.old j hd).1, by rw [upd_other _ _ (by have := hD j hd; omega)]; exact (s.old j hd).2⟩
  new := fun j hd hlt => by
    rcases hd with rfl | hd
    · omega
    · exact s.new j hd hlt
  ghost := s.ghost
  low := s.low
  next := s.next
  wr := s.wr
  fresh := fun j o' hd hj hg hwr => by
    by_cases hji : j = id
    · subst hji; rw [upd_same]; exact .inl (Nat.le_trans s.size hL)
    · rw [upd_other _ _ hji]; exact s.fresh j o' (hd.resolve_left hji) hj hg hwr
  os := hos.trans s.os
  tape := htp.trans s.tape
  output := hout.trans s.output
  froz := fun ad h => (frozen_push hw ad (Nat.lt_of_lt_of_le h s.size)).trans (s.froz ad h)
  size := by rw [hw]; have := s.size; simp; omega
  frame := fun k hk hn' => by
    have := s.size
    rw [hw, Array.getElem?_push, if_neg (by omega)]
    exact s.frame k hk hn'

/-! ### What is looked at -/
theorem get_ext {H H2 : AHeap} (hw : Wf H) (x : Ext H H2) {id : Nat} {o : AObj} (h : H.get id = some o) : H2.get id = some o := by
  have : id < H.next := by
    rcases Nat.lt_or_ge id H.next with h1 | h1
    · exact h1
    · rw [hw id h1] at h; cases h
  rw [x.get id this]; exact h

theorem slV_ext {esz : Nat} {H H2 : AHeap} (hw : Wf H) (x : Ext H H2) {u : AVal} {l h m : Option Nat} {v : AVal} {H' : AHeap} (hs : slV esz H u l h m = some (v, H')) (hn : H'.next = H.next) :
    ∃ H3, slV esz H2 u l h m = some (v, H3) ∧ H3.next = H2.next := by
  cases u <;> simp only [slV] at hs ⊢ <;> try (cases hs; done)
  case ns =>
    split at hs
    · rename_i hc; cases hs; exact ⟨H2, by rw [if_pos hc], rfl⟩
    · cases hs
  case es =>
    split at hs
    · rename_i hc; cases hs; exact ⟨H2, by rw [if_pos hc], rfl⟩
    · cases hs
  case sl id off len cap =>
    cases cap with
    | some c =>
      simp only at hs ⊢
      split at hs
      · rename_i hc; cases hs; exact ⟨H2, by rw [if_pos hc], rfl⟩
      · cases hs
    | none =>
      cases m with
      | some m' =>
        simp only at hs ⊢
        split at hs
        · rename_i hc; cases hs; exact ⟨H2, by rw [if_pos hc], rfl⟩
        · cases hs
      | none =>
        simp only at hs ⊢
        split at hs
        · rename_i hc
          rw [if_pos hc]
          split at hs
          · rename_i h0; cases hs; exact ⟨H2, by rw [if_pos h0], rfl⟩
          · rename_i h0
            rw [if_neg h0]
            split at hs
            · rename_i hlt
              rw [if_pos hlt]
              split at hs
              · rename_i cs esz' ro hg
                rw [get_ext hw x hg]
                split at hs
                · rename_i he; cases hs; exact ⟨H2, by simp [he], rfl⟩
                · cases hs
              · cases hs
            · cases hs; simp at hn
        · cases hs
  case fs tmp full len cs =>
    split at hs
    · rename_i hl
      cases m with
      | some m' =>
        simp only at hs ⊢
        split at hs
        · rename_i hc; cases hs; exact ⟨H2, by rw [if_pos hl, if_pos hc], rfl⟩
        · cases hs
      | none =>
        simp only at hs ⊢
        split at hs
        · rename_i hc; cases hs; exact ⟨H2, by rw [if_pos hl, if_pos hc], rfl⟩
        · cases hs
    · cases hs

/-- The heap with a name more, of nothing. -/
noncomputable def ghostH (H : AHeap) : AHeap := { next := H.next + 1, tbl := H.tbl.put none (H.next + 1) H.next }
theorem ghostH_get (H : AHeap) (j : Nat) : (ghostH H).get j = if j = H.next then none else H.get j := Trie.get_put _ _ _ _ _ (Nat.lt_succ_self H.next)
theorem ghostH_ext (H : AHeap) : Ext H (ghostH H) := ⟨Nat.le_succ _, fun j hj => by rw [ghostH_get, if_neg (by omega)]⟩
theorem ghostH_wf {H : AHeap} (h : Wf H) : Wf (ghostH H) := fun j hj => by
  have hj : H.next + 1 ≤ j := hj
  rw [ghostH_get, if_neg (by omega)]; exact h j (by omega)

theorem dynS_slV {esz : Nat} {H : AHeap} {v : AVal} {l h m : Option Nat} {r : AVal × AHeap} (hd : dynS v l h m = true) (hs : slV esz H v l h m = some r) : r = (.sl H.next 0 0 none, ghostH H) ∧
    ∃ id off len, v = .sl id off len none ∧ m = none ∧ l.getD 0 ≠ 0 ∧ l.getD 0 = h.getD len ∧ h.getD len ≤ len := by
  unfold dynS at hd
  split at hd
  · rename_i id off len
    simp only [Bool.and_eq_true, decide_eq_true_eq, Option.isNone_iff_eq_none] at hd
    obtain ⟨rfl, h1, h2⟩ := hd
    simp only [slV] at hs
    split at hs
    · rename_i hc
      split at hs
      · omega
      cases hs
      exact ⟨rfl, id, off, len, rfl, rfl, h1, h2, hc.1⟩
    · cases hs
  · cases hd

/-- A slicing that needs a name: it gets the next one. -/
theorem dyn_push {lo : Nat} {o : IOp} {e : Env} {H : AHeap} (hd : dynE o e = true) {v : Option AVal} {H' : AHeap} (h : aop lo o e H = some (v, H')) : v = some (.sl H.next 0 0 none) ∧ H' = ghostH H := by
  cases o <;> simp only [dynE] at hd <;> try (cases hd; done)
  case slq esz y l hi mx =>
    simp only [aop] at h
    split at h
    · rename_i u a b c h1 h2 h3 h4
      rw [h1, h2, h3, h4] at hd
      split at h
      · rename_i w' H3 hs
        obtain ⟨hr, _⟩ := dynS_slV hd hs
        cases hr
        rw [if_neg (fun hc => by have : H.next + 1 = H.next := hc.1; omega), if_pos hd] at h
        cases h
        exact ⟨rfl, rfl⟩
      · cases h
    · cases h

theorem not_dyn {lo : Nat} {o : IOp} {e : Env} {H : AHeap} {v : Option AVal} (h : aop lo o e H = some (v, H)) : dynE o e = false := by
  cases hd : dynE o e with
  | false => rfl
  | true =>
    obtain ⟨_, h2⟩ := dyn_push hd h
    have : H.next = H.next + 1 := congrArg AHeap.next h2
    omega

/-- A name for a place that holds nothing that may be read. -/
theorem ghost_alias {G : AHeap} {ρ : Ren} {D : Nat → Prop} {A : AHeap} {w : World} (h : HRel G ρ D A w) {id : Nat} (hid : ¬ D id) (hlt : id < A.next) (hG : G.next ≤ id) (hg : A.get id = none) (L : Loc) : HRel G (upd ρ id L) (ins D id) A w := by
  have hold : ∀ j, D j → ins D id j ∧ upd ρ id L j = ρ j := fun j hd => ⟨.inr hd, upd_other _ _ (fun e => hid (e ▸ hd))⟩
  exact {
    lt := fun j hd => by
      rcases hd with rfl | hd
      · exact hlt
      · exact h.lt j hd
    cells := fun j c' esz' ro hd hj => by
      by_cases hji : j = id
      · subst hji; rw [hg] at hj; cases hj
      · have hd' : D j := hd.resolve_left hji
        rw [upd_other _ _ hji]
        exact (h.cells j c' esz' ro hd' hj).move hold rfl
    maps := fun j es hd hj => by
      by_cases hji : j = id
      · subst hji; rw [hg] at hj; cases hj
      · have hd' : D j := hd.resolve_left hji
        rw [upd_other _ _ hji]
        exact (h.maps j es hd' hj).move hold rfl
    apart := fun i j o o' hdi hdj hne hi hj hwr => by
      have hii : i ≠ id := fun e => by subst e; rw [hg] at hi; cases hi
      have hji : j ≠ id := fun e => by subst e; rw [hg] at hj; cases hj
      rw [upd_other _ _ hii, upd_other _ _ hji]
      exact h.apart i j o o' (hdi.resolve_left hii) (hdj.resolve_left hji) hne hi hj hwr
    glob := fun g hgl => by
      obtain ⟨h1, h2, h3, h4⟩ := h.glob g hgl
      have hne : g ≠ id := by omega
      exact ⟨.inr h1, by rw [upd_other _ _ hne]; exact h2, by rw [upd_other _ _ hne]; exact h3, h4⟩
    gnext := h.gnext
    wf := h.wf }
theorem Step.alias {lo : Nat} {ρ ρ' : Ren} {D D' : Nat → Prop} {H A : AHeap} {w w' : World} (s : Step lo ρ D H w ρ' D' A w') {id : Nat} (hid : H.next ≤ id) (hD : ∀ id, D id → id < H.next) (hg : A.get id = none) (L : Loc) : Step lo ρ D H w (upd ρ' id L) (ins D' id) A w' where
  old := fun j hd => ⟨.inr (s.old j hd).1, by rw [upd_other _ _ (by have := hD j hd; omega)]; exact (s.old j hd).2⟩
  new := fun j hd hlt => by
    rcases hd with rfl | hd
    · omega
    · exact s.new j hd hlt
  ghost := s.ghost
  low := s.low
  next := s.next
  wr := s.wr
  fresh := fun j o' hd hj hg' hwr => by
    by_cases hji : j = id
    · subst hji; rw [hg] at hg'; cases hg'
    · rw [upd_other _ _ hji]; exact s.fresh j o' (hd.resolve_left hji) hj hg' hwr
  os := s.os
  tape := s.tape
  output := s.output
  froz := s.froz
  size := s.size
  frame := s.frame

def isSlice : IOp → Bool
  | .sl .. | .slq .. => true
  | _ => false
theorem trBin_slice {op : BinOp} {t : TypeId} {x y : Opd} {io : IOp} (h : trBin P op t x y = some io) : isSlice io = false := by
  unfold trBin at h
  revert h
  repeat' split
  all_goals (intro h; first | (cases h; done) | (cases h; rfl) | (rw [Option.map_eq_some_iff] at h; obtain ⟨_, _, rfl⟩ := h; rfl))
theorem trBi_slice {c : Call} {io : IOp} (h : trBi P c = some io) : isSlice io = false := by
  unfold trBi at h
  revert h
  repeat' split
  all_goals (intro h; first | (cases h; done) | (cases h; rfl))

/-- The machine's slicing, there. -/
theorem dyn_sim (r : Rel P G ds ρ D n e a H1 w) {o : Oper} {io : IOp} (ho : trOp P o = some io) (hd : dynE io.quiet e = true) {v : Option AVal} {H' : AHeap} (hs : aop lo io e H = some (v, H')) :
    ∃ L : Loc, ∀ id, (execOp a.eval o).run P w = .ok (.value (ren (upd ρ id L) (.sl id 0 0 none))) w := by
  have his : isSlice io = true := by cases io <;> simp only [IOp.quiet, dynE] at hd <;> first | (cases hd; done) | rfl
  cases hop : o.op <;> simp only [trOp, hop] at ho <;> try (cases ho; done)
  case slice t x l h m =>
    split at ho
    · split at ho
      · cases ho; cases his
      · cases ho
    · rename_i el ht
      split at ho
      · rename_i i x' l' h' m' hi hx' hl' hh' hm'
        cases ho
        simp only [aop] at hs
        split at hs
        · rename_i u l1 h1 m1 hu hl1 hh1 hm1
          simp only [IOp.quiet, dynE, hu, hl1, hh1, hm1] at hd
          rw [Option.map_eq_some_iff] at hs
          obtain ⟨res, hz, _⟩ := hs
          obtain ⟨_, id, off, len, rfl, rfl, g1, g2, g3⟩ := dynS_slV hd hz
          obtain ⟨k1, k2⟩ := opd_sim r hx' hu
          simp only [ok] at k2
          have hcap := k2.2 trivial
          have hrun := sl_run (P := P) (w := w) ht hi (ad := some ⟨(ρ id).blk, (ρ id).base + off, none⟩) (len := len) (cap := ((ρ id).ext - off) / (ρ id).esz) (opt_sim r hl' hl1) (opt_sim r hh' hh1) (opt_sim r hm' hm1) (by simp) (by simp; omega) (by omega) (by simp)
          simp only [Option.getD_none] at hrun
          refine ⟨⟨(ρ id).blk, if ((ρ id).ext - off) / (ρ id).esz = l1.getD 0 then (ρ id).base + off else (ρ id).base + off + l1.getD 0 * i.size, ((ρ id).ext - off) / (ρ id).esz - l1.getD 0, 1⟩, fun nm => ?_⟩
          have hz0 : h1.getD len - l1.getD 0 = 0 := by omega
          simp only [execOp, hop, k1, ren, Option.getD_none] at hrun ⊢
          simp only [Sem.run_bind, Sem.run_pure, hrun, Result.andThen_ok, upd_same, hz0]
          split <;> simp [addr_add, Nat.add_assoc]
        · cases hs
      · cases ho
    · cases ho
  case binOp op t x y t' =>
    exfalso
    split at ho
    · rw [trBin_slice ho] at his; cases his
    · cases ho
  case call c =>
    exfalso
    rw [trBi_slice ho] at his; cases his
  case makeMap t hint =>
    exfalso
    cases hint with
    | some _ => cases ho
    | none => cases ho; cases his
  case makeFunc fn x y =>
    exfalso
    cases fn <;> simp only at ho <;> try (cases ho; done)
    split at ho
    · cases ho; cases his
    · cases ho
  all_goals
    exfalso
    revert ho his
    repeat' split
    all_goals (intro his ho; first | (cases ho; done) | (cases ho; simp [isSlice] at his; done) | (simp only [Option.map_eq_some_iff] at ho; obtain ⟨_, _, rfl⟩ := ho; simp [isSlice] at his; done))

theorem looks_ext {lo : Nat} {o : IOp} {e : Env} {H H2 : AHeap} (hw : Wf H) (x : Ext H H2) (hl : o.looks = true) (hdy : dynE o e = false) {v : Option AVal} {H' : AHeap} (h : aop lo o e H = some (v, H')) :
    H' = H ∧ (∃ u, v = some u) ∧ aop lo o e H2 = some (v, H2) := by
  cases o <;> simp only [IOp.looks] at hl <;> (try (cases hl; done)) <;> simp only [aop] at h ⊢
  case load n y =>
    rw [Option.map_eq_some_iff] at h
    obtain ⟨u, hu, he⟩ := h
    cases he
    rw [Option.bind_eq_some_iff] at hu
    obtain ⟨p, hp, hv⟩ := hu
    refine ⟨rfl, ⟨u, rfl⟩, ?_⟩
    have : loadV H2 n p = some u := by
      cases p <;> simp only [loadV] at hv ⊢ <;> try (cases hv; done)
      case fp l => exact hv
      cases n with
      | none =>
        simp only at hv ⊢
        split at hv
        · rename_i hg; rw [get_ext hw x hg]; exact hv
        · cases hv
      | some k =>
        simp only [Option.map_eq_some_iff] at hv ⊢
        obtain ⟨l, hl, rfl⟩ := hv
        refine ⟨l, ?_, rfl⟩
        unfold rowAt at hl ⊢
        split at hl
        · rename_i hg; rw [get_ext hw x hg]; exact hl
        · cases hl
    rw [hp]; simp [this]
  case lenk k y =>
    rw [Option.map_eq_some_iff] at h
    obtain ⟨u, hu, he⟩ := h
    cases he
    rw [Option.map_eq_some_iff] at hu
    obtain ⟨m, hm, rfl⟩ := hu
    rw [Option.bind_eq_some_iff] at hm
    obtain ⟨p, hp, hv⟩ := hm
    refine ⟨rfl, ⟨_, rfl⟩, ?_⟩
    have : lenV H2 k p = some m := by
      unfold lenV at hv ⊢
      split at hv <;> first
        | exact hv
        | (split at hv
           · rename_i hg; simp only [get_ext hw x hg]; exact hv
           · cases hv)
        | cases hv
    rw [hp]; simp [this]
  case slq esz y l hi mx =>
    split at h
    · rename_i u a b c h1 h2 h3 h4
      split at h
      · rename_i w' H3 hs
        split at h
        · rename_i hn
          cases h
          obtain ⟨H4, h5, h6⟩ := slV_ext hw x hs hn.1
          exact ⟨rfl, ⟨_, rfl⟩, by simp only [h5, h6]; rw [if_pos ⟨trivial, hn.2⟩]⟩
        · simp only [dynE, h1, h2, h3, h4] at hdy
          rw [hdy] at h
          simp at h
      · cases h
    · cases h
  case look ag ks z okf y k =>
    split at h
    · rename_i m kk h1 h2
      rw [Option.map_eq_some_iff] at h
      obtain ⟨u, hu, he⟩ := h
      cases he
      refine ⟨rfl, ⟨_, rfl⟩, ?_⟩
      have : lookV H2 ag ks z okf m kk = some u := by
        unfold lookV at hu ⊢
        split at hu
        · rename_i es hes
          have hes2 : mapEs H2 m = some es := by
            unfold mapEs at hes ⊢
            split at hes
            · exact hes
            · split at hes
              · rename_i hg; simp only [get_ext hw x hg]; exact hes
              · cases hes
            · cases hes
          rw [hes2]; exact hu
        · cases hu
      simp [this]
    · cases h

end
end Go.RI

/- RI, part S: a region that leaves its order open comes to what the interpreter makes of it in one order. Conditions: none. -/
namespace Go.RI
open Go

def guardReads : Option (Nat × Bool) → List Nat
  | none => []
  | some (t, _) => [t]
def Item.reads (x : Item) : List Nat := x.op.reads ++ guardReads x.guard

def Env.only (us : List Nat) : Env → Env
  | [] => []
  | (k, v) :: e => if us.contains k then (k, v) :: Env.only us e else Env.only us e

theorem Env.get_only (us : List Nat) (e : Env) (s : Nat) : (e.only us).get s = if us.contains s then e.get s else none := by
  induction e with
  | nil => simp [Env.only, Env.get]
  | cons x e ih =>
    obtain ⟨k, v⟩ := x
    simp only [Env.only]
    by_cases hk : us.contains k = true
    · rw [if_pos hk]
      simp only [Env.get]
      by_cases hks : k = s
      · subst hks; rw [if_pos rfl, if_pos hk, if_pos rfl]
      · rw [if_neg hks, ih, if_neg hks]
    · rw [if_neg hk, ih]
      by_cases hs : us.contains s = true
      · have hks : k ≠ s := fun e => hk (e ▸ hs)
        rw [if_pos hs, if_pos hs]
        simp only [Env.get, hks, if_false]
      · rw [if_neg hs, if_neg hs]

theorem agree_only {us vs : List Nat} (e : Env) (h : ∀ u ∈ us, u ∈ vs) : Agree us (e.only vs) e := fun u hu => by
  rw [Env.get_only, if_pos (by simpa using h u hu)]

theorem wanted_congr {e e' : Env} {g : Option (Nat × Bool)} (h : Agree (guardReads g) e e') : wantedI e g = wantedI e' g := by
  cases g with
  | none => rfl
  | some x => obtain ⟨t, b⟩ := x; simp only [wantedI]; rw [h t (by simp [guardReads])]

/-! ### Orders -/
def Closed (ops : Array Oper) (listed : Array Bool) : Prop := ∀ (j : Nat) (o : Oper) (e : Edge), ops[j]? = some o → listed.getD j false = true → e ∈ o.after → Region.binds .any e = true → listed.getD e.on false = true
def ReadyOr (ops : Array Oper) (listed : Array Bool) (j : Nat) : Prop := ∀ (o : Oper) (e : Edge), ops[j]? = some o → e ∈ o.after → Region.binds .any e = true → listed.getD e.on false = true
/-- In whatever order: i ahead of j. -/
def Bef (ops : Array Oper) (i j : Nat) : Prop := ∀ listed, Closed ops listed → ReadyOr ops listed j → listed.getD i false = true

structure Plan (P : Program) (nt : Nat) (ops : Array Oper) (order : List Nat) (xs : List Item) : Prop where
  len : xs.length = order.length
  item : ∀ (t i : Nat), order[t]? = some i → ∃ (o : Oper) (x : Item) (io : IOp), ops[i]? = some o ∧ xs[t]? = some x ∧ trOpC P o = some io ∧ x.op = io.quiet ∧ trGuard ops o.guard = some x.guard ∧ x.dst = o.dst ∧ dstOk nt x.dst = true
  all : ∀ i, i < ops.size → ∃ t : Nat, order[t]? = some i
  uniq : ∀ (t t' i : Nat), order[t]? = some i → order[t']? = some i → t = t'
  topo : ∀ (t i : Nat) (o : Oper) (e : Edge), order[t]? = some i → ops[i]? = some o → e ∈ o.after → Region.binds .any e = true → ∃ t' : Nat, t' < t ∧ order[t']? = some e.on
  greedy : ∀ (p q i c : Nat) (x : Item), order[p]? = some i → order[q]? = some c → q < p → xs[q]? = some x → x.op.act = true → (∀ (q' : Nat) (x' : Item), q < q' → q' < p → xs[q']? = some x' → x'.op.act = false) → Bef ops c i
  dst : ∀ (t t' : Nat) (x x' : Item) (s : Nat), xs[t]? = some x → xs[t']? = some x' → x.dst = some s → x'.dst = some s → t = t'
  conf : ∀ (t t' i i' : Nat) (x x' : Item) (u : Nat), order[t]? = some i → order[t']? = some i' → xs[t]? = some x → xs[t']? = some x' → u ∈ x.reads → x'.dst = some u → t' = t ∨ Bef ops i' i ∨ Bef ops i i'
  re : ∀ (p t i c : Nat) (x y : Item), order[p]? = some i → order[t]? = some c → xs[p]? = some x → xs[t]? = some y → p < t → x.op.looks = true → y.op.act = true →
    Bef ops i c ∨ ∃ s : Nat, x.dst = some s ∧ (s, x.op, x.guard) ∈ y.re ∧ ∀ u ∈ x.reads, ∀ (j : Nat) (z : Item), j ≤ t → xs[j]? = some z → z.dst = some u → j < p

theorem slV_same {esz : Nat} {H H' : AHeap} {u : AVal} {l h m : Option Nat} {v : AVal} (hs : slV esz H u l h m = some (v, H')) (hn : H'.next = H.next) : H' = H := by
  cases u <;> simp only [slV] at hs <;> try (cases hs; done)
  case ns => split at hs <;> cases hs; rfl
  case es => split at hs <;> cases hs; rfl
  case sl id off len cap =>
    cases cap with
    | some c => simp only at hs; split at hs <;> cases hs; rfl
    | none =>
      cases m with
      | some m' => simp only at hs; split at hs <;> cases hs; rfl
      | none =>
        simp only at hs
        split at hs
        · split at hs
          · cases hs; rfl
          · split at hs
            · split at hs
              · split at hs <;> cases hs; rfl
              · cases hs
            · cases hs; simp at hn
        · cases hs
  case fs tmp full len cs =>
    split at hs
    · cases m with
      | some m' => simp only at hs; split at hs <;> cases hs; rfl
      | none => simp only at hs; split at hs <;> cases hs; rfl
    · cases hs

theorem quiet_opI {call : CallI} {lo : Nat} {io : IOp} {e : Env} {H : AHeap} {v : Option AVal} {H' : AHeap} (h : opI call lo io.quiet e H = some (v, H')) : opI call lo io e H = some (v, H') := by
  cases io <;> simp only [IOp.quiet] at h <;> try (exact h)
  case sl esz x l hi mx =>
    simp only [opI, aop] at h ⊢
    split at h
    · rename_i u a b c h1 h2 h3 h4
      split at h
      · rename_i w' H3 hs
        split at h
        · rename_i hn
          cases h
          have := slV_same hs hn.1
          subst this
          simp [hs]
        · split at h
          · cases h; simp [hs]
          · cases h
      · cases h
    · cases h

theorem quiet_aop {lo : Nat} {io : IOp} {e : Env} {H : AHeap} {v : Option AVal} {H' : AHeap} (h : aop lo io.quiet e H = some (v, H')) : aop lo io e H = some (v, H') := by
  cases io <;> simp only [IOp.quiet] at h <;> try (exact h)
  case sl esz x l hi mx =>
    simp only [aop] at h ⊢
    split at h
    · rename_i u a b c h1 h2 h3 h4
      split at h
      · rename_i w' H3 hs
        split at h
        · rename_i hn
          cases h
          have := slV_same hs hn.1
          subst this
          simp [hs]
        · split at h
          · cases h; simp [hs]
          · cases h
      · cases h
    · cases h

/-- The interpreter's states, place by place. -/
theorem trace_of {call : CallI} {lo : Nat} : ∀ (xs : List Item) (e : Env) (H : AHeap) (e' : Env) (H' : AHeap), itemsI call lo xs e H = some (e', H') →
    ∃ (E : Nat → Env) (Hh : Nat → AHeap), E 0 = e ∧ Hh 0 = H ∧ E xs.length = e' ∧ Hh xs.length = H' ∧ ∀ (t : Nat) x, xs[t]? = some x → itemI call lo x (E t) (Hh t) = some (E (t + 1), Hh (t + 1)) ∧ (skipI call (E t) x.op || (keepI (Hh (t + 1)) x.op x.re (E t) (E (t + 1)) || reOk lo x.dst (E t) (Hh t) (E (t + 1)) (Hh (t + 1)) x.re)) = true := by
  intro xs
  induction xs with
  | nil =>
    intro e H e' H' h
    simp only [itemsI, Option.some.injEq, Prod.mk.injEq] at h
    exact ⟨fun _ => e, fun _ => H, rfl, rfl, h.1, h.2, fun t x hx => by simp at hx⟩
  | cons x xs ih =>
    intro e H e' H' h
    simp only [itemsI] at h
    split at h
    · rename_i e1 H1 hi
      split at h
      · rename_i hre
        obtain ⟨E, Hh, h1, h2, h3, h4, h5⟩ := ih e1 H1 e' H' h
        refine ⟨fun t => match t with | 0 => e | t + 1 => E t, fun t => match t with | 0 => H | t + 1 => Hh t, rfl, rfl, h3, h4, ?_⟩
        intro t y hy
        cases t with
        | zero =>
          simp only [List.getElem?_cons_zero, Option.some.injEq] at hy; subst hy
          simp only [h1, h2]
          exact ⟨hi, hre⟩
        | succ t => exact h5 t y (by simpa using hy)
      · cases h
    · cases h

theorem item_env {call : CallI} {lo : Nat} {x : Item} {e e' : Env} {H H' : AHeap} (h : itemI call lo x e H = some (e', H')) : ∃ v, e' = putD e x.dst v := by
  simp only [itemI] at h
  split at h
  · cases h
  · cases h; exact ⟨_, rfl⟩
  · split at h
    · cases h; exact ⟨_, rfl⟩
    · cases h; exact ⟨_, rfl⟩
    · cases h

theorem get_putD_ne {e : Env} {d : Option Nat} {v : AVal} {s : Nat} (h : d ≠ some s) : (putD e d v).get s = e.get s := by
  cases d with
  | none => rfl
  | some t => simp only [putD]; rw [Env.get_put, if_neg (fun e => h (by rw [e]))]
theorem get_putD_eq {e : Env} {v : AVal} {s : Nat} : (putD e (some s) v).get s = some v := by
  simp only [putD]; rw [Env.get_put, if_pos rfl]

theorem kinds (o : IOp) (h : o.act = false) : (o.looks = false ∧ o.makes = false) ∨ o.looks = true ∨ o.makes = true := by
  cases o <;> simp_all [IOp.act, IOp.looks, IOp.makes]

theorem makes_act {o : IOp} (h : o.makes = true) : o.act = false := by cases o <;> simp_all [IOp.makes, IOp.act]
theorem looks_act {o : IOp} (h : o.looks = true) : o.act = false := by cases o <;> simp_all [IOp.looks, IOp.act]

theorem opI_plain {call : CallI} {lo : Nat} {o : IOp} {e : Env} {H : AHeap} (h : o.act = false) : opI call lo o e H = aop lo o e H := by
  cases o <;> simp_all [IOp.act, opI]

theorem makes_push {lo : Nat} {o : IOp} {e : Env} {H : AHeap} (hm : o.makes = true) {v : Option AVal} {H' : AHeap} (h : aop lo o e H = some (v, H')) :
    ∃ c esz u, v = some u ∧ H' = H.push (.cells c esz false) := by
  cases o <;> simp only [IOp.makes] at hm <;> (try (cases hm; done)) <;> simp only [aop] at h
  case alloc z => cases h; exact ⟨_, _, _, rfl, rfl⟩
  case box x =>
    split at h
    · split at h
      · cases h; exact ⟨_, _, _, rfl, rfl⟩
      · cases h
    · cases h
  case bsl a b z ps =>
    split at h
    · split at h
      · cases h; exact ⟨_, _, _, rfl, rfl⟩
      · cases h
    · cases h
  case mksl a b z x y =>
    split at h
    · split at h
      · cases h; exact ⟨_, _, _, rfl, rfl⟩
      · cases h
    · cases h

theorem Wf.push {H : AHeap} (h : Wf H) (o : AObj) : Wf (H.push o) := fun j hj => by
  rw [AHeap.next_push] at hj
  rw [AHeap.get_push, if_neg (by omega)]
  exact h j (by omega)

/-- A place that does not act leaves the heap, or puts one row more behind it. -/
theorem float_step {call : CallI} {lo : Nat} {x : Item} {e e' : Env} {H H' : AHeap} (ha : x.op.act = false) (h : itemI call lo x e H = some (e', H')) (hw : Wf H) : Ext H H' ∧ Wf H' := by
  have op : ∀ v, opI call lo x.op e H = some (v, H') → Ext H H' ∧ Wf H' := by
    intro v hv
    rw [opI_plain ha] at hv
    rcases kinds x.op ha with ⟨h1, h2⟩ | h1 | h1
    · obtain ⟨rfl, _⟩ := aop_still ha h1 h2 hv; exact ⟨Ext.refl _, hw⟩
    · cases hdy : dynE x.op e with
      | false => obtain ⟨rfl, _⟩ := looks_ext hw (Ext.refl H) h1 hdy hv; exact ⟨Ext.refl _, hw⟩
      | true => obtain ⟨_, rfl⟩ := dyn_push hdy hv; exact ⟨ghostH_ext _, ghostH_wf hw⟩
    · obtain ⟨c, esz, u, _, rfl⟩ := makes_push h1 hv; exact ⟨Ext.push _ _, hw.push _⟩
  simp only [itemI] at h
  split at h
  · cases h
  · cases h; exact ⟨Ext.refl _, hw⟩
  · split at h
    · rename_i hv; cases h; exact op _ hv
    · rename_i hv; cases h; exact op _ hv
    · cases h

theorem keepL_mem {fp : Bool} {ids : List Nat} {e : Env} : ∀ {l : List (Nat × IOp × Option (Nat × Bool))}, keepL fp ids e l = true → ∀ s o g, (s, o, g) ∈ l → ∃ n b, o = .load n b ∧ ((∃ id off, b.eval e = some (.p id off) ∧ id ∉ ids) ∨ ∃ l, b.eval e = some (.fp l)) := by
  intro l
  induction l with
  | nil => intro _ s o g h; cases h
  | cons x l ih =>
    obtain ⟨t, o', g'⟩ := x
    intro h s o g hm
    simp only [keepL, Bool.and_eq_true] at h
    rcases List.mem_cons.1 hm with he | hm
    · cases he
      have h1 := h.1
      split at h1
      · split at h1
        · rename_i n b id off hb
          exact ⟨_, _, rfl, .inl ⟨id, off, hb, by simpa using h1⟩⟩
        · rename_i n b l hb
          exact ⟨_, _, rfl, .inr ⟨l, hb⟩⟩
        · cases h1
      · cases h1
    · exact ih h.2 s o g hm
theorem appV_keep {lo esz bytes : Nat} {H H' : AHeap} {x y v : AVal} (hs : appV lo H esz bytes x y = some (v, H')) {ids : List Nat} (ht : touchV x = some ids) (hw : Wf H) {id : Nat} (hid : id ∉ ids) {o : AObj} (ho : H.get id = some o) : H'.get id = some o := by
  have hlt : id < H.next := by
    rcases Nat.lt_or_ge id H.next with h | h
    · exact h
    · rw [hw id h] at ho; cases ho
  have push : ∀ o', (H.push o').get id = some o := fun o' => by rw [AHeap.get_push, if_neg (by omega)]; exact ho
  unfold appV at hs
  split at hs
  · cases hs
  · rename_i n ys hm
    split at hs
    · cases x <;> simp only [touchV] at ht <;> simp only at hs
      case ns =>
        split at hs
        · cases hs; exact ho
        · split at hs <;> cases hs; exact push _
      case es =>
        split at hs
        · cases hs; exact ho
        · split at hs <;> cases hs; exact push _
      case sl id0 off len cap =>
        split at hs
        · rename_i hn
          have : H' = H := by
            split at hs
            · split at hs <;> cases hs; rfl
            · cases hs; rfl
          subst this; exact ho
        · rename_i hn
          cases cap with
          | some c =>
            simp only at hs ht
            split at hs
            · rename_i hc
              have hne : id ≠ id0 := by
                rw [if_neg (by omega)] at ht
                cases ht
                simpa using hid
              split at hs
              · split at hs
                · split at hs
                  · cases hs; rw [AHeap.get_put, if_neg hne]; exact ho
                  · cases hs
                · cases hs
              · cases hs
            · split at hs
              · split at hs
                · cases hs; exact push _
                · split at hs
                  · cases hs; exact push _
                  · cases hs
              · cases hs
          | none =>
            simp only at hs ht
            cases ht
            have hne : id ≠ id0 := by simpa using hid
            split at hs
            · split at hs
              · split at hs
                · cases hs
                  rw [AHeap.get_push, AHeap.next_put, if_neg (by omega), AHeap.get_put, if_neg hne]; exact ho
                · cases hs
              · cases hs
            · cases hs
      case fs tmp full len l =>
        split at hs
        · cases hs; exact ho
        · split at hs <;> cases hs; exact push _
      all_goals cases hs
    · cases hs
/-- What was loaded ahead of an append reads as it did. -/
theorem keep_get {call : CallI} {lo : Nat} {x : Item} {e e' : Env} {H H' : AHeap} (hi : itemI call lo x e H = some (e', H')) (hk : keepI H' x.op x.re e e' = true) (hw : Wf H) {s : Nat} {o : IOp} {g : Option (Nat × Bool)} (hm : (s, o, g) ∈ x.re) :
    ∃ n b, o = .load n b ∧ ((∃ id off, b.eval e' = some (.p id off) ∧ ∀ c, H.get id = some c → H'.get id = some c) ∨ ∃ l, b.eval e' = some (.fp l)) := by
  unfold keepI at hk
  split at hk
  · rename_i ids ht
    obtain ⟨n, b, h1, ⟨id, off, h2, h3⟩ | h2⟩ := keepL_mem hk s o g hm
    rotate_left
    · exact ⟨n, b, h1, .inr h2⟩
    refine ⟨n, b, h1, .inl ⟨id, off, h2, fun c hc => ?_⟩⟩
    unfold touch at ht
    split at ht
    · rename_i esz bytes a y hop
      split at ht
      · rename_i v hv
        simp only [itemI, hop] at hi
        split at hi
        · cases hi
        · cases hi; exact hc
        · simp only [opI, aop, hv] at hi
          split at hi
          · rename_i u H2 ho
            cases hi
            split at ho
            · rename_i a1 b1 ha1 hb1
              cases ha1
              rw [Option.map_eq_some_iff] at ho
              obtain ⟨⟨v2, H3⟩, h5, h6⟩ := ho
              cases h6
              exact appV_keep h5 ht hw h3 hc
            · cases ho
          · rename_i H2 ho
            cases hi
            split at ho
            · rw [Option.map_eq_some_iff] at ho
              obtain ⟨⟨v2, H3⟩, h5, h6⟩ := ho
              cases h6
            · cases ho
          · cases hi
      · cases ht
    · rename_i n' a y hop
      split at ht
      · rename_i id0 off0 hv
        cases ht
        simp only [List.mem_singleton] at h3
        have key : ∀ u, storeV lo H n' (.p id0 off0) u = some H' → H'.get id = some c := by
          intro u hs
          simp only [storeV] at hs
          split at hs
          · split at hs
            · split at hs
              · cases hs; rw [AHeap.get_put, if_neg h3]; exact hc
              · cases hs
            · cases hs
          · cases hs
        simp only [itemI, hop] at hi
        split at hi
        · cases hi
        · cases hi; exact hc
        · simp only [opI, aop, hv] at hi
          split at hi
          · rename_i u H2 ho
            split at ho
            · rw [Option.map_eq_some_iff] at ho
              obtain ⟨H3, h5, h6⟩ := ho
              cases h6
            · cases ho
          · rename_i H2 ho
            cases hi
            split at ho
            · rename_i a1 b1 ha1 hb1
              cases ha1
              rw [Option.map_eq_some_iff] at ho
              obtain ⟨H3, h5, h6⟩ := ho
              cases h6
              exact key _ h5
            · cases ho
          · cases hi
      · cases ht
    · cases ht
  · cases hk

/-- A load that brings the same in two heaps. -/
theorem ldE_same {o : IOp} {dst : Option Nat} {e : Env} {H H' : AHeap} (h : ldE o dst e H H' = true) {lo : Nat} {v : Option AVal} {Hx : AHeap} (hv : aop lo o e H = some (v, Hx)) : aop lo o e H' = some (v, H') := by
  unfold ldE at h
  split at h
  · rename_i n s
    rw [Bool.and_eq_true] at h
    have h2 := h.2
    split at h2
    · rename_i l hs
      simp only [aop, Opd.eval, hs, Option.bind_some, loadV] at hv ⊢
      rw [Option.map_eq_some_iff] at hv ⊢
      obtain ⟨q, q1, q2⟩ := hv
      exact ⟨q, q1, by cases q2; rfl⟩
    · rename_i p _ hs
      simp only [aop, Opd.eval, hs, Option.bind_some] at hv ⊢
      split at h2
      · rename_i u u' hu hu'
        have := same_eq _ _ h2
        subst this
        rw [hu] at hv
        rw [hu']
        cases hv; rfl
      · cases h2
    · cases h2
  · cases h
theorem reOk_mem {lo : Nat} {dst : Option Nat} {e e' : Env} {H H' : AHeap} : ∀ {l : List (Nat × IOp × Option (Nat × Bool))}, reOk lo dst e H e' H' l = true → ∀ s o g, (s, o, g) ∈ l → wantedI e' g = some true → dynE o e' = false →
    (∃ v H1, e'.get s = some v ∧ aop lo o e' H' = some (some v, H1)) ∨ ldE o dst e H H' = true := by
  intro l
  induction l with
  | nil => intro _ s o g h; cases h
  | cons y l ih =>
    obtain ⟨t, o1, g1⟩ := y
    intro h s o g hm hw hdy
    simp only [reOk, Bool.and_eq_true] at h
    rcases List.mem_cons.1 hm with he | hm
    · cases he
      have h1 := h.1
      rw [hw] at h1
      simp only [hdy, Bool.false_or, Bool.or_eq_true] at h1
      rcases h1 with h1 | h1
      · left
        split at h1
        · rename_i v v' H' hv hv'
          have := same_eq _ _ h1
          subst this
          exact ⟨v, H', hv, hv'⟩
        · cases h1
      · exact .inr h1
    · exact ih h.2 s o g hm hw hdy

/-- It makes a name. -/
def mkAt (o : IOp) (e : Env) : Bool := o.makes || dynE o e
theorem mk_next {lo : Nat} {o : IOp} {e : Env} {H : AHeap} (hm : mkAt o e = true) {v : Option AVal} {H' : AHeap} (h : aop lo o e H = some (v, H')) : (∃ u, v = some u) ∧ H'.next = H.next + 1 := by
  unfold mkAt at hm
  rw [Bool.or_eq_true] at hm
  rcases hm with hm | hm
  · obtain ⟨c, esz, u, h1, rfl⟩ := makes_push hm h
    exact ⟨⟨u, h1⟩, rfl⟩
  · obtain ⟨h1, rfl⟩ := dyn_push hm h
    exact ⟨⟨_, h1⟩, rfl⟩
theorem dyn_looks {o : IOp} {e : Env} (h : dynE o e = true) : o.looks = true := by cases o <;> first | rfl | (simp [dynE] at h)
theorem mk_act {o : IOp} {e : Env} (h : mkAt o e = true) : o.act = false := by
  unfold mkAt at h
  rw [Bool.or_eq_true] at h
  rcases h with h | h
  · exact makes_act h
  · exact looks_act (dyn_looks h)

end Go.RI

/- RI, part T: the theorem on a region that leaves its order open. Conditions: none. -/
namespace Go.RI
open Go

section
variable {ds : List Deferred} {P : Program} {G : AHeap} {lo nt : Nat} {call : CallI} {ops : Array Oper} {order : List Nat} {xs : List Item} {E : Nat → Env} {Hh : Nat → AHeap} {ρ0 : Ren} {D0 : Nat → Prop} {w0 : World}

/-- A slot holds a value. -/
def SR (ρ : Ren) (D : Nat → Prop) (nt : Nat) (a : Act) (s : Nat) (v : AVal) : Prop := s < nt ∧ a.tmps.getD s undef = ren ρ v ∧ ok ρ D v

/-- Where the machine is, some places done. 'T': the first act that is not. -/
structure Inv (ds : List Deferred) (G : AHeap) (lo nt : Nat) (ops : Array Oper) (order : List Nat) (xs : List Item) (E : Nat → Env) (Hh : Nat → AHeap) (ρ0 : Ren) (D0 : Nat → Prop) (w0 : World)
    (listed : Array Bool) (a : Act) (w : World) (T : Nat) (ρ : Ren) (D : Nat → Prop) : Prop where
  size : listed.size = ops.size
  closed : Closed ops listed
  TN : T ≤ xs.length
  act : T < xs.length → ∃ x i, xs[T]? = some x ∧ x.op.act = true ∧ order[T]? = some i ∧ listed.getD i false = false
  done : ∀ (q : Nat) (x : Item) (i : Nat), q < T → xs[q]? = some x → x.op.act = true → order[q]? = some i → listed.getD i false = true
  hrel : HRel G ρ D (Hh T) w
  step : Step lo ρ0 D0 (Hh 0) w0 ρ D (Hh T) w
  tsize : a.tmps.size = nt
  defers : a.defers = ds
  sa : ∀ (t : Nat) (x : Item) (i s : Nat) (v : AVal), t < T → xs[t]? = some x → order[t]? = some i → listed.getD i false = true → x.dst = some s → (E T).get s = some v → SR ρ D nt a s v
  sb : ∀ (s : Nat) (v : AVal), (∀ (t : Nat) (x : Item) (i : Nat), xs[t]? = some x → order[t]? = some i → listed.getD i false = true → x.dst ≠ some s) → (E 0).get s = some v → SR ρ D nt a s v
  wfs : ∀ t, t ≤ T → Wf (Hh t)
  mono : ∀ t t', t ≤ t' → t' ≤ T → (Hh t).next ≤ (Hh t').next
  f1 : ∀ (p : Nat) (x : Item) (i : Nat) (v : Option AVal), p < T → xs[p]? = some x → order[p]? = some i → listed.getD i false = false → x.op.looks = true → wantedI (E p) x.guard = some true →
    aop lo x.op (E p) (Hh p) = some (v, Hh p) → aop lo x.op (E p) (Hh T) = some (v, Hh T)
  f2 : ∀ (p : Nat) (x : Item) (i : Nat), p < T → xs[p]? = some x → order[p]? = some i → listed.getD i false = false → mkAt x.op (E p) = true → wantedI (E p) x.guard = some true →
    ¬ D (Hh p).next ∧ (Hh T).get (Hh p).next = (Hh (p + 1)).get (Hh p).next

/-- What is known of the plan, and of the interpreter's run of it. -/
structure Ctx (P : Program) (G : AHeap) (lo nt : Nat) (call : CallI) (ops : Array Oper) (order : List Nat) (xs : List Item) (E : Nat → Env) (Hh : Nat → AHeap) (ρ0 : Ren) (D0 : Nat → Prop) : Prop where
  plan : Plan P nt ops order xs
  run : ∀ (t : Nat) (x : Item), xs[t]? = some x → itemI call lo x (E t) (Hh t) = some (E (t + 1), Hh (t + 1)) ∧ (skipI call (E t) x.op || (keepI (Hh (t + 1)) x.op x.re (E t) (E (t + 1)) || reOk lo x.dst (E t) (Hh t) (E (t + 1)) (Hh (t + 1)) x.re)) = true
  calls : CallOK P G lo call
  glo : G.next ≤ lo
  gsize : G.next = P.globals.size
  gok : GOk G
  d0 : ∀ id, D0 id → id < (Hh 0).next
  g0 : G.next ≤ (Hh 0).next

variable (c : Ctx P G lo nt call ops order xs E Hh ρ0 D0)
include c

/-- A slot that nobody writes between stays. -/
theorem E_stay {s : Nat} : ∀ (k t : Nat), t + k ≤ xs.length → (∀ (j : Nat) (x : Item), t ≤ j → j < t + k → xs[j]? = some x → x.dst ≠ some s) → (E (t + k)).get s = (E t).get s := by
  intro k
  induction k with
  | zero => intro t _ _; rfl
  | succ k ih =>
    intro t hle h
    have hlt : t + k < xs.length := by omega
    obtain ⟨hi, _⟩ := c.run (t + k) xs[t + k] (List.getElem?_eq_getElem hlt)
    obtain ⟨v, hv⟩ := item_env hi
    have : t + (k + 1) = t + k + 1 := by omega
    rw [this, hv, get_putD_ne (h (t + k) _ (by omega) (by omega) (List.getElem?_eq_getElem hlt))]
    exact ih t (by omega) fun j x h1 h2 => h j x h1 (by omega)

theorem E_stay' {s t t' : Nat} (htt : t ≤ t') (hle : t' ≤ xs.length) (h : ∀ (j : Nat) (x : Item), t ≤ j → j < t' → xs[j]? = some x → x.dst ≠ some s) : (E t').get s = (E t).get s := by
  have := E_stay c (s := s) (t' - t) t (by omega) (fun j x h1 h2 => h j x h1 (by omega))
  rwa [show t + (t' - t) = t' by omega] at this

/-- Between two acts the heap has rows put behind it, and no more. -/
theorem ext_stay : ∀ (k t : Nat), t + k ≤ xs.length → Wf (Hh t) → (∀ (j : Nat) (x : Item), t ≤ j → j < t + k → xs[j]? = some x → x.op.act = false) → Ext (Hh t) (Hh (t + k)) ∧ Wf (Hh (t + k)) := by
  intro k
  induction k with
  | zero => intro t _ hw _; exact ⟨Ext.refl _, hw⟩
  | succ k ih =>
    intro t hle hw h
    have hlt : t + k < xs.length := by omega
    obtain ⟨hi, _⟩ := c.run (t + k) xs[t + k] (List.getElem?_eq_getElem hlt)
    obtain ⟨h1, h2⟩ := ih t (by omega) hw fun j x h1 h2 => h j x h1 (by omega)
    obtain ⟨h3, h4⟩ := float_step (h (t + k) _ (by omega) (by omega) (List.getElem?_eq_getElem hlt)) hi h2
    have : t + (k + 1) = t + k + 1 := by omega
    rw [this]
    exact ⟨h1.trans h3, h4⟩

theorem ext_stay' {t t' : Nat} (htt : t ≤ t') (hle : t' ≤ xs.length) (hw : Wf (Hh t)) (h : ∀ (j : Nat) (x : Item), t ≤ j → j < t' → xs[j]? = some x → x.op.act = false) : Ext (Hh t) (Hh t') ∧ Wf (Hh t') := by
  have := ext_stay c (t' - t) t (by omega) hw (fun j x h1 h2 => h j x h1 (by omega))
  rwa [show t + (t' - t) = t' by omega] at this

omit c in
/-- The first act from a place on, if there is one. -/
theorem next_act : ∀ (k t : Nat), t + k = xs.length → ∃ T, t ≤ T ∧ T ≤ xs.length ∧ (∀ (j : Nat) (x : Item), t ≤ j → j < T → xs[j]? = some x → x.op.act = false) ∧ (T < xs.length → ∃ x, xs[T]? = some x ∧ x.op.act = true) := by
  intro k
  induction k with
  | zero => intro t h; exact ⟨t, Nat.le_refl _, by omega, fun j x h1 h2 => by omega, fun h1 => by omega⟩
  | succ k ih =>
    intro t h
    have hlt : t < xs.length := by omega
    cases ha : xs[t].op.act with
    | true => exact ⟨t, Nat.le_refl _, by omega, fun j x h1 h2 => by omega, fun _ => ⟨xs[t], List.getElem?_eq_getElem hlt, ha⟩⟩
    | false =>
      obtain ⟨T, h1, h2, h3, h4⟩ := ih (t + 1) (by omega)
      refine ⟨T, by omega, h2, fun j x h5 h6 hx => ?_, h4⟩
      by_cases hj : j = t
      · subst hj; rw [List.getElem?_eq_getElem hlt] at hx; cases hx; exact ha
      · exact h3 j x (by omega) h6 hx

omit c in
/-- The last act ahead of a place. -/
theorem last_act (T p : Nat) (hTp : T < p) (hp : p ≤ xs.length) {x : Item} (hx : xs[T]? = some x) (ha : x.op.act = true) :
    ∃ q y, T ≤ q ∧ q < p ∧ xs[q]? = some y ∧ y.op.act = true ∧ ∀ (j : Nat) (z : Item), q < j → j < p → xs[j]? = some z → z.op.act = false := by
  induction p with
  | zero => omega
  | succ p ih =>
    have hlt : p < xs.length := by omega
    cases hpa : xs[p].op.act with
    | true => exact ⟨p, xs[p], by omega, by omega, List.getElem?_eq_getElem hlt, hpa, fun j z h1 h2 => by omega⟩
    | false =>
      have hne : T ≠ p := by
        intro e; subst e
        rw [List.getElem?_eq_getElem hlt] at hx; cases hx
        rw [ha] at hpa; cases hpa
      obtain ⟨q, y, h1, h2, h3, h4, h5⟩ := ih (by omega) (by omega)
      refine ⟨q, y, h1, by omega, h3, h4, fun j z h6 h7 hz => ?_⟩
      by_cases hj : j = p
      · subst hj; rw [List.getElem?_eq_getElem hlt] at hz; cases hz; exact hpa
      · exact h5 j z h6 (by omega) hz

/-- What must be ahead is ahead in the plan. -/
theorem Bef_lt {p t i j : Nat} (hp : order[p]? = some i) (ht : order[t]? = some j) (h : Bef ops j i) : t < p := by
  -- all that stands ahead of p
  let listed : Array Bool := (Array.range ops.size).map fun k => decide (∃ q, q < p ∧ order[q]? = some k)
  have hget : ∀ k, listed.getD k false = true ↔ k < ops.size ∧ ∃ q, q < p ∧ order[q]? = some k := by
    intro k
    simp only [listed, Array.getD_eq_getD_getElem?, Array.getElem?_map]
    rcases Nat.lt_or_ge k ops.size with h1 | h1
    · rw [Array.getElem?_eq_getElem (by simpa using h1)]
      simp [h1]
    · rw [Array.getElem?_eq_none (by simpa using h1)]
      simp; omega
  have hlt : ∀ {q k : Nat}, order[q]? = some k → k < ops.size := by
    intro q k hq
    obtain ⟨o, x, io, ho, _⟩ := c.plan.item q k hq
    rcases Nat.lt_or_ge k ops.size with h1 | h1
    · exact h1
    · rw [Array.getElem?_eq_none h1] at ho; cases ho
  have hcl : Closed ops listed := by
    intro k o e ho hk he hb
    obtain ⟨_, q, hq1, hq2⟩ := (hget k).1 hk
    obtain ⟨t', ht1, ht2⟩ := c.plan.topo q k o e hq2 ho he hb
    exact (hget _).2 ⟨hlt ht2, t', by omega, ht2⟩
  have hr : ReadyOr ops listed i := by
    intro o e ho he hb
    obtain ⟨t', ht1, ht2⟩ := c.plan.topo p i o e hp ho he hb
    exact (hget _).2 ⟨hlt ht2, t', ht1, ht2⟩
  obtain ⟨_, q, hq1, hq2⟩ := (hget j).1 (h listed hcl hr)
  have := c.plan.uniq t q j ht hq2
  omega

section
variable {listed : Array Bool} {a : Act} {w : World} {T : Nat} {ρ : Ren} {D : Nat → Prop}

theorem order_lt {t i : Nat} (h : order[t]? = some i) : t < xs.length := by
  rw [c.plan.len]
  rcases Nat.lt_or_ge t order.length with h1 | h1
  · exact h1
  · rw [List.getElem?_eq_none h1] at h; cases h

/-- What can be next, or is done, stands no later than the first act that is not done. -/
theorem pos_le (iv : Inv ds G lo nt ops order xs E Hh ρ0 D0 w0 listed a w T ρ D) : ∀ (p i : Nat), order[p]? = some i → ReadyOr ops listed i → p ≤ T := by
  intro p
  induction p using Nat.strongRecOn with
  | _ p ih =>
    intro i hp hr
    rcases Nat.lt_or_ge T p with hlt | hge
    · exfalso
      have hpl := order_lt c hp
      obtain ⟨x, iT, hx, ha, hoT, hl⟩ := iv.act (by omega)
      obtain ⟨q, y, hq1, hq2, hy, hya, hno⟩ := last_act T p hlt (by omega) hx ha
      have hql : q < order.length := by rw [← c.plan.len]; omega
      have hoq : order[q]? = some order[q] := List.getElem?_eq_getElem hql
      have hb := c.plan.greedy p q i order[q] y hp hoq hq2 hy hya hno listed iv.closed hr
      by_cases hqT : q = T
      · subst hqT; rw [hoq] at hoT; cases hoT; rw [hl] at hb; cases hb
      · have hrq : ReadyOr ops listed order[q] := fun o e ho he hbd => iv.closed order[q] o e ho hb he hbd
        have := ih q hq2 order[q] hoq hrq
        omega
    · exact hge

theorem listed_lt (iv : Inv ds G lo nt ops order xs E Hh ρ0 D0 w0 listed a w T ρ D) {p i : Nat} (hp : order[p]? = some i) (hl : listed.getD i false = true) : p < T := by
  have h1 := pos_le c iv p i hp (fun o e ho he hbd => iv.closed i o e ho hl he hbd)
  rcases Nat.lt_or_ge p T with h2 | h2
  · exact h2
  · exfalso
    have hpT : p = T := by omega
    subst hpT
    obtain ⟨x, iT, hx, ha, hoT, hlT⟩ := iv.act (order_lt c hp)
    rw [hp] at hoT; cases hoT; rw [hl] at hlT; cases hlT

/-- What an operation that is next reads stands in the slots. -/
theorem reads_ok (iv : Inv ds G lo nt ops order xs E Hh ρ0 D0 w0 listed a w T ρ D) {p i : Nat} {x : Item} (hp : order[p]? = some i) (hx : xs[p]? = some x) (hr : ReadyOr ops listed i) (hnl : listed.getD i false = false) :
    ∀ u ∈ x.reads, ∀ v, (E p).get u = some v → SR ρ D nt a u v := by
  intro u hu v hv
  have hpT := pos_le c iv p i hp hr
  have hTN := iv.TN
  by_cases hw : ∃ (t : Nat) (y : Item) (j : Nat), xs[t]? = some y ∧ order[t]? = some j ∧ listed.getD j false = true ∧ y.dst = some u
  · obtain ⟨t, y, j, hy, hj, hlj, hyd⟩ := hw
    have htT := listed_lt c iv hj hlj
    have htp : t < p := by
      rcases c.plan.conf p t i j x y u hp hj hx hy hu hyd with h | h | h
      · subst h; rw [hp] at hj; cases hj; rw [hnl] at hlj; cases hlj
      · -- the writer stands ahead: by the plan's own order
        rcases Nat.lt_or_ge t p with h1 | h1
        · exact h1
        · exfalso
          -- all places ahead of p, as listed, close under what must be ahead
          have := Bef_lt c hp hj h
          omega
      · exfalso
        have := h listed iv.closed (fun o e ho he hbd => iv.closed j o e ho hlj he hbd)
        rw [hnl] at this; cases this
    refine iv.sa t y j u v htT hy hj hlj hyd ?_
    have h1 : (E p).get u = (E (t + 1)).get u := E_stay' c (by omega) (by omega) fun k z h1 h2 hz hzd => by
      have := c.plan.dst t k y z u hy hz hyd hzd; omega
    have h2 : (E T).get u = (E (t + 1)).get u := E_stay' c (by omega) hTN fun k z h1 h2 hz hzd => by
      have := c.plan.dst t k y z u hy hz hyd hzd; omega
    rw [h2, ← h1]; exact hv
  · have hno : ∀ (t : Nat) (y : Item) (j : Nat), xs[t]? = some y → order[t]? = some j → listed.getD j false = true → y.dst ≠ some u := fun t y j h1 h2 h3 h4 => hw ⟨t, y, j, h1, h2, h3, h4⟩
    refine iv.sb u v hno ?_
    rw [← hv]
    symm
    refine E_stay' c (Nat.zero_le _) (by have := order_lt c hp; omega) fun t y h1 h2 hy hyd => ?_
    have htl : t < order.length := by rw [← c.plan.len]; have := order_lt c hp; omega
    have hj : order[t]? = some order[t] := List.getElem?_eq_getElem htl
    rcases c.plan.conf p t i order[t] x y u hp hj hx hy hu hyd with h | h | h
    · omega
    · exact hno t y _ hy hj (h listed iv.closed hr) hyd
    · have := Bef_lt c hj hp h; omega

end
end
end Go.RI

