/- RI, part N: whatever the interpreter makes of an operation that is no call, the machine makes. Conditions: none. -/
import Derived.Test.YteoliiakbmomeaaRiM
namespace Go.RI
open Go

section
variable {ds : List Deferred} {P : Program} {G : AHeap} {lo : Nat} {ρ : Ren} {D : Nat → Prop} {n : Nat} {e : Env} {a : Act} {H : AHeap} {w : World}

theorem bin_all (r : Rel P G ds ρ D n e a H w) {o : Oper} {op : BinOp} {t t' : TypeId} {x y : Operand} (ho : o.op = .binOp op t x y t') {x' y' : Opd} (hx' : trOpd P x = some x') (hy' : trOpd P y = some y')
    {io : IOp} (hio : trBin P op t x' y' = some io) {v : Option AVal} {H' : AHeap} (hs : aop lo io e H = some (v, H')) : Sim G lo ρ D H w ((execOp a.eval o).run P w) v H' := by
  have bin : io = .bin op x' y' → Sim G lo ρ D H w ((execOp a.eval o).run P w) v H' := by
    rintro rfl
    simp only [aop] at hs
    split at hs
    · rename_i u1 u2 h1 h2
      rw [Option.map_eq_some_iff] at hs
      obtain ⟨z, hz, he⟩ := hs
      cases he
      exact bin_sim r ho (opd_sim r hx' h1).1 (opd_sim r hy' h2).1 hz
    · cases hs
  have eqb : (op = .eql ∨ op = .neq) → P.underlying t = some .bool → io = .eqB (op == .neq) x' y' → Sim G lo ρ D H w ((execOp a.eval o).run P w) v H' := by
    rintro hop ht rfl
    simp only [aop] at hs
    split at hs
    · rename_i u1 u2 h1 h2
      cases hs
      have := eqB_sim (lo := lo) r ho hop ht (u := u1) (v := u2) (by rw [(opd_sim r hx' h1).1]; rfl) (by rw [(opd_sim r hy' h2).1]; rfl)
      rcases hop with rfl | rfl <;> simpa using this
    · cases hs
  have eqn : ∀ k d, (op = .eql ∨ op = .neq) → P.underlying t = some d → nilD k d = true → io = .eqNil k (op == .neq) x' y' → Sim G lo ρ D H w ((execOp a.eval o).run P w) v H' := by
    rintro k d hop ht hd rfl
    simp only [aop] at hs
    split at hs
    · rename_i u1 u2 h1 h2
      simp only [Option.map_map, Option.map_eq_some_iff] at hs
      obtain ⟨z, hz, he⟩ := hs
      cases he
      have := eqNil_sim (lo := lo) r ho hop ht hd (opd_sim r hx' h1).1 (opd_sim r hx' h1).2 (opd_sim r hy' h2).1 (opd_sim r hy' h2).2 hz
      rcases hop with rfl | rfl <;> simpa using this
    · cases hs
  have eqa : ∀ fs ks, (op = .eql ∨ op = .neq) → P.underlying t = some (.struct fs) → P.stoodInHeld t = false → P.eqGuardType P.depth t = false → flatF P fs.toList 0 = some ks → io = .eqAg ks (op == .neq) x' y' →
      Sim G lo ρ D H w ((execOp a.eval o).run P w) v H' := by
    rintro fs ks hop ht h3 h4 h5 rfl
    simp only [aop] at hs
    split at hs
    · rename_i u1 u2 h1 h2
      simp only [Option.map_map, Option.map_eq_some_iff] at hs
      obtain ⟨z, hz, he⟩ := hs
      cases he
      have := eqAg_sim (lo := lo) r ho hop ht h3 h4 h5 (opd_sim r hx' h1).1 (opd_sim r hy' h2).1 hz
      rcases hop with rfl | rfl <;> simpa using this
    · cases hs
  have eqr : ∀ m el ks, (op = .eql ∨ op = .neq) → P.underlying t = some (.array m el) → P.eqGuardType P.depth t = false → keyKs P t = some (true, ks) → io = .eqAg ks (op == .neq) x' y' →
      Sim G lo ρ D H w ((execOp a.eval o).run P w) v H' := by
    rintro m el ks hop ht h4 h5 rfl
    simp only [aop] at hs
    split at hs
    · rename_i u1 u2 h1 h2
      simp only [Option.map_map, Option.map_eq_some_iff] at hs
      obtain ⟨z, hz, he⟩ := hs
      cases he
      have hx := (opd_sim r hx' h1).1
      have hy := (opd_sim r hy' h2).1
      have hq := keyEq_sim (ρ := ρ) (w := w) h5 (u := .ag u1) (v := .ag u2) rfl rfl hz
      simp only [Op.equal, Op.maxDepth] at hq
      refine sim_val r.heap ?_ (by simp [ok])
      rcases hop with rfl | rfl
      · have h3 := run_eql_struct (P := P) w t (renL ρ u1).toArray (renL ρ u2).toArray
        simp only [ren] at hq
        rw [hq] at h3
        simp [execOp, ho, hx, hy, ren, run_eqGuard_agg w .eql t x y _ _ h4, h3]
      · have h3 := run_neq_struct (P := P) w t (renL ρ u1).toArray (renL ρ u2).toArray
        simp only [ren] at hq
        rw [hq] at h3
        simp [execOp, ho, hx, hy, ren, run_eqGuard_agg w .neq t x y _ _ h4, h3]
    · cases hs
  have both : (op = .eql ∨ op = .neq) → (match P.underlying t with
      | some .bool => some (IOp.eqB (op == .neq) x' y')
      | some (.int _) => some (.bin op x' y')
      | some .string => some (.bin op x' y')
      | some (.slice _) => some (.eqNil 0 (op == .neq) x' y')
      | some (.pointer _) => some (.eqNil 1 (op == .neq) x' y')
      | some (.map _ _) => some (.eqNil 2 (op == .neq) x' y')
      | some (.func _ _ _) => some (.eqNil 3 (op == .neq) x' y')
      | some (.struct fs) => if P.stoodInHeld t = false ∧ P.eqGuardType P.depth t = false then (flatF P fs.toList 0).map fun ks => .eqAg ks (op == .neq) x' y' else none
      | some (.array _ _) => if P.eqGuardType P.depth t = false then match keyKs P t with
          | some (true, ks) => some (.eqAg ks (op == .neq) x' y')
          | _ => none
        else none
      | _ => none) = some io → Sim G lo ρ D H w ((execOp a.eval o).run P w) v H' := by
    intro hop h
    split at h
    · rename_i ht; cases h; exact eqb hop ht rfl
    · cases h; exact bin rfl
    · cases h; exact bin rfl
    · rename_i ht; cases h; exact eqn 0 _ hop ht rfl rfl
    · rename_i ht; cases h; exact eqn 1 _ hop ht rfl rfl
    · rename_i ht; cases h; exact eqn 2 _ hop ht rfl rfl
    · rename_i ht; cases h; exact eqn 3 _ hop ht rfl rfl
    · rename_i ht
      split at h
      · rename_i hc
        rw [Option.map_eq_some_iff] at h
        obtain ⟨ks, hks, rfl⟩ := h
        exact eqa _ ks hop ht hc.1 hc.2 hks rfl
      · cases h
    · rename_i m el ht
      split at h
      · rename_i hc
        split at h
        · rename_i ks hks
          cases h
          exact eqr m el ks hop ht hc hks rfl
        · cases h
      · cases h
    · cases h
  cases op <;> simp only [trBin] at hio <;> first
    | exact both (.inl rfl) hio
    | exact both (.inr rfl) hio
    | (cases hio; exact bin rfl)

theorem aop_sim (r : Rel P G ds ρ D n e a H w) (hlo : G.next ≤ lo) {o : Oper} {io : IOp} (ho : trOp P o = some io) {v : Option AVal} {H' : AHeap} (hs : aop lo io e H = some (v, H')) :
    Sim G lo ρ D H w ((execOp a.eval o).run P w) v H' := by
  cases hop : o.op <;> simp only [trOp, hop] at ho <;> try (cases ho; done)
  case move x =>
    rw [Option.map_eq_some_iff] at ho
    obtain ⟨x', hx', rfl⟩ := ho
    simp only [aop, Option.map_eq_some_iff] at hs
    obtain ⟨u, hu, he⟩ := hs
    cases he
    exact mov_sim r (.inl hop) (opd_sim r hx' hu).1 (opd_sim r hx' hu).2
  case assign x =>
    rw [Option.map_eq_some_iff] at ho
    obtain ⟨x', hx', rfl⟩ := ho
    simp only [aop, Option.map_eq_some_iff] at hs
    obtain ⟨u, hu, he⟩ := hs
    cases he
    exact mov_sim r (.inr hop) (opd_sim r hx' hu).1 (opd_sim r hx' hu).2
  case pick c x y =>
    split at ho
    · rename_i c' x' y' hc hx hy
      cases ho
      simp only [aop] at hs
      split at hs
      · rename_i hcv
        simp only [Option.map_eq_some_iff] at hs
        obtain ⟨u, hu, he⟩ := hs
        cases he
        exact pick_sim r hop (b := true) (by rw [(opd_sim r hc hcv).1]; rfl) (by simpa using (opd_sim r hx hu).1) (opd_sim r hx hu).2
      · rename_i hcv
        simp only [Option.map_eq_some_iff] at hs
        obtain ⟨u, hu, he⟩ := hs
        cases he
        exact pick_sim r hop (b := false) (by rw [(opd_sim r hc hcv).1]; rfl) (by simpa using (opd_sim r hy hu).1) (opd_sim r hy hu).2
      · cases hs
    · cases ho
  case alloc t =>
    rw [Option.map_eq_some_iff] at ho
    obtain ⟨z, hz, rfl⟩ := ho
    simp only [aop] at hs
    cases hs
    exact alloc_sim r hop hz
  case box t x =>
    rw [Option.map_eq_some_iff] at ho
    obtain ⟨x', hx', rfl⟩ := ho
    simp only [aop] at hs
    split at hs
    · rename_i u hu
      split at hs
      · rename_i ht
        cases hs
        exact box_sim r hop (opd_sim r hx' hu).1 (opd_sim r hx' hu).2 ht
      · cases hs
    · cases hs
  case build t parts =>
    split at ho
    · rename_i pl z hpl hz
      rw [Option.map_eq_some_iff] at ho
      obtain ⟨l', hl', rfl⟩ := ho
      simp only [aop] at hs
      split at hs
      · rename_i ps hps
        simp only [Option.map_map, Option.map_eq_some_iff] at hs
        obtain ⟨cs, hcs, he⟩ := hs
        cases he
        exact build_sim r hop hpl hz hl' hps hcs
      · cases hs
    · cases ho
  case buildSlice t len parts =>
    split at ho
    · rename_i el ht
      split at ho
      · rename_i i z hi hz
        split at ho
        · rename_i hc
          rw [Option.map_eq_some_iff] at ho
          obtain ⟨l', hl', rfl⟩ := ho
          simp only [aop] at hs
          split at hs
          · rename_i ps hps
            split at hs
            · rename_i cs hcs
              cases hs
              exact bsl_sim r hop ht hi hz hc.1 hc.2 hl' hps hcs
            · cases hs
          · cases hs
        · cases ho
      · cases ho
    · cases ho
  case load t x =>
    split at ho
    · rename_i d i x' hd hi hx'
      cases ho
      simp only [aop, Option.map_eq_some_iff, Option.bind_eq_some_iff] at hs
      obtain ⟨u, ⟨p, hp, hl⟩, he⟩ := hs
      cases he
      exact load_sim r hop hd hi (opd_sim r hx' hp).1 (opd_sim r hx' hp).2 hl
    · cases ho
  case store t x y =>
    split at ho
    · rename_i i x' y' hi hx' hy'
      cases ho
      simp only [aop] at hs
      split at hs
      · rename_i p u hp hu
        rw [Option.map_eq_some_iff] at hs
        obtain ⟨H1, h1, he⟩ := hs
        cases he
        exact storeV_sim r hlo hop hi (opd_sim r hx' hp).1 (opd_sim r hx' hp).2 (opd_sim r hy' hu).1 (opd_sim r hy' hu).2 h1
      · cases hs
    · cases ho
  case nilCheck x =>
    rw [Option.map_eq_some_iff] at ho
    obtain ⟨x', hx', rfl⟩ := ho
    simp only [aop] at hs
    split at hs
    · rename_i id off hu
      cases hs
      exact nck_sim r hop (opd_sim r hx' hu).1 (opd_sim r hx' hu).2 (.inl ⟨_, _, rfl⟩)
    · rename_i f p q hu
      cases hs
      exact nck_sim r hop (opd_sim r hx' hu).1 (opd_sim r hx' hu).2 (.inr (.inl ⟨_, _, _, rfl⟩))
    · rename_i t u hu
      cases hs
      exact nck_sim r hop (opd_sim r hx' hu).1 (opd_sim r hx' hu).2 (.inr (.inr ⟨_, _, rfl⟩))
    · rename_i l hu
      have := (opd_sim r hx' hu).2
      simp [ok] at this
    · cases hs
  case binOp op t x y t' =>
    split at ho
    · rename_i x' y' hx' hy'
      exact bin_all r hop hx' hy' ho hs
    · cases ho
  case unOp op t x =>
    rw [Option.map_eq_some_iff] at ho
    obtain ⟨x', hx', rfl⟩ := ho
    simp only [aop, Option.map_eq_some_iff, Option.bind_eq_some_iff] at hs
    obtain ⟨z, ⟨u, hu, hz⟩, he⟩ := hs
    cases he
    exact un_sim r hop (opd_sim r hx' hu).1 hz
  case convert s t x =>
    split at ho
    · rename_i k0 k x' hs0 ht hx'
      cases ho
      simp only [aop] at hs
      split at hs
      · rename_i k' m hu
        cases hs
        exact conv_sim r hop hs0 ht (k' := k') (by rw [(opd_sim r hx' hu).1]; rfl)
      · cases hs
    · rename_i x' hs0 ht hx'
      cases ho
      simp only [aop] at hs
      split at hs
      · rename_i u hu
        cases hs
        exact same_sim r hop hs0 ht (opd_sim r hx' hu).1
      · cases hs
    · rename_i el x' hs0 ht hx'
      split at ho
      · rename_i hel
        cases ho
        simp only [aop] at hs
        split at hs
        · rename_i u hu
          cases hs
          exact s2b_sim r hop hs0 ht hel (opd_sim r hx' hu).1
        · cases hs
      · cases ho
    · cases ho
  case makeInterface t x =>
    split at ho
    · cases ho
    · rename_i d hne ht
      rw [Option.map_eq_some_iff] at ho
      obtain ⟨x', hx', rfl⟩ := ho
      simp only [aop, Option.map_map, Option.map_eq_some_iff] at hs
      obtain ⟨u, hu, he⟩ := hs
      cases he
      exact iface_sim r hop ht (fun ms hms => hne ms hms) (opd_sim r hx' hu).1 (opd_sim r hx' hu).2
    · cases ho
  case makeFunc fn x y =>
    cases fn <;> simp only at ho <;> try (cases ho; done)
    case func f =>
      split at ho
      · rename_i x' y' hx' hy'
        cases ho
        simp only [aop] at hs
        split at hs
        · rename_i u v' hu hv
          cases hs
          exact mkf_sim r hop (opds_sim r hx' hu).1 (opds_sim r hx' hu).2 (opds_sim r hy' hv).1 (opds_sim r hy' hv).2
        · cases hs
      · cases ho
  case makeSlice t l c =>
    split at ho
    · rename_i el ht
      split at ho
      · rename_i i z l' c' hi hz hl' hc'
        split at ho
        · rename_i hzl
          cases ho
          simp only [aop] at hs
          split at hs
          · rename_i k1 n1 k2 n2 hn hm
            split at hs
            · rename_i hc
              cases hs
              exact mksl_sim r hop ht hi hz hzl (k := k1) (k' := k2) (by rw [(opd_sim r hl' hn).1]; rfl) (by rw [(opd_sim r hc' hm).1]; rfl) hc.1 hc.2.1 hc.2.2.1 hc.2.2.2
            · cases hs
          · cases hs
        · cases ho
      · cases ho
    · cases ho
  case slice t x l h m =>
    split at ho
    · rename_i ht
      split at ho
      · rename_i x' l' h' hx' hl' hh'
        cases ho
        simp only [aop] at hs
        split at hs
        · rename_i u l1 h1 hu hl1 hh1
          simp only [Option.map_eq_some_iff] at hs
          obtain ⟨z, hz, he⟩ := hs
          cases he
          exact slS_sim r hop ht (opd_sim r hx' hu).1 (opt_sim r hl' hl1) (opt_sim r hh' hh1) hz
        · cases hs
      · cases ho
    · rename_i el ht
      split at ho
      · rename_i i x' l' h' m' hi hx' hl' hh' hm'
        cases ho
        simp only [aop] at hs
        split at hs
        · rename_i u l1 h1 m1 hu hl1 hh1 hm1
          rw [Option.map_eq_some_iff] at hs
          obtain ⟨⟨z, H1⟩, hz, he⟩ := hs
          cases he
          exact sl_sim r hop ht hi (opd_sim r hx' hu).1 (opd_sim r hx' hu).2 (opt_sim r hl' hl1) (opt_sim r hh' hh1) (opt_sim r hm' hm1) hz
        · cases hs
      · cases ho
    · cases ho
  case fieldAddr s x j =>
    split at ho
    · rename_i fs hfs
      split at ho
      · rename_i f hf
        split at ho
        · rename_i i x' hi hx'
          split at ho
          · rename_i hsz
            cases ho
            simp only [aop, Option.map_eq_some_iff, Option.bind_eq_some_iff] at hs
            obtain ⟨z, ⟨u, hu, hz⟩, he⟩ := hs
            cases he
            exact off_sim r hop hfs hf hi hsz (opd_sim r hx' hu).1 (opd_sim r hx' hu).2 hz
          · cases ho
        · cases ho
      · cases ho
    · cases ho
  case field s x j =>
    split at ho
    · rename_i fs hfs
      split at ho
      · rename_i f hf
        split at ho
        · rename_i d i x' hd hi hx'
          cases ho
          simp only [aop, Option.map_eq_some_iff, Option.bind_eq_some_iff] at hs
          obtain ⟨z, ⟨u, hu, hz⟩, he⟩ := hs
          cases he
          exact part_sim r hop hfs hf hd hi (opd_sim r hx' hu).1 (opd_sim r hx' hu).2 hz
        · cases ho
      · cases ho
    · cases ho
  case indexAddr t x y =>
    split at ho
    · rename_i el ht
      split at ho
      · rename_i i x' y' hi hx' hy'
        cases ho
        simp only [aop] at hs
        split at hs
        · rename_i u v' hu hv
          simp only [Option.map_eq_some_iff] at hs
          obtain ⟨z, hz, he⟩ := hs
          cases he
          exact iaddr_sim r hop ht hi (opd_sim r hx' hu).1 (opd_sim r hx' hu).2 (opd_sim r hy' hv).1 hz
        · cases hs
      · cases ho
    · rename_i len el ht
      split at ho
      · rename_i i x' y' hi hx' hy'
        cases ho
        simp only [aop] at hs
        split at hs
        · rename_i u v' hu hv
          simp only [Option.map_eq_some_iff] at hs
          obtain ⟨z, hz, he⟩ := hs
          cases he
          exact iaddrA_sim r hop ht hi (opd_sim r hx' hu).1 (opd_sim r hx' hu).2 (opd_sim r hy' hv).1 hz
        · cases hs
      · cases ho
    · cases ho
  case index t x y =>
    split at ho
    · rename_i ht
      split at ho
      · rename_i x' y' hx' hy'
        cases ho
        simp only [aop] at hs
        split at hs
        · rename_i u v' hu hv
          simp only [Option.map_eq_some_iff] at hs
          obtain ⟨z, hz, he⟩ := hs
          cases he
          exact idxS_sim r hop ht (opd_sim r hx' hu).1 (opd_sim r hy' hv).1 hz
        · cases hs
      · cases ho
    · rename_i len el ht
      split at ho
      · rename_i d i x' y' hd hi hx' hy'
        cases ho
        simp only [aop] at hs
        split at hs
        · rename_i u v' hu hv
          simp only [Option.map_eq_some_iff] at hs
          obtain ⟨z, hz, he⟩ := hs
          cases he
          exact idxA_sim r hop ht hd hi (opd_sim r hx' hu).1 (opd_sim r hx' hu).2 (opd_sim r hy' hv).1 hz
        · cases hs
      · cases ho
    · cases ho
  case extract x k =>
    rw [Option.map_eq_some_iff] at ho
    obtain ⟨x', hx', rfl⟩ := ho
    simp only [aop, Option.map_eq_some_iff, Option.bind_eq_some_iff] at hs
    obtain ⟨z, ⟨u, hu, hz⟩, he⟩ := hs
    cases he
    exact ext_sim r hop (opd_sim r hx' hu).1 (opd_sim r hx' hu).2 hz
  case makeMap t hint =>
    cases hint with
    | some _ => cases ho
    | none =>
      cases ho
      simp only [aop] at hs
      cases hs
      exact mkmap_sim r hop
  case mapUpdate t x y z =>
    split at ho
    · rename_i kt el ht
      split at ho
      · rename_i ag ks x' y' z' hk hx' hy' hz'
        cases ho
        simp only [aop] at hs
        split at hs
        · rename_i m k u hm hkv hu
          rw [Option.map_eq_some_iff] at hs
          obtain ⟨H1, h1, he⟩ := hs
          cases he
          exact mapup_sim r hlo (.inl hop) ht hk (opd_sim r hx' hm).1 (opd_sim r hx' hm).2 (opd_sim r hy' hkv).1 (opd_sim r hy' hkv).2 (opd_sim r hz' hu).1 (opd_sim r hz' hu).2 h1
        · cases hs
      · cases ho
    · cases ho
  case insert t x y z =>
    split at ho
    · rename_i kt el ht
      split at ho
      · rename_i ag ks x' y' z' hk hx' hy' hz'
        cases ho
        simp only [aop] at hs
        split at hs
        · rename_i m k u hm hkv hu
          rw [Option.map_eq_some_iff] at hs
          obtain ⟨H1, h1, he⟩ := hs
          cases he
          exact mapup_sim r hlo (.inr hop) ht hk (opd_sim r hx' hm).1 (opd_sim r hx' hm).2 (opd_sim r hy' hkv).1 (opd_sim r hy' hkv).2 (opd_sim r hz' hu).1 (opd_sim r hz' hu).2 h1
        · cases hs
      · cases ho
    · cases ho
  case lookup t x y okf =>
    split at ho
    · rename_i kt el ht
      split at ho
      · rename_i ag ks z x' y' hk hz hx' hy'
        cases ho
        simp only [aop] at hs
        split at hs
        · rename_i m k hm hkv
          simp only [Option.map_eq_some_iff] at hs
          obtain ⟨u, hu, he⟩ := hs
          cases he
          exact look_sim r hop ht hk hz (opd_sim r hx' hm).1 (opd_sim r hx' hm).2 (opd_sim r hy' hkv).1 hu
        · cases hs
      · cases ho
    · cases ho
  case call c =>
    unfold trBi at ho
    split at ho
    · -- len
      rename_i x t
      have fin : ∀ (k : Nat) (d : TypeDesc) (x' : Opd), P.underlying t = some d → lenD k d = true → trOpd P x = some x' → io = .lenk k x' → Sim G lo ρ D H w ((execOp a.eval o).run P w) v H' := by
        rintro k d x' hd hk hx' rfl
        simp only [aop, Option.map_map, Option.map_eq_some_iff, Option.bind_eq_some_iff] at hs
        obtain ⟨m, ⟨u, hu, hm⟩, he⟩ := hs
        cases he
        exact len_sim r hop hd (opd_sim r hx' hu).1 (opd_sim r hx' hu).2 hk hm
      split at ho
      · rename_i hd hx'; cases ho; exact fin 0 _ _ hd rfl hx' rfl
      · rename_i hd hx'; cases ho; exact fin 1 _ _ hd rfl hx' rfl
      · rename_i hd hx'; cases ho; exact fin 2 _ _ hd rfl hx' rfl
      · cases ho
    · -- append
      rename_i x y t t2
      split at ho
      · rename_i el d2 ht ht2
        split at ho
        · rename_i i z x' y' hi hz hx' hy'
          split at ho
          · rename_i hc
            cases ho
            simp only [aop] at hs
            split at hs
            · rename_i u v' hu hv
              rw [Option.map_eq_some_iff] at hs
              obtain ⟨⟨res, H1⟩, hr, he⟩ := hs
              cases he
              refine app_sim r hlo hop ht ht2 ?_ hi hz hc.1 (opd_sim r hx' hu).1 (opd_sim r hx' hu).2 (opd_sim r hy' hv).1 (opd_sim r hy' hv).2 hr
              have := hc.2; cases d2 <;> simp_all [strSl]
            · cases hs
          · cases ho
        · cases ho
      · cases ho
    · -- copy
      rename_i x y t t2
      split at ho
      · rename_i el ht
        split at ho
        · rename_i i x' y' hi hx' hy'
          cases ho
          simp only [aop] at hs
          split at hs
          · rename_i u v' hu hv
            rw [Option.map_eq_some_iff] at hs
            obtain ⟨⟨res, H1⟩, hr, he⟩ := hs
            cases he
            exact cpy_sim r hlo hop ht hi (opd_sim r hx' hu).1 (opd_sim r hx' hu).2 (opd_sim r hy' hv).1 (opd_sim r hy' hv).2 hr
          · cases hs
        · cases ho
      · cases ho
    · -- max
      rename_i x l ts'
      split at ho
      · rename_i x' l' hx' hl'
        cases ho
        simp only [aop] at hs
        split at hs
        · rename_i u us hu hus
          simp only [Option.map_eq_some_iff] at hs
          obtain ⟨z, hz, he⟩ := hs
          cases he
          exact mm_sim r (mx := true) hop (opd_sim r hx' hu).1 (opd_sim r hx' hu).2 (opds_sim r hl' hus).1 (opds_sim r hl' hus).2 hz
        · cases hs
      · cases ho
    · -- min
      rename_i x l ts'
      split at ho
      · rename_i x' l' hx' hl'
        cases ho
        simp only [aop] at hs
        split at hs
        · rename_i u us hu hus
          simp only [Option.map_eq_some_iff] at hs
          obtain ⟨z, hz, he⟩ := hs
          cases he
          exact mm_sim r (mx := false) hop (opd_sim r hx' hu).1 (opd_sim r hx' hu).2 (opds_sim r hl' hus).1 (opds_sim r hl' hus).2 hz
        · cases hs
      · cases ho
    · cases ho

end
end Go.RI
