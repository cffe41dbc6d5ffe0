import Derived.Test.YtgpjfhaohjnbnaaGreatDoorM05
set_option linter.unusedVariables false
set_option linter.unusedSimpArgs false
set_option linter.unusedSectionVars false
/- RI, part PS: the calculus as a machine that the simplifier runs. Conditions: none. -/
namespace Go.RI
open Go
mutual
def flat : AVal → Bool
  | .fs _ _ _ _ => false
  | .fp _ => false
  | .fn _ a c => flatL a && flatL c
  | .ag l => flatL l
  | .tu l => flatL l
  | .ifc _ v => flat v
  | _ => true
def flatL : List AVal → Bool
  | [] => true
  | v :: l => flat v && flatL l
end
mutual
theorem same_refl : ∀ v : AVal, flat v = true → same v v = true
  | .b _, _ | .i _ _, _ | .s _, _ | .np, _ | .p _ _, _ | .ns, _ | .sl _ _ _ _, _ | .nf, _ | .nm, _ | .m _, _ | .nif, _ | .es _, _ => by simp [same]
  | .fn _ a c, h => by simp only [flat, Bool.and_eq_true] at h; simp [same, sameL_refl a h.1, sameL_refl c h.2]
  | .ag l, h => by simp only [flat] at h; simp [same, sameL_refl l h]
  | .tu l, h => by simp only [flat] at h; simp [same, sameL_refl l h]
  | .ifc _ v, h => by simp only [flat] at h; simp [same, same_refl v h]
  | .fs _ _ _ _, h | .fp _, h => by simp [flat] at h
theorem sameL_refl : ∀ l : List AVal, flatL l = true → sameL l l = true
  | [], _ => rfl
  | v :: l, h => by simp only [flatL, Bool.and_eq_true] at h; simp [sameL, same_refl v h.1, sameL_refl l h.2]
end
section
variable {call : CallI} {lo : Nat} {e : Env} {H : AHeap} {Q : Post}
def run (call : CallI) (lo : Nat) (xs : List Item) (kill : List Nat) (Q : Post) (e : Env) (H : AHeap) : Prop := upon (itemsI call lo xs e H) fun e' H' => Q .normal (e'.kill kill) H'
def seqP (call : CallI) (lo : Nat) (b : ICode) (Q : Post) : Post := andThen Q fun e' H' => wp call lo b Q e' H'
def fin (res : List IRes) (R : AVal → AHeap → Prop) : Post := fun x e H => match x with
  | .exit _ => False
  | _ => match resI e H res with
    | some vs => R (tupI vs) H
    | none => False
theorem ends_fin {fn : IFunc} {R : AVal → AHeap → Prop} : ends fn R = fin fn.res R := rfl
def finR (R : AVal → AHeap → Prop) (H : AHeap) : Option (List AVal) → Prop
  | some vs => R (tupI vs) H
  | none => False
@[simp] theorem finR_some {R : AVal → AHeap → Prop} {vs : List AVal} : finR R H (some vs) = R (tupI vs) H := rfl
@[simp] theorem finR_none {R : AVal → AHeap → Prop} : finR R H none = False := rfl
@[simp] theorem fin_normal {res : List IRes} {R : AVal → AHeap → Prop} : fin res R .normal e H = finR R H (resI e H res) := rfl
@[simp] theorem fin_ret {res : List IRes} {R : AVal → AHeap → Prop} : fin res R .ret e H = finR R H (resI e H res) := rfl
@[simp] theorem seqP_normal {b : ICode} : seqP call lo b Q .normal e H = wp call lo b Q e H := rfl
@[simp] theorem seqP_exit {b : ICode} {id : Nat} : seqP call lo b Q (.exit id) e H = Q (.exit id) e H := rfl
@[simp] theorem seqP_ret {b : ICode} : seqP call lo b Q .ret e H = Q .ret e H := rfl
@[simp] theorem inBlock_normal {id : Nat} : inBlock Q id .normal e H = Q .normal e H := rfl
@[simp] theorem inBlock_exit {id i : Nat} : inBlock Q id (.exit i) e H = if i = id then Q .normal e H else Q (.exit i) e H := rfl
@[simp] theorem inBlock_ret {id : Nat} : inBlock Q id .ret e H = Q .ret e H := rfl
@[simp] theorem andThen_normal {k : Env → AHeap → Prop} : andThen Q k .normal e H = k e H := rfl
@[simp] theorem andThen_exit {k : Env → AHeap → Prop} {id : Nat} : andThen Q k (.exit id) e H = Q (.exit id) e H := rfl
@[simp] theorem andThen_ret {k : Env → AHeap → Prop} : andThen Q k .ret e H = Q .ret e H := rfl
@[simp] theorem wp_skip_eq : wp call lo .skip Q e H = Q .normal e H := rfl
@[simp] theorem wp_region_eq {xs : List Item} {kill : List Nat} : wp call lo (.region xs kill) Q e H = run call lo xs kill Q e H := rfl
@[simp] theorem wp_seq_eq {a b : ICode} : wp call lo (.seq a b) Q e H = wp call lo a (seqP call lo b Q) e H := rfl
def testP (call : CallI) (lo : Nat) (a b : ICode) (Q : Post) (e : Env) (H : AHeap) : Option AVal → Prop
  | some (.b true) => wp call lo a Q e H
  | some (.b false) => wp call lo b Q e H
  | _ => False
@[simp] theorem wp_cond_eq {c : Opd} {a b : ICode} : wp call lo (.cond c a b) Q e H = testP call lo a b Q e H (c.eval e) := by
  show test _ _ _ = _
  rcases c.eval e with _ | v
  · rfl
  · cases v <;> rfl
@[simp] theorem testP_t {a b : ICode} : testP call lo a b Q e H (some (.b true)) = wp call lo a Q e H := rfl
@[simp] theorem testP_f {a b : ICode} : testP call lo a b Q e H (some (.b false)) = wp call lo b Q e H := rfl
theorem test_intro {a b : ICode} {x : Bool} (h1 : x = true → wp call lo a Q e H) (h2 : x = false → wp call lo b Q e H) : testP call lo a b Q e H (some (.b x)) := by
  cases x
  · exact h2 rfl
  · exact h1 rfl
@[simp] theorem wp_block_eq {id : Nat} {b : ICode} : wp call lo (.block id b) Q e H = wp call lo b (inBlock Q id) e H := rfl
@[simp] theorem wp_exit_eq {id : Nat} : wp call lo (.exit id) Q e H = Q (.exit id) e H := rfl
@[simp] theorem wp_ret_eq : wp call lo .ret Q e H = Q .ret e H := rfl
@[simp] theorem run_nil {kill : List Nat} : run call lo [] kill Q e H = Q .normal (e.kill kill) H := rfl
noncomputable def stepP (call : CallI) (lo : Nat) (xs : List Item) (kill : List Nat) (Q : Post) (dst : Option Nat) (op : IOp) (re : List (Nat × IOp × Option (Nat × Bool))) (e : Env) : Option (Option AVal × AHeap) → Prop
  | some (v, H') => if skipI call op || (keepI H' op re e (putD e dst (v.getD (.tu []))) || reOk lo (putD e dst (v.getD (.tu []))) H' re) then run call lo xs kill Q (putD e dst (v.getD (.tu []))) H' else False
  | none => False
theorem run_none {dst : Option Nat} {op : IOp} {re : List (Nat × IOp × Option (Nat × Bool))} {xs : List Item} {kill : List Nat} : run call lo (⟨dst, op, none, re⟩ :: xs) kill Q e H = stepP call lo xs kill Q dst op re e (opI call lo op e H) := by
  simp only [run, itemsI, itemI, wantedI]
  rcases opI call lo op e H with _ | ⟨_ | v, H'⟩
  · rfl
  · simp only [stepP, Option.getD_none]
    split <;> rfl
  · simp only [stepP, Option.getD_some]
    split <;> rfl
@[simp] theorem run_none_nil {dst : Option Nat} {op : IOp} {xs : List Item} {kill : List Nat} : run call lo (⟨dst, op, none, []⟩ :: xs) kill Q e H = stepP call lo xs kill Q dst op [] e (opI call lo op e H) := run_none
@[simp] theorem run_none_re {dst : Option Nat} {op : IOp} {x : Nat × IOp × Option (Nat × Bool)} {re : List (Nat × IOp × Option (Nat × Bool))} {xs : List Item} {kill : List Nat} : run call lo (⟨dst, op, none, x :: re⟩ :: xs) kill Q e H = stepP call lo xs kill Q dst op (x :: re) e (opI call lo op e H) := run_none
@[simp] theorem stepP_nil {xs : List Item} {kill : List Nat} {dst : Option Nat} {op : IOp} {v : Option AVal} : stepP call lo xs kill Q dst op [] e (some (v, H)) = run call lo xs kill Q (putD e dst (v.getD (.tu []))) H := by simp [stepP, reOk]
@[simp] theorem stepP_re {xs : List Item} {kill : List Nat} {dst : Option Nat} {op : IOp} {v : Option AVal} {x : Nat × IOp × Option (Nat × Bool)} {re : List (Nat × IOp × Option (Nat × Bool))} : stepP call lo xs kill Q dst op (x :: re) e (some (v, H)) =
    if skipI call op || (keepI H op (x :: re) e (putD e dst (v.getD (.tu []))) || reOk lo (putD e dst (v.getD (.tu []))) H (x :: re)) then run call lo xs kill Q (putD e dst (v.getD (.tu []))) H else False := rfl
@[simp] theorem stepP_none {xs : List Item} {kill : List Nat} {dst : Option Nat} {op : IOp} {re : List (Nat × IOp × Option (Nat × Bool))} : stepP call lo xs kill Q dst op re e none = False := rfl
noncomputable def guardP (call : CallI) (lo : Nat) (xs : List Item) (kill : List Nat) (Q : Post) (dst : Option Nat) (op : IOp) (re : List (Nat × IOp × Option (Nat × Bool))) (want : Bool) (e : Env) (H : AHeap) : Option AVal → Prop
  | some (.b x) => if x = want then stepP call lo xs kill Q dst op re e (opI call lo op e H) else stepP call lo xs kill Q dst op re e (some (none, H))
  | some _ => stepP call lo xs kill Q dst op re e (some (none, H))
  | none => False
@[simp] theorem run_some {dst : Option Nat} {op : IOp} {t : Nat} {want : Bool} {re : List (Nat × IOp × Option (Nat × Bool))} {xs : List Item} {kill : List Nat} : run call lo (⟨dst, op, some (t, want), re⟩ :: xs) kill Q e H = guardP call lo xs kill Q dst op re want e H (e.get t) := by
  have key : ∀ (r : Option (Option AVal × AHeap)), (match r with | some (some v, H') => some (putD e dst v, H') | some (none, H') => some (putD e dst (.tu []), H') | none => none) = r.map fun x => (putD e dst (x.1.getD (.tu [])), x.2) := by
    intro r; rcases r with _ | ⟨_ | v, H'⟩ <;> rfl
  have step : ∀ (r : Option (Option AVal × AHeap)), (upon (match (r.map fun x => (putD e dst (x.1.getD (.tu [])), x.2)) with | some (e', H') => if skipI call op || (keepI H' op re e e' || reOk lo e' H' re) then itemsI call lo xs e' H' else none | none => none) fun e' H' => Q .normal (e'.kill kill) H') = stepP call lo xs kill Q dst op re e r := by
    intro r
    rcases r with _ | ⟨v, H'⟩
    · rfl
    · simp only [Option.map_some, stepP, run]
      split <;> rfl
  simp only [run, itemsI, itemI, wantedI]
  rcases e.get t with _ | v
  · rfl
  · cases v
    case b x =>
      simp only [guardP]
      cases hxw : (x == want)
      · rw [if_neg (by simpa using hxw), ← step]; rfl
      · rw [if_pos (by simpa using hxw), ← step]
        rcases opI call lo op e H with _ | ⟨_ | v, H'⟩ <;> rfl
    all_goals (simp only [guardP]; rw [← step]; rfl)
@[simp] theorem guardP_tt {xs : List Item} {kill : List Nat} {dst : Option Nat} {op : IOp} {re : List (Nat × IOp × Option (Nat × Bool))} : guardP call lo xs kill Q dst op re true e H (some (.b true)) = stepP call lo xs kill Q dst op re e (opI call lo op e H) := rfl
@[simp] theorem guardP_tf {xs : List Item} {kill : List Nat} {dst : Option Nat} {op : IOp} {re : List (Nat × IOp × Option (Nat × Bool))} : guardP call lo xs kill Q dst op re true e H (some (.b false)) = stepP call lo xs kill Q dst op re e (some (none, H)) := rfl
@[simp] theorem guardP_ff {xs : List Item} {kill : List Nat} {dst : Option Nat} {op : IOp} {re : List (Nat × IOp × Option (Nat × Bool))} : guardP call lo xs kill Q dst op re false e H (some (.b false)) = stepP call lo xs kill Q dst op re e (opI call lo op e H) := rfl
@[simp] theorem guardP_ft {xs : List Item} {kill : List Nat} {dst : Option Nat} {op : IOp} {re : List (Nat × IOp × Option (Nat × Bool))} : guardP call lo xs kill Q dst op re false e H (some (.b true)) = stepP call lo xs kill Q dst op re e (some (none, H)) := rfl
theorem guard_intro {xs : List Item} {kill : List Nat} {dst : Option Nat} {op : IOp} {re : List (Nat × IOp × Option (Nat × Bool))} {want x : Bool} (h1 : x = true → guardP call lo xs kill Q dst op re want e H (some (.b true))) (h2 : x = false → guardP call lo xs kill Q dst op re want e H (some (.b false))) : guardP call lo xs kill Q dst op re want e H (some (.b x)) := by
  cases x
  · exact h2 rfl
  · exact h1 rfl
@[simp] theorem guardP_tu {xs : List Item} {kill : List Nat} {dst : Option Nat} {op : IOp} {re : List (Nat × IOp × Option (Nat × Bool))} {want : Bool} {l : List AVal} : guardP call lo xs kill Q dst op re want e H (some (.tu l)) = stepP call lo xs kill Q dst op re e (some (none, H)) := rfl
@[simp] theorem testP_not {a b : ICode} {x : Bool} : testP call lo a b Q e H (some (.b (!x))) = testP call lo b a Q e H (some (.b x)) := by cases x <;> rfl
@[simp] theorem guardP_not_t {xs : List Item} {kill : List Nat} {dst : Option Nat} {op : IOp} {re : List (Nat × IOp × Option (Nat × Bool))} {x : Bool} : guardP call lo xs kill Q dst op re true e H (some (.b (!x))) = guardP call lo xs kill Q dst op re false e H (some (.b x)) := by cases x <;> rfl
@[simp] theorem guardP_not_f {xs : List Item} {kill : List Nat} {dst : Option Nat} {op : IOp} {re : List (Nat × IOp × Option (Nat × Bool))} {x : Bool} : guardP call lo xs kill Q dst op re false e H (some (.b (!x))) = guardP call lo xs kill Q dst op re true e H (some (.b x)) := by cases x <;> rfl
@[simp] theorem keepI_app {n m : Nat} {x y : Opd} {re : List (Nat × IOp × Option (Nat × Bool))} {e e' : Env} : keepI H (.app n m x y) re e e' = (match (x.eval e).bind touchV with | some ids => keepL false ids e' re | none => false) := by
  simp only [keepI, touch]
  cases x.eval e <;> rfl
@[simp] theorem touchV_ns : touchV .ns = some [] := rfl
@[simp] theorem touchV_sl {id off len : Nat} : touchV (.sl id off len none) = some [id] := rfl
@[simp] theorem touchV_fs {t : Bool} {len : Nat} {l : List AVal} : touchV (.fs t true len l) = some [] := rfl
@[simp] theorem keepL_nil {fp : Bool} {ids : List Nat} {e : Env} : keepL fp ids e [] = true := rfl
@[simp] theorem keepL_load {fp : Bool} {ids : List Nat} {e : Env} {t : Nat} {n : Option Nat} {b : Opd} {g : Option (Nat × Bool)} {l : List (Nat × IOp × Option (Nat × Bool))} : keepL fp ids e ((t, .load n b, g) :: l) = ((match b.eval e with | some (.p id _) => !ids.contains id | some (.fp _) => fp | _ => false) && keepL fp ids e l) := rfl
@[simp] theorem keepI_call {f : FuncId} {args : List Opd} {re : List (Nat × IOp × Option (Nat × Bool))} {e e' : Env} : keepI H (.call f args) re e e' = false := rfl
@[simp] theorem keepI_store {n : Nat} {x y : Opd} {re : List (Nat × IOp × Option (Nat × Bool))} {e e' : Env} : keepI H (.store n x y) re e e' = (match x.eval e with | some (.p id _) => keepL (wrO (H.get id)) [id] e' re | _ => false) := by
  simp only [keepI, touch]
  rcases x.eval e with _ | v
  · rfl
  · cases v <;> first | rfl | simp [isSt]
@[simp] theorem keepI_callv {x : Opd} {args : List Opd} {re : List (Nat × IOp × Option (Nat × Bool))} {e e' : Env} : keepI H (.callv x args) re e e' = false := rfl
@[simp] theorem wrO_cells {c : List AVal} {esz : Nat} {ro : Bool} : wrO (some (.cells c esz ro)) = !ro := rfl
@[simp] theorem wrO_map {es : List (AVal × AVal)} : wrO (some (.map es)) = true := rfl
attribute [irreducible] guardP testP
@[simp] theorem putD_none {v : AVal} : putD e none v = e := rfl
@[simp] theorem putD_some {t : Nat} {v : AVal} : putD e (some t) v = e.put t v := rfl
@[simp] theorem reOk_nil : reOk lo e H [] = true := rfl
noncomputable def stillI (v : Option AVal) (r : Option (Option AVal × AHeap)) : Bool := match v, r with
  | some v, some (some v', _) => same v v'
  | _, _ => false
@[simp] theorem stillI_some {v v' : AVal} : stillI (some v) (some (some v', H)) = same v v' := rfl
def guardR (g : Option Bool) (b : Bool) : Bool := match g with
  | some false => true
  | some true => b
  | none => false
@[simp] theorem reOk_cons {t : Nat} {o : IOp} {g : Option (Nat × Bool)} {l : List (Nat × IOp × Option (Nat × Bool))} : reOk lo e H ((t, o, g) :: l) = (guardR (wantedI e g) (dynE o e || stillI (e.get t) (aop lo o e H)) && reOk lo e H l) := rfl
@[simp] theorem dynE_load {n : Option Nat} {x : Opd} : dynE (.load n x) e = false := rfl
@[simp] theorem dynE_lenk {k : Nat} {x : Opd} : dynE (.lenk k x) e = false := rfl
@[simp] theorem dynE_look {ag okf : Bool} {ks : List Nat} {z : AVal} {x k : Opd} : dynE (.look ag ks z okf x k) e = false := rfl
def dynR (v : Option AVal) (l h m : Option (Option Nat)) : Bool := match v, l, h, m with
  | some v, some l, some h, some m => dynS v l h m
  | _, _, _, _ => false
@[simp] theorem dynE_slq {esz : Nat} {x : Opd} {l h m : Option Opd} : dynE (.slq esz x l h m) e = dynR (x.eval e) (optI e l) (optI e h) (optI e m) := rfl
@[simp] theorem dynR_fs {t f : Bool} {n : Nat} {c : List AVal} {l h m : Option (Option Nat)} : dynR (some (.fs t f n c)) l h m = false := by
  rcases l with _ | l <;> rcases h with _ | h <;> rcases m with _ | m <;> rfl
@[simp] theorem guardR_f {b : Bool} : guardR (some false) b = true := rfl
@[simp] theorem guardR_t {b : Bool} : guardR (some true) b = b := rfl
def wantV (want : Bool) : Option AVal → Option Bool
  | some (.b x) => some (x == want)
  | some _ => some false
  | none => none
@[simp] theorem wantV_b {want x : Bool} : wantV want (some (.b x)) = some (x == want) := rfl
@[simp] theorem wantV_tu {want : Bool} {l : List AVal} : wantV want (some (.tu l)) = some false := rfl
@[simp] theorem wanted_some {t : Nat} {want : Bool} : wantedI e (some (t, want)) = wantV want (e.get t) := by
  simp only [wantedI, wantV]
  rcases e.get t with _ | v
  · rfl
  · cases v <;> rfl
@[simp] theorem wanted_none : wantedI e none = some true := rfl
@[simp] theorem env_get_nil {s : Nat} : Env.get [] s = none := rfl
@[simp] theorem env_get_cons {k s : Nat} {v : AVal} : Env.get ((k, v) :: e) s = if k = s then some v else Env.get e s := rfl
@[simp] theorem env_put_nil {t : Nat} {v : AVal} : Env.put [] t v = [(t, v)] := rfl
@[simp] theorem env_put_cons {k t : Nat} {u v : AVal} : Env.put ((k, u) :: e) t v = if t < k then (t, v) :: (k, u) :: e else if t = k then (t, v) :: e else (k, u) :: Env.put e t v := rfl
@[simp] theorem env_del_nil {t : Nat} : Env.del [] t = [] := rfl
@[simp] theorem env_del_cons {k t : Nat} {v : AVal} : Env.del ((k, v) :: e) t = if k = t then Env.del e t else (k, v) :: Env.del e t := rfl
@[simp] theorem env_kill_nil : Env.kill e [] = e := rfl
@[simp] theorem env_kill_cons {t : Nat} {l : List Nat} : Env.kill e (t :: l) = Env.kill (e.del t) l := rfl
@[simp] theorem initEnv_nil {k : Nat} : initEnv k [] = [] := rfl
@[simp] theorem initEnv_cons {k : Nat} {v : AVal} {l : List AVal} : initEnv k (v :: l) = (k, v) :: initEnv (k + 1) l := rfl
@[simp] theorem eval_t {n : Nat} : (Opd.t n).eval e = e.get n := rfl
@[simp] theorem eval_c {v : AVal} : (Opd.c v).eval e = some v := rfl
@[simp] theorem eval_g {n : Nat} : (Opd.g n).eval e = some (.p n 0) := rfl
@[simp] theorem eval_f {n : Nat} : (Opd.f n).eval e = some (.fn (.func n) [] []) := rfl
@[simp] theorem resI_nil : resI e H [] = some [] := rfl
def consR (v : Option AVal) (l : Option (List AVal)) : Option (List AVal) := match v, l with
  | some v, some vs => some (v :: vs)
  | _, _ => none
@[simp] theorem consR_some {v : AVal} {l : List AVal} : consR (some v) (some l) = some (v :: l) := rfl
@[simp] theorem resI_t {n : Nat} {l : List IRes} : resI e H (.t n :: l) = consR (e.get n) (resI e H l) := rfl
@[simp] theorem resI_c {n : Nat} {k : Option Nat} {l : List IRes} : resI e H (.c n k :: l) = consR ((e.get n).bind (loadV H k)) (resI e H l) := by
  simp only [resI]
  rcases e.get n with _ | v
  · rfl
  · simp only [Option.bind_some]
    rcases loadV H k v with _ | u
    · rfl
    · rcases resI e H l with _ | l <;> rfl
@[simp] theorem tup_one {v : AVal} : tupI [v] = v := rfl
@[simp] theorem tup_two {v u : AVal} {l : List AVal} : tupI (v :: u :: l) = .tu (v :: u :: l) := rfl
@[simp] theorem tup_no : tupI [] = .tu [] := rfl
@[simp] theorem evals_nil : evals e [] = some [] := rfl
@[simp] theorem evals_cons {x : Opd} {l : List Opd} : evals e (x :: l) = consR (x.eval e) (evals e l) := by
  simp only [evals]
  rcases x.eval e with _ | v
  · rfl
  · rcases evals e l with _ | l <;> rfl
def callR (r : Option (AVal × AHeap)) : Option (Option AVal × AHeap) := r.map fun x => (some x.1, x.2)
@[simp] theorem callR_some {v : AVal} : callR (some (v, H)) = some (some v, H) := rfl
@[simp] theorem op_call {f : FuncId} {args : List Opd} : opI call lo (.call f args) e H = (evals e args).bind fun vs => callR (call f vs H) := by
  simp only [opI]
  rcases evals e args with _ | vs
  · rfl
  · simp only [Option.bind_some]
    rcases call f vs H with _ | ⟨v, H'⟩ <;> rfl
def val (H : AHeap) (v : Option AVal) : Option (Option AVal × AHeap) := v.map fun v => (some v, H)
@[simp] theorem val_some {v : AVal} : val H (some v) = some (some v, H) := rfl
@[simp] theorem val_none : val H none = none := rfl
@[simp] theorem op_mov {x : Opd} : opI call lo (.mov x) e H = val H (x.eval e) := rfl
def pickV (c : Option AVal) (a b : Option AVal) : Option AVal := match c with
  | some (.b true) => a
  | some (.b false) => b
  | _ => none
def pk {α : Type} (x : Bool) (a b : α) : α := match x with
  | true => a
  | false => b
@[simp] theorem pk_true {α : Type} {a b : α} : pk true a b = a := rfl
@[simp] theorem pk_false {α : Type} {a b : α} : pk false a b = b := rfl
@[simp] theorem pickV_b {x : Bool} {a b : Option AVal} : pickV (some (.b x)) a b = pk x a b := by cases x <;> rfl
@[simp] theorem op_pick {c a b : Opd} : opI call lo (.pick c a b) e H = val H (pickV (c.eval e) (a.eval e) (b.eval e)) := by
  simp only [opI, aop, pickV]
  rcases c.eval e with _ | v
  · rfl
  · cases v <;> try rfl
    rename_i x; cases x <;> rfl
def two (f : AVal → AVal → Option AVal) : Option AVal → Option AVal → Option AVal
  | some a, some b => f a b
  | _, _ => none
@[simp] theorem two_some {f : AVal → AVal → Option AVal} {a b : AVal} : two f (some a) (some b) = f a b := rfl
@[simp] theorem op_bin {op : BinOp} {x y : Opd} : opI call lo (.bin op x y) e H = val H (two (binV op) (x.eval e) (y.eval e)) := by
  simp only [opI, aop]
  rcases x.eval e with _ | a <;> rcases y.eval e with _ | b <;> rfl
@[simp] theorem bin_add {k : IntKind} {a b : Int} : binV .add (.i k a) (.i k b) = some (.i k (wrapI k (a + b))) := by simp [binV, binI]
@[simp] theorem bin_sub {k : IntKind} {a b : Int} : binV .sub (.i k a) (.i k b) = some (.i k (wrapI k (a - b))) := by simp [binV, binI]
@[simp] theorem bin_mul {k : IntKind} {a b : Int} : binV .mul (.i k a) (.i k b) = some (.i k (wrapI k (a * b))) := by simp [binV, binI]
@[simp] theorem bin_quo {k : IntKind} {a b : Int} : binV .quo (.i k a) (.i k b) = if b = 0 then none else some (.i k (wrapI k (a.tdiv b))) := by simp [binV, binI]
@[simp] theorem bin_rem {k : IntKind} {a b : Int} : binV .rem (.i k a) (.i k b) = if b = 0 then none else some (.i k (a.tmod b)) := by simp [binV, binI]
@[simp] theorem bin_eql {k : IntKind} {a b : Int} : binV .eql (.i k a) (.i k b) = some (.b (decide (a = b))) := by
  simp only [binV, binI, if_true]; congr 2
@[simp] theorem bin_neq {k : IntKind} {a b : Int} : binV .neq (.i k a) (.i k b) = some (.b (!decide (a = b))) := by
  simp only [binV, binI, if_true]; congr 2
@[simp] theorem bin_lss {k : IntKind} {a b : Int} : binV .lss (.i k a) (.i k b) = some (.b (decide (a < b))) := by simp [binV, binI]
@[simp] theorem bin_leq {k : IntKind} {a b : Int} : binV .leq (.i k a) (.i k b) = some (.b (decide (a ≤ b))) := by simp [binV, binI]
@[simp] theorem bin_gtr {k : IntKind} {a b : Int} : binV .gtr (.i k a) (.i k b) = some (.b (decide (b < a))) := by simp [binV, binI]
@[simp] theorem bin_geq {k : IntKind} {a b : Int} : binV .geq (.i k a) (.i k b) = some (.b (decide (b ≤ a))) := by simp [binV, binI]
@[simp] theorem bin_seql {a b : List UInt8} : binV .eql (.s a) (.s b) = some (.b (a == b)) := rfl
@[simp] theorem bin_sneq {a b : List UInt8} : binV .neq (.s a) (.s b) = some (.b (!(a == b))) := rfl
@[simp] theorem op_un {op : UnOp} {x : Opd} : opI call lo (.un op x) e H = val H ((x.eval e).bind (unV op)) := rfl
@[simp] theorem un_not {x : Bool} : unV .not (.b x) = some (.b (!x)) := rfl
@[simp] theorem un_neg {k : IntKind} {n : Int} : unV .neg (.i k n) = some (.i k (wrapI k (0 - n))) := rfl
def convV (k : IntKind) : AVal → Option AVal
  | .i _ n => some (.i k (wrapI k n))
  | _ => none
@[simp] theorem convV_i {k k' : IntKind} {n : Int} : convV k (.i k' n) = some (.i k (wrapI k n)) := rfl
@[simp] theorem op_conv {k : IntKind} {x : Opd} : opI call lo (.conv k x) e H = val H ((x.eval e).bind (convV k)) := by
  simp only [opI, aop]
  rcases x.eval e with _ | v
  · rfl
  · cases v <;> rfl
@[simp] theorem op_alloc {z : List AVal} : opI call lo (.alloc z) e H = some (some (.p H.next 0), H.push (.cells z 1 false)) := rfl
@[simp] theorem aop_load {n : Option Nat} {x : Opd} : aop lo (.load n x) e H = val H ((x.eval e).bind (loadV H n)) := rfl
@[simp] theorem op_load {n : Option Nat} {x : Opd} : opI call lo (.load n x) e H = val H ((x.eval e).bind (loadV H n)) := rfl
noncomputable def boxR (H : AHeap) (v : AVal) : Option (Option AVal × AHeap) := if v.tup = false then some (some (.p H.next 0), H.push (.cells v.cells 1 false)) else none
@[simp] theorem op_box {x : Opd} : opI call lo (.box x) e H = (x.eval e).bind (boxR H) := by
  simp only [opI, aop]
  rcases x.eval e with _ | v <;> rfl
@[simp] theorem boxR_ag {l : List AVal} : boxR H (.ag l) = some (some (.p H.next 0), H.push (.cells l 1 false)) := rfl
@[simp] theorem boxR_i {k : IntKind} {n : Int} : boxR H (.i k n) = some (some (.p H.next 0), H.push (.cells [.i k n] 1 false)) := rfl
@[simp] theorem boxR_s {v : List UInt8} : boxR H (.s v) = some (some (.p H.next 0), H.push (.cells [.s v] 1 false)) := rfl
@[simp] theorem boxR_b {v : Bool} : boxR H (.b v) = some (some (.p H.next 0), H.push (.cells [.b v] 1 false)) := rfl
def loadO (n : Option Nat) (off : Nat) : Option AObj → Option AVal
  | some (.cells c _ _) => match n with
    | none => c[off]?
    | some n => if off + n ≤ c.length then some (.ag ((c.drop off).take n)) else none
  | _ => none
@[simp] theorem loadO_one {off esz : Nat} {c : List AVal} {ro : Bool} : loadO none off (some (.cells c esz ro)) = c[off]? := rfl
@[simp] theorem loadO_row {n off esz : Nat} {c : List AVal} {ro : Bool} : loadO (some n) off (some (.cells c esz ro)) = if off + n ≤ c.length then some (.ag ((c.drop off).take n)) else none := rfl
@[simp] theorem load_p {n : Option Nat} {id off : Nat} : loadV H n (.p id off) = loadO n off (H.get id) := by
  simp only [loadV, loadO, rowAt]
  cases n with
  | none => rcases H.get id with _ | ⟨c, esz, ro⟩ | es <;> rfl
  | some n =>
    rcases H.get id with _ | ⟨c, esz, ro⟩ | es
    · rfl
    · simp only; split <;> rfl
    · rfl
noncomputable def storeR (lo n : Nat) (H : AHeap) : Option AVal → Option AVal → Option (Option AVal × AHeap)
  | some a, some v => (storeV lo H n a v).map fun H' => (none, H')
  | _, _ => none
@[simp] theorem op_store {n : Nat} {x v : Opd} : opI call lo (.store n x v) e H = storeR lo n H (x.eval e) (v.eval e) := by
  simp only [opI, aop]
  rcases x.eval e with _ | a <;> rcases v.eval e with _ | b <;> rfl
noncomputable def storeO (lo id off n : Nat) (H : AHeap) (v : AVal) : Option AObj → Option (Option AVal × AHeap)
  | some (.cells c esz ro) => if lo ≤ id ∧ ro = false ∧ v.tup = false ∧ v.cells.length = n ∧ off + n ≤ c.length then some (none, H.put id (some (.cells (putCells c off v.cells) esz ro))) else none
  | _ => none
@[simp] theorem storeO_cells {id off n esz : Nat} {v : AVal} {c : List AVal} {ro : Bool} : storeO lo id off n H v (some (.cells c esz ro)) =
    if lo ≤ id ∧ ro = false ∧ v.tup = false ∧ v.cells.length = n ∧ off + n ≤ c.length then some (none, H.put id (some (.cells (putCells c off v.cells) esz ro))) else none := rfl
@[simp] theorem storeR_p {id off n : Nat} {v : AVal} : storeR lo n H (some (.p id off)) (some v) = storeO lo id off n H v (H.get id) := by
  simp only [storeR, storeV, storeO]
  by_cases h : lo ≤ id
  · rw [if_pos h]
    rcases H.get id with _ | ⟨c, esz, ro⟩ | es
    · rfl
    · simp only
      split
      · rename_i h2; rw [if_pos ⟨h, h2⟩]; rfl
      · rename_i h2; rw [if_neg (fun h3 => h2 h3.2)]; rfl
    · rfl
  · rw [if_neg h]
    rcases H.get id with _ | ⟨c, esz, ro⟩ | es
    · rfl
    · simp only; rw [if_neg (fun h3 => h h3.1)]; rfl
    · rfl
@[simp] theorem tup_i {k : IntKind} {n : Int} : (AVal.i k n).tup = false := rfl
@[simp] theorem tup_b {x : Bool} : (AVal.b x).tup = false := rfl
@[simp] theorem tup_s {x : List UInt8} : (AVal.s x).tup = false := rfl
@[simp] theorem tup_ag {l : List AVal} : (AVal.ag l).tup = false := rfl
@[simp] theorem tup_p {a b : Nat} : (AVal.p a b).tup = false := rfl
@[simp] theorem tup_sl {a b c : Nat} {d : Option Nat} : (AVal.sl a b c d).tup = false := rfl
@[simp] theorem tup_ns : AVal.ns.tup = false := rfl
@[simp] theorem tup_np : AVal.np.tup = false := rfl
@[simp] theorem cells_i {k : IntKind} {n : Int} : (AVal.i k n).cells = [.i k n] := rfl
@[simp] theorem cells_b {x : Bool} : (AVal.b x).cells = [.b x] := rfl
@[simp] theorem cells_s {x : List UInt8} : (AVal.s x).cells = [.s x] := rfl
@[simp] theorem cells_ag {l : List AVal} : (AVal.ag l).cells = l := rfl
@[simp] theorem cells_p {a b : Nat} : (AVal.p a b).cells = [.p a b] := rfl
@[simp] theorem cells_sl {a b c : Nat} {d : Option Nat} : (AVal.sl a b c d).cells = [.sl a b c d] := rfl
@[simp] theorem cells_ns : AVal.ns.cells = [.ns] := rfl
@[simp] theorem cells_np : AVal.np.cells = [.np] := rfl
@[simp] theorem putCells_nil {cs : List AVal} {off : Nat} : putCells cs off [] = cs := rfl
@[simp] theorem putCells_cons {cs l : List AVal} {off : Nat} {v : AVal} : putCells cs off (v :: l) = putCells (cs.set off v) (off + 1) l := rfl
@[simp] theorem op_off {x : Opd} {k : Nat} : opI call lo (.off x k) e H = val H ((x.eval e).bind (offV k)) := rfl
@[simp] theorem off_p {id off k : Nat} : offV k (.p id off) = some (.p id (off + k)) := rfl
@[simp] theorem op_part {n : Option Nat} {x : Opd} {k : Nat} : opI call lo (.part n x k) e H = val H ((x.eval e).bind (partV n k)) := rfl
@[simp] theorem part_one {l : List AVal} {off : Nat} : partV none off (.ag l) = l[off]? := rfl
@[simp] theorem part_row {l : List AVal} {off n : Nat} : partV (some n) off (.ag l) = if off + n ≤ l.length then some (.ag ((l.drop off).take n)) else none := rfl
@[simp] theorem op_ext {x : Opd} {k : Nat} : opI call lo (.ext x k) e H = val H ((x.eval e).bind (extV k)) := rfl
@[simp] theorem ext_tu {l : List AVal} {k : Nat} : extV k (.tu l) = l[k]? := rfl
@[simp] theorem parts_nil : evalParts e [] = some [] := rfl
def consP (o n : Nat) (v : Option AVal) (l : Option (List (Nat × Nat × AVal))) : Option (List (Nat × Nat × AVal)) := match v, l with
  | some v, some vs => some ((o, n, v) :: vs)
  | _, _ => none
@[simp] theorem consP_some {o n : Nat} {v : AVal} {l : List (Nat × Nat × AVal)} : consP o n (some v) (some l) = some ((o, n, v) :: l) := rfl
@[simp] theorem parts_cons {o n : Nat} {x : Opd} {l : List (Nat × Nat × Opd)} : evalParts e ((o, n, x) :: l) = consP o n (x.eval e) (evalParts e l) := by
  simp only [evalParts]
  rcases x.eval e with _ | v
  · rfl
  · rcases evalParts e l with _ | l <;> rfl
@[simp] theorem op_build {z : List AVal} {parts : List (Nat × Nat × Opd)} : opI call lo (.build z parts) e H = val H ((evalParts e parts).bind fun ps => (fillA z ps).map .ag) := by
  simp only [opI, aop]
  rcases evalParts e parts with _ | ps <;> rfl
@[simp] theorem fill_nil {cs : List AVal} : fillA cs [] = some cs := rfl
@[simp] theorem fill_cons {cs : List AVal} {off size : Nat} {v : AVal} {l : List (Nat × Nat × AVal)} : fillA cs ((off, size, v) :: l) = if v.tup = false ∧ v.cells.length = size ∧ off + size ≤ cs.length then fillA (putCells cs off v.cells) l else none := rfl
@[simp] theorem op_mm {mx : Bool} {x : Opd} {l : List Opd} : opI call lo (.mm mx x l) e H = val H ((x.eval e).bind fun a => (evals e l).bind (mmV mx a)) := by
  simp only [opI, aop]
  rcases x.eval e with _ | a
  · rfl
  · rcases evals e l with _ | l <;> rfl
@[simp] theorem mm_min {k : IntKind} {a b : Int} : mmV false (.i k a) [.i k b] = some (.i k (min a b)) := by
  simp only [mmV, if_true]
  have : (if (if false = true then decide (b > a) else decide (b < a)) = true then b else a) = min a b := by
    by_cases h : b < a <;> simp [h] <;> omega
  rw [this]
@[simp] theorem mm_max {k : IntKind} {a b : Int} : mmV true (.i k a) [.i k b] = some (.i k (max a b)) := by
  simp only [mmV, if_true]
  have : (if decide (b > a) = true then b else a) = max a b := by
    by_cases h : a < b <;> simp [h] <;> omega
  rw [this]
def eqBV (neg : Bool) : AVal → AVal → Option AVal
  | .b a, .b b => some (.b (if neg then !(a == b) else a == b))
  | _, _ => none
@[simp] theorem eqBV_b {neg a b : Bool} : eqBV neg (.b a) (.b b) = some (.b (if neg then !(a == b) else a == b)) := rfl
@[simp] theorem op_eqB {neg : Bool} {x y : Opd} : opI call lo (.eqB neg x y) e H = val H (two (eqBV neg) (x.eval e) (y.eval e)) := by
  simp only [opI, aop]
  rcases x.eval e with _ | a
  · rfl
  · rcases y.eval e with _ | b
    · cases a <;> rfl
    · cases a <;> cases b <;> rfl
@[simp] theorem op_lenk {k : Nat} {x : Opd} : opI call lo (.lenk k x) e H = val H (((x.eval e).bind (lenV H k)).map fun (m : Nat) => AVal.i .i64 (m : Int)) := rfl
@[simp] theorem len_ns : lenV H 0 .ns = some 0 := rfl
@[simp] theorem len_sl {id off len : Nat} {cap : Option Nat} : lenV H 0 (.sl id off len cap) = some len := rfl
@[simp] theorem len_s {v : List UInt8} : lenV H 1 (.s v) = some v.length := rfl
@[simp] theorem op_iaddr {esz : Nat} {x i : Opd} : opI call lo (.iaddr esz x i) e H = val H (two (iaddrV esz) (x.eval e) (i.eval e)) := by
  simp only [opI, aop]
  rcases x.eval e with _ | a <;> rcases i.eval e with _ | b <;> rfl
@[simp] theorem iaddr_sl {esz id off len : Nat} {cap : Option Nat} {k : IntKind} {n : Int} (h0 : 0 ≤ n) (h1 : n < len) : iaddrV esz (.sl id off len cap) (.i k n) = some (.p id (off + n.toNat * esz)) := by simp [iaddrV, h0, h1]
noncomputable def bslR (H : AHeap) (esz len : Nat) : Option (List AVal) → Option (Option AVal × AHeap)
  | some cs => some (some (.sl H.next 0 len (some len)), H.push (.cells cs esz false))
  | none => none
@[simp] theorem bslR_some {esz len : Nat} {cs : List AVal} : bslR H esz len (some cs) = some (some (.sl H.next 0 len (some len)), H.push (.cells cs esz false)) := rfl
@[simp] theorem op_bsl {esz len : Nat} {z : List AVal} {parts : List (Nat × Nat × Opd)} : opI call lo (.bsl esz len z parts) e H = bslR H esz len ((evalParts e parts).bind fun ps => fillA z ps) := by
  simp only [opI, aop]
  rcases evalParts e parts with _ | ps
  · rfl
  · simp only [Option.bind_some]
    rcases fillA z ps with _ | cs <;> rfl
noncomputable def s2bR (H : AHeap) : AVal → Option (Option AVal × AHeap)
  | .s v => some (some (.sl H.next 0 v.length none), H.push (.cells (v.map fun b => .i .u8 b.toNat) 1 false))
  | _ => none
@[simp] theorem s2bR_s {v : List UInt8} : s2bR H (.s v) = some (some (.sl H.next 0 v.length none), H.push (.cells (v.map fun b => .i .u8 b.toNat) 1 false)) := rfl
@[simp] theorem op_s2b {x : Opd} : opI call lo (.s2b x) e H = (x.eval e).bind (s2bR H) := by
  simp only [opI, aop]
  rcases x.eval e with _ | v
  · rfl
  · cases v <;> rfl
@[simp] theorem op_idxS {x i : Opd} : opI call lo (.idxS x i) e H = val H (two idxSV (x.eval e) (i.eval e)) := by
  simp only [opI, aop]
  rcases x.eval e with _ | a
  · rfl
  · rcases i.eval e with _ | b <;> rfl
@[simp] theorem op_same {x : Opd} : opI call lo (.same x) e H = (match x.eval e with | some (.s v) => val H (some (.s v)) | _ => none) := rfl
def slSR (x : Option AVal) (l h : Option (Option Nat)) : Option AVal := match x, l, h with
  | some (.s v), some l, some h => slSV v l h
  | _, _, _ => none
@[simp] theorem slSR_s {v : List UInt8} {l h : Option Nat} : slSR (some (.s v)) (some l) (some h) = slSV v l h := rfl
@[simp] theorem op_slS {x : Opd} {l h : Option Opd} : opI call lo (.slS x l h) e H = val H (slSR (x.eval e) (optI e l) (optI e h)) := by
  simp only [opI, aop, slSR]
  rcases x.eval e with _ | v
  · rfl
  · rcases optI e l with _ | l
    · cases v <;> rfl
    · rcases optI e h with _ | h
      · cases v <;> rfl
      · cases v <;> rfl
def optV : Option AVal → Option (Option Nat)
  | some (.i _ n) => if 0 ≤ n then some (some n.toNat) else none
  | _ => none
@[simp] theorem optI_none : optI e none = some none := rfl
@[simp] theorem optI_some {x : Opd} : optI e (some x) = optV (x.eval e) := by
  simp only [optI, optV]
  rcases x.eval e with _ | v
  · rfl
  · cases v <;> rfl
@[simp] theorem optV_i {k : IntKind} {n : Int} (h : 0 ≤ n) : optV (some (.i k n)) = some (some n.toNat) := by simp [optV, h]
@[simp] theorem slSV_hi {v : List UInt8} {n : Nat} (h : n ≤ v.length) : slSV v none (some n) = some (.s (v.take n)) := by simp [slSV, h]
@[simp] theorem slSV_lo {v : List UInt8} {n : Nat} (h : n ≤ v.length) : slSV v (some n) none = some (.s (v.drop n)) := by simp [slSV, h]
@[simp] theorem slSV_lohi {v : List UInt8} {n m : Nat} (h : m ≤ v.length) (h2 : n ≤ m) : slSV v (some n) (some m) = some (.s ((v.take m).drop n)) := by simp [slSV, h, h2]
@[simp] theorem idxS_s {v : List UInt8} {k : IntKind} {n : Int} (h : 0 ≤ n) : idxSV (.s v) (.i k n) = (v[n.toNat]?).map (fun b => .i .u8 b.toNat) := by simp [idxSV, h]
noncomputable def appR (lo : Nat) (H : AHeap) (esz bytes : Nat) : Option AVal → Option AVal → Option (Option AVal × AHeap)
  | some a, some b => (appV lo H esz bytes a b).map fun (v, H') => (some v, H')
  | _, _ => none
@[simp] theorem op_app {esz bytes : Nat} {x y : Opd} : opI call lo (.app esz bytes x y) e H = appR lo H esz bytes (x.eval e) (y.eval e) := by
  simp only [opI, aop, appR]
  rcases x.eval e with _ | a <;> rcases y.eval e with _ | b <;> rfl
@[simp] theorem op_mksl {esz bytes : Nat} {z : List AVal} {l c : Opd} : opI call lo (.mksl esz bytes z l c) e H = (match l.eval e, c.eval e with
    | some (.i _ n), some (.i _ m) => if 0 ≤ n ∧ n ≤ m ∧ bytes * m ≤ 281474976710656 ∧ 0 < bytes then some (some (.sl H.next 0 n.toNat (some m.toNat)), H.push (.cells (repCells z m.toNat) esz false)) else none
    | _, _ => none) := rfl
@[simp] theorem get_mid {α : Type} {a b : List α} {x : α} {n : Nat} (h : n = a.length) : (a ++ x :: b)[n]? = some x := by subst h; simp
@[simp] theorem wrap_succ {n : Nat} (h : n < 4611686018427387904) : wrapI .i64 ((n : Int) + 1) = (n : Int) + 1 := by
  unfold wrapI; rw [if_pos (by omega)]
@[simp] theorem len_fs {t f : Bool} {n : Nat} {l : List AVal} : lenV H 0 (.fs t f n l) = some n := rfl
@[simp] theorem iaddr_fs {esz len : Nat} {t f : Bool} {l : List AVal} {k : IntKind} {n : Int} (h0 : 0 ≤ n) (h1 : n < len) : iaddrV esz (.fs t f len l) (.i k n) = some (.fp (l.drop (n.toNat * esz))) := by simp [iaddrV, h0, h1]
@[simp] theorem load_fp {l : List AVal} {n : Option Nat} : loadV H n (.fp l) = (match n with | none => l[0]? | some n => if 0 < n ∧ n ≤ l.length then some (.ag (l.take n)) else none) := rfl
@[simp] theorem off_fp {l : List AVal} {k : Nat} : offV k (.fp l) = some (.fp (l.drop k)) := rfl
@[simp] theorem tup_fs {t f : Bool} {n : Nat} {l : List AVal} : (AVal.fs t f n l).tup = false := rfl
@[simp] theorem cells_fs {t f : Bool} {n : Nat} {l : List AVal} : (AVal.fs t f n l).cells = [.fs t f n l] := rfl
@[simp] theorem skip_call {f : FuncId} {args : List Opd} : skipI call (.call f args) = call.pure f := rfl
@[simp] theorem heap_get_push {j : Nat} {o : AObj} : (H.push o).get j = if j = H.next then some o else H.get j := AHeap.get_push H j o
@[simp] theorem heap_get_put {n j : Nat} {o : Option AObj} : (H.put n o).get j = if j = n then o else H.get j := AHeap.get_put H n j o
@[simp] theorem heap_next_push {o : AObj} : (H.push o).next = H.next + 1 := rfl
@[simp] theorem heap_next_put {n : Nat} {o : Option AObj} : (H.put n o).next = H.next := rfl
@[simp] theorem same_self (v : AVal) (h : flat v = true) : same v v = true := same_refl v h
attribute [simp] flat flatL
theorem wrapI_i64 {n : Int} (h1 : -9223372036854775808 ≤ n) (h2 : n ≤ 9223372036854775807) : wrapI .i64 n = n := by
  unfold wrapI; rw [if_pos ⟨h1, h2⟩]
theorem wrapI_u64 {n : Int} (h1 : 0 ≤ n) (h2 : n < 18446744073709551616) : wrapI .u64 n = n := Int.emod_eq_of_lt h1 h2
theorem get_push_lt {H : AHeap} {o : AObj} {id : Nat} (h : id < H.next) : (H.push o).get id = H.get id := by simp [show id ≠ H.next by omega]
theorem get_put_ne {H : AHeap} {o : Option AObj} {id n : Nat} (h : id ≠ n) : (H.put n o).get id = H.get id := by simp [h]
theorem acc_app {lo lo' esz bytes n m : Nat} {H : AHeap} {v y : AVal} {cells ys : List AVal} (h : Acc H lo' v esz n cells) (hll : lo ≤ lo') (hlo : lo' ≤ H.next) (hy : moreV H esz y = some (m, ys)) (hl : ys.length = m * esz) (he : 0 < esz) (hb : 0 < bytes) (hs : (2 * (n + m) + 192) * bytes ≤ 281474976710656) (hm : 0 < m) :
    ∃ H', appR lo H esz bytes (some v) (some y) = some (some (.sl H.next 0 (n + m) none), H') ∧ Acc H' lo' (.sl H.next 0 (n + m) none) esz (n + m) (cells ++ ys) ∧ H'.next = H.next + 1 ∧
      ∀ id, id < H.next → (∀ id0 n0 c0, v = .sl id0 0 n0 c0 → id ≠ id0) → H'.get id = H.get id := by
  have hm0 : m ≠ 0 := by omega
  rcases h with ⟨rfl, rfl, rfl⟩ | ⟨id0, rfl, h1, h2, h3, h4⟩
  · refine ⟨H.push (.cells ys esz false), ?_, .inr ⟨H.next, rfl, hlo, by simp, by simp, by simpa using hl⟩, rfl, ?_⟩
    · have : (2 * m + 192) * bytes ≤ 281474976710656 := by simpa using hs
      simp [appR, appV, hy, hl, he, hb, hm0, this]
    · intro id hid _
      simp [show id ≠ H.next by omega]
  · refine ⟨(H.put id0 none).push (.cells (cells ++ ys) esz false), ?_, .inr ⟨H.next, rfl, by omega, by simp, by simp, by simp [h4, hl, Nat.add_mul]⟩, rfl, ?_⟩
    · have ht : cells.take (n * esz) = cells := List.take_of_length_le (by omega)
      have h1' : lo ≤ id0 := by omega
      simp [appR, appV, hy, hl, he, hb, hm0, h1', hs, h3, h4, ht]
    · intro id hid hne
      have : id ≠ id0 := hne id0 n none rfl
      simp [show id ≠ H.next by omega, this]
theorem step_app {call : CallI} {lo lo' esz bytes n m : Nat} {H : AHeap} {v y : AVal} {cells ys : List AVal} {xs : List Item} {kill : List Nat} {Q : Post} {dst : Option Nat} {op : IOp} {re : List (Nat × IOp × Option (Nat × Bool))} {e : Env}
    (h : Acc H lo' v esz n cells) (hll : lo ≤ lo') (hlo : lo' ≤ H.next) (hy : moreV H esz y = some (m, ys)) (hl : ys.length = m * esz) (he : 0 < esz) (hb : 0 < bytes) (hs : (2 * (n + m) + 192) * bytes ≤ 281474976710656) (hm : 0 < m)
    (k : ∀ H' : AHeap, H'.next = H.next + 1 → Acc H' lo' (.sl H.next 0 (n + m) none) esz (n + m) (cells ++ ys) → (∀ id, id < H.next → (∀ id0 n0 c0, v = .sl id0 0 n0 c0 → id ≠ id0) → H'.get id = H.get id) → stepP call lo xs kill Q dst op re e (some (some (.sl H.next 0 (n + m) none), H'))) :
    stepP call lo xs kill Q dst op re e (appR lo H esz bytes (some v) (some y)) := by
  obtain ⟨H', h1, h2, h3, h4⟩ := acc_app h hll hlo hy hl he hb hs hm
  rw [h1]
  exact k H' h3 h2 h4
theorem acc_lt {H : AHeap} {lo esz n : Nat} {v : AVal} {cells : List AVal} (h : Acc H lo v esz n cells) : ∀ id a b, v = .sl id 0 a b → lo ≤ id ∧ id < H.next := by
  intro id a b hv
  rcases h with ⟨rfl, _, _⟩ | ⟨id0, rfl, h1, h2, _, _⟩
  · cases hv
  · cases hv; exact ⟨h1, h2⟩
theorem acc_none {H : AHeap} {lo esz : Nat} : Acc H lo .ns esz 0 [] := .inl ⟨rfl, rfl, rfl⟩
theorem acc_touch {H : AHeap} {lo esz n : Nat} {v : AVal} {cells : List AVal} (h : Acc H lo v esz n cells) : ∃ ids, touchV v = some ids ∧ ∀ i, i < lo ∨ H.next ≤ i → ids.contains i = false := by
  rcases h with ⟨rfl, _, _⟩ | ⟨id, rfl, h1, h2, _, _⟩
  · exact ⟨[], rfl, fun _ _ => rfl⟩
  · refine ⟨[id], rfl, fun i hi => ?_⟩
    have : i ≠ id := by omega
    simp [this]
theorem acc_keep {H H' : AHeap} {lo esz n : Nat} {v : AVal} {cells : List AVal} (h : Acc H lo v esz n cells) (hn : H.next ≤ H'.next) (hk : ∀ id n0 c0, v = .sl id 0 n0 c0 → H'.get id = H.get id) : Acc H' lo v esz n cells := by
  rcases h with h | ⟨id, rfl, h1, h2, h3, h4⟩
  · exact .inl h
  · exact .inr ⟨id, rfl, h1, by omega, by rw [hk id n none rfl]; exact h3, h4⟩
theorem acc_snap {H : AHeap} {lo esz n k : Nat} {v : AVal} {cells cells' : List AVal} (h : Acc H lo v esz n cells) (hc : mapO (snapV H k) cells = some cells') : snapV H (k + 1) v = some (.fs (decide (0 < n)) false n cells') := by
  rcases h with ⟨rfl, rfl, rfl⟩ | ⟨id, rfl, h1, h2, h3, h4⟩
  · simp only [mapO_nil, Option.some.injEq] at hc
    subst hc; rfl
  · show (if n = 0 then _ else _) = _
    split
    · rename_i hn
      subst hn
      have : cells = [] := List.eq_nil_of_length_eq_zero (by simpa using h4)
      subst this
      simp only [mapO_nil, Option.some.injEq] at hc
      subst hc; rfl
    · rename_i hn
      have hr : rowO H id 0 n = some cells := by
        simp only [rowO, h3]
        rw [if_pos (by omega)]
        simp only [List.drop_zero]
        rw [List.take_of_length_le (by omega)]
      have h0 : 0 < n := by omega
      simp only [capOk, if_true, hr, hc, Option.map_some, h0, decide_true]
noncomputable def frzO (H : AHeap) (g n len : Nat) : Option AObj → Option AVal
  | some (.cells c esz _) => if len * esz ≤ c.length then (mapO (frzV H g n) (c.take (len * esz))).map (.fs false false len) else none
  | _ => none
@[simp] theorem frzO_cells {H : AHeap} {g n len esz : Nat} {c : List AVal} {ro : Bool} : frzO H g n len (some (.cells c esz ro)) = if len * esz ≤ c.length then (mapO (frzV H g n) (c.take (len * esz))).map (.fs false false len) else none := rfl
@[simp] theorem frz_sl {H : AHeap} {g n id len : Nat} {cap : Option Nat} (hn : len ≠ 0) (hid : g ≤ id) (hc : capOk len cap = true) : frzV H g (n + 1) (.sl id 0 len cap) = frzO H g n len (H.get id) := by
  show (if len = 0 then _ else _) = _
  rw [if_neg hn, if_pos ⟨hid, hc⟩]
  unfold rowO frzO
  rcases H.get id with _ | ⟨c, esz, ro⟩ | es
  · rfl
  · simp only [Nat.zero_add, List.drop_zero]
    by_cases h : len * esz ≤ c.length
    · rw [if_pos h, if_pos h]
    · rw [if_neg h, if_neg h]
  · rfl
@[simp] theorem capOk_some {a b : Nat} : capOk a (some b) = decide (a ≤ b) := rfl
@[simp] theorem capOk_none {a : Nat} : capOk a none = true := rfl
noncomputable def snapO (H : AHeap) (n len : Nat) : Option AObj → Option AVal
  | some (.cells c esz _) => if len * esz ≤ c.length then (mapO (snapV H n) (c.take (len * esz))).map (.fs true false len) else none
  | _ => none
@[simp] theorem snapO_cells {H : AHeap} {n len esz : Nat} {c : List AVal} {ro : Bool} : snapO H n len (some (.cells c esz ro)) = if len * esz ≤ c.length then (mapO (snapV H n) (c.take (len * esz))).map (.fs true false len) else none := rfl
@[simp] theorem snap_sl {H : AHeap} {n id len : Nat} {cap : Option Nat} (hn : len ≠ 0) (hc : capOk len cap = true) : snapV H (n + 1) (.sl id 0 len cap) = snapO H n len (H.get id) := by
  show (if len = 0 then _ else _) = _
  rw [if_neg hn, hc]
  unfold rowO snapO
  simp only [if_true]
  rcases H.get id with _ | ⟨c, esz, ro⟩ | es
  · rfl
  · simp only [Nat.zero_add, List.drop_zero]
    by_cases h : len * esz ≤ c.length
    · rw [if_pos h, if_pos h]
    · rw [if_neg h, if_neg h]
  · rfl
theorem frz_lit {H : AHeap} {lo esz n k id : Nat} {cap : Option Nat} {ro : Bool} {cells cells' : List AVal} (hn : n ≠ 0) (hid : lo ≤ id) (hg : H.get id = some (.cells cells esz ro)) (hl : cells.length = n * esz) (hcap : capOk n cap = true) (hc : mapO (frzV H lo k) cells = some cells') :
    frzV H lo (k + 1) (.sl id 0 n cap) = some (.fs false false n cells') := by
  show (if n = 0 then _ else _) = _
  rw [if_neg hn, if_pos ⟨hid, hcap⟩]
  have : rowO H id 0 n = some cells := by
    simp only [rowO, hg]
    rw [if_pos (by omega)]
    simp only [List.drop_zero]
    rw [List.take_of_length_le (by omega)]
  rw [this]
  simp only [hc, Option.map_some]
theorem snap_lit {H : AHeap} {esz n k id : Nat} {cap : Option Nat} {ro : Bool} {cells cells' : List AVal} (hn : n ≠ 0) (hg : H.get id = some (.cells cells esz ro)) (hl : cells.length = n * esz) (hcap : capOk n cap = true) (hc : mapO (snapV H k) cells = some cells') :
    snapV H (k + 1) (.sl id 0 n cap) = some (.fs true false n cells') := by
  show (if n = 0 then _ else _) = _
  rw [if_neg hn, hcap]
  have : rowO H id 0 n = some cells := by
    simp only [rowO, hg]
    rw [if_pos (by omega)]
    simp only [List.drop_zero]
    rw [List.take_of_length_le (by omega)]
  simp only [if_true, this, hc, Option.map_some]
theorem calls_clone {IP : FuncId → Option IFunc} {G : AHeap} {f : FuncId} {fn : IFunc} (hf : IP f = some fn) (hm : fn.mode = 4) {esz bytes : Nat} (hb : cloneOf fn.body = some (esz, bytes)) {lo : Nat} {x : AVal} {H : AHeap} :
    theCalls IP G lo f [x] H = cloneV H esz bytes x := by
  have hs : isSkip fn.body = false := by cases hbb : fn.body <;> simp [hbb, cloneOf] at hb <;> rfl
  have key : ∀ n, acall IP G n lo f [x] H = cloneV H esz bytes x := fun n => by
    simp only [acall, callI, callB, hf, hm, cloneB, hb, hs]
  cases hc : cloneV H esz bytes x with
  | some r => obtain ⟨v, H'⟩ := r; exact theCalls_of ⟨0, (key 0).trans hc⟩
  | none =>
    cases hd : theCalls IP G lo f [x] H with
    | none => rfl
    | some r =>
      obtain ⟨v, H'⟩ := r
      obtain ⟨n, hn⟩ := (theCalls_knows (IP := IP) (G := G) lo).brings _ _ _ _ _ hd
      rw [key, hc] at hn; cases hn
theorem calls_ext {IP : FuncId → Option IFunc} {G : AHeap} {f : FuncId} {fn : IFunc} (hf : IP f = some fn) (hm : fn.mode = 4) (hs : isSkip fn.body = true) {lo : Nat} {args : List AVal} {H : AHeap} :
    theCalls IP G lo f args H = given H (idxB args) := by
  have key : ∀ n, acall IP G n lo f args H = given H (idxB args) := fun n => by
    simp only [acall, callI, callB, hf, hm, cloneB, hs, given]
  cases hc : given H (idxB args) with
  | some r => obtain ⟨v, H'⟩ := r; exact theCalls_of ⟨0, (key 0).trans hc⟩
  | none =>
    cases hd : theCalls IP G lo f args H with
    | none => rfl
    | some r =>
      obtain ⟨v, H'⟩ := r
      obtain ⟨n, hn⟩ := (theCalls_knows (IP := IP) (G := G) lo).brings _ _ _ _ _ hd
      rw [key, hc] at hn; cases hn
@[simp] theorem theCalls_pure {IP : FuncId → Option IFunc} {G : AHeap} {lo : Nat} {f : FuncId} : (theCalls IP G lo).pure f = pureB IP f := rfl
theorem pure_run {IP : FuncId → Option IFunc} {G : AHeap} {f : FuncId} {fn : IFunc} (hf : IP f = some fn) {args : List AVal} (hl : args.length = fn.np) {v : AVal}
    (h : wp (theCalls IP G G.next) G.next fn.body (fin fn.res fun u H1 => frzV H1 G.next 16 u = some v) (initEnv 0 args) G) : pureR IP G f args = some v := pure_of hf hl h
end
end Go.RI
