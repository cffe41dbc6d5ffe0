/- RI: the calculus as equations for the simplifier. Conditions: none. -/
import Derived.Test.YtcmieknogpjnmaaRiRow
namespace Go.RI
open Go

mutual
theorem same_refl : ∀ v : AVal, same v v = true
  | .b _ | .i _ _ | .s _ | .np | .p _ _ | .ns | .sl _ _ _ _ | .nf | .nm | .m _ | .nif => by simp [same]
  | .fn _ a c => by simp [same, sameL_refl a, sameL_refl c]
  | .ag l => by simp [same, sameL_refl l]
  | .tu l => by simp [same, sameL_refl l]
  | .ifc _ v => by simp [same, same_refl v]
theorem sameL_refl : ∀ l : List AVal, sameL l l = true
  | [] => rfl
  | v :: l => by simp [sameL, same_refl v, sameL_refl l]
end

section
variable {call : CallI} {lo : Nat} {e : Env} {H : AHeap} {Q : Post}

@[simp] theorem wp_skip_eq : wp call lo .skip Q e H = Q .normal e H := rfl
@[simp] theorem wp_region_eq {xs : List Item} {kill : List Nat} : wp call lo (.region xs kill) Q e H = upon (itemsI call lo xs e H) fun e' H' => Q .normal (e'.kill kill) H' := rfl
@[simp] theorem wp_seq_eq {a b : ICode} : wp call lo (.seq a b) Q e H = wp call lo a (andThen Q fun e' H' => wp call lo b Q e' H') e H := rfl
@[simp] theorem wp_cond_eq {c : Opd} {a b : ICode} : wp call lo (.cond c a b) Q e H = test (c.eval e) (wp call lo a Q e H) (wp call lo b Q e H) := rfl
@[simp] theorem wp_block_eq {id : Nat} {b : ICode} : wp call lo (.block id b) Q e H = wp call lo b (inBlock Q id) e H := rfl
@[simp] theorem wp_exit_eq {id : Nat} : wp call lo (.exit id) Q e H = Q (.exit id) e H := rfl
@[simp] theorem wp_ret_eq : wp call lo .ret Q e H = Q .ret e H := rfl
@[simp] theorem andThen_normal {k : Env → AHeap → Prop} : andThen Q k .normal e H = k e H := rfl
@[simp] theorem andThen_exit {k : Env → AHeap → Prop} {id : Nat} : andThen Q k (.exit id) e H = Q (.exit id) e H := rfl
@[simp] theorem andThen_ret {k : Env → AHeap → Prop} : andThen Q k .ret e H = Q .ret e H := rfl
@[simp] theorem inBlock_normal {id : Nat} : inBlock Q id .normal e H = Q .normal e H := rfl
@[simp] theorem inBlock_exit {id i : Nat} : inBlock Q id (.exit i) e H = if i = id then Q .normal e H else Q (.exit i) e H := rfl
@[simp] theorem inBlock_ret {id : Nat} : inBlock Q id .ret e H = Q .ret e H := rfl
@[simp] theorem upon_some {k : Env → AHeap → Prop} : upon (some (e, H)) k = k e H := rfl
@[simp] theorem upon_none {k : Env → AHeap → Prop} : upon none k = False := rfl
@[simp] theorem test_true {a b : Prop} : test (some (.b true)) a b = a := rfl
@[simp] theorem test_false {a b : Prop} : test (some (.b false)) a b = b := rfl
theorem test_b {x : Bool} {a b : Prop} : test (some (.b x)) a b = if x then a else b := by cases x <;> rfl
@[simp] theorem ends_normal {fn : IFunc} {R : AVal → AHeap → Prop} : ends fn R .normal e H = (match resI e H fn.res with | some vs => R (tupI vs) H | none => False) := rfl
@[simp] theorem ends_ret {fn : IFunc} {R : AVal → AHeap → Prop} : ends fn R .ret e H = (match resI e H fn.res with | some vs => R (tupI vs) H | none => False) := rfl
@[simp] theorem items_nil : itemsI call lo [] e H = some (e, H) := rfl
/-- What is behind an item. -/
def thenI (call : CallI) (lo : Nat) (re : List (Nat × IOp × Option (Nat × Bool))) (l : List Item) : Option (Env × AHeap) → Option (Env × AHeap)
  | some (e', H') => if reOk lo e' H' re then itemsI call lo l e' H' else none
  | none => none
@[simp] theorem items_cons {dst : Option Nat} {op : IOp} {g : Option (Nat × Bool)} {re : List (Nat × IOp × Option (Nat × Bool))} {l : List Item} : itemsI call lo (⟨dst, op, g, re⟩ :: l) e H = thenI call lo re l (itemI call lo ⟨dst, op, g, re⟩ e H) := by
  simp only [itemsI, thenI]
  rcases itemI call lo ⟨dst, op, g, re⟩ e H with _ | ⟨e', H'⟩ <;> rfl
@[simp] theorem thenI_nil {l : List Item} : thenI call lo [] l (some (e, H)) = itemsI call lo l e H := rfl
@[simp] theorem thenI_none {re : List (Nat × IOp × Option (Nat × Bool))} {l : List Item} : thenI call lo re l none = none := rfl
@[simp] theorem thenI_cons {x : Nat × IOp × Option (Nat × Bool)} {re : List (Nat × IOp × Option (Nat × Bool))} {l : List Item} : thenI call lo (x :: re) l (some (e, H)) = if reOk lo e H (x :: re) then itemsI call lo l e H else none := rfl
/-- What an item makes of what its operation makes. -/
def putI (dst : Option Nat) (e : Env) : Option (Option AVal × AHeap) → Option (Env × AHeap)
  | some (some v, H') => some (putD e dst v, H')
  | some (none, H') => some (putD e dst (.tu []), H')
  | none => none
@[simp] theorem putI_val {dst : Option Nat} {v : AVal} : putI dst e (some (some v, H)) = some (putD e dst v, H) := rfl
@[simp] theorem putI_no {dst : Option Nat} : putI dst e (some (none, H)) = some (putD e dst (.tu []), H) := rfl
@[simp] theorem putI_none {dst : Option Nat} : putI dst e none = none := rfl
@[simp] theorem item_none {dst : Option Nat} {op : IOp} {re : List (Nat × IOp × Option (Nat × Bool))} : itemI call lo ⟨dst, op, none, re⟩ e H = putI dst e (opI call lo op e H) := by
  simp only [itemI, wantedI]
  rcases opI call lo op e H with _ | ⟨_ | v, H'⟩ <;> rfl
/-- A guarded item. -/
def guardI (call : CallI) (lo : Nat) (dst : Option Nat) (op : IOp) (want : Bool) (e : Env) (H : AHeap) : Option AVal → Option (Env × AHeap)
  | some (.b x) => if x = want then putI dst e (opI call lo op e H) else some (putD e dst (.tu []), H)
  | some _ => some (putD e dst (.tu []), H)
  | none => none
@[simp] theorem item_some {dst : Option Nat} {op : IOp} {t : Nat} {want : Bool} {re : List (Nat × IOp × Option (Nat × Bool))} : itemI call lo ⟨dst, op, some (t, want), re⟩ e H = guardI call lo dst op want e H (e.get t) := by
  simp only [itemI, wantedI]
  rcases e.get t with _ | v
  · rfl
  · cases v <;> try rfl
    rename_i x
    simp only [guardI]
    cases hxw : (x == want)
    · rw [if_neg (by simpa using hxw)]
    · rw [if_pos (by simpa using hxw)]
      rcases opI call lo op e H with _ | ⟨_ | v, H'⟩ <;> rfl
@[simp] theorem guardI_b {dst : Option Nat} {op : IOp} {want x : Bool} : guardI call lo dst op want e H (some (.b x)) = if x = want then putI dst e (opI call lo op e H) else some (putD e dst (.tu []), H) := rfl
@[simp] theorem guardI_tu {dst : Option Nat} {op : IOp} {want : Bool} {l : List AVal} : guardI call lo dst op want e H (some (.tu l)) = some (putD e dst (.tu []), H) := rfl
@[simp] theorem putD_none {v : AVal} : putD e none v = e := rfl
@[simp] theorem putD_some {t : Nat} {v : AVal} : putD e (some t) v = e.put t v := rfl
@[simp] theorem reOk_nil : reOk lo e H [] = true := rfl
/-- Does it still read so? -/
def stillI (v : Option AVal) (r : Option (Option AVal × AHeap)) : Bool := match v, r with
  | some v, some (some v', _) => same v v'
  | _, _ => false
@[simp] theorem stillI_some {v v' : AVal} : stillI (some v) (some (some v', H)) = same v v' := rfl
def guardR (g : Option Bool) (b : Bool) : Bool := match g with
  | some false => true
  | some true => b
  | none => false
@[simp] theorem reOk_cons {t : Nat} {o : IOp} {g : Option (Nat × Bool)} {l : List (Nat × IOp × Option (Nat × Bool))} : reOk lo e H ((t, o, g) :: l) = (guardR (wantedI e g) (stillI (e.get t) (aop lo o e H)) && reOk lo e H l) := rfl
@[simp] theorem guardR_f {b : Bool} : guardR (some false) b = true := rfl
@[simp] theorem guardR_t {b : Bool} : guardR (some true) b = b := rfl
def wantV (want : Bool) : Option AVal → Option Bool
  | some (.b x) => some (x == want)
  | some _ => some false
  | none => none
@[simp] theorem wantV_b {want x : Bool} : wantV want (some (.b x)) = some (x == want) := rfl
@[simp] theorem wantV_tu {want : Bool} {l : List AVal} : wantV want (some (.tu l)) = some false := rfl
@[simp] theorem wanted_some {t : Nat} {want : Bool} : wantedI e (some (t, want)) = wantV want (e.get t) := by
  simp only [wantedI, wantV]
  rcases e.get t with _ | v
  · rfl
  · cases v <;> rfl
@[simp] theorem wanted_none : wantedI e none = some true := rfl
@[simp] theorem env_get_nil {s : Nat} : Env.get [] s = none := rfl
@[simp] theorem env_get_cons {k s : Nat} {v : AVal} : Env.get ((k, v) :: e) s = if k = s then some v else Env.get e s := rfl
@[simp] theorem env_put_nil {t : Nat} {v : AVal} : Env.put [] t v = [(t, v)] := rfl
@[simp] theorem env_put_cons {k t : Nat} {u v : AVal} : Env.put ((k, u) :: e) t v = if t < k then (t, v) :: (k, u) :: e else if t = k then (t, v) :: e else (k, u) :: Env.put e t v := rfl
@[simp] theorem env_del_nil {t : Nat} : Env.del [] t = [] := rfl
@[simp] theorem env_del_cons {k t : Nat} {v : AVal} : Env.del ((k, v) :: e) t = if k = t then Env.del e t else (k, v) :: Env.del e t := rfl
@[simp] theorem env_kill_nil : Env.kill e [] = e := rfl
@[simp] theorem env_kill_cons {t : Nat} {l : List Nat} : Env.kill e (t :: l) = Env.kill (e.del t) l := rfl
@[simp] theorem initEnv_nil {k : Nat} : initEnv k [] = [] := rfl
@[simp] theorem initEnv_cons {k : Nat} {v : AVal} {l : List AVal} : initEnv k (v :: l) = (k, v) :: initEnv (k + 1) l := rfl
@[simp] theorem eval_t {n : Nat} : (Opd.t n).eval e = e.get n := rfl
@[simp] theorem eval_c {v : AVal} : (Opd.c v).eval e = some v := rfl
@[simp] theorem eval_g {n : Nat} : (Opd.g n).eval e = some (.p n 0) := rfl
@[simp] theorem eval_f {n : Nat} : (Opd.f n).eval e = some (.fn (.func n) [] []) := rfl
@[simp] theorem resI_nil : resI e H [] = some [] := rfl
def consR (v : Option AVal) (l : Option (List AVal)) : Option (List AVal) := match v, l with
  | some v, some vs => some (v :: vs)
  | _, _ => none
@[simp] theorem consR_some {v : AVal} {l : List AVal} : consR (some v) (some l) = some (v :: l) := rfl
@[simp] theorem resI_t {n : Nat} {l : List IRes} : resI e H (.t n :: l) = consR (e.get n) (resI e H l) := rfl
@[simp] theorem resI_c {n : Nat} {k : Option Nat} {l : List IRes} : resI e H (.c n k :: l) = consR ((e.get n).bind (loadV H k)) (resI e H l) := by
  simp only [resI]
  rcases e.get n with _ | v
  · rfl
  · simp only [Option.bind_some]
    rcases loadV H k v with _ | u
    · rfl
    · rcases resI e H l with _ | l <;> rfl
@[simp] theorem tup_one {v : AVal} : tupI [v] = v := rfl
@[simp] theorem tup_two {v u : AVal} {l : List AVal} : tupI (v :: u :: l) = .tu (v :: u :: l) := rfl
@[simp] theorem tup_no : tupI [] = .tu [] := rfl
@[simp] theorem evals_nil : evals e [] = some [] := rfl
@[simp] theorem evals_cons {x : Opd} {l : List Opd} : evals e (x :: l) = consR (x.eval e) (evals e l) := by
  simp only [evals]
  rcases x.eval e with _ | v
  · rfl
  · rcases evals e l with _ | l <;> rfl
def callR (r : Option (AVal × AHeap)) : Option (Option AVal × AHeap) := r.map fun x => (some x.1, x.2)
@[simp] theorem callR_some {v : AVal} : callR (some (v, H)) = some (some v, H) := rfl
@[simp] theorem op_call {f : FuncId} {args : List Opd} : opI call lo (.call f args) e H = (evals e args).bind fun vs => callR (call f vs H) := by
  simp only [opI]
  rcases evals e args with _ | vs
  · rfl
  · simp only [Option.bind_some]
    rcases call f vs H with _ | ⟨v, H'⟩ <;> rfl
/-- A value alone. -/
def val (H : AHeap) (v : Option AVal) : Option (Option AVal × AHeap) := v.map fun v => (some v, H)
@[simp] theorem val_some {v : AVal} : val H (some v) = some (some v, H) := rfl
@[simp] theorem val_none : val H none = none := rfl

@[simp] theorem op_mov {x : Opd} : opI call lo (.mov x) e H = val H (x.eval e) := rfl
def pickV (c : Option AVal) (a b : Option AVal) : Option AVal := match c with
  | some (.b true) => a
  | some (.b false) => b
  | _ => none
@[simp] theorem pickV_b {x : Bool} {a b : Option AVal} : pickV (some (.b x)) a b = if x then a else b := by cases x <;> rfl
@[simp] theorem op_pick {c a b : Opd} : opI call lo (.pick c a b) e H = val H (pickV (c.eval e) (a.eval e) (b.eval e)) := by
  simp only [opI, aop, pickV]
  rcases c.eval e with _ | v
  · rfl
  · cases v <;> try rfl
    rename_i x; cases x <;> rfl
def two (f : AVal → AVal → Option AVal) : Option AVal → Option AVal → Option AVal
  | some a, some b => f a b
  | _, _ => none
@[simp] theorem two_some {f : AVal → AVal → Option AVal} {a b : AVal} : two f (some a) (some b) = f a b := rfl
@[simp] theorem op_bin {op : BinOp} {x y : Opd} : opI call lo (.bin op x y) e H = val H (two (binV op) (x.eval e) (y.eval e)) := by
  simp only [opI, aop]
  rcases x.eval e with _ | a <;> rcases y.eval e with _ | b <;> rfl
@[simp] theorem bin_add {k : IntKind} {a b : Int} : binV .add (.i k a) (.i k b) = some (.i k (wrapI k (a + b))) := by simp [binV, binI]
@[simp] theorem bin_sub {k : IntKind} {a b : Int} : binV .sub (.i k a) (.i k b) = some (.i k (wrapI k (a - b))) := by simp [binV, binI]
@[simp] theorem bin_mul {k : IntKind} {a b : Int} : binV .mul (.i k a) (.i k b) = some (.i k (wrapI k (a * b))) := by simp [binV, binI]
@[simp] theorem bin_quo {k : IntKind} {a b : Int} : binV .quo (.i k a) (.i k b) = if b = 0 then none else some (.i k (wrapI k (a.tdiv b))) := by simp [binV, binI]
@[simp] theorem bin_rem {k : IntKind} {a b : Int} : binV .rem (.i k a) (.i k b) = if b = 0 then none else some (.i k (a.tmod b)) := by simp [binV, binI]
@[simp] theorem bin_eql {k : IntKind} {a b : Int} : binV .eql (.i k a) (.i k b) = some (.b (decide (a = b))) := by
  simp only [binV, binI, if_true]; congr 2
@[simp] theorem bin_neq {k : IntKind} {a b : Int} : binV .neq (.i k a) (.i k b) = some (.b (!decide (a = b))) := by
  simp only [binV, binI, if_true]; congr 2
@[simp] theorem bin_lss {k : IntKind} {a b : Int} : binV .lss (.i k a) (.i k b) = some (.b (decide (a < b))) := by simp [binV, binI]
@[simp] theorem bin_leq {k : IntKind} {a b : Int} : binV .leq (.i k a) (.i k b) = some (.b (decide (a ≤ b))) := by simp [binV, binI]
@[simp] theorem bin_gtr {k : IntKind} {a b : Int} : binV .gtr (.i k a) (.i k b) = some (.b (decide (b < a))) := by simp [binV, binI]
@[simp] theorem bin_geq {k : IntKind} {a b : Int} : binV .geq (.i k a) (.i k b) = some (.b (decide (b ≤ a))) := by simp [binV, binI]
@[simp] theorem bin_seql {a b : List UInt8} : binV .eql (.s a) (.s b) = some (.b (a == b)) := rfl
@[simp] theorem bin_sneq {a b : List UInt8} : binV .neq (.s a) (.s b) = some (.b (!(a == b))) := rfl
@[simp] theorem op_un {op : UnOp} {x : Opd} : opI call lo (.un op x) e H = val H ((x.eval e).bind (unV op)) := rfl
@[simp] theorem un_not {x : Bool} : unV .not (.b x) = some (.b (!x)) := rfl
@[simp] theorem un_neg {k : IntKind} {n : Int} : unV .neg (.i k n) = some (.i k (wrapI k (0 - n))) := rfl
def convV (k : IntKind) : AVal → Option AVal
  | .i _ n => some (.i k (wrapI k n))
  | _ => none
@[simp] theorem convV_i {k k' : IntKind} {n : Int} : convV k (.i k' n) = some (.i k (wrapI k n)) := rfl
@[simp] theorem op_conv {k : IntKind} {x : Opd} : opI call lo (.conv k x) e H = val H ((x.eval e).bind (convV k)) := by
  simp only [opI, aop]
  rcases x.eval e with _ | v
  · rfl
  · cases v <;> rfl
@[simp] theorem op_alloc {z : List AVal} : opI call lo (.alloc z) e H = some (some (.p H.next 0), H.push (.cells z 1 false)) := rfl
@[simp] theorem aop_load {n : Option Nat} {x : Opd} : aop lo (.load n x) e H = val H ((x.eval e).bind (loadV H n)) := rfl
@[simp] theorem op_load {n : Option Nat} {x : Opd} : opI call lo (.load n x) e H = val H ((x.eval e).bind (loadV H n)) := rfl
def boxR (H : AHeap) (v : AVal) : Option (Option AVal × AHeap) := if v.tup = false then some (some (.p H.next 0), H.push (.cells v.cells 1 false)) else none
@[simp] theorem op_box {x : Opd} : opI call lo (.box x) e H = (x.eval e).bind (boxR H) := by
  simp only [opI, aop]
  rcases x.eval e with _ | v <;> rfl
@[simp] theorem boxR_ag {l : List AVal} : boxR H (.ag l) = some (some (.p H.next 0), H.push (.cells l 1 false)) := rfl
@[simp] theorem boxR_i {k : IntKind} {n : Int} : boxR H (.i k n) = some (some (.p H.next 0), H.push (.cells [.i k n] 1 false)) := rfl
@[simp] theorem boxR_s {v : List UInt8} : boxR H (.s v) = some (some (.p H.next 0), H.push (.cells [.s v] 1 false)) := rfl
@[simp] theorem boxR_b {v : Bool} : boxR H (.b v) = some (some (.p H.next 0), H.push (.cells [.b v] 1 false)) := rfl
def loadO (n : Option Nat) (off : Nat) : Option AObj → Option AVal
  | some (.cells c _ _) => match n with
    | none => c[off]?
    | some n => if off + n ≤ c.length then some (.ag ((c.drop off).take n)) else none
  | _ => none
@[simp] theorem loadO_one {off esz : Nat} {c : List AVal} {ro : Bool} : loadO none off (some (.cells c esz ro)) = c[off]? := rfl
@[simp] theorem loadO_row {n off esz : Nat} {c : List AVal} {ro : Bool} : loadO (some n) off (some (.cells c esz ro)) = if off + n ≤ c.length then some (.ag ((c.drop off).take n)) else none := rfl
@[simp] theorem load_p {n : Option Nat} {id off : Nat} : loadV H n (.p id off) = loadO n off (H.get id) := by
  simp only [loadV, loadO, rowAt]
  cases n with
  | none => rcases H.get id with _ | ⟨c, esz, ro⟩ | es <;> rfl
  | some n =>
    rcases H.get id with _ | ⟨c, esz, ro⟩ | es
    · rfl
    · simp only; split <;> rfl
    · rfl
def storeR (lo n : Nat) (H : AHeap) : Option AVal → Option AVal → Option (Option AVal × AHeap)
  | some a, some v => (storeV lo H n a v).map fun H' => (none, H')
  | _, _ => none
@[simp] theorem op_store {n : Nat} {x v : Opd} : opI call lo (.store n x v) e H = storeR lo n H (x.eval e) (v.eval e) := by
  simp only [opI, aop]
  rcases x.eval e with _ | a <;> rcases v.eval e with _ | b <;> rfl
def storeO (lo id off n : Nat) (H : AHeap) (v : AVal) : Option AObj → Option (Option AVal × AHeap)
  | some (.cells c esz ro) => if lo ≤ id ∧ ro = false ∧ v.tup = false ∧ v.cells.length = n ∧ off + n ≤ c.length then some (none, H.put id (some (.cells (putCells c off v.cells) esz ro))) else none
  | _ => none
@[simp] theorem storeO_cells {id off n esz : Nat} {v : AVal} {c : List AVal} {ro : Bool} : storeO lo id off n H v (some (.cells c esz ro)) =
    if lo ≤ id ∧ ro = false ∧ v.tup = false ∧ v.cells.length = n ∧ off + n ≤ c.length then some (none, H.put id (some (.cells (putCells c off v.cells) esz ro))) else none := rfl
@[simp] theorem storeR_p {id off n : Nat} {v : AVal} : storeR lo n H (some (.p id off)) (some v) = storeO lo id off n H v (H.get id) := by
  simp only [storeR, storeV, storeO]
  by_cases h : lo ≤ id
  · rw [if_pos h]
    rcases H.get id with _ | ⟨c, esz, ro⟩ | es
    · rfl
    · simp only
      split
      · rename_i h2; rw [if_pos ⟨h, h2⟩]; rfl
      · rename_i h2; rw [if_neg (fun h3 => h2 h3.2)]; rfl
    · rfl
  · rw [if_neg h]
    rcases H.get id with _ | ⟨c, esz, ro⟩ | es
    · rfl
    · simp only; rw [if_neg (fun h3 => h h3.1)]; rfl
    · rfl
@[simp] theorem tup_i {k : IntKind} {n : Int} : (AVal.i k n).tup = false := rfl
@[simp] theorem tup_b {x : Bool} : (AVal.b x).tup = false := rfl
@[simp] theorem tup_s {x : List UInt8} : (AVal.s x).tup = false := rfl
@[simp] theorem tup_ag {l : List AVal} : (AVal.ag l).tup = false := rfl
@[simp] theorem tup_p {a b : Nat} : (AVal.p a b).tup = false := rfl
@[simp] theorem tup_sl {a b c : Nat} {d : Option Nat} : (AVal.sl a b c d).tup = false := rfl
@[simp] theorem tup_ns : AVal.ns.tup = false := rfl
@[simp] theorem tup_np : AVal.np.tup = false := rfl
@[simp] theorem cells_i {k : IntKind} {n : Int} : (AVal.i k n).cells = [.i k n] := rfl
@[simp] theorem cells_b {x : Bool} : (AVal.b x).cells = [.b x] := rfl
@[simp] theorem cells_s {x : List UInt8} : (AVal.s x).cells = [.s x] := rfl
@[simp] theorem cells_ag {l : List AVal} : (AVal.ag l).cells = l := rfl
@[simp] theorem cells_p {a b : Nat} : (AVal.p a b).cells = [.p a b] := rfl
@[simp] theorem cells_sl {a b c : Nat} {d : Option Nat} : (AVal.sl a b c d).cells = [.sl a b c d] := rfl
@[simp] theorem cells_ns : AVal.ns.cells = [.ns] := rfl
@[simp] theorem cells_np : AVal.np.cells = [.np] := rfl
@[simp] theorem putCells_nil {cs : List AVal} {off : Nat} : putCells cs off [] = cs := rfl
@[simp] theorem putCells_cons {cs l : List AVal} {off : Nat} {v : AVal} : putCells cs off (v :: l) = putCells (cs.set off v) (off + 1) l := rfl
@[simp] theorem op_off {x : Opd} {k : Nat} : opI call lo (.off x k) e H = val H ((x.eval e).bind (offV k)) := rfl
@[simp] theorem off_p {id off k : Nat} : offV k (.p id off) = some (.p id (off + k)) := rfl
@[simp] theorem op_part {n : Option Nat} {x : Opd} {k : Nat} : opI call lo (.part n x k) e H = val H ((x.eval e).bind (partV n k)) := rfl
@[simp] theorem part_one {l : List AVal} {off : Nat} : partV none off (.ag l) = l[off]? := rfl
@[simp] theorem part_row {l : List AVal} {off n : Nat} : partV (some n) off (.ag l) = if off + n ≤ l.length then some (.ag ((l.drop off).take n)) else none := rfl
@[simp] theorem op_ext {x : Opd} {k : Nat} : opI call lo (.ext x k) e H = val H ((x.eval e).bind (extV k)) := rfl
@[simp] theorem ext_tu {l : List AVal} {k : Nat} : extV k (.tu l) = l[k]? := rfl
@[simp] theorem parts_nil : evalParts e [] = some [] := rfl
def consP (o n : Nat) (v : Option AVal) (l : Option (List (Nat × Nat × AVal))) : Option (List (Nat × Nat × AVal)) := match v, l with
  | some v, some vs => some ((o, n, v) :: vs)
  | _, _ => none
@[simp] theorem consP_some {o n : Nat} {v : AVal} {l : List (Nat × Nat × AVal)} : consP o n (some v) (some l) = some ((o, n, v) :: l) := rfl
@[simp] theorem parts_cons {o n : Nat} {x : Opd} {l : List (Nat × Nat × Opd)} : evalParts e ((o, n, x) :: l) = consP o n (x.eval e) (evalParts e l) := by
  simp only [evalParts]
  rcases x.eval e with _ | v
  · rfl
  · rcases evalParts e l with _ | l <;> rfl
@[simp] theorem op_build {z : List AVal} {parts : List (Nat × Nat × Opd)} : opI call lo (.build z parts) e H = val H ((evalParts e parts).bind fun ps => (fillA z ps).map .ag) := by
  simp only [opI, aop]
  rcases evalParts e parts with _ | ps <;> rfl
@[simp] theorem fill_nil {cs : List AVal} : fillA cs [] = some cs := rfl
@[simp] theorem fill_cons {cs : List AVal} {off size : Nat} {v : AVal} {l : List (Nat × Nat × AVal)} : fillA cs ((off, size, v) :: l) = if v.tup = false ∧ v.cells.length = size ∧ off + size ≤ cs.length then fillA (putCells cs off v.cells) l else none := rfl
@[simp] theorem op_mm {mx : Bool} {x : Opd} {l : List Opd} : opI call lo (.mm mx x l) e H = val H ((x.eval e).bind fun a => (evals e l).bind (mmV mx a)) := by
  simp only [opI, aop]
  rcases x.eval e with _ | a
  · rfl
  · rcases evals e l with _ | l <;> rfl
@[simp] theorem mm_min {k : IntKind} {a b : Int} : mmV false (.i k a) [.i k b] = some (.i k (min a b)) := by
  simp only [mmV, if_true]
  have : (if (if false = true then decide (b > a) else decide (b < a)) = true then b else a) = min a b := by
    by_cases h : b < a <;> simp [h] <;> omega
  rw [this]
@[simp] theorem mm_max {k : IntKind} {a b : Int} : mmV true (.i k a) [.i k b] = some (.i k (max a b)) := by
  simp only [mmV, if_true]
  have : (if decide (b > a) = true then b else a) = max a b := by
    by_cases h : a < b <;> simp [h] <;> omega
  rw [this]

def eqBV (neg : Bool) : AVal → AVal → Option AVal
  | .b a, .b b => some (.b (if neg then !(a == b) else a == b))
  | _, _ => none
@[simp] theorem eqBV_b {neg a b : Bool} : eqBV neg (.b a) (.b b) = some (.b (if neg then !(a == b) else a == b)) := rfl
@[simp] theorem op_eqB {neg : Bool} {x y : Opd} : opI call lo (.eqB neg x y) e H = val H (two (eqBV neg) (x.eval e) (y.eval e)) := by
  simp only [opI, aop]
  rcases x.eval e with _ | a
  · rfl
  · rcases y.eval e with _ | b
    · cases a <;> rfl
    · cases a <;> cases b <;> rfl
@[simp] theorem op_lenk {k : Nat} {x : Opd} : opI call lo (.lenk k x) e H = val H (((x.eval e).bind (lenV H k)).map fun (m : Nat) => AVal.i .i64 (m : Int)) := rfl
@[simp] theorem len_ns : lenV H 0 .ns = some 0 := rfl
@[simp] theorem len_sl {id off len : Nat} {cap : Option Nat} : lenV H 0 (.sl id off len cap) = some len := rfl
@[simp] theorem len_s {v : List UInt8} : lenV H 1 (.s v) = some v.length := rfl
@[simp] theorem op_iaddr {esz : Nat} {x i : Opd} : opI call lo (.iaddr esz x i) e H = val H (two (iaddrV esz) (x.eval e) (i.eval e)) := by
  simp only [opI, aop]
  rcases x.eval e with _ | a <;> rcases i.eval e with _ | b <;> rfl
@[simp] theorem iaddr_sl {esz id off len : Nat} {cap : Option Nat} {k : IntKind} {n : Int} : iaddrV esz (.sl id off len cap) (.i k n) = if 0 ≤ n ∧ n < len then some (.p id (off + n.toNat * esz)) else none := rfl
def bslR (H : AHeap) (esz len : Nat) : Option (List AVal) → Option (Option AVal × AHeap)
  | some cs => some (some (.sl H.next 0 len (some len)), H.push (.cells cs esz false))
  | none => none
@[simp] theorem bslR_some {esz len : Nat} {cs : List AVal} : bslR H esz len (some cs) = some (some (.sl H.next 0 len (some len)), H.push (.cells cs esz false)) := rfl
@[simp] theorem op_bsl {esz len : Nat} {z : List AVal} {parts : List (Nat × Nat × Opd)} : opI call lo (.bsl esz len z parts) e H = bslR H esz len ((evalParts e parts).bind fun ps => fillA z ps) := by
  simp only [opI, aop]
  rcases evalParts e parts with _ | ps
  · rfl
  · simp only [Option.bind_some]
    rcases fillA z ps with _ | cs <;> rfl

/-! ### The heap -/
@[simp] theorem heap_get_push {j : Nat} {o : AObj} : (H.push o).get j = if j = H.next then some o else H.get j := AHeap.get_push H j o
@[simp] theorem heap_get_put {n j : Nat} {o : Option AObj} : (H.put n o).get j = if j = n then o else H.get j := AHeap.get_put H n j o
@[simp] theorem heap_next_push {o : AObj} : (H.push o).next = H.next + 1 := rfl
@[simp] theorem heap_next_put {n : Nat} {o : Option AObj} : (H.put n o).next = H.next := rfl

/-! ### Sameness -/
@[simp] theorem same_self (v : AVal) : same v v = true := same_refl v

/-! ### Words -/
theorem wrapI_i64 {n : Int} (h1 : -9223372036854775808 ≤ n) (h2 : n ≤ 9223372036854775807) : wrapI .i64 n = n := by
  unfold wrapI; rw [if_pos ⟨h1, h2⟩]
theorem wrapI_u64 {n : Int} (h1 : 0 ≤ n) (h2 : n < 18446744073709551616) : wrapI .u64 n = n := Int.emod_eq_of_lt h1 h2
theorem bin_and32 {a : Int} (h0 : 0 ≤ a) (h1 : a < 18446744073709551616) : binV .and (.i .u64 a) (.i .u64 4294967295) = some (.i .u64 (a % 4294967296)) := by
  obtain ⟨n, rfl⟩ := Int.eq_ofNat_of_zero_le h0
  have hn : n < 2 ^ 64 := by omega
  have e1 : (BitVec.ofInt 64 (n : Int)).toNat = n := by
    rw [BitVec.ofInt_natCast, BitVec.toNat_ofNat]; exact Nat.mod_eq_of_lt hn
  have e2 : (BitVec.ofInt 64 4294967295).toNat = 2 ^ 32 - 1 := by rfl
  show some (AVal.i IntKind.u64 (IntKind.u64.wrap (((BitVec.ofInt 64 (n : Int) &&& BitVec.ofInt 64 4294967295).toNat : Nat) : Int))) = _
  rw [BitVec.toNat_and, e1, e2, Nat.and_two_pow_sub_one_eq_mod]
  have e3 : IntKind.u64.wrap (((n % 2 ^ 32 : Nat) : Nat) : Int) = ((n % 2 ^ 32 : Nat) : Int) := by
    show (((n % 2 ^ 32 : Nat) : Int)) % (2 ^ 64) = _
    omega
  rw [e3]
  congr 2
theorem bin_shr32 {a : Int} : binV .shr (.i .u64 a) (.i .u64 32) = some (.i .u64 (a / 4294967296)) := by
  show some (AVal.i IntKind.u64 (a.fdiv (2 ^ 32))) = _
  rw [Int.fdiv_eq_ediv_of_nonneg a (by decide)]
  rfl

/-! ### Rounds -/
theorem wp_loop_eq {b : ICode} : wp call lo (.loop b) Q e H = ∃ n, rounds (fun Q' => wp call lo b Q') Q n e H := rfl
theorem wp_loop_of {b : ICode} (n : Nat) (h : rounds (fun Q' => wp call lo b Q') Q n e H) : wp call lo (.loop b) Q e H := ⟨n, h⟩
theorem rounds_step {b : ICode} {n : Nat} : rounds (fun Q' => wp call lo b Q') Q (n + 1) e H = wp call lo b (andThen Q fun e H => rounds (fun Q' => wp call lo b Q') Q n e H) e H := rfl

end
end Go.RI
