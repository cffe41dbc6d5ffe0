/- RI, part O: code, functions, the interpreter; how the machine's code is turned. Conditions: none. -/
import Derived.Test.YteoliiakbmomeaaRiN
import Derived.LoopN
namespace Go.RI
open Go

/-- An operation in its place. 're': what was loaded ahead of it and must still read so. -/
structure Item where
  dst : Option Nat
  op : IOp
  guard : Option (Nat × Bool)
  re : List (Nat × IOp × Option (Nat × Bool))

inductive ICode where
  | skip
  | region (items : List Item) (kill : List Nat)
  | seq (a b : ICode)
  | cond (c : Opd) (a b : ICode)
  | block (id : Nat) (b : ICode)
  | loop (b : ICode)
  | exit (id : Nat)
  | ret

inductive IRes where
  | t (n : Nat)
  | c (n : Nat) (agg : Option Nat)

/-- 'mode': 0: it may turn the heap; 1: it turns nothing that was there; else it is pure: it is handed what its arguments read, in a heap of its own, and what it hands back is written by nobody any more (not at this level: see part T). -/
structure IFunc where
  body : ICode
  nt : Nat
  np : Nat
  res : List IRes
  mode : Nat

inductive AExit where
  | normal
  | exit (id : Nat)
  | ret

def AExit.conc : AExit → Exit
  | .normal => .normal
  | .exit id => .exit id
  | .ret => .ret

/-! ### Are two values the same, to the sign? -/
mutual
def same : AVal → AVal → Bool
  | .b v, .b v' => v == v'
  | .i k n, .i k' n' => k == k' && n == n'
  | .s v, .s v' => v == v'
  | .np, .np => true
  | .p id off, .p id' off' => id == id' && off == off'
  | .ns, .ns => true
  | .sl id off len cap, .sl id' off' len' cap' => id == id' && off == off' && len == len' && cap == cap'
  | .fn f a c, .fn f' a' c' => decide (f = f') && sameL a a' && sameL c c'
  | .nf, .nf => true
  | .ag l, .ag l' => sameL l l'
  | .tu l, .tu l' => sameL l l'
  | .nm, .nm => true
  | .m id, .m id' => id == id'
  | .ifc t v, .ifc t' v' => t == t' && same v v'
  | .nif, .nif => true
  | .es a, .es a' => decide (a = a')
  | _, _ => false
def sameL : List AVal → List AVal → Bool
  | [], [] => true
  | v :: l, v' :: l' => same v v' && sameL l l'
  | _, _ => false
end

mutual
theorem same_eq : ∀ (u v : AVal), same u v = true → u = v := by
  intro u v h
  cases u <;> cases v <;> simp only [same] at h <;> try (cases h; done)
  case b.b => simp at h; rw [h]
  case i.i => simp at h; rw [h.1, h.2]
  case s.s => simp at h; rw [h]
  case np.np => rfl
  case p.p => simp at h; rw [h.1, h.2]
  case ns.ns => rfl
  case sl.sl => simp at h; rw [h.1.1.1, h.1.1.2, h.1.2, h.2]
  case fn.fn => simp at h; rw [h.1.1, sameL_eq _ _ h.1.2, sameL_eq _ _ h.2]
  case nf.nf => rfl
  case ag.ag => rw [sameL_eq _ _ h]
  case tu.tu => rw [sameL_eq _ _ h]
  case nm.nm => rfl
  case m.m => simp at h; rw [h]
  case ifc.ifc => simp at h; rw [h.1, same_eq _ _ h.2]
  case nif.nif => rfl
  case es.es => rw [of_decide_eq_true h]
theorem sameL_eq : ∀ (u v : List AVal), sameL u v = true → u = v := by
  intro u v h
  cases u with
  | nil => cases v with
    | nil => rfl
    | cons _ _ => simp [sameL] at h
  | cons x u => cases v with
    | nil => simp [sameL] at h
    | cons y v => simp only [sameL, Bool.and_eq_true] at h; rw [same_eq _ _ h.1, sameL_eq _ _ h.2]
end

/-! ### What a pure call is handed, and what it hands back -/
def mapO (f : AVal → Option AVal) : List AVal → Option (List AVal)
  | [] => some []
  | v :: l => match f v with
    | some u => match mapO f l with
      | some us => some (u :: us)
      | none => none
    | none => none

noncomputable def rowO (H : AHeap) (id off len : Nat) : Option (List AVal) :=
  match H.get id with
  | some (.cells c esz _) => if off + len * esz ≤ c.length then some ((c.drop off).take (len * esz)) else none
  | _ => none

def capOk (len : Nat) : Option Nat → Bool
  | some m => decide (len ≤ m)
  | none => true

/-- A value as a pure call sees it: by what it reads. -/
noncomputable def snapV (H : AHeap) : Nat → AVal → Option AVal
  | 0, _ => none
  | n + 1, v => match v with
    | .p id off => match H.get id with
      | some (.cells c _ _) => if off ≤ c.length then (mapO (snapV H n) (c.drop off)).map .fp else none
      | _ => none
    | .ns | .es _ => some (.fs false false 0 [])
    | .sl id off len cap => if len = 0 then some (.fs false false 0 []) else if capOk len cap then match rowO H id off len with
        | some l => (mapO (snapV H n) l).map (.fs true false len)
        | none => none
      else none
    | .fn f a c => match mapO (snapV H n) a with
      | some a => match mapO (snapV H n) c with
        | some c => some (.fn f a c)
        | none => none
      | none => none
    | .ag l => (mapO (snapV H n) l).map .ag
    | .tu l => (mapO (snapV H n) l).map .tu
    | .m _ => none
    | .ifc t v => (snapV H n v).map (.ifc t)
    | .fs tmp _ len l => some (.fs tmp false len l)
    | v => some v

/-- What a pure call hands back: its own rows, from now on written by nobody. -/
noncomputable def frzV (H : AHeap) (g : Nat) : Nat → AVal → Option AVal
  | 0, _ => none
  | n + 1, v => match v with
    | .p _ _ => none
    | .fp _ => none
    | .ns | .es _ => some (.fs false false 0 [])
    | .sl id off len cap => if len = 0 then some (.fs false false 0 []) else if g ≤ id ∧ capOk len cap = true then match rowO H id off len with
        | some l => (mapO (frzV H g n) l).map (.fs false false len)
        | none => none
      else none
    | .fn f a c => match mapO (frzV H g n) a with
      | some a => match mapO (frzV H g n) c with
        | some c => some (.fn f a c)
        | none => none
      | none => none
    | .ag l => (mapO (frzV H g n) l).map .ag
    | .tu l => (mapO (frzV H g n) l).map .tu
    | .m _ => none
    | .ifc t v => (frzV H g n v).map (.ifc t)
    | .fs tmp _ len l => if tmp then none else some (.fs false false len l)
    | v => some v

/-- The code of slices.Clone. -/
def cloneCode (esz bytes : Nat) : ICode :=
  .seq (.region [⟨some 2, .mov (.c .ns), none, []⟩] [])
    (.seq (.seq (.region [⟨some 3, .mov (.t 0), none, []⟩, ⟨some 4, .eqNil 0 false (.t 3) (.c .ns), none, []⟩] [])
        (.cond (.t 4) (.seq (.region [⟨some 2, .mov (.c .ns), none, []⟩] []) .ret) .skip))
      (.seq (.region [⟨some 5, .bsl esz 0 [] [], none, []⟩, ⟨some 6, .mov (.t 0), none, []⟩, ⟨some 7, .app esz bytes (.t 5) (.t 6), none, []⟩, ⟨some 2, .mov (.t 7), none, []⟩] []) .ret))
def cloneOf : ICode → Option (Nat × Nat)
  | .seq _ (.seq _ (.seq (.region [_, _, ⟨_, .app esz bytes _ _, _, _⟩, _] _) _)) => some (esz, bytes)
  | _ => none
def isSl : AVal → Bool
  | .ns | .es _ | .sl _ _ _ _ | .fs _ _ _ _ => true
  | _ => false
/-- What it makes. -/
noncomputable def cloneV (H : AHeap) (esz bytes : Nat) (x : AVal) : Option (AVal × AHeap) :=
  match isSl x, moreV H esz x with
  | true, some (0, _) => some (.fs false true 0 [], H)
  | true, some (n + 1, cells) => if cells.length = (n + 1) * esz ∧ 0 < esz ∧ 0 < bytes ∧ (2 * (n + 1) + 192) * bytes ≤ 281474976710656 then some (.sl H.next 0 (n + 1) none, H.push (.cells cells esz false)) else none
  | _, _ => none
/-- Where a byte stands first. -/
def idxL (c : UInt8) : List UInt8 → Int → Int
  | [], _ => -1
  | b :: l, i => if b == c then i else idxL c l (i + 1)
/-- internal/bytealg.IndexByteString, which has no body. -/
def idxB (args : List AVal) : Option AVal :=
  match args with
  | [.s x, .i .u8 c] => some (.i .i64 (idxL c.toNat.toUInt8 x 0))
  | _ => none
def isSkip : ICode → Bool
  | .skip => true
  | _ => false
noncomputable def cloneB (c : ICode) (args : List AVal) (H : AHeap) : Option (AVal × AHeap) :=
  match isSkip c with
  | true => (idxB args).map fun v => (v, H)
  | false => match cloneOf c, args with
    | some (esz, bytes), [x] => cloneV H esz bytes x
    | _, _ => none

mutual
/-- It names nothing from 'n' on. -/
def below (n : Nat) : AVal → Bool
  | .p id _ => decide (id < n)
  | .sl id _ _ _ => decide (id < n)
  | .m id => decide (id < n)
  | .fn _ a c => belowL n a && belowL n c
  | .ag l => belowL n l
  | .tu l => belowL n l
  | .ifc _ v => below n v
  | _ => true
def belowL (n : Nat) : List AVal → Bool
  | [] => true
  | v :: l => below n v && belowL n l
end

/-! ### The interpreter -/
def putD (e : Env) : Option Nat → AVal → Env
  | none, _ => e
  | some t, v => e.put t v

def wantedI (e : Env) : Option (Nat × Bool) → Option Bool
  | none => some true
  | some (t, want) => match e.get t with
    | some (.b b) => some (b == want)
    | some _ => some false
    | none => none

/-- One heap holds what the other one holds, and perhaps more behind it. -/
structure Ext (H H' : AHeap) : Prop where
  next : H.next ≤ H'.next
  get : ∀ id, id < H.next → H'.get id = H.get id

theorem Ext.refl (H : AHeap) : Ext H H := ⟨Nat.le_refl _, fun _ _ => rfl⟩
theorem Ext.trans {H H1 H2 : AHeap} (a : Ext H H1) (b : Ext H1 H2) : Ext H H2 := ⟨Nat.le_trans a.next b.next, fun id h => (b.get id (Nat.lt_of_lt_of_le h a.next)).trans (a.get id h)⟩
theorem Ext.push (H : AHeap) (o : AObj) : Ext H (H.push o) := ⟨by rw [AHeap.next_push]; omega, fun id h => by rw [AHeap.get_push, if_neg (by omega)]⟩

/-- What calls come to; which ones turn nothing that was there. -/
structure CallI where
  call : FuncId → List AVal → AHeap → Option (AVal × AHeap)
  pure : FuncId → Bool
instance : CoeFun CallI fun _ => FuncId → List AVal → AHeap → Option (AVal × AHeap) := ⟨CallI.call⟩

def skipI (call : CallI) : IOp → Bool
  | .call f _ => call.pure f
  | _ => false

noncomputable def opI (call : CallI) (lo : Nat) (o : IOp) (e : Env) (H : AHeap) : Option (Option AVal × AHeap) :=
  match o with
  | .call f args => match evals e args with
    | some vs => match call f vs H with
      | some (v, H') => some (some v, H')
      | none => none
    | none => none
  | .callv x args => match x.eval e with
    | some (.fn (.func f) fst cap) => match evals e args with
      | some vs => match call f (fst ++ vs ++ cap) H with
        | some (v, H') => some (some v, H')
        | none => none
      | none => none
    | _ => none
  | o => aop lo o e H

noncomputable def itemI (call : CallI) (lo : Nat) (x : Item) (e : Env) (H : AHeap) : Option (Env × AHeap) :=
  match wantedI e x.guard with
  | none => none
  | some false => some (putD e x.dst (.tu []), H)
  | some true => match opI call lo x.op e H with
    | some (some v, H') => some (putD e x.dst v, H')
    | some (none, H') => some (putD e x.dst (.tu []), H')
    | none => none

/-- What was loaded ahead still reads so. -/
noncomputable def reOk (lo : Nat) (e : Env) (H : AHeap) : List (Nat × IOp × Option (Nat × Bool)) → Bool
  | [] => true
  | (t, o, g) :: l => (match wantedI e g with
    | some false => true
    | some true => (match e.get t, aop lo o e H with
      | some v, some (some v', _) => same v v'
      | _, _ => false)
    | none => false) && reOk lo e H l

/-- Rows that an append may touch. -/
def touchV : AVal → Option (List Nat)
  | .ns => some []
  | .es _ => some []
  | .sl id _ _ none => some [id]
  | .sl id _ len (some c) => if c ≤ len then some [] else some [id]
  | .fs _ true _ _ => some []
  | _ => none
def touch (e : Env) : IOp → Option (List Nat)
  | .app _ _ x _ => match x.eval e with
    | some v => touchV v
    | none => none
  | _ => none
def keepL (ids : List Nat) (e' : Env) : List (Nat × IOp × Option (Nat × Bool)) → Bool
  | [] => true
  | (_, o, _) :: l => (match o with
    | .load _ b => match b.eval e' with
      | some (.p id _) => !ids.contains id
      | _ => false
    | _ => false) && keepL ids e' l
/-- What was loaded ahead lies elsewhere than what is touched. -/
def keepI (o : IOp) (re : List (Nat × IOp × Option (Nat × Bool))) (e e' : Env) : Bool := match touch e o with
  | some ids => keepL ids e' re
  | none => false

noncomputable def itemsI (call : CallI) (lo : Nat) : List Item → Env → AHeap → Option (Env × AHeap)
  | [], e, H => some (e, H)
  | x :: l, e, H => match itemI call lo x e H with
    | some (e', H') => if skipI call x.op || (keepI x.op x.re e e' || reOk lo e' H' x.re) then itemsI call lo l e' H' else none
    | none => none

def initEnv : Nat → List AVal → Env
  | _, [] => []
  | k, v :: l => (k, v) :: initEnv (k + 1) l

noncomputable def resI (e : Env) (H : AHeap) : List IRes → Option (List AVal)
  | [] => some []
  | .t n :: l => match e.get n, resI e H l with
    | some v, some vs => some (v :: vs)
    | _, _ => none
  | .c n k :: l => match e.get n with
    | some p => match loadV H k p, resI e H l with
      | some v, some vs => some (v :: vs)
      | _, _ => none
    | none => none

def tupI : List AVal → AVal
  | [v] => v
  | l => .tu l

noncomputable def bodyI (ex : Nat → ICode → Env → AHeap → Option (AExit × Env × AHeap)) (fn : IFunc) (lo : Nat) (args : List AVal) (H : AHeap) : Option (AVal × AHeap) :=
  if args.length = fn.np then
    match ex lo fn.body (initEnv 0 args) H with
    | some (.exit _, _, _) => none
    | some (_, e, H') => match resI e H' fn.res with
      | some vs => some (tupI vs, H')
      | none => none
    | none => none
  else none

noncomputable def callB (ex : Nat → ICode → Env → AHeap → Option (AExit × Env × AHeap)) (IP : FuncId → Option IFunc) (G : AHeap) (lo : Nat) (f : FuncId) (args : List AVal) (H : AHeap) : Option (AVal × AHeap) :=
  match IP f with
  | none => none
  | some fn =>
    match fn.mode with
    | 0 => bodyI ex fn lo args H
    | 1 => bodyI ex fn H.next args H
    | 2 => match mapO (snapV H 16) args with
      | some args' => match bodyI ex fn G.next args' G with
        | some (v, H1) => match frzV H1 G.next 16 v with
          | some v' => some (v', H)
          | none => none
        | none => none
      | none => none
    | 3 => match bodyI ex fn H.next args H with
      | some (v, _) => if below H.next v then some (v, H) else none
      | none => none
    | _ => cloneB fn.body args H

def pureB (IP : FuncId → Option IFunc) (f : FuncId) : Bool := match IP f with
  | some fn => match fn.mode with
    | 0 => false
    | _ => true
  | none => false

noncomputable def callI (ex : Nat → ICode → Env → AHeap → Option (AExit × Env × AHeap)) (IP : FuncId → Option IFunc) (G : AHeap) (lo : Nat) : CallI := ⟨callB ex IP G lo, pureB IP⟩

noncomputable def exec (IP : FuncId → Option IFunc) (G : AHeap) : Nat → Nat → ICode → Env → AHeap → Option (AExit × Env × AHeap)
  | 0, _, _, _, _ => none
  | f + 1, lo, c, e, H =>
    match c with
    | .skip => some (.normal, e, H)
    | .region items kill => match itemsI (callI (exec IP G f) IP G lo) lo items e H with
      | some (e', H') => some (.normal, e'.kill kill, H')
      | none => none
    | .seq a b => match exec IP G f lo a e H with
      | some (.normal, e', H') => exec IP G f lo b e' H'
      | r => r
    | .cond x a b => match x.eval e with
      | some (.b true) => exec IP G f lo a e H
      | some (.b false) => exec IP G f lo b e H
      | _ => none
    | .block id b => match exec IP G f lo b e H with
      | some (.exit id', e', H') => if id' = id then some (.normal, e', H') else some (.exit id', e', H')
      | r => r
    | .loop b => match exec IP G f lo b e H with
      | some (.normal, e', H') => exec IP G f lo (.loop b) e' H'
      | r => r
    | .exit id => some (.exit id, e, H)
    | .ret => some (.ret, e, H)

/-- A call, with so much fuel. -/
noncomputable def acall (IP : FuncId → Option IFunc) (G : AHeap) (f : Nat) (lo : Nat) : CallI := callI (exec IP G f) IP G lo

/-! ### The machine's code, turned -/
def trCall (P : Program) (c : Call) : Option IOp :=
  match c.callee with
  | .value (.func f) => (trOpds P c.args.toList).map (.call f)
  | .value x => match trOpd P x, trOpds P c.args.toList with
    | some x, some l => some (.callv x l)
    | _, _ => none
  | _ => none

def IOp.isC : IOp → Bool
  | .call _ _ | .callv _ _ => true
  | _ => false

/-- As an operation stands in a region that leaves an order open. -/
def IOp.quiet : IOp → IOp
  | .sl esz x lo hi mx => .slq esz x lo hi mx
  | o => o

def trOpC (P : Program) (o : Oper) : Option IOp :=
  match trOp P o with
  | some io => if io.isC = false then some io else none
  | none => match o.op with
    | .call c => match trCall P c with
      | some io => some io
      | none => some .bad
    | _ => some .bad

def trGuard (ops : Array Oper) : Option (Nat × Bool) → Option (Option (Nat × Bool))
  | none => some none
  | some (j, want) => match (ops[j]?).bind (·.dst) with
    | some t => some (some (t, want))
    | none => none

def dstOk (nt : Nat) : Option Nat → Bool
  | none => true
  | some t => decide (t < nt)

def trItem (P : Program) (nt : Nat) (ops : Array Oper) (o : Oper) : Option Item :=
  match trOpC P o, trGuard ops o.guard with
  | some io, some g => if dstOk nt o.dst then some { dst := o.dst, op := io, guard := g, re := [] } else none
  | _, _ => none

def trItems (P : Program) (nt : Nat) (ops : Array Oper) : List Oper → Option (List Item)
  | [] => some []
  | o :: l => match trItem P nt ops o, trItems P nt ops l with
    | some x, some xs => some (x :: xs)
    | _, _ => none

end Go.RI
