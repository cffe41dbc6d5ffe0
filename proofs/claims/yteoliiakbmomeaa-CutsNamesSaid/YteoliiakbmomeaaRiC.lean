/- RI, part C: the interpreter's operations, and how the machine's are turned into them. Conditions: none. -/
import Derived.Test.YteoliiakbmomeaaRiB
namespace Go.RI
open Go

inductive Opd where
  | t (n : Nat)
  | c (v : AVal)
  | g (n : Nat)
  | f (n : FuncId)
  deriving Inhabited

def Opd.eval (e : Env) : Opd → Option AVal
  | .t n => e.get n
  | .c v => some v
  | .g n => some (.p n 0)
  | .f n => some (.fn (.func n) [] [])

def evals (e : Env) : List Opd → Option (List AVal)
  | [] => some []
  | x :: l =>
    match x.eval e with
    | some v =>
      match evals e l with
      | some vs => some (v :: vs)
      | none => none
    | none => none

inductive IOp where
  | mov (x : Opd)
  | pick (c a b : Opd)
  | bin (op : BinOp) (x y : Opd)
  | eqB (neg : Bool) (x y : Opd)
  | eqNil (k : Nat) (neg : Bool) (x y : Opd)
  | eqAg (ks : List Nat) (neg : Bool) (x y : Opd)
  | un (op : UnOp) (x : Opd)
  | conv (k : IntKind) (x : Opd)
  | same (x : Opd)
  | alloc (z : List AVal)
  | box (x : Opd)
  | build (z : List AVal) (parts : List (Nat × Nat × Opd))
  | bsl (esz len : Nat) (z : List AVal) (parts : List (Nat × Nat × Opd))
  | load (n : Option Nat) (x : Opd)
  | store (n : Nat) (x v : Opd)
  | nck (x : Opd)
  | off (x : Opd) (k : Nat)
  | part (n : Option Nat) (x : Opd) (off : Nat)
  | iaddr (esz : Nat) (x i : Opd)
  | iaddrA (esz len : Nat) (x i : Opd)
  | idxS (x i : Opd)
  | idxA (n : Option Nat) (esz len : Nat) (x i : Opd)
  | ext (x : Opd) (k : Nat)
  | mkf (f : FuncId) (fst cap : List Opd)
  | mksl (esz bytes : Nat) (z : List AVal) (l c : Opd)
  | slS (x : Opd) (lo hi : Option Opd)
  | sl (esz : Nat) (x : Opd) (lo hi mx : Option Opd)
  | slq (esz : Nat) (x : Opd) (lo hi mx : Option Opd)
  | lenk (k : Nat) (x : Opd)
  | app (esz bytes : Nat) (x y : Opd)
  | mm (mx : Bool) (x : Opd) (l : List Opd)
  | iface (t : TypeId) (x : Opd)
  | s2b (x : Opd)
  | bad
  | mkmap
  | mapup (ag : Bool) (ks : List Nat) (x k v : Opd)
  | look (ag : Bool) (ks : List Nat) (z : AVal) (ok : Bool) (x k : Opd)
  | cpy (esz : Nat) (x y : Opd)
  | call (f : FuncId) (args : List Opd)
  | callv (x : Opd) (args : List Opd)
  deriving Inhabited

/-! ### What operations make -/
def AVal.cells : AVal → List AVal
  | .ag l => l
  | v => [v]
def AVal.tup : AVal → Bool
  | .tu _ => true
  | _ => false

def putCells : List AVal → Nat → List AVal → List AVal
  | cs, _, [] => cs
  | cs, off, v :: l => putCells (cs.set off v) (off + 1) l

/-- A part of the wrong size: none. -/
def fillA : List AVal → List (Nat × Nat × AVal) → Option (List AVal)
  | cs, [] => some cs
  | cs, (off, size, v) :: l => if v.tup = false ∧ v.cells.length = size ∧ off + size ≤ cs.length then fillA (putCells cs off v.cells) l else none

def evalParts (e : Env) : List (Nat × Nat × Opd) → Option (List (Nat × Nat × AVal))
  | [] => some []
  | (o, n, x) :: l =>
    match x.eval e with
    | some v =>
      match evalParts e l with
      | some vs => some ((o, n, v) :: vs)
      | none => none
    | none => none

def repCells (z : List AVal) : Nat → List AVal
  | 0 => []
  | n + 1 => z ++ repCells z n

/-- 64 bits, with a sign; the others as the machine has them. -/
def wrapI (k : IntKind) (n : Int) : Int :=
  match k with
  | .i64 =>
    if -9223372036854775808 ≤ n ∧ n ≤ 9223372036854775807 then n else
    let m := n % 18446744073709551616
    if m ≥ 9223372036854775808 then m - 18446744073709551616 else m
  | .u64 => n % 18446744073709551616
  | .u8 => n % 256
  | k => k.wrap n

def binI (op : BinOp) (k : IntKind) (a b : Int) : Option AVal :=
  match op with
  | .add => some (.i k (wrapI k (a + b)))
  | .sub => some (.i k (wrapI k (a - b)))
  | .mul => some (.i k (wrapI k (a * b)))
  | .quo => if b = 0 then none else some (.i k (wrapI k (a.tdiv b)))
  | .rem => if b = 0 then none else some (.i k (a.tmod b))
  | .eql => some (.b (a == b))
  | .neq => some (.b (a != b))
  | .lss => some (.b (decide (a < b)))
  | .leq => some (.b (decide (a ≤ b)))
  | .gtr => some (.b (decide (a > b)))
  | .geq => some (.b (decide (a ≥ b)))
  | .and => some (.i k (k.wrap (BitVec.ofInt k.bits a &&& BitVec.ofInt k.bits b).toNat))
  | .or => some (.i k (k.wrap (BitVec.ofInt k.bits a ||| BitVec.ofInt k.bits b).toNat))
  | .xor => some (.i k (k.wrap (BitVec.ofInt k.bits a ^^^ BitVec.ofInt k.bits b).toNat))
  | .andNot => some (.i k (k.wrap (BitVec.ofInt k.bits a &&& ~~~BitVec.ofInt k.bits b).toNat))
  | _ => none

def ltB : List UInt8 → List UInt8 → Bool
  | _, [] => false
  | [], _ :: _ => true
  | a :: x, b :: y => decide (a < b) || (a == b && ltB x y)

def binS (op : BinOp) (a b : List UInt8) : Option AVal :=
  match op with
  | .add => if (a.length + b.length : Nat) ≤ 9223372036854775807 then some (.s (a ++ b)) else none
  | .eql => some (.b (a == b))
  | .neq => some (.b (!(a == b)))
  | .lss => some (.b (ltB a b))
  | .leq => some (.b (ltB a b || a == b))
  | .gtr => some (.b (!(ltB a b || a == b)))
  | .geq => some (.b (!ltB a b))
  | _ => none

def binV (op : BinOp) : AVal → AVal → Option AVal
  | .i k a, .i k' b =>
    match op with
    | .shl => if b < 0 then none else some (.i k (k.wrap (a * 2 ^ (min b.toNat k.bits))))
    | .shr => if b < 0 then none else some (.i k (a.fdiv (2 ^ (min b.toNat k.bits))))
    | op => if k = k' then binI op k a b else none
  | .s a, .s b => binS op a b
  | _, _ => none

/-- Is it a nil of that kind: 0: a slice, 1: a pointer, 2: a map, 3: a function. -/
def nilV : Nat → AVal → Option Bool
  | 0, .ns => some true
  | 0, .es _ => some false
  | 0, .sl .. => some false
  | 0, .fs _ _ len _ => if len = 0 then none else some false
  | 1, .fp _ => some false
  | 1, .np => some true
  | 1, .p .. => some false
  | 2, .nm => some true
  | 2, .m .. => some false
  | 3, .nf => some true
  | 3, .fn .. => some false
  | _, _ => none

/-- Are they the same? Two that are both no nil: not told. -/
def eqNilV (k : Nat) (a b : AVal) : Option Bool :=
  match nilV k a, nilV k b with
  | some true, some y => some y
  | some false, some true => some false
  | _, _ => none

/-- Plain cells: 0: a bool, 1: an int, 2: a text. -/
def eqCells : List Nat → List AVal → List AVal → Option Bool
  | [], [], [] => some true
  | 0 :: ks, .b a :: x, .b b :: y => (eqCells ks x y).map ((a == b) && ·)
  | 1 :: ks, .i k a :: x, .i k' b :: y => if k = k' then (eqCells ks x y).map ((a == b) && ·) else none
  | 2 :: ks, .s a :: x, .s b :: y => (eqCells ks x y).map ((a == b) && ·)
  | _, _, _ => none

def unV (op : UnOp) : AVal → Option AVal
  | .i k n => match op with
    | .neg => some (.i k (wrapI k (0 - n)))
    | .xor => some (.i k (k.wrap (BitVec.ofInt k.bits (if k.signed then -1 else k.max) ^^^ BitVec.ofInt k.bits n).toNat))
    | _ => none
  | .b v => match op with
    | .not => some (.b (!v))
    | _ => none
  | _ => none

/-- Cells of a row. -/
noncomputable def rowAt (H : AHeap) (id off n : Nat) : Option (List AVal) :=
  match H.get id with
  | some (.cells c _ _) => if off + n ≤ c.length then some ((c.drop off).take n) else none
  | _ => none

noncomputable def loadV (H : AHeap) (n : Option Nat) : AVal → Option AVal
  | .p id off =>
    match n with
    | none => match H.get id with
      | some (.cells c _ _) => c[off]?
      | _ => none
    | some n => (rowAt H id off n).map .ag
  | .fp l =>
    match n with
    | none => l[0]?
    | some n => if 0 < n ∧ n ≤ l.length then some (.ag (l.take n)) else none
  | _ => none

noncomputable def storeV (lo : Nat) (H : AHeap) (n : Nat) (a v : AVal) : Option AHeap :=
  match a with
  | .p id off =>
    if lo ≤ id then
      match H.get id with
      | some (.cells c esz ro) => if ro = false ∧ v.tup = false ∧ v.cells.length = n ∧ off + n ≤ c.length then some (H.put id (some (.cells (putCells c off v.cells) esz ro))) else none
      | _ => none
    else none
  | _ => none

def partV (n : Option Nat) (off : Nat) : AVal → Option AVal
  | .ag l => match n with
    | none => l[off]?
    | some n => if off + n ≤ l.length then some (.ag ((l.drop off).take n)) else none
  | _ => none

def offV (k : Nat) : AVal → Option AVal
  | .p id off => some (.p id (off + k))
  | .fp l => some (.fp (l.drop k))
  | _ => none

def iaddrV (esz : Nat) : AVal → AVal → Option AVal
  | .sl id off len _, .i _ n => if 0 ≤ n ∧ n < len then some (.p id (off + n.toNat * esz)) else none
  | .fs _ _ len l, .i _ n => if 0 ≤ n ∧ n < len then some (.fp (l.drop (n.toNat * esz))) else none
  | _, _ => none
def iaddrAV (esz len : Nat) : AVal → AVal → Option AVal
  | .p id off, .i _ n => if 0 ≤ n ∧ n < len then some (.p id (off + n.toNat * esz)) else none
  | .fp l, .i _ n => if 0 ≤ n ∧ n < len then some (.fp (l.drop (n.toNat * esz))) else none
  | _, _ => none
def idxSV : AVal → AVal → Option AVal
  | .s v, .i _ n => if 0 ≤ n then (v[n.toNat]?).map (fun b => .i .u8 b.toNat) else none
  | _, _ => none
def idxAV (n : Option Nat) (esz len : Nat) (x : AVal) : AVal → Option AVal
  | .i _ j => if 0 ≤ j ∧ j < len then partV n (j.toNat * esz) x else none
  | _ => none

def extV (k : Nat) : AVal → Option AVal
  | .tu l => l[k]?
  | _ => none

/-- 0: a slice's, 1: a text's, 2: a map's. -/
noncomputable def lenV (H : AHeap) : Nat → AVal → Option Nat
  | 0, .ns => some 0
  | 0, .es _ => some 0
  | 0, .sl _ _ len _ => some len
  | 0, .fs _ _ len _ => some len
  | 1, .s v => some v.length
  | 2, .nm => some 0
  | 2, .m id => match H.get id with
    | some (.map es) => some es.length
    | _ => none
  | _, _ => none

def optI (e : Env) : Option Opd → Option (Option Nat)
  | none => some none
  | some x => match x.eval e with
    | some (.i _ n) => if 0 ≤ n then some (some n.toNat) else none
    | _ => none

def slSV (v : List UInt8) (lo hi : Option Nat) : Option AVal :=
  let h := hi.getD v.length
  let l := lo.getD 0
  if h ≤ v.length ∧ l ≤ h then some (.s ((v.take h).drop l)) else none

/-- A slice of a slice. Where the place of an empty one can't be told it gets a name of its own. -/
noncomputable def slV (esz : Nat) (H : AHeap) (x : AVal) (lo hi mx : Option Nat) : Option (AVal × AHeap) :=
  let l := lo.getD 0
  match x with
  | .ns => if l = 0 ∧ hi.getD 0 = 0 ∧ mx.getD 0 = 0 ∧ (mx.isSome → hi.isSome) then some (.ns, H) else none
  | .es a => if l = 0 ∧ hi.getD 0 = 0 ∧ mx.getD 0 = 0 ∧ (mx.isSome → hi.isSome) then some (.es a, H) else none
  | .sl id off len (some c) =>
    let m := mx.getD c
    let h := hi.getD len
    if m ≤ c ∧ h ≤ m ∧ l ≤ h ∧ (mx.isSome → hi.isSome) then some (.sl id (if m = l then off else off + l * esz) (h - l) (some (m - l)), H) else none
  | .sl id off len none =>
    let h := hi.getD len
    match mx with
    | some m => if m ≤ len ∧ h ≤ m ∧ l ≤ h ∧ hi.isSome then some (.sl id (if m = l then off else off + l * esz) (h - l) (some (m - l)), H) else none
    | none =>
      if h ≤ len ∧ l ≤ h then
        if l = 0 then some (.sl id off h none, H)
        else if l < h then
          match H.get id with
          | some (.cells _ esz' _) => if esz' = esz then some (.sl id (off + l * esz) (h - l) none, H) else none
          | _ => none
        else some (.sl H.next 0 0 none, { H with next := H.next + 1, tbl := H.tbl.put none (H.next + 1) H.next })
      else none
  | .fs tmp full len cs =>
    let h := hi.getD len
    if cs.length = len * esz then
      match mx with
      | some m => if m ≤ len ∧ h ≤ m ∧ l ≤ h ∧ hi.isSome then some (.fs tmp (decide (m = h)) (h - l) ((cs.drop (l * esz)).take ((h - l) * esz)), H) else none
      | none => if h ≤ len ∧ l ≤ h then some (.fs tmp (full && decide (h = len)) (h - l) ((cs.drop (l * esz)).take ((h - l) * esz)), H) else none
    else none
  | _ => none

/-- What is appended: how many, and the cells. -/
noncomputable def moreV (H : AHeap) (esz : Nat) : AVal → Option (Nat × List AVal)
  | .ns => some (0, [])
  | .es _ => some (0, [])
  | .sl id off len _ => if len = 0 then some (0, []) else (rowAt H id off (len * esz)).map (len, ·)
  | .s v => some (v.length, v.map (fun b => .i .u8 b.toNat))
  | .fs _ _ len l => if len = 0 then some (0, []) else if l.length = len * esz then some (len, l) else none
  | _ => none

/-- append. Where the capacity isn't known the row gets a new name, and the old one is gone. -/
noncomputable def appV (lo : Nat) (H : AHeap) (esz bytes : Nat) (x y : AVal) : Option (AVal × AHeap) :=
  match moreV H esz y with
  | none => none
  | some (n, ys) =>
    if ys.length = n * esz ∧ 0 < esz ∧ 0 < bytes then
      match x with
      | .ns =>
        if n = 0 then some (.ns, H)
        else if (2 * n + 192) * bytes ≤ 281474976710656 then some (.sl H.next 0 n none, H.push (.cells ys esz false)) else none
      | .es a =>
        if n = 0 then some (.es a, H)
        else if (2 * n + 192) * bytes ≤ 281474976710656 then some (.sl H.next 0 n none, H.push (.cells ys esz false)) else none
      | .sl id off len cap =>
        if n = 0 then (match cap with | some c => if len ≤ c then some (x, H) else none | none => some (x, H)) else
        match cap with
        | some c =>
          if len + n ≤ c then
            if lo ≤ id then
              match H.get id with
              | some (.cells cs esz' ro) => if ro = false ∧ off + (len + n) * esz ≤ cs.length then some (.sl id off (len + n) (some c), H.put id (some (.cells (putCells cs (off + len * esz) ys) esz' ro))) else none
              | _ => none
            else none
          else if (2 * (len + n) + 192) * bytes ≤ 281474976710656 then
            if len = 0 then some (.sl H.next 0 n none, H.push (.cells ys esz false)) else
            match rowAt H id off (len * esz) with
            | some xs => some (.sl H.next 0 (len + n) none, H.push (.cells (xs ++ ys) esz false))
            | none => none
          else none
        | none =>
          if lo ≤ id ∧ (2 * (len + n) + 192) * bytes ≤ 281474976710656 then
            match H.get id with
            | some (.cells cs esz' ro) =>
              if ro = false ∧ esz' = esz ∧ off + len * esz ≤ cs.length then some (.sl H.next 0 (len + n) none, (H.put id none).push (.cells ((cs.drop off).take (len * esz) ++ ys) esz false)) else none
            | _ => none
          else none
      | .fs _ full len l =>
        if n = 0 then some (x, H)
        else if full = true ∧ l.length = len * esz ∧ (2 * (len + n) + 192) * bytes ≤ 281474976710656 then some (.sl H.next 0 (len + n) none, H.push (.cells (l ++ ys) esz false))
        else none
      | _ => none
    else none

/-! ### Maps -/
/-- A key's cells: is it an aggregate? -/
def keyC (ag : Bool) : AVal → Option (List AVal)
  | .ag l => if ag then some l else none
  | .tu _ => none
  | v => if ag then none else some [v]

def findA (ag : Bool) (ks : List Nat) (k : List AVal) : List (AVal × AVal) → Nat → Option (Option (Nat × AVal))
  | [], _ => some none
  | (k', v) :: es, i => match keyC ag k' with
    | some c => match eqCells ks k c with
      | some true => some (some (i, v))
      | some false => findA ag ks k es (i + 1)
      | none => none
    | none => none

noncomputable def mapEs (H : AHeap) : AVal → Option (List (AVal × AVal))
  | .nm => some []
  | .m id => match H.get id with
    | some (.map es) => some es
    | _ => none
  | _ => none

/-- What is looked up; 'z': what there is where nothing is. -/
noncomputable def lookV (H : AHeap) (ag : Bool) (ks : List Nat) (z : AVal) (okf : Bool) (m k : AVal) : Option AVal :=
  match mapEs H m with
  | some es => match keyC ag k with
    | some kc => if eqCells ks kc kc = some true then match findA ag ks kc es 0 with
        | some (some (_, v)) => some (if okf then .tu [v, .b true] else v)
        | some none => some (if okf then .tu [z, .b false] else z)
        | none => none
      else none
    | none => none
  | none => none

noncomputable def mapupV (lo : Nat) (H : AHeap) (ag : Bool) (ks : List Nat) (k v : AVal) : AVal → Option AHeap
  | .m id =>
    if lo ≤ id ∧ v.tup = false then
      match H.get id with
      | some (.map es) => match keyC ag k with
        | some kc => if eqCells ks kc kc = some true then match findA ag ks kc es 0 with
            | some (some (i, _)) => some (H.put id (some (.map (es.set i (k, v)))))
            | some none => some (H.put id (some (.map (es ++ [(k, v)]))))
            | none => none
          else none
        | none => none
      | _ => none
    else none
  | _ => none

/-! ### copy -/
def srcLen : AVal → Option Nat
  | .ns => some 0
  | .es _ => some 0
  | .sl _ _ len _ => some len
  | .s v => some v.length
  | .fs _ _ len _ => some len
  | _ => none

/-- The first so many elements' cells. -/
noncomputable def srcCells (H : AHeap) (esz n : Nat) : AVal → Option (List AVal)
  | .sl id off _ _ => rowAt H id off (n * esz)
  | .s v => some ((v.take n).map (fun b => .i .u8 b.toNat))
  | .fs _ _ len l => if l.length = len * esz then some (l.take (n * esz)) else none
  | _ => none

noncomputable def cpyV (lo : Nat) (H : AHeap) (esz : Nat) (x y : AVal) : Option (AVal × AHeap) :=
  match srcLen y with
  | none => none
  | some m => match x with
    | .ns => some (.i .i64 0, H)
    | .es _ => some (.i .i64 0, H)
    | .sl id off len _ =>
      let n := min m len
      if n = 0 then some (.i .i64 0, H) else
      match srcCells H esz n y with
      | none => none
      | some ys =>
        if lo ≤ id then
          match H.get id with
          | some (.cells cs esz' ro) => if ro = false ∧ ys.length = n * esz ∧ off + n * esz ≤ cs.length then some (.i .i64 n, H.put id (some (.cells (putCells cs off ys) esz' ro))) else none
          | _ => none
        else none
    | _ => none

def isFs : AVal → Bool
  | .fs _ _ _ _ => true
  | _ => false
def isFs0 : AVal → Bool
  | .fs _ _ 0 _ => true
  | _ => false

def mmV (mx : Bool) : AVal → List AVal → Option AVal
  | x, [] => some x
  | .i k a, .i k' b :: l => if k = k' then mmV mx (.i k (if (if mx then decide (b > a) else decide (b < a)) then b else a)) l else none
  | _, _ => none

/-- What an operation that is no call makes; none inside: nothing. -/
noncomputable def aop (lo : Nat) (o : IOp) (e : Env) (H : AHeap) : Option (Option AVal × AHeap) :=
  let pure (v : Option AVal) : Option (Option AVal × AHeap) := v.map fun v => (some v, H)
  match o with
  | .mov x => pure (x.eval e)
  | .pick c a b => match c.eval e with
    | some (.b true) => pure (a.eval e)
    | some (.b false) => pure (b.eval e)
    | _ => none
  | .bin op x y => match x.eval e, y.eval e with
    | some a, some b => pure (binV op a b)
    | _, _ => none
  | .eqB neg x y => match x.eval e, y.eval e with
    | some (.b a), some (.b b) => pure (some (.b (if neg then !(a == b) else a == b)))
    | _, _ => none
  | .eqNil k neg x y => match x.eval e, y.eval e with
    | some a, some b => pure ((eqNilV k a b).map fun r => .b (if neg then !r else r))
    | _, _ => none
  | .eqAg ks neg x y => match x.eval e, y.eval e with
    | some (.ag a), some (.ag b) => pure ((eqCells ks a b).map fun r => .b (if neg then !r else r))
    | _, _ => none
  | .un op x => pure ((x.eval e).bind (unV op))
  | .conv k x => match x.eval e with
    | some (.i _ n) => pure (some (.i k (wrapI k n)))
    | _ => none
  | .same x => match x.eval e with
    | some (.s v) => pure (some (.s v))
    | _ => none
  | .alloc z => some (some (.p H.next 0), H.push (.cells z 1 false))
  | .box x => match x.eval e with
    | some v => if v.tup = false then some (some (.p H.next 0), H.push (.cells v.cells 1 false)) else none
    | none => none
  | .build z parts => match evalParts e parts with
    | some ps => pure ((fillA z ps).map .ag)
    | none => none
  | .bsl esz len z parts => match evalParts e parts with
    | some ps => match fillA z ps with
      | some cs => some (some (.sl H.next 0 len (some len)), H.push (.cells cs esz false))
      | none => none
    | none => none
  | .load n x => pure ((x.eval e).bind (loadV H n))
  | .store n x v => match x.eval e, v.eval e with
    | some a, some v => (storeV lo H n a v).map fun H' => (none, H')
    | _, _ => none
  | .nck x => match x.eval e with
    | some (.p id off) => pure (some (.p id off))
    | some (.fn (.func f) a c) => pure (some (.fn (.func f) a c))
    | some (.ifc t v) => pure (some (.ifc t v))
    | some (.fp l) => pure (some (.fp l))
    | _ => none
  | .off x k => pure ((x.eval e).bind (offV k))
  | .part n x off => pure ((x.eval e).bind (partV n off))
  | .iaddr esz x i => match x.eval e, i.eval e with
    | some a, some b => pure (iaddrV esz a b)
    | _, _ => none
  | .iaddrA esz len x i => match x.eval e, i.eval e with
    | some a, some b => pure (iaddrAV esz len a b)
    | _, _ => none
  | .idxS x i => match x.eval e, i.eval e with
    | some a, some b => pure (idxSV a b)
    | _, _ => none
  | .idxA n esz len x i => match x.eval e, i.eval e with
    | some a, some b => pure (idxAV n esz len a b)
    | _, _ => none
  | .ext x k => pure ((x.eval e).bind (extV k))
  | .mkf f fst cap => match evals e fst, evals e cap with
    | some a, some c => pure (some (.fn (.func f) a c))
    | _, _ => none
  | .mksl esz bytes z l c => match l.eval e, c.eval e with
    | some (.i _ n), some (.i _ m) =>
      if 0 ≤ n ∧ n ≤ m ∧ bytes * m ≤ 281474976710656 ∧ 0 < bytes then some (some (.sl H.next 0 n.toNat (some m.toNat)), H.push (.cells (repCells z m.toNat) esz false)) else none
    | _, _ => none
  | .slS x lo hi => match x.eval e, optI e lo, optI e hi with
    | some (.s v), some l, some h => pure (slSV v l h)
    | _, _, _ => none
  | .sl esz x lo hi mx => match x.eval e, optI e lo, optI e hi, optI e mx with
    | some v, some l, some h, some m => (slV esz H v l h m).map fun (v, H') => (some v, H')
    | _, _, _, _ => none
  | .slq esz x lo hi mx => match x.eval e, optI e lo, optI e hi, optI e mx with
    | some v, some l, some h, some m => match slV esz H v l h m with
      | some (v', H') => if H'.next = H.next ∧ (isFs v = true → m.isSome ∨ l.getD 0 = 0 ∨ isFs0 v' = false) then some (some v', H) else none
      | none => none
    | _, _, _, _ => none
  | .lenk k x => pure (((x.eval e).bind (lenV H k)).map fun (m : Nat) => AVal.i .i64 (m : Int))
  | .app esz bytes x y => match x.eval e, y.eval e with
    | some a, some b => (appV lo H esz bytes a b).map fun (v, H') => (some v, H')
    | _, _ => none
  | .mm mx x l => match x.eval e, evals e l with
    | some a, some l => pure (mmV mx a l)
    | _, _ => none
  | .iface t x => pure ((x.eval e).map (.ifc t))
  | .s2b x => match x.eval e with
    | some (.s v) => some (some (.sl H.next 0 v.length none), H.push (.cells (v.map fun b => .i .u8 b.toNat) 1 false))
    | _ => none
  | .bad => none
  | .mkmap => some (some (.m H.next), H.push (.map []))
  | .mapup ag ks x k v => match x.eval e, k.eval e, v.eval e with
    | some m, some k, some v => (mapupV lo H ag ks k v m).map fun H' => (none, H')
    | _, _, _ => none
  | .look ag ks z okf x k => match x.eval e, k.eval e with
    | some m, some k => pure (lookV H ag ks z okf m k)
    | _, _ => none
  | .cpy esz x y => match x.eval e, y.eval e with
    | some a, some b => (cpyV lo H esz a b).map fun (v, H') => (some v, H')
    | _, _ => none
  | .call _ _ => none
  | .callv _ _ => none

end Go.RI
