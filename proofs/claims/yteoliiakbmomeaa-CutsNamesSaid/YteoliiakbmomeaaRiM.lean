/- RI, part M: the machine's operations turned, all that are no call; one theorem for all of them. Conditions: none. -/
import Derived.Test.YteoliiakbmomeaaRiCpy
namespace Go.RI
open Go

def trBin (P : Program) (op : BinOp) (t : TypeId) (x y : Opd) : Option IOp :=
  match op with
  | .eql | .neq =>
    match P.underlying t with
    | some .bool => some (.eqB (op == .neq) x y)
    | some (.int _) => some (.bin op x y)
    | some .string => some (.bin op x y)
    | some (.slice _) => some (.eqNil 0 (op == .neq) x y)
    | some (.pointer _) => some (.eqNil 1 (op == .neq) x y)
    | some (.map _ _) => some (.eqNil 2 (op == .neq) x y)
    | some (.func _ _ _) => some (.eqNil 3 (op == .neq) x y)
    | some (.struct fs) => if P.stoodInHeld t = false ∧ P.eqGuardType P.depth t = false then (flatF P fs.toList 0).map fun ks => .eqAg ks (op == .neq) x y else none
    | some (.array _ _) => if P.eqGuardType P.depth t = false then match keyKs P t with
        | some (true, ks) => some (.eqAg ks (op == .neq) x y)
        | _ => none
      else none
    | _ => none
  | _ => some (.bin op x y)

def aggSz (d : TypeDesc) (i : TypeInfo) : Option Nat := if isAggD d then some i.size else none

def strSl : TypeDesc → Bool
  | .string | .slice _ => true
  | _ => false

/-- A call of a built-in function. -/
def trBi (P : Program) (c : Call) : Option IOp :=
  match c with
  | { callee := .builtin .len, args := ⟨[x]⟩, argTypes := ⟨[t]⟩ } => match P.underlying t, trOpd P x with
    | some (.slice _), some x => some (.lenk 0 x)
    | some .string, some x => some (.lenk 1 x)
    | some (.map _ _), some x => some (.lenk 2 x)
    | _, _ => none
  | { callee := .builtin .append, args := ⟨[x, y]⟩, argTypes := ⟨[t, t2]⟩ } => match P.underlying t, P.underlying t2 with
    | some (.slice el), some d2 => match P.info? el, zeroC P el, trOpd P x, trOpd P y with
      | some i, some z, some x, some y => if z.length = i.size ∧ strSl d2 = true then some (.app i.size i.bytes x y) else none
      | _, _, _, _ => none
    | _, _ => none
  | { callee := .builtin .copy, args := ⟨[x, y]⟩, argTypes := ⟨[t, _]⟩ } => match P.underlying t with
    | some (.slice el) => match P.info? el, trOpd P x, trOpd P y with
      | some i, some x, some y => some (.cpy i.size x y)
      | _, _, _ => none
    | _ => none
  | { callee := .builtin .max, args := ⟨x :: l⟩, argTypes := _ } => match trOpd P x, trOpds P l with
    | some x, some l => some (.mm true x l)
    | _, _ => none
  | { callee := .builtin .min, args := ⟨x :: l⟩, argTypes := _ } => match trOpd P x, trOpds P l with
    | some x, some l => some (.mm false x l)
    | _, _ => none
  | _ => none

/-- An operation that is no call, turned. -/
def trOp (P : Program) (o : Oper) : Option IOp :=
  match o.op with
  | .move x => (trOpd P x).map .mov
  | .assign x => (trOpd P x).map .mov
  | .pick c a b => match trOpd P c, trOpd P a, trOpd P b with
    | some c, some a, some b => some (.pick c a b)
    | _, _, _ => none
  | .alloc t => (zeroC P t).map .alloc
  | .box _ x => (trOpd P x).map .box
  | .build t parts => match placeOf P t, zeroC P t with
    | some pl, some z => (trParts P pl parts.toList).map (.build z)
    | _, _ => none
  | .buildSlice t len parts => match P.underlying t with
    | some (.slice el) => match P.info? el, zeroC P el with
      | some i, some z => if z.length = i.size ∧ len * i.size ≤ 16777216 then (trParts P (fun j => some (j * i.size, i.size)) parts.toList).map (.bsl i.size len (repCells z len)) else none
      | _, _ => none
    | _ => none
  | .load t x => match P.underlying t, P.info? t, trOpd P x with
    | some d, some i, some x => some (.load (aggSz d i) x)
    | _, _, _ => none
  | .store t x v => match P.info? t, trOpd P x, trOpd P v with
    | some i, some x, some v => some (.store i.size x v)
    | _, _, _ => none
  | .nilCheck x => (trOpd P x).map .nck
  | .binOp op t x y _ => match trOpd P x, trOpd P y with
    | some x, some y => trBin P op t x y
    | _, _ => none
  | .unOp op _ x => (trOpd P x).map (.un op)
  | .convert s t x => match P.underlying s, P.underlying t, trOpd P x with
    | some (.int _), some (.int k), some x => some (.conv k x)
    | some .string, some .string, some x => some (.same x)
    | some .string, some (.slice el), some x => match P.underlying el with
      | some (.int .u8) => some (.s2b x)
      | _ => none
    | _, _, _ => none
  | .makeInterface t x => match P.underlying t with
    | some (.interface _) => none
    | some _ => (trOpd P x).map (.iface t)
    | none => none
  | .makeFunc (.func f) fst cap => match trOpds P fst.toList, trOpds P cap.toList with
    | some a, some b => some (.mkf f a b)
    | _, _ => none
  | .makeSlice t l c => match P.underlying t with
    | some (.slice el) => match P.info? el, zeroC P el, trOpd P l, trOpd P c with
      | some i, some z, some l, some c => if z.length = i.size then some (.mksl i.size i.bytes z l c) else none
      | _, _, _, _ => none
    | _ => none
  | .slice t x lo hi mx => match P.underlying t with
    | some .string => match mx, trOpd P x, trOpt P lo, trOpt P hi with
      | none, some x, some lo, some hi => some (.slS x lo hi)
      | _, _, _, _ => none
    | some (.slice el) => match P.info? el, trOpd P x, trOpt P lo, trOpt P hi, trOpt P mx with
      | some i, some x, some lo, some hi, some mx => some (.sl i.size x lo hi mx)
      | _, _, _, _, _ => none
    | _ => none
  | .fieldAddr s x j => match P.underlying s with
    | some (.struct fs) => match fs[j]? with
      | some f => match P.info? f.type, trOpd P x with
        | some i, some x => if i.size ≠ 0 then some (.off x f.offset) else none
        | _, _ => none
      | none => none
    | _ => none
  | .field s x j => match P.underlying s with
    | some (.struct fs) => match fs[j]? with
      | some f => match P.underlying f.type, P.info? f.type, trOpd P x with
        | some d, some i, some x => some (.part (aggSz d i) x f.offset)
        | _, _, _ => none
      | none => none
    | _ => none
  | .indexAddr t x y => match P.underlying t with
    | some (.slice el) => match P.info? el, trOpd P x, trOpd P y with
      | some i, some x, some y => some (.iaddr i.size x y)
      | _, _, _ => none
    | some (.array len el) => match P.info? el, trOpd P x, trOpd P y with
      | some i, some x, some y => some (.iaddrA i.size len x y)
      | _, _, _ => none
    | _ => none
  | .index t x y => match P.underlying t with
    | some .string => match trOpd P x, trOpd P y with
      | some x, some y => some (.idxS x y)
      | _, _ => none
    | some (.array len el) => match P.underlying el, P.info? el, trOpd P x, trOpd P y with
      | some d, some i, some x, some y => some (.idxA (aggSz d i) i.size len x y)
      | _, _, _, _ => none
    | _ => none
  | .extract x k => (trOpd P x).map (.ext · k)
  | .makeMap _ none => some .mkmap
  | .mapUpdate t x y z => match P.underlying t with
    | some (.map kt _) => match keyKs P kt, trOpd P x, trOpd P y, trOpd P z with
      | some (ag, ks), some x, some y, some z => some (.mapup ag ks x y z)
      | _, _, _, _ => none
    | _ => none
  | .insert t x y z => match P.underlying t with
    | some (.map kt _) => match keyKs P kt, trOpd P x, trOpd P y, trOpd P z with
      | some (ag, ks), some x, some y, some z => some (.mapup ag ks x y z)
      | _, _, _, _ => none
    | _ => none
  | .lookup t x y okf => match P.underlying t with
    | some (.map kt el) => match keyKs P kt, zeroV P el, trOpd P x, trOpd P y with
      | some (ag, ks), some z, some x, some y => some (.look ag ks z okf x y)
      | _, _, _, _ => none
    | _ => none
  | .call c => trBi P c
  | _ => none

end Go.RI
