import Derived.Test.YtfhpkckjkofaoaaDoorM06
import Derived.Test.YtfhpkckjkofaoaaDoorM07
set_option linter.unusedVariables false
set_option linter.unusedSimpArgs false
set_option linter.unusedSectionVars false
/- Values, operands, steps, pieces as plain data, and their cells. Conditions: none. -/
namespace Go.RI
open Go
abbrev Str:=List UInt8
inductive Val where
 | mk (kind n:Int) (s:Str) (l:List Val) (names:List Str)
 deriving Inhabited
namespace Val
def kind:Val→Int|mk k _ _ _ _=>k
def n:Val→Int|mk _ n _ _ _=>n
def s:Val→Str|mk _ _ s _ _=>s
def l:Val→List Val|mk _ _ _ l _=>l
def names:Val→List Str|mk _ _ _ _ ns=>ns
@[simp] theorem kind_mk{k n s l ns}:(mk k n s l ns).kind=k:=rfl
@[simp] theorem n_mk{k n s l ns}:(mk k n s l ns).n=n:=rfl
@[simp] theorem s_mk{k n s l ns}:(mk k n s l ns).s=s:=rfl
@[simp] theorem l_mk{k n s l ns}:(mk k n s l ns).l=l:=rfl
@[simp] theorem names_mk{k n s l ns}:(mk k n s l ns).names=ns:=rfl
theorem eta(v:Val):mk v.kind v.n v.s v.l v.names=v:=by cases v;rfl
end Val
class Enc (α:Type) where
 sz:Nat
 cells:α→List AVal
 len:∀ a,(cells a).length=sz
open Enc
def encs{α:Type}[Enc α](l:List α):List AVal:=l.flatMap cells
@[simp] theorem encs_nil{α:Type}[Enc α]:encs ([]:List α)=[]:=rfl
@[simp] theorem encs_cons{α:Type}[Enc α]{a:α}{l:List α}:encs (a::l)=cells a++encs l:=by simp[encs]
@[simp] theorem encs_append{α:Type}[Enc α]{l m:List α}:encs (l++m)=encs l++encs m:=by simp[encs]
theorem encs_len{α:Type}[Enc α](l:List α):(encs l).length=l.length*sz α:=by
 induction l with
 | nil=>simp
 | cons a l ih=>simp[ih,len,Nat.succ_mul,Nat.add_comm]
def cellsO{α:Type}[Enc α]:Option α→List AVal
 | some a=>cells a
 | none=>[]
@[simp] theorem cellsO_some{α:Type}[Enc α]{a:α}:cellsO (some a)=cells a:=rfl
def restE{α:Type}[Enc α](l:List α)(i:Nat):List AVal:=(encs l).drop (i*sz α)
theorem drop_encs{α:Type}[Enc α](l:List α)(i:Nat):(encs l).drop (i*sz α)=cellsO l[i]?++restE l (i+1):=by
  unfold restE
  induction l generalizing i with
  | nil=>simp[cellsO]
  | cons a l ih =>
    cases i with
    | zero=>simp[len]
    | succ i =>
      have h1:(i+1)*sz α=sz α+i*sz α:=by rw[Nat.succ_mul,Nat.add_comm]
      have h2:(i+1+1)*sz α=sz α+(i+1)*sz α:=by rw[Nat.succ_mul,Nat.add_comm]
      have h3:∀ n,List.drop (sz α+n) (cells a++encs l)=List.drop n (encs l):=fun n=>by
        rw[←List.drop_drop,List.drop_left' (len a)]
      simp only[encs_cons,h1,h2,h3,List.getElem?_cons_succ]
      have:=ih i
      rw[h1] at this
      exact this
theorem get_encs{α:Type}[Enc α]{l:List α}{i k:Nat}(hk:k<sz α):(encs l)[i*sz α+k]?=(cellsO l[i]?)[k]?:=by
 have h:=drop_encs l i
 have h2:((encs l).drop (i*sz α))[k]?=(encs l)[i*sz α+k]?:=List.getElem?_drop
 rw[←h2,h]
 rcases hx:l[i]? with _|x
 ·simp only[cellsO,List.nil_append,restE]
  have:=List.getElem?_eq_none_iff.1 hx
  rw[List.getElem?_eq_none]
  ·rfl
  ·have e:=encs_len l
   have:l.length*sz α≤(i+1)*sz α:=Nat.mul_le_mul_right _ (by omega)
   simp;omega
 ·simp only[cellsO_some]
  rw[List.getElem?_append_left (by rw[len];exact hk)]
theorem set_mid{α:Type}(a b c:List α)(k:Nat)(v:α)(h:k<c.length):(a++(c++b)).set (a.length+k) v=a++(c.set k v++b):=by
 rw[List.set_append_right _ _ (by omega)]
 rw[Nat.add_sub_cancel_left,List.set_append_left _ _ h]
theorem putCells_mid(m:List AVal):∀(a b c:List AVal) (k:Nat),k+m.length≤c.length→putCells (a++(c++b)) (a.length+k) m=a++(putCells c k m++b):=by
  induction m with
  | nil=>intro a b c k _;rfl
  | cons v m ih =>
    intro a b c k h
    simp only[List.length_cons] at h
    rw[putCells_cons,putCells_cons,set_mid _ _ _ _ _ (by omega),Nat.add_assoc,ih _ _ _ _ (by simp;omega)]
theorem encs_split{α:Type}[Enc α]{l:List α}{i:Nat}{x:α}(h:l[i]?=some x):l=l.take i++x::l.drop (i+1):=by
 have hi:i<l.length:=by
  rcases Nat.lt_or_ge i l.length with h1|h1
  ·exact h1
  ·rw[List.getElem?_eq_none h1] at h;cases h
 have:l[i]=x:=by rw[List.getElem?_eq_getElem hi] at h;exact Option.some.inj h
 rw[←this,←List.drop_eq_getElem_cons hi,List.take_append_drop]
theorem put_encs{α:Type}[Enc α]{l:List α}{i k:Nat}{x y:α}(h:l[i]?=some x){m:List AVal}(hm:k+m.length≤sz α)(hy:putCells (cells x) k m=cells y):putCells (encs l) (i*sz α+k) m=encs (l.set i y):=by
 have hi:i<l.length:=by
  rcases Nat.lt_or_ge i l.length with h1|h1
  ·exact h1
  ·rw[List.getElem?_eq_none h1] at h;cases h
 have hl:=encs_split h
 have hs:l.set i y=l.take i++y::l.drop (i+1):=List.set_eq_take_append_cons_drop.trans (by rw[if_pos hi])
 have hlen:(l.take i).length=i:=by simp;omega
 have e0:(encs (l.take i)).length=i*sz α:=by rw[encs_len,hlen]
 have e1:encs l=encs (l.take i)++(cells x++encs (l.drop (i+1))):=by
  have:=congrArg encs hl
  rw[encs_append,encs_cons] at this
  exact this
 rw[e1,←e0,putCells_mid _ _ _ _ _ (by rw[len];exact hm),hy,hs,encs_append,encs_cons]
instance:Enc Str:=⟨1,fun s=>[.s s],fun _=>rfl⟩
instance:Enc Int:=⟨1,fun n=>[.i .i64 n],fun _=>rfl⟩
@[simp] theorem cells_str{s:Str}:cells s=[AVal.s s]:=rfl
@[simp] theorem cells_int{n:Int}:cells n=[AVal.i .i64 n]:=rfl
mutual
def Val.cells:Val→List AVal
 | .mk k n s l ns=>[.i .i64 k,.i .i64 n,.s s,.fs false false l.length (Val.cellsL l),.fs false false ns.length (encs ns)]
def Val.cellsL:List Val→List AVal
 | []=>[]
 | v::l=>v.cells++Val.cellsL l
end
theorem Val.cells_len(v:Val):v.cells.length=5:=by cases v;simp[Val.cells]
instance:Enc Val:=⟨5,Val.cells,Val.cells_len⟩
theorem Val.cellsL_eq:∀ l:List Val,Val.cellsL l=encs l
 | []=>by simp[Val.cellsL]
 | v::l=>by simp only[Val.cellsL,encs_cons,Val.cellsL_eq l];rfl
@[simp] theorem cells_val{v:Val}:cells v=[AVal.i .i64 v.kind,.i .i64 v.n,.s v.s,.fs false false v.l.length (encs v.l),.fs false false v.names.length (encs v.names)]:=by
 cases v;simp[Enc.cells,Val.cells,Val.cellsL_eq]
structure Opn where
 kind:Int
 n:Int
 v:Val
 deriving Inhabited
instance:Enc Opn:=⟨7,fun o=>[.i .i64 o.kind,.i .i64 o.n]++cells o.v,fun o=>by simp⟩
@[simp] theorem cells_opn{o:Opn}:cells o=[AVal.i .i64 o.kind,.i .i64 o.n,.i .i64 o.v.kind,.i .i64 o.v.n,.s o.v.s,.fs false false o.v.l.length (encs o.v.l),.fs false false o.v.names.length (encs o.v.names)]:=by
 show [AVal.i .i64 o.kind,.i .i64 o.n]++cells o.v=_
 simp
structure Stp where
 op:Int
 n:Int
 l:List Opn
 s:Str
 names:List Str
 deriving Inhabited
instance:Enc Stp:=⟨5,fun i=>[.i .i64 i.op,.i .i64 i.n,.fs false false i.l.length (encs i.l),.s i.s,.fs false false i.names.length (encs i.names)],fun _=>rfl⟩
@[simp] theorem cells_stp{i:Stp}:cells i=[AVal.i .i64 i.op,.i .i64 i.n,.fs false false i.l.length (encs i.l),.s i.s,.fs false false i.names.length (encs i.names)]:=rfl
structure Pce where
 func:Int
 at_:Int
 many:Int
 homes:Int
 ins:List Stp
 sets:List Opn
 exit:Int
 to:Int
 cond:Opn
 deep:Int
 deriving Inhabited
instance:Enc Pce:=⟨16,fun x=>[.i .i64 x.func,.i .i64 x.at_,.i .i64 x.many,.i .i64 x.homes,.fs false false x.ins.length (encs x.ins),.fs false false x.sets.length (encs x.sets),.i .i64 x.exit,.i .i64 x.to]++cells x.cond++[.i .i64 x.deep],fun x=>by simp⟩
@[simp] theorem cells_pce{x:Pce}:cells x=[AVal.i .i64 x.func,.i .i64 x.at_,.i .i64 x.many,.i .i64 x.homes,.fs false false x.ins.length (encs x.ins),.fs false false x.sets.length (encs x.sets),.i .i64 x.exit,.i .i64 x.to,.i .i64 x.cond.kind,.i .i64 x.cond.n,.i .i64 x.cond.v.kind,.i .i64 x.cond.v.n,.s x.cond.v.s,.fs false false x.cond.v.l.length (encs x.cond.v.l),.fs false false x.cond.v.names.length (encs x.cond.v.names),.i .i64 x.deep]:=by
 show [AVal.i .i64 x.func,.i .i64 x.at_,.i .i64 x.many,.i .i64 x.homes,.fs false false x.ins.length (encs x.ins),.fs false false x.sets.length (encs x.sets),.i .i64 x.exit,.i .i64 x.to]++cells x.cond++[.i .i64 x.deep]=_
 simp
@[simp] theorem drop_val{l:List Val}{i:Nat}:(encs l).drop (i*5)=cellsO l[i]?++restE l (i+1):=drop_encs l i
@[simp] theorem drop_stp{l:List Stp}{i:Nat}:(encs l).drop (i*5)=cellsO l[i]?++restE l (i+1):=drop_encs l i
@[simp] theorem drop_opn{l:List Opn}{i:Nat}:(encs l).drop (i*7)=cellsO l[i]?++restE l (i+1):=drop_encs l i
@[simp] theorem drop_str{l:List Str}{i:Nat}:(encs l).drop i=cellsO l[i]?++restE l (i+1):=by
 have:=drop_encs l i
 simpa[show sz Str=1 from rfl] using this
@[simp] theorem drop_int{l:List Int}{i:Nat}:(encs l).drop i=cellsO l[i]?++restE l (i+1):=by
 have:=drop_encs l i
 simpa[show sz Int=1 from rfl] using this
class EncOk (α:Type) extends Enc α where
 snap:∀(H:AHeap) (n:Nat) (a:α),mapO (snapV H (n+1)) (cells a)=some (cells a)
 frz:∀(H:AHeap) (g n:Nat) (a:α),mapO (frzV H g (n+1)) (cells a)=some (cells a)
theorem mapO_append{f:AVal→Option AVal}{l m l' m':List AVal}(h:mapO f l=some l')(g:mapO f m=some m'):mapO f (l++m)=some (l'++m'):=by
  induction l generalizing l' with
  | nil=>simp only[mapO_nil,Option.some.injEq] at h;subst h;simpa using g
  | cons a l ih =>
    simp only[mapO] at h
    split at h
    · rename_i u hu
      split at h
      · rename_i us hus
        cases h
        simp only[List.cons_append,mapO,hu,ih hus]
      · cases h
    · cases h
@[simp] theorem snap_encs{α:Type}[EncOk α]{H:AHeap}{n:Nat}{l:List α}:mapO (snapV H (n+1)) (encs l)=some (encs l):=by
 induction l with
 | nil=>simp
 | cons a l ih=>rw[encs_cons];exact mapO_append (EncOk.snap H n a) ih
@[simp] theorem frz_encs{α:Type}[EncOk α]{H:AHeap}{g n:Nat}{l:List α}:mapO (frzV H g (n+1)) (encs l)=some (encs l):=by
 induction l with
 | nil=>simp
 | cons a l ih=>rw[encs_cons];exact mapO_append (EncOk.frz H g n a) ih
instance:EncOk Str:={ snap:=fun _ _ _=>by simp,frz:=fun _ _ _ _=>by simp }
instance:EncOk Int:={ snap:=fun _ _ _=>by simp,frz:=fun _ _ _ _=>by simp }
instance:EncOk Val:={ snap:=fun _ _ _=>by simp,frz:=fun _ _ _ _=>by simp }
instance:EncOk Opn:={ snap:=fun _ _ _=>by simp,frz:=fun _ _ _ _=>by simp }
instance:EncOk Stp:={ snap:=fun _ _ _=>by simp,frz:=fun _ _ _ _=>by simp }
instance:EncOk Pce:={ snap:=fun _ _ _=>by simp,frz:=fun _ _ _ _=>by simp }
def letter(c:UInt8):Bool:=decide (97≤(c.toNat:Int))&&decide ((c.toNat:Int)≤122)
def badc(i:Nat)(c:UInt8):Bool:=!letter c&&(decide (i=0)||(!decide ((c.toNat:Int)=95)&&(decide ((c.toNat:Int)<48)||decide (57<(c.toNat:Int)))))
def namedL:Nat→Str→Bool
 | _,[]=>true
 | i,c::s=>!badc i c&&namedL (i+1) s
def named(s:Str):Bool:=!(s.isEmpty||decide ((16:Int)<s.length))&&namedL 0 s
def leS(a b:Str):Bool:=ltB a b||a==b
@[simp] theorem bin_sleq{a b:Str}:binV .leq (.s a) (.s b)=some (.b (leS a b)):=rfl
@[simp] theorem bin_slss{a b:Str}:binV .lss (.s a) (.s b)=some (.b (ltB a b)):=rfl
@[simp] theorem bin_sgtr{a b:Str}:binV .gtr (.s a) (.s b)=some (.b (!leS a b)):=rfl
@[simp] theorem bin_sgeq{a b:Str}:binV .geq (.s a) (.s b)=some (.b (!ltB a b)):=rfl
def rising:Str→List Str→Bool
 | _,[]=>true
 | last,s::l=>!(leS s last||!named s)&&rising s l
def bareV(text list names:Bool)(v:Val):Bool:=(text||v.s.isEmpty)&&(list||decide (v.l.length=0))&&(names||decide (v.names.length=0))
def clr1(n:Int):Int:=IntKind.i64.wrap ((BitVec.ofInt IntKind.i64.bits n &&& ~~~BitVec.ofInt IntKind.i64.bits 1).toNat:Nat)
@[simp] theorem bin_andNot1{n:Int}:binV .andNot (.i .i64 n) (.i .i64 1)=some (.i .i64 (clr1 n)):=rfl
def ownV(v:Val):Bool :=
 if v.kind=0 then decide (v.n=0)&&bareV false false false v
 else if v.kind=1 then bareV false false false v
 else if v.kind=2 then decide (clr1 v.n=0)&&bareV false false false v
 else if v.kind=6 then decide (1≤v.n)&&decide (v.n≤64)&&bareV false false false v
 else if v.kind=3 then decide (v.n=0)&&decide ((v.s.length:Int)≤64)&&bareV true false false v
 else if v.kind=4 then decide (v.n=0)&&decide ((v.l.length:Int)≤32)&&bareV false true false v
 else if v.kind=5 then decide (v.n=0)&&decide ((v.l.length:Int)=v.names.length)&&decide ((v.l.length:Int)≤8)&&bareV false true true v&&rising [] v.names
 else false
def lens:List Str→Int
 | []=>0
 | s::l=>(s.length:Int)+lens l
def bulkS:List Str→Nat
 | []=>0
 | s::l=>1+s.length+bulkS l
theorem lens_bulk:∀ l:List Str,0≤lens l∧lens l+l.length=bulkS l
 | []=>by simp[lens,bulkS]
 | s::l=>by have:=lens_bulk l;simp only[lens,bulkS,List.length_cons];omega
mutual
def fitsV:Val→Int→Int→Int×Bool
  | .mk k n s l ns,w,left =>
    if 8≤w∨left-(1+s.length)-lens ns<0∨ownV (.mk k n s l ns)=false then(0,false) else fitsL l (w+1) (left-(1+s.length)-lens ns)
def fitsL:List Val→Int→Int→Int×Bool
 | [],_,left=>(left,true)
 | v::l,w,left=>if(fitsV v w left).2 then fitsL l w (fitsV v w left).1 else(0,false)
end
theorem fitsV_eq{v:Val}{w left:Int}:fitsV v w left=if 8≤w∨left-(1+v.s.length)-lens v.names<0∨ownV v=false then(0,false) else fitsL v.l (w+1) (left-(1+v.s.length)-lens v.names):=by cases v;rfl
mutual
theorem fitsV_le:∀(v:Val) (w left:Int),(fitsV v w left).2=true→0≤(fitsV v w left).1∧(fitsV v w left).1≤left
  | .mk k n s l ns,w,left,h=>by
    simp only[fitsV] at h ⊢
    split at h
    · cases h
    · rename_i hc
      rw[if_neg hc]
      have h1:=fitsL_le l (w+1) _ (by omega) h
      have h2:=(lens_bulk ns).1
      omega
theorem fitsL_le:∀(l:List Val) (w left:Int),0≤left→(fitsL l w left).2=true→0≤(fitsL l w left).1∧(fitsL l w left).1≤left
  | [],w,left,h0,h=>by simp only[fitsL];omega
  | v::l,w,left,h0,h=>by
    simp only[fitsL] at h ⊢
    split at h
    · rename_i hc
      rw[if_pos hc]
      have h1:=fitsV_le v w left hc
      have h2:=fitsL_le l w _ h1.1 h
      omega
    · cases h
end
def mayV(v:Val):Bool:=(fitsV v 0 256).2
theorem bulkS_mem:∀ {l:List Str} {s:Str},s∈l→1+s.length≤bulkS l
  | a::l,s,h=>by
    simp only[bulkS]
    rcases List.mem_cons.1 h with rfl|h
    · omega
    · have:=bulkS_mem h;omega
mutual
def Val.bulk:Val→Nat
 | .mk _ _ s l ns=>1+s.length+bulkL l+bulkS ns
def bulkL:List Val→Nat
 | []=>0
 | v::l=>v.bulk+bulkL l
end
theorem Val.bulk_eq(v:Val):v.bulk=1+v.s.length+bulkL v.l+bulkS v.names:=by cases v;simp[Val.bulk]
theorem Val.bulk_pos(v:Val):1≤v.bulk:=by rw[Val.bulk_eq];omega
theorem bulkL_mem:∀ {l:List Val} {v:Val},v∈l→v.bulk≤bulkL l
  | a::l,v,h=>by
    simp only[bulkL]
    rcases List.mem_cons.1 h with rfl|h
    · omega
    · have:=bulkL_mem h;omega
theorem bulkL_len:∀ l:List Val,l.length≤bulkL l
 | []=>by simp[bulkL]
 | v::l=>by have:=bulkL_len l;have:=v.bulk_pos;simp only[bulkL,List.length_cons];omega
theorem bulkS_len(l:List Str):l.length≤bulkS l:=by have:=lens_bulk l;omega
theorem wrap_ok{n:Int}(h1:-9223372036854775808≤n)(h2:n≤9223372036854775807):wrapI .i64 n=n:=by unfold wrapI;rw[if_pos ⟨h1,h2⟩]
inductive Shp where
 | mk (kind:Int) (names:List Str) (l:List Shp)
 deriving Inhabited
namespace Shp
def kind:Shp→Int|mk k _ _=>k
def names:Shp→List Str|mk _ n _=>n
def l:Shp→List Shp|mk _ _ l=>l
@[simp] theorem kind_mk{k n l}:(mk k n l).kind=k:=rfl
@[simp] theorem names_mk{k n l}:(mk k n l).names=n:=rfl
@[simp] theorem l_mk{k n l}:(mk k n l).l=l:=rfl
end Shp
mutual
def Shp.cells:Shp→List AVal
 | .mk k ns l=>[.i .i64 k,.fs false false ns.length (encs ns),.fs false false l.length (Shp.cellsL l)]
def Shp.cellsL:List Shp→List AVal
 | []=>[]
 | v::l=>v.cells++Shp.cellsL l
end
theorem Shp.cells_len(v:Shp):v.cells.length=3:=by cases v;simp[Shp.cells]
instance:Enc Shp:=⟨3,Shp.cells,Shp.cells_len⟩
theorem Shp.cellsL_eq:∀ l:List Shp,Shp.cellsL l=encs l
 | []=>by simp[Shp.cellsL]
 | v::l=>by simp only[Shp.cellsL,encs_cons,Shp.cellsL_eq l];rfl
@[simp] theorem cells_shp{v:Shp}:cells v=[AVal.i .i64 v.kind,.fs false false v.names.length (encs v.names),.fs false false v.l.length (encs v.l)]:=by
 cases v;simp[Enc.cells,Shp.cells,Shp.cellsL_eq]
instance:EncOk Shp:={ snap:=fun _ _ _=>by simp,frz:=fun _ _ _ _=>by simp }
def pre(p s:Str):Bool:=decide ((p.length:Int)≤s.length)&&(s.take p.length==p)
def cutP(s p:Str):Str×Bool:=if pre p s then(s.drop p.length,true) else(s,false)
def idx(s:Str)(c:UInt8):Int:=idxL c s 0
def cutC(s:Str)(c:UInt8):Str×Str×Bool:=if 0≤idx s c then(s.take (idx s c).toNat,s.drop ((idx s c).toNat+1),true) else(s,[],false)
def kindOf(w:Str):Int:=if w==[110,111,110,101] then 0 else if w==[105,110,116] then 1 else if w==[98,111,111,108] then 2 else if w==[116,101,120,116] then 3 else if w==[102,117,116,117,114,101] then 6 else -1
def wordN:Str→Nat
 | []=>0
 | c::s=>if letter c then wordN s+1 else 0
mutual
def readF:Nat→Str→Shp×Str×Bool
  | 0,_=>default
  | f+1,t =>
    if pre [91] t then
      (⟨4,[],[(readF f (t.drop 1)).1]⟩,(cutP (readF f (t.drop 1)).2.1 [93]).1,(readF f (t.drop 1)).2.2&&(cutP (readF f (t.drop 1)).2.1 [93]).2)
    else if pre [123,125] t then(⟨5,[],[]⟩,t.drop 2,true)
    else if pre [123] t then recF f [] [] (t.drop 1)
    else(⟨kindOf (t.take (wordN t)),[],[]⟩,t.drop (wordN t),decide (0≤kindOf (t.take (wordN t))))
def recF:Nat→List Str→List Shp→Str→Shp×Str×Bool
  | 0,_,_,_=>default
  | f+1,ns,l,t =>
    if !(cutC t 58).2.2||!(readF f (cutC t 58).2.1).2.2||(readF f (cutC t 58).2.1).2.1.isEmpty then(⟨0,[],[]⟩,[],false)
    else if(readF f (cutC t 58).2.1).2.1.head?=some 125 then(⟨5,ns++[(cutC t 58).1],l++[(readF f (cutC t 58).2.1).1]⟩,(readF f (cutC t 58).2.1).2.1.drop 1,rising [] (ns++[(cutC t 58).1]))
    else if(readF f (cutC t 58).2.1).2.1.head?=some 44 then recF f (ns++[(cutC t 58).1]) (l++[(readF f (cutC t 58).2.1).1]) ((readF f (cutC t 58).2.1).2.1.drop 1)
    else(⟨0,[],[]⟩,[],false)
end
def typedS(t:Str):Shp×Bool:=if(64:Int)<t.length then(⟨0,[],[]⟩,false) else((readF (t.length+1) t).1,(readF (t.length+1) t).2.2&&(readF (t.length+1) t).2.1.isEmpty)
def fitsS(t:Str):Bool:=(typedS t).2
end Go.RI
namespace Go.RI
open Go
theorem more_lit{H:AHeap}{id n e esz:Nat}{ro:Bool}{cap:Option Nat}{cs:List AVal}(hg:H.get id=some (.cells cs e ro))(hl:cs.length=n*esz)(hn:n≠0):moreV H esz (.sl id 0 n cap)=some (n,cs):=by
 simp only[moreV,if_neg hn,rowAt,hg]
 rw[if_pos (by omega)]
 simp only[List.drop_zero,Option.map_some]
 rw[List.take_of_length_le (by omega)]
@[simp] theorem len_val{l:List Val}:(encs l).length=l.length*5:=encs_len l
@[simp] theorem take_val{l:List Val}:(encs l).take (l.length*5)=encs l:=List.take_of_length_le (by simp)
@[simp] theorem len_stp{l:List Stp}:(encs l).length=l.length*5:=encs_len l
@[simp] theorem take_stp{l:List Stp}:(encs l).take (l.length*5)=encs l:=List.take_of_length_le (by simp)
@[simp] theorem len_opn{l:List Opn}:(encs l).length=l.length*7:=encs_len l
@[simp] theorem take_opn{l:List Opn}:(encs l).take (l.length*7)=encs l:=List.take_of_length_le (by simp)
@[simp] theorem len_shp{l:List Shp}:(encs l).length=l.length*3:=encs_len l
@[simp] theorem take_shp{l:List Shp}:(encs l).take (l.length*3)=encs l:=List.take_of_length_le (by simp)
@[simp] theorem len_pce{l:List Pce}:(encs l).length=l.length*16:=encs_len l
@[simp] theorem take_pce{l:List Pce}:(encs l).take (l.length*16)=encs l:=List.take_of_length_le (by simp)
@[simp] theorem len_str{l:List Str}:(encs l).length=l.length:=by have:=encs_len l;simpa[show Enc.sz Str=1 from rfl] using this
@[simp] theorem take_str{l:List Str}:(encs l).take l.length=encs l:=List.take_of_length_le (by simp)
@[simp] theorem len_int{l:List Int}:(encs l).length=l.length:=by have:=encs_len l;simpa[show Enc.sz Int=1 from rfl] using this
@[simp] theorem take_int{l:List Int}:(encs l).take l.length=encs l:=List.take_of_length_le (by simp)
theorem recF_succ(f:Nat)(ns:List Str)(l:List Shp)(t:Str){nm bh:Str}{is ok:Bool}{x:Shp}{rest:Str}(h1:cutC t 58=(nm,bh,is))(h2:is=true→readF f bh=(x,rest,ok)):recF (f+1) ns l t =
    if is=false then(⟨0,[],[]⟩,[],false) else if ok=false then(⟨0,[],[]⟩,[],false) else if rest.isEmpty then(⟨0,[],[]⟩,[],false) else
    if rest.head?=some 125 then(⟨5,ns++[nm],l++[x]⟩,rest.drop 1,rising [] (ns++[nm]))
    else if rest.head?=some 44 then recF f (ns++[nm]) (l++[x]) (rest.drop 1)
    else(⟨0,[],[]⟩,[],false):=by
  rw[recF,h1]
  cases is with
  | false=>simp
  | true =>
    simp only[h2 rfl]
    cases ok<;>cases rest<;>simp
@[simp] theorem snap_sln{H:AHeap}{n id len:Nat}(hn:len≠0):snapV H (n+1) (.sl id 0 len none)=snapO H n len (H.get id):=snap_sl hn rfl
@[simp] theorem snap_sls{H:AHeap}{n id len c:Nat}(hn:len≠0)(hc:len≤c):snapV H (n+1) (.sl id 0 len (some c))=snapO H n len (H.get id):=snap_sl hn (by simpa using hc)
@[simp] theorem frz_sln{H:AHeap}{g n id len:Nat}(hn:len≠0)(hid:g≤id):frzV H g (n+1) (.sl id 0 len none)=frzO H g n len (H.get id):=frz_sl hn hid rfl
@[simp] theorem frz_sls{H:AHeap}{g n id len c:Nat}(hn:len≠0)(hid:g≤id)(hc:len≤c):frzV H g (n+1) (.sl id 0 len (some c))=frzO H g n len (H.get id):=frz_sl hn hid (by simpa using hc)
section
variable {call:CallI} {lo:Nat} {e:Env} {H:AHeap}
def callvR(call:CallI)(H:AHeap)(vs:Option (List AVal)):Option AVal→Option (Option AVal×AHeap)
 | some (.fn (.func f) fst cap)=>vs.bind fun vs=>callR (call f (fst++vs++cap) H)
 | _=>none
@[simp] theorem callvR_fn{vs:List AVal}{f:FuncId}{fst cap:List AVal}:callvR call H (some vs) (some (.fn (.func f) fst cap))=callR (call f (fst++vs++cap) H):=rfl
@[simp] theorem op_callv{x:Opd}{args:List Opd}:opI call lo (.callv x args) e H=callvR call H (evals e args) (x.eval e):=by
 simp only[opI,callvR]
 rcases x.eval e with _|v
 ·rfl
 ·cases v<;>try rfl
  rename_i f a c
  cases f<;>try rfl
  rename_i f
  simp only
  rcases evals e args with _|vs
  ·rfl
  ·simp only[Option.bind_some]
   rcases call f (a++vs++c) H with _|⟨v,H'⟩<;>rfl
@[simp] theorem skip_callv{x:Opd}{args:List Opd}:skipI call e (.callv x args)=pureV call (x.eval e):=rfl
@[simp] theorem pureV_fn{f:FuncId}{a c:List AVal}:pureV call (some (.fn (.func f) a c))=call.pure f:=rfl
def mkfR(f:FuncId):Option (List AVal)→Option (List AVal)→Option AVal
 | some a,some c=>some (.fn (.func f) a c)
 | _,_=>none
@[simp] theorem mkfR_some{f:FuncId}{a c:List AVal}:mkfR f (some a) (some c)=some (.fn (.func f) a c):=rfl
@[simp] theorem op_mkf{f:FuncId}{fst cap:List Opd}:opI call lo (.mkf f fst cap) e H=val H (mkfR f (evals e fst) (evals e cap)):=by
 simp only[opI,aop]
 rcases evals e fst with _|a<;>rcases evals e cap with _|c<;>rfl
def snapF(f:Fn):Option (List AVal)→Option (List AVal)→Option AVal
 | some a,some c=>some (.fn f a c)
 | _,_=>none
@[simp] theorem snapF_some{f:Fn}{a c:List AVal}:snapF f (some a) (some c)=some (.fn f a c):=rfl
@[simp] theorem snap_fn{n:Nat}{f:Fn}{a c:List AVal}:snapV H (n+1) (.fn f a c)=snapF f (mapO (snapV H n) a) (mapO (snapV H n) c):=by
 simp only[snapV]
 rcases mapO (snapV H n) a with _|a<;>rcases mapO (snapV H n) c with _|c<;>rfl
noncomputable def snapPO(H:AHeap)(n off:Nat):Option AObj→Option AVal
 | some (.cells c _ _)=>if off≤c.length then(mapO (snapV H n) (c.drop off)).map .fp else none
 | _=>none
@[simp] theorem snapPO_cells{n off esz:Nat}{c:List AVal}{ro:Bool}:snapPO H n off (some (.cells c esz ro))=if off≤c.length then(mapO (snapV H n) (c.drop off)).map .fp else none:=rfl
@[simp] theorem snap_p{n id off:Nat}:snapV H (n+1) (.p id off)=snapPO H n off (H.get id):=by
 simp only[snapV,snapPO]
 rcases H.get id with _|⟨c,esz,ro⟩|es<;>rfl
@[simp] theorem snap_fp{n:Nat}{l:List AVal}:snapV H (n+1) (.fp l)=some (.fp l):=rfl
end
theorem get_of_lt{α:Type}{l:List α}{i:Nat}(h:i<l.length):∃ x,l[i]?=some x:=⟨_,List.getElem?_eq_getElem h⟩
def zeroVal:Val:=.mk 0 0 [] [] []
theorem rep_len(z:List AVal):∀ n,(repCells z n).length=n*z.length
 | 0=>by simp[repCells]
 | n+1=>by simp[repCells,rep_len z n,Nat.add_mul,Nat.add_comm]
@[simp] theorem take_rep5{a b c d e:AVal}{n:Nat}:(repCells [a,b,c,d,e] n).take (n*5)=repCells [a,b,c,d,e] n:=List.take_of_length_le (by simp[rep_len])
@[simp] theorem snap_sl0{H:AHeap}{n id off:Nat}{cap:Option Nat}:snapV H (n+1) (.sl id off 0 cap)=some (.fs false false 0 []):=rfl
@[simp] theorem frz_sl0{H:AHeap}{g n id off:Nat}{cap:Option Nat}:frzV H g (n+1) (.sl id off 0 cap)=some (.fs false false 0 []):=rfl
mutual
def sameV:Val→Val→Bool
 | .mk k n s l ns,.mk k' n' s' l' ns'=>decide (k=k')&&decide (n=n')&&(s==s')&&decide (ns=ns')&&sameVL l l'
def sameVL:List Val→List Val→Bool
 | [],[]=>true
 | v::l,w::m=>sameV v w&&sameVL l m
 | _,_=>false
end
mutual
theorem sameV_iff:∀ v w:Val,sameV v w=true↔v=w
  | .mk k n s l ns,.mk k' n' s' l' ns'=>by
    have:=sameVL_iff l l'
    simp[sameV,this,and_assoc]
    intros;exact and_comm
theorem sameVL_iff:∀ l m:List Val,sameVL l m=true↔l=m
 | [],[]=>by simp[sameVL]
 | v::l,w::m=>by simp[sameVL,sameV_iff v w,sameVL_iff l m]
 | [],_::_=>by simp[sameVL]
 | _::_,[]=>by simp[sameVL]
end
def noneV(v:Val):Bool:=sameV v zeroVal
def recordS(ns:List Str):Bool:=decide ((ns.length:Int)≤8)&&mayV (.mk 5 0 [] (List.replicate ns.length zeroVal) ns)
def opnFits(homes steps:Int)(o:Opn):Bool :=
 if o.kind=1 then decide (0≤o.n)&&decide (o.n<homes)&&noneV o.v
 else if o.kind=2 then decide (0≤o.n)&&decide (o.n<steps)&&noneV o.v
 else if o.kind=3 then decide (o.n=0)&&mayV o.v
 else false
def idxF{α:Type}(p:α→Bool):List α→Int→Int
 | [],_=>-1
 | a::l,i=>if p a then i else idxF p l (i+1)
section
variable {call:CallI} {lo:Nat} {e:Env} {H:AHeap}
def eqAgV(ks:List Nat)(neg:Bool):AVal→AVal→Option AVal
 | .ag a,.ag b=>(eqCells ks a b).map fun r=>.b (if neg then !r else r)
 | _,_=>none
@[simp] theorem eqAgV_ag{ks:List Nat}{neg:Bool}{a b:List AVal}:eqAgV ks neg (.ag a) (.ag b)=(eqCells ks a b).map fun r=>.b (if neg then !r else r):=rfl
@[simp] theorem op_eqAg{ks:List Nat}{neg:Bool}{x y:Opd}:opI call lo (.eqAg ks neg x y) e H=val H (two (eqAgV ks neg) (x.eval e) (y.eval e)):=by
 simp only[opI,aop]
 rcases x.eval e with _|a
 ·rfl
 ·rcases y.eval e with _|b
  ·cases a<;>rfl
  ·cases a<;>cases b<;>rfl
@[simp] theorem eqCells_nil:eqCells [] [] []=some true:=rfl
@[simp] theorem eqCells_b{ks:List Nat}{a b:Bool}{x y:List AVal}:eqCells (0::ks) (.b a::x) (.b b::y)=(eqCells ks x y).map ((a==b)&&·):=rfl
@[simp] theorem eqCells_i{ks:List Nat}{k:IntKind}{a b:Int}{x y:List AVal}:eqCells (1::ks) (.i k a::x) (.i k b::y)=(eqCells ks x y).map (decide (a=b)&&·):=by
 simp only[eqCells,if_true]
 congr 2
@[simp] theorem eqCells_s{ks:List Nat}{a b:List UInt8}{x y:List AVal}:eqCells (2::ks) (.s a::x) (.s b::y)=(eqCells ks x y).map ((a==b)&&·):=rfl
end
def nmd(i:Stp):Bool:=decide ((0:Int)<i.names.length)
def bareI(i:Stp):Bool:=decide (i.n=0)&&((i.s==[])&&(nmd i==false))
def needs(i:Stp):Int×Int×Bool :=
 if i.op=20 then(0,8,bareI i)
 else if i.op=21 then(i.names.length,i.names.length,decide (i.n=0)&&(i.s==[])&&recordS i.names)
 else if i.op=22 then(1,1,decide (i.n=0)&&(nmd i==false)&&recordS [i.s])
 else if i.op=23 then(1,1,decide (i.n=0)&&(nmd i==false)&&fitsS i.s)
 else if i.op=40 then(1,1,(i.s==[])&&(nmd i==false)&&decide (0≤i.n)&&decide (i.n≤6))
 else if i.op=48∨i.op=49 then(1,1,(i.s==[])&&(nmd i==false))
 else if(43≤i.op∧i.op≤47)∨(9≤i.op∧i.op≤19) then(2,2,bareI i)
 else if i.op=41∨i.op=42∨(6≤i.op∧i.op≤8) then(1,1,bareI i)
 else(0,0,false)
def stpFits(homes at_:Int)(i:Stp):Bool:=(needs i).2.2&&decide ((needs i).1≤i.l.length)&&decide ((i.l.length:Int)≤(needs i).2.1)&&i.l.all (opnFits homes at_)
@[simp] theorem get_int{l:List Int}{i:Nat}:(encs l)[i]?=l[i]?.map (AVal.i .i64):=by
 have h:encs l=l.map (AVal.i .i64):=by
  induction l with
  | nil=>rfl
  | cons a l ih=>simp[ih]
 rw[h,List.getElem?_map]
@[simp] theorem get_strs{l:List Str}{i:Nat}:(encs l)[i]?=l[i]?.map AVal.s:=by
 have h:encs l=l.map AVal.s:=by
  induction l with
  | nil=>rfl
  | cons a l ih=>simp[ih]
 rw[h,List.getElem?_map]
def okO(o:Opn):Prop:=o.v.bulk<1099511627776
@[simp] theorem mm_nil{mx:Bool}{x:AVal}:mmV mx x []=some x:=by cases x<;>rfl
@[simp] theorem mm_maxs{k:IntKind}{a b:Int}{l:List AVal}:mmV true (.i k a) (.i k b::l)=mmV true (.i k (max a b)) l:=by
 simp only[mmV,if_true]
 have:(if decide (b > a)=true then b else a)=max a b:=by
  by_cases h:a<b<;>simp[h]<;>omega
 rw[this]
@[simp] theorem mm_mins{k:IntKind}{a b:Int}{l:List AVal}:mmV false (.i k a) (.i k b::l)=mmV false (.i k (min a b)) l:=by
 simp only[mmV,if_true]
 have:(if(if false=true then decide (b > a) else decide (b<a))=true then b else a)=min a b:=by
  by_cases h:b<a<;>simp[h]<;>omega
 rw[this]
end Go.RI
namespace Go.Proofs.YtfhpkckjkofaoaaDoor
open Go Go.RI
section
variable {G:AHeap} (hG:G.next=2)
include hG
theorem t_bare(t l n:Bool)(k m:Int)(s:Str)(xs:List Val)(ns:List Str)(t1 t2:Bool):pureR IP G 52 [.ag [.b t,.b l,.b n],.ag [.i .i64 k,.i .i64 m,.s s,.fs t1 false xs.length (encs xs),.fs t2 false ns.length (encs ns)]]=some (.b (bareV t l n (.mk k m s xs ns))):=by
 refine pure_run ip52 rfl ?_
 simp -implicitDefEqProofs [I52,hG]
 repeat' ((first|refine guard_intro ?_ ?_|refine test_intro ?_ ?_)<;>intro h<;>(try simp -implicitDefEqProofs [h,hG]))
 all_goals ((try simp only[decide_eq_true_eq,decide_eq_false_iff_not] at *)<;>(try simp_all [bareV])<;>(try (intros;omega)))
theorem t_named(s:Str)(hs:s.length<4611686018427387904):pureR IP G 67 [.s s]=some (.b (named s)):=by
 refine pure_run ip67 rfl ?_
 simp -implicitDefEqProofs [I67,hG]
 repeat' ((first|refine guard_intro ?_ ?_|refine test_intro ?_ ?_)<;>intro h<;>(try simp -implicitDefEqProofs [h,hG]))
 ·simp_all [named]
 ·simp_all [named]
 refine wp_loop_list (l:=s) hs (fun i todo e H=>e=[(14,.sl 2 0 s.length none),(15,.i .i64 s.length),(16,.i .i64 i)]∧H=G.push (AObj.cells (List.map (fun b=>AVal.i IntKind.u8 ↑b.toNat) s) 1 false)∧namedL 0 s=namedL i todo) ?_ ?_ ?_
 ·rintro i x todo e H hx hd hlt hlt2 hlt3 ⟨rfl,rfl,hn⟩
  clear hlt
  simp -implicitDefEqProofs [L67a, *]
  repeat' ((first|refine guard_intro ?_ ?_|refine test_intro ?_ ?_)<;>intro h<;>(try simp -implicitDefEqProofs [h,hG,hx,hlt3]))
  all_goals clear hx hd hlt2 hlt3 hs
  all_goals ((try simp only[decide_eq_true_eq,decide_eq_false_iff_not] at *)<;>(try simp_all [named,namedL,badc,letter])<;>(try (intros;omega)))
 ·rintro e H ⟨rfl,rfl,hn⟩
  simp -implicitDefEqProofs [L67a, *]
  simp_all [named,namedL]
 ·simp
theorem t_rising(ns:List Str)(hs:ns.length<4611686018427387904)(hx:∀ s∈ns,s.length<4611686018427387904)(t f:Bool):pureR IP G 53 [.fs t f ns.length (encs ns)]=some (.b (rising [] ns)):=by
 refine pure_run ip53 rfl ?_
 simp -implicitDefEqProofs [I53,hG]
 refine wp_loop_list (l:=ns) hs (fun i todo e H=>∃ last,e=[(3,.s last),(6,.fs t f ns.length (encs ns)),(7,.i .i64 ns.length),(8,.i .i64 i)]∧H=G∧rising [] ns=rising last todo) ?_ ?_ ?_
 ·rintro i x todo e H hx2 hd hlt hlt2 hlt3 ⟨last,rfl,rfl,hn⟩
  have c1:=t_named hG x (hx x (List.mem_of_getElem? hx2))
  clear hlt
  simp -implicitDefEqProofs [L53a, *]
  repeat' ((first|refine guard_intro ?_ ?_|refine test_intro ?_ ?_)<;>intro h<;>(try simp -implicitDefEqProofs [h,hG,c1,hx2,hlt3]))
  all_goals ((try simp only[decide_eq_true_eq,decide_eq_false_iff_not] at *)<;>(try simp_all [rising])<;>(try (intros;omega)))
 ·rintro e H ⟨last,rfl,rfl,hn⟩
  simp -implicitDefEqProofs [L53a, *]
  simp_all [rising]
 ·simp
end
end Go.Proofs.YtfhpkckjkofaoaaDoor
namespace Go.Proofs.YtfhpkckjkofaoaaDoor
open Go Go.RI
section
variable {G:AHeap} (hG:G.next=2)
include hG
set_option maxHeartbeats 1000000 in
theorem t_own(k m:Int)(s:Str)(xs:List Val)(ns:List Str)(t1 t2:Bool)(hs:ns.length<4611686018427387904)(hx:∀ s∈ns,s.length<4611686018427387904):pureR IP G 41 [.ag [.i .i64 k,.i .i64 m,.s s,.fs t1 false xs.length (encs xs),.fs t2 false ns.length (encs ns)]]=some (.b (ownV (.mk k m s xs ns))):=by
 have c1:=t_rising hG ns hs hx
 have c2:=t_bare hG
 refine pure_run ip41 rfl ?_
 clear hs hx
 simp -implicitDefEqProofs [I41,hG]
 repeat' ((first|refine guard_intro ?_ ?_|refine test_intro ?_ ?_)<;>intro h<;>(try simp -implicitDefEqProofs [h,hG,c1,c2]))
 all_goals clear c1 c2
 all_goals ((try simp only[decide_eq_true_eq,decide_eq_false_iff_not] at *)<;>(try simp_all [ownV])<;>(try (intros;omega)))
end
end Go.Proofs.YtfhpkckjkofaoaaDoor
namespace Go.Proofs.YtfhpkckjkofaoaaDoor
open Go Go.RI
section
variable {G:AHeap} (hG:G.next=2)
include hG
set_option maxHeartbeats 1000000 in
theorem t_fits:∀(b:Nat) (v:Val),v.bulk≤b→b<1099511627776→∀(w left:Int),0≤w→w≤8→-2199023255552<left→left<2199023255552→∀ t1 t2:Bool,pureR IP G 32 [.ag [.i .i64 v.kind,.i .i64 v.n,.s v.s,.fs t1 false v.l.length (encs v.l),.fs t2 false v.names.length (encs v.names)],.i .i64 w,.i .i64 left]=some (.tu [.i .i64 (fitsV v w left).1,.b (fitsV v w left).2]):=by
  intro b
  induction b with
  | zero=>intro v h;have:=v.bulk_pos;omega
  | succ b ih =>
    intro v hv hb w left hw0 hw8 hl0 hl1 t1 t2
    have hv2:=hv
    rw[Val.bulk_eq] at hv2
    have hlen:=bulkL_len v.l
    have hlen2:=bulkS_len v.names
    have hlens:=lens_bulk v.names
    have c1:=t_own hG v.kind v.n v.s v.l v.names t1 t2 (by omega) (fun s hs=>by have:=bulkS_mem hs;omega)
    rw[Val.eta] at c1
    have w1:wrapI .i64 (1+(v.s.length:Int))=1+v.s.length:=wrap_ok (by omega) (by omega)
    have w2:wrapI .i64 (left-(1+(v.s.length:Int)))=left-(1+v.s.length):=wrap_ok (by omega) (by omega)
    refine pure_run ip32 rfl ?_
    simp -implicitDefEqProofs [I32,hG,w1,w2]
    refine wp_loop_list (l:=v.names) (by omega) (fun i todo e H=>e=[(1,.i .i64 w),(2,.i .i64 (left-(1+v.s.length)-(lens v.names-lens todo))),(3,.p 2 0),(19,.fs t2 false v.names.length (encs v.names)),(20,.i .i64 v.names.length),(21,.i .i64 i)]∧H=G.push (.cells [.i .i64 v.kind,.i .i64 v.n,.s v.s,.fs t1 false v.l.length (encs v.l),.fs t2 false v.names.length (encs v.names)] 1 false)∧0≤lens todo∧lens todo≤lens v.names) ?_ ?_ ?_
    · rintro i x todo e H hx hd hlt hlt2 hlt3 ⟨rfl,rfl,hn0,hn1⟩
      clear hlt
      have hl:=(lens_bulk todo).1
      simp only[lens] at hn0 hn1
      have w3:wrapI .i64 (left-(1+(v.s.length:Int))-(lens v.names-lens (x::todo))-x.length)=left-(1+v.s.length)-(lens v.names-lens todo):=by
        rw[wrap_ok]<;>simp only[lens]<;>omega
      simp -implicitDefEqProofs [L32a, *]
      omega
    · rintro e H ⟨rfl,rfl,hn0,hn1⟩
      simp only[lens,Int.sub_zero]
      have hf:∀ b,ownV v=b→fitsV v w left=if 8≤w∨left-(1+v.s.length)-lens v.names<0∨b=false then(0,false) else fitsL v.l (w+1) (left-(1+v.s.length)-lens v.names):=fun b hb=>by rw[fitsV_eq,hb]
      simp -implicitDefEqProofs [L32a, *]
      repeat' ((first|refine guard_intro ?_ ?_|refine test_intro ?_ ?_)<;>intro h<;>(try simp -implicitDefEqProofs [*]))
      · simp_all
      · simp_all
      · have hf:=hf _ h
        rw[if_neg (by simp_all)] at hf
        have w4:wrapI .i64 (w+1)=w+1:=wrap_ok (by omega) (by omega)
        have hw7:w+1≤8:=by simp_all;omega
        generalize hL0:left-(1+(v.s.length:Int))-lens v.names=L0 at *
        have hL:0≤L0:=by simp_all
        have hL1:L0≤left:=by omega
        clear hL0
        refine wp_loop_list (l:=v.l) (by omega) (fun i todo e H=>∃ q,0≤q∧q≤L0∧e=[(1,.i .i64 w),(2,.i .i64 q),(3,.p 2 0),(43,.i .i64 v.l.length),(44,.i .i64 i)]∧H=G.push (.cells [.i .i64 v.kind,.i .i64 v.n,.s v.s,.fs t1 false v.l.length (encs v.l),.fs t2 false v.names.length (encs v.names)] 1 false)∧fitsL v.l (w+1) L0=fitsL todo (w+1) q) ?_ ?_ ?_
        · rintro i x todo e H hx hd hlt hlt2 hlt3 ⟨q,hq0,hq1,rfl,rfl,hq⟩
          clear hlt
          have hm:=bulkL_mem (List.mem_of_getElem? hx)
          have c2:=ih x (by omega) (by omega) (w+1) q (by omega) hw7 (by omega) (by omega) false false
          have c3:=fitsV_le x (w+1) q
          rw[fitsL] at hq
          simp -implicitDefEqProofs [L32b, *]
          repeat' ((first|refine guard_intro ?_ ?_|refine test_intro ?_ ?_)<;>intro h<;>(try simp -implicitDefEqProofs [*]))
          have c3:=c3 h
          exact⟨_,c3.1,by omega,rfl,rfl⟩
        · rintro e H ⟨q,hq0,hq1,rfl,rfl,hq⟩
          simp -implicitDefEqProofs [L32b,hG]
          rw[if_neg (by omega),hq]
          simp -implicitDefEqProofs [fitsL]
        · exact⟨L0,by omega,by omega,rfl,rfl,rfl⟩
    · refine⟨?_,rfl,?_,?_⟩
      · simp
      · exact hlens.1
      · omega
theorem t_check(v:Val)(hv:v.bulk<1099511627776)(t1 t2:Bool):pureR IP G 17 [.ag [.i .i64 v.kind,.i .i64 v.n,.s v.s,.fs t1 false v.l.length (encs v.l),.fs t2 false v.names.length (encs v.names)]]=some (.i .i64 (if mayV v then 0 else 2)):=by
 have c1:=t_fits hG v.bulk v (Nat.le_refl _) hv 0 256 (by omega) (by omega) (by omega) (by omega)
 refine pure_run ip17 rfl ?_
 simp -implicitDefEqProofs [I17,hG,c1]
 repeat' ((first|refine guard_intro ?_ ?_|refine test_intro ?_ ?_)<;>intro h<;>(try simp -implicitDefEqProofs [h]))
 all_goals simp_all [mayV]
end
end Go.Proofs.YtfhpkckjkofaoaaDoor
namespace Go.RI
open Go
end Go.RI
namespace Go.RI
open Go
def Hold(H:AHeap)(lo:Nat)(v:AVal)(esz n:Nat)(cells:List AVal):Prop :=
 ((v=.fs false true 0 []∨v=.ns)∧n=0∧cells=[])∨(∃ id c,v=.sl id 0 n c∧(c=none∨c=some n)∧lo≤id∧id<H.next∧H.get id=some (.cells cells esz false)∧cells.length=n*esz)
theorem Acc.hold{H:AHeap}{lo esz n:Nat}{v:AVal}{cells:List AVal}(h:Acc H lo v esz n cells):Hold H lo v esz n cells:=by
 rcases h with⟨rfl,h1,h2⟩|⟨id,rfl,h1,h2,h3,h4⟩
 ·exact .inl ⟨.inr rfl,h1,h2⟩
 ·exact .inr ⟨id,none,rfl,.inl rfl,h1,h2,h3,h4⟩
theorem hold_keep{H H':AHeap}{lo esz n:Nat}{v:AVal}{cells:List AVal}(h:Hold H lo v esz n cells)(hn:H.next≤H'.next)(hk:∀ id c,v=.sl id 0 n c→H'.get id=H.get id):Hold H' lo v esz n cells:=by
 rcases h with h|⟨id,c,rfl,hc,h1,h2,h3,h4⟩
 ·exact .inl h
 ·exact .inr ⟨id,c,rfl,hc,h1,by omega,by rw[hk id c rfl];exact h3,h4⟩
theorem hold_lt{H:AHeap}{lo esz n:Nat}{v:AVal}{cells:List AVal}(h:Hold H lo v esz n cells):∀ id m a,v=.sl id 0 m a→lo≤id∧id<H.next:=by
 intro id m a hv
 rcases h with⟨h|h,_,_⟩|⟨id0,c,rfl,_,h1,h2,_,_⟩
 ·subst h;cases hv
 ·subst h;cases hv
 ·cases hv;exact⟨h1,h2⟩
theorem hold_frz{H:AHeap}{lo esz n k:Nat}{v:AVal}{cells cells':List AVal}(h:Hold H lo v esz n cells)(hc:mapO (frzV H lo k) cells=some cells'):frzV H lo (k+1) v=some (.fs false false n cells'):=by
 rcases h with⟨h,rfl,rfl⟩|⟨id,c,rfl,hcap,h1,h2,h3,h4⟩
 ·simp only[mapO_nil,Option.some.injEq] at hc
  subst hc
  rcases h with rfl|rfl<;>rfl
 ·by_cases hn:n=0
  ·subst hn
   have:cells=[]:=List.eq_nil_of_length_eq_zero (by simpa using h4)
   subst this
   simp only[mapO_nil,Option.some.injEq] at hc
   subst hc;rfl
  ·exact frz_lit hn h1 h3 h4 (by rcases hcap with rfl|rfl<;>simp) hc
section
variable {call:CallI} {lo:Nat} {xs:List Item} {kill:List Nat} {Q:Post} {dst:Option Nat} {op:IOp} {re:ReH} {e:Env} {H:AHeap}
theorem step_app0{lo' esz bytes n:Nat}{t f:Bool}{cells:List AVal}(hl:cells.length=n*esz)(he:0<esz)(hb:0<bytes)(hs:(2*n+192)*bytes≤281474976710656)(hlo:lo'≤H.next)
  (k:∀(v:AVal) (H':AHeap),H.next≤H'.next→Acc H' lo' v esz n cells→(∀ id,id<H.next→H'.get id=H.get id)→stepP call lo xs kill Q dst op re e (some (some v,H'))) :
  stepP call lo xs kill Q dst op re e (appR lo H esz bytes (some .ns) (some (.fs t f n cells))):=by
 by_cases hn:n=0
 ·subst hn
  have:cells=[]:=List.eq_nil_of_length_eq_zero (by simpa using hl)
  subst this
  have hc:appR lo H esz bytes (some .ns) (some (.fs t f 0 []))=some (some .ns,H):=by simp[appR,appV,moreV,he,hb]
  rw[hc]
  exact k _ H (Nat.le_refl _) acc_none fun _ _=>rfl
 ·have hc:appR lo H esz bytes (some .ns) (some (.fs t f n cells))=some (some (.sl H.next 0 n none),H.push (.cells cells esz false)):=by
   simp[appR,appV,moreV,hn,hl,he,hb,hs]
  rw[hc]
  exact k _ _ (by simp) (.inr ⟨H.next,rfl,hlo,by simp,by simp,hl⟩) fun id hid=>get_push_lt hid
end
theorem hold_len{H:AHeap}{lo esz n:Nat}{v:AVal}{cells:List AVal}(h:Hold H lo v esz n cells)(H':AHeap):lenV H' 0 v=some n:=by
 rcases h with⟨h|h,rfl,_⟩|⟨id,c,rfl,_⟩
 ·subst h;rfl
 ·subst h;rfl
 ·rfl
theorem hold_mono{H:AHeap}{lo lo' esz n:Nat}{v:AVal}{cells:List AVal}(h:Hold H lo v esz n cells)(hl:lo'≤lo):Hold H lo' v esz n cells:=by
 rcases h with h|⟨id,c,rfl,hc,h1,h2,h3,h4⟩
 ·exact .inl h
 ·exact .inr ⟨id,c,rfl,hc,by omega,h2,h3,h4⟩
theorem hold_in{H H':AHeap}{lo lo' esz n:Nat}{v:AVal}{cells:List AVal}(h:Hold H lo v esz n cells)(hl:lo'≤lo)(hn:H.next≤H'.next)(hk:∀ id,lo≤id→id<H.next→H'.get id=H.get id):Hold H' lo' v esz n cells :=
 hold_mono (hold_keep h hn fun id c hv=>hk id (hold_lt h _ _ _ hv).1 (hold_lt h _ _ _ hv).2) hl
end Go.RI
namespace Go.RI
open Go
def numI(a b:Int):Int:=if a<b then -1 else if b<a then 1 else 0
def txtI(a b:Str):Int:=if ltB a b then -1 else if ltB b a then 1 else 0
def cmpS:List Str→List Str→Int
 | [],[]=>0
 | [],_::_=>-1
 | _::_,[]=>1
 | a::l,b::m=>if a=b then cmpS l m else txtI a b
mutual
def cmpV:Val→Val→Int
 | .mk k n s l ns,.mk k' n' s' l' ns'=>if k=k' then(if n=n' then(if s=s' then(if ns=ns' then cmpVL l l' else cmpS ns ns') else txtI s s') else numI n n') else numI k k'
def cmpVL:List Val→List Val→Int
 | [],[]=>0
 | [],_::_=>-1
 | _::_,[]=>1
 | v::l,w::m=>if cmpV v w=0 then cmpVL l m else cmpV v w
end
theorem cmpV_eq(v w:Val):cmpV v w=if v.kind=w.kind then(if v.n=w.n then(if v.s=w.s then(if v.names=w.names then cmpVL v.l w.l else cmpS v.names w.names) else txtI v.s w.s) else numI v.n w.n) else numI v.kind w.kind:=by cases v;cases w;simp only[cmpV];rfl
theorem ltB_total:∀ a b:Str,a≠b→ltB a b=true∨ltB b a=true
  | [],[],h=>absurd rfl h
  | [],_::_,_=>.inl rfl
  | _::_,[],_=>.inr rfl
  | x::a,y::b,h=>by
    simp only[ltB,Bool.or_eq_true,decide_eq_true_eq,Bool.and_eq_true,beq_iff_eq]
    by_cases hxy:x=y
    · subst hxy
      have:a≠b:=fun e=>h (by rw[e])
      rcases ltB_total a b this with h2|h2
      · exact .inl (.inr ⟨rfl,h2⟩)
      · exact .inr (.inr ⟨rfl,h2⟩)
    · rcases Nat.lt_or_gt_of_ne (fun e=>hxy (UInt8.toNat_inj.1 e)) with h2|h2
      · exact .inl (.inl h2)
      · exact .inr (.inl h2)
theorem txtI_ne{a b:Str}(h:a≠b):txtI a b≠0:=by
 unfold txtI
 rcases ltB_total a b h with h1|h1
 ·rw[h1];simp
 ·split
  ·simp
  ·simp[h1]
theorem numI_ne{a b:Int}(h:a≠b):numI a b≠0:=by
 unfold numI
 split
 ·simp
 ·rw[if_pos (by omega)];simp
theorem cmpS_iff:∀ a b:List Str,cmpS a b=0↔a=b
  | [],[]=>by simp[cmpS]
  | [],_::_=>by simp[cmpS]
  | _::_,[]=>by simp[cmpS]
  | x::a,y::b=>by
    simp only[cmpS]
    split
    · rename_i h;subst h;simp[cmpS_iff a b]
    · rename_i h;simp[txtI_ne h,h]
mutual
theorem cmpV_iff:∀ v w:Val,cmpV v w=0↔v=w
  | .mk k n s l ns,.mk k' n' s' l' ns'=>by
    have h1:=cmpVL_iff l l'
    have h2:=cmpS_iff ns ns'
    simp only[cmpV]
    split
    · rename_i e1
      split
      · rename_i e2
        split
        · rename_i e3
          split
          · rename_i e4;simp[e1,e2,e3,e4,h1]
          · rename_i e4;simp[e4,h2]
        · rename_i e3;simp[e3,txtI_ne e3]
      · rename_i e2;simp[e2,numI_ne e2]
    · rename_i e1;simp[e1,numI_ne e1]
theorem cmpVL_iff:∀ l m:List Val,cmpVL l m=0↔l=m
  | [],[]=>by simp[cmpVL]
  | v::l,w::m=>by
    simp only[cmpVL]
    split
    · rename_i h;have:=(cmpV_iff v w).1 h;subst this;simp[cmpVL_iff l m]
    · rename_i h
      have:v≠w:=fun e=>h ((cmpV_iff v w).2 e)
      simp[h,this]
  | [],_::_=>by simp[cmpVL]
  | _::_,[]=>by simp[cmpVL]
end
theorem cmpS_end{a b:List Str}{i:Nat}(h:a.take i=b.take i)(hi:i≤a.length∧i≤b.length)(he:i=a.length∨i=b.length):cmpS a b=numI a.length b.length:=by
  induction a generalizing b i with
  | nil =>
    cases b with
    | nil=>simp[cmpS,numI]
    | cons y b=>simp[cmpS,numI]
  | cons x a ih =>
    cases b with
    | nil =>
      have e:¬((a.length:Int)+1<0):=by omega
      simp[cmpS,numI,e]
    | cons y b =>
      cases i with
      | zero=>simp at he
      | succ i =>
        simp at h hi he
        obtain⟨rfl,h⟩:=h
        simp only[cmpS,if_true]
        rw[ih h ⟨by omega,by omega⟩ (by omega)]
        unfold numI
        simp
theorem cmpS_at{a b:List Str}{i:Nat}{x y:Str}(h:a.take i=b.take i)(hx:a[i]?=some x)(hy:b[i]?=some y)(hne:x≠y):cmpS a b=txtI x y:=by
  induction a generalizing b i with
  | nil=>simp at hx
  | cons p a ih =>
    cases b with
    | nil=>simp at hy
    | cons q b =>
      cases i with
      | zero=>simp at hx hy;subst hx hy;simp[cmpS,hne]
      | succ i =>
        simp at h hx hy
        obtain⟨rfl,h⟩:=h
        simp only[cmpS,if_true]
        exact ih h hx hy
theorem cmpVL_end{a b:List Val}{i:Nat}(h:a.take i=b.take i)(hi:i≤a.length∧i≤b.length)(he:i=a.length∨i=b.length):cmpVL a b=numI a.length b.length:=by
  induction a generalizing b i with
  | nil =>
    cases b with
    | nil=>simp[cmpVL,numI]
    | cons y b=>simp[cmpVL,numI]
  | cons x a ih =>
    cases b with
    | nil =>
      have e:¬((a.length:Int)+1<0):=by omega
      simp[cmpVL,numI,e]
    | cons y b =>
      cases i with
      | zero=>simp at he
      | succ i =>
        simp at h hi he
        obtain⟨rfl,h⟩:=h
        simp only[cmpVL,(cmpV_iff x x).2 rfl,if_true]
        rw[ih h ⟨by omega,by omega⟩ (by omega)]
        unfold numI
        simp
theorem cmpVL_at{a b:List Val}{i:Nat}{x y:Val}(h:a.take i=b.take i)(hx:a[i]?=some x)(hy:b[i]?=some y)(hne:cmpV x y≠0):cmpVL a b=cmpV x y:=by
  induction a generalizing b i with
  | nil=>simp at hx
  | cons p a ih =>
    cases b with
    | nil=>simp at hy
    | cons q b =>
      cases i with
      | zero=>simp at hx hy;subst hx hy;simp[cmpVL,hne]
      | succ i =>
        simp at h hx hy
        obtain⟨rfl,h⟩:=h
        simp only[cmpVL,(cmpV_iff p p).2 rfl,if_true]
        exact ih h hx hy
theorem take_succ_eq{α:Type}{a b:List α}{i:Nat}{x:α}(h:a.take i=b.take i)(hx:a[i]?=some x)(hy:b[i]?=some x):a.take (i+1)=b.take (i+1):=by
 rw[List.take_add_one,List.take_add_one,h,hx,hy]
theorem ltB_asym:∀ a b:Str,ltB a b=true→ltB b a=false
  | [],[],h=>by cases h
  | _::_,[],h=>by cases h
  | [],_::_,_=>rfl
  | x::a,y::b,h=>by
    simp only[ltB,Bool.or_eq_true,decide_eq_true_eq,Bool.and_eq_true,beq_iff_eq] at h
    simp only[ltB,Bool.or_eq_false_iff,decide_eq_false_iff_not,Bool.and_eq_false_iff]
    rcases h with h|⟨rfl,h⟩
    · have h':x.toNat<y.toNat:=h
      refine⟨fun h2=>?_,.inl ?_⟩
      · have h2':y.toNat<x.toNat:=h2;omega
      · simp;intro e;subst e;omega
    · refine⟨fun h2=>?_,.inr (ltB_asym a b h)⟩
      have h2':x.toNat<x.toNat:=h2;omega
theorem ltB_not_le(b a:Str)(h:ltB b a=true):leS a b=false:=by
 simp only[leS,Bool.or_eq_false_iff]
 refine⟨ltB_asym b a h,?_⟩
 simp
 intro e
 subst e
 have:=ltB_asym a a h
 rw[h] at this;cases this
instance:DecidableEq Val:=fun v w=>if h:sameV v w=true then .isTrue ((sameV_iff v w).1 h) else .isFalse fun e=>h ((sameV_iff v w).2 e)
end Go.RI
namespace Go.RI
open Go
theorem Opn.ext_iff'{a b:Opn}:a=b↔a.kind=b.kind∧a.n=b.n∧a.v=b.v:=by cases a;cases b;simp
theorem Stp.ext_iff'{a b:Stp}:a=b↔a.op=b.op∧a.n=b.n∧a.s=b.s∧a.l=b.l∧a.names=b.names:=by
 constructor
 ·rintro rfl;exact⟨rfl,rfl,rfl,rfl,rfl⟩
 ·cases a;cases b;rintro⟨h1,h2,h3,h4,h5⟩;simp only at h1 h2 h3 h4 h5;subst h1 h2 h3 h4 h5;rfl
theorem Pce.ext_iff'{a b:Pce}:a=b↔(a.func=b.func∧a.at_=b.at_∧a.many=b.many∧a.homes=b.homes∧a.exit=b.exit∧a.to=b.to∧a.deep=b.deep)∧a.ins=b.ins∧a.sets=b.sets∧a.cond=b.cond:=by
 constructor
 ·rintro rfl;exact⟨⟨rfl,rfl,rfl,rfl,rfl,rfl,rfl⟩,rfl,rfl,rfl⟩
 ·cases a;cases b;rintro⟨⟨h1,h2,h3,h4,h7,h8,h10⟩,h5,h6,h9⟩;simp only at h1 h2 h3 h4 h5 h6 h7 h8 h9 h10;subst h1 h2 h3 h4 h5 h6 h7 h8 h9 h10;rfl
instance:DecidableEq Opn:=fun _ _=>decidable_of_iff _ Opn.ext_iff'.symm
instance:DecidableEq Stp:=fun _ _=>decidable_of_iff _ Stp.ext_iff'.symm
instance:DecidableEq Pce:=fun _ _=>decidable_of_iff _ Pce.ext_iff'.symm
end Go.RI
namespace Go.RI
open Go
section
variable {call:CallI} {lo:Nat} {e:Env} {H:AHeap} {Q:Post}
noncomputable def slR(esz:Nat)(H:AHeap)(v:Option AVal)(l h m:Option (Option Nat)):Option (Option AVal×AHeap):=match v,l,h,m with
 | some v,some l,some h,some m=>(slV esz H v l h m).map fun x=>(some x.1,x.2)
 | _,_,_,_=>none
noncomputable def slqR(esz:Nat)(H:AHeap)(v:Option AVal)(l h m:Option (Option Nat)):Option (Option AVal×AHeap):=match v,l,h,m with
 | some v,some l,some h,some m=>match slV esz H v l h m with
   | some (v',H')=>if H'.next=H.next∧(isFs v=true→m.isSome∨l.getD 0=0∨isFs0 v'=false) then some (some v',H) else if dynS v l h m=true then some (some v',H') else none
   | none=>none
 | _,_,_,_=>none
@[simp] theorem op_sl{esz:Nat}{x:Opd}{l h m:Option Opd}:opI call lo (.sl esz x l h m) e H=slR esz H (x.eval e) (optI e l) (optI e h) (optI e m):=by
 simp only[opI,aop,slR]
 rcases x.eval e with _|v<;>rcases optI e l with _|l<;>rcases optI e h with _|h<;>rcases optI e m with _|m<;>rfl
@[simp] theorem op_slq{esz:Nat}{x:Opd}{l h m:Option Opd}:opI call lo (.slq esz x l h m) e H=slqR esz H (x.eval e) (optI e l) (optI e h) (optI e m):=by
 simp only[opI,aop,slqR]
 rcases x.eval e with _|v<;>rcases optI e l with _|l<;>rcases optI e h with _|h<;>rcases optI e m with _|m<;>rfl
@[simp] theorem slR_from{esz len l:Nat}{t f:Bool}{cs:List AVal}(hl:cs.length=len*esz)(h:l≤len):slR esz H (some (.fs t f len cs)) (some (some l)) (some none) (some none)=some (some (.fs t (f&&decide (len=len)) (len-l) ((cs.drop (l*esz)).take ((len-l)*esz))),H):=by
 simp[slR,slV,hl,h]
@[simp] theorem slqR_to{esz len h:Nat}{t f:Bool}{cs:List AVal}(hl:cs.length=len*esz)(hh:h≤len):slqR esz H (some (.fs t f len cs)) (some none) (some (some h)) (some none)=some (some (.fs t (f&&decide (h=len)) h (cs.take (h*esz))),H):=by
 simp[slqR,slV,hl,hh]
@[simp] theorem op_idxA{n:Option Nat}{esz len:Nat}{x i:Opd}:opI call lo (.idxA n esz len x i) e H=val H (two (idxAV n esz len) (x.eval e) (i.eval e)):=by
 simp only[opI,aop]
 rcases x.eval e with _|a<;>rcases i.eval e with _|b<;>rfl
@[simp] theorem idxA_i{n:Option Nat}{esz len:Nat}{v:AVal}{k:IntKind}{j:Int}:idxAV n esz len v (.i k j)=if 0≤j∧j<len then partV n (j.toNat*esz) v else none:=rfl
end
@[simp] theorem tup_fn{f:Fn}{a c:List AVal}:(AVal.fn f a c).tup=false:=rfl
@[simp] theorem cells_fn{f:Fn}{a c:List AVal}:(AVal.fn f a c).cells=[.fn f a c]:=rfl
@[simp] theorem tup_nf:AVal.nf.tup=false:=rfl
@[simp] theorem cells_nf:AVal.nf.cells=[.nf]:=rfl
theorem calls_one{IP:FuncId→Option IFunc}{G:AHeap}{lo:Nat}{f:FuncId}{fn:IFunc}{args:List AVal}{H H':AHeap}{v:AVal}(hf:IP f=some fn)(hm:fn.mode=1)(hl:args.length=fn.np)
  (h:wp (theCalls IP G H.next) H.next fn.body (ends fn fun u H1=>u=v∧H1=H') (initEnv 0 args) H):theCalls IP G lo f args H=some (v,H'):=by
 obtain⟨n,u,H1,hb,rfl,rfl⟩:=body_wp (theCalls_knows _) hl h
 apply theCalls_of
 refine⟨n,?_⟩
 simp only[acall,callI,callB,hf,hm,hb]
theorem calls_one_of{IP:FuncId→Option IFunc}{G:AHeap}{f:FuncId}{fn:IFunc}{args:List AVal}{H:AHeap}{R:AVal→AHeap→Prop}(hf:IP f=some fn)(hm:fn.mode=1)(hl:args.length=fn.np)
  (h:wp (theCalls IP G H.next) H.next fn.body (ends fn R) (initEnv 0 args) H):∃ v H',(∀ lo,theCalls IP G lo f args H=some (v,H'))∧R v H':=by
 obtain⟨n,u,H1,hb,hr⟩:=body_wp (theCalls_knows _) hl h
 refine⟨u,H1,fun lo=>?_,hr⟩
 apply theCalls_of
 refine⟨n,?_⟩
 simp only[acall,callI,callB,hf,hm,hb]
def isNum(o:Opn):Bool:=decide (o.kind=3)&&decide (o.v.kind=1)
def rowSecond(op to sign:Int)(i:Stp):Stp×Bool :=
 if i.op=op then(⟨to,wrapI .i64 (sign*(i.l[1]?.getD default).v.n),i.l.take 1,[],[]⟩,isNum (i.l[1]?.getD default)) else(i,false)
def rowFirst(i:Stp):Stp×Bool :=
 if i.op=43 then(⟨48,(i.l[0]?.getD default).v.n,i.l.drop 1,[],[]⟩,isNum (i.l[0]?.getD default)) else(i,false)
def rowChain(l:List Stp)(i:Stp):Stp×Bool :=
 if i.op=48∧(i.l[0]?.getD default).kind=2 then
  let j:=l[(i.l[0]?.getD default).n.toNat]?.getD default
  (⟨j.op,wrapI .i64 (j.n+i.n),j.l,[],[]⟩,decide (j.op=48))
 else(i,false)
def rowAtN(n:Nat)(l:List Stp)(i:Stp):Stp×Bool:=match n with
 | 0=>rowSecond 43 48 1 i
 | 1=>rowFirst i
 | 2=>rowSecond 44 48 (-1) i
 | 3=>rowSecond 46 49 1 i
 | _=>rowChain l i
def turn1(l:List Stp)(i:Stp):Option Stp :=
 if(rowAtN 0 l i).2 then some (rowAtN 0 l i).1 else if(rowAtN 1 l i).2 then some (rowAtN 1 l i).1 else if(rowAtN 2 l i).2 then some (rowAtN 2 l i).1
 else if(rowAtN 3 l i).2 then some (rowAtN 3 l i).1 else if(rowAtN 4 l i).2 then some (rowAtN 4 l i).1 else none
def turnN:Nat→List Stp→Stp→Stp
  | 0,_,i=>i
  | k+1,l,i=>match turn1 l i with
    | some j=>turnN k l j
    | none=>i
end Go.RI
namespace Go.RI
end Go.RI
namespace Go.RI
open Go
def rank(l:List Stp)(i:Stp):Nat :=
 if i.op=43∨i.op=44∨i.op=46 then l.length+2
 else if i.op=48∧(i.l[0]?.getD default).kind=2 then(i.l[0]?.getD default).n.toNat+1 else 0
def turned(l:List Stp)(i:Stp):Stp:=turnN (rank l i) l i
end Go.RI
namespace Go.RI
open Go
def Fits(homes:Int)(l:List Stp):Prop:=∀(k:Nat) (s:Stp),l[k]?=some s→stpFits homes k s=true
end Go.RI
namespace Go.RI
open Go
end Go.RI
namespace Go.RI
open Go
theorem law_brings{IP:FuncId→Option IFunc}{G:AHeap}{f:FuncId}{fn:IFunc}(hf:IP f=some fn)(hm:fn.mode=0){args:List AVal}(hl:args.length=fn.np){v:AVal}
  (h:wp (theCalls IP G G.next) G.next fn.body (fin fn.res fun u _=>u=v) (initEnv 0 args) G):∃ H',Brings IP G G.next f args G v H':=by
 obtain⟨n,u,H',hb,rfl⟩:=body_wp (fn:=fn) (R:=fun u _=>u=v) (theCalls_knows _) hl (by rw[ends_fin];exact h)
 refine⟨H',n,?_⟩
 simp only[acall,callI,callB,hf,hm,hb]
end Go.RI
namespace Go.RI
open Go
theorem calls_nil_of{IP:FuncId→Option IFunc}{G:AHeap}{lo:Nat}{f:FuncId}{fn:IFunc}{args:List AVal}{H:AHeap}{R:AVal→AHeap→Prop}(hf:IP f=some fn)(hm:fn.mode=0)(hl:args.length=fn.np)
  (h:wp (theCalls IP G lo) lo fn.body (fin fn.res R) (initEnv 0 args) H):∃ v H',theCalls IP G lo f args H=some (v,H')∧R v H':=by
 obtain⟨n,u,H1,hb,hr⟩:=body_wp (fn:=fn) (R:=R) (theCalls_knows _) hl (by rw[ends_fin];exact h)
 refine⟨u,H1,?_,hr⟩
 apply theCalls_of
 refine⟨n,?_⟩
 simp only[acall,callI,callB,hf,hm,hb]
section
variable {call:CallI} {lo:Nat} {e:Env} {H:AHeap}
@[simp] theorem op_mkmap:opI call lo .mkmap e H=some (some (.m H.next),H.push (.map [])):=rfl
@[simp] theorem op_look{ag okf:Bool}{ks:List Nat}{z:AVal}{x k:Opd}:opI call lo (.look ag ks z okf x k) e H=val H (two (lookV H ag ks z okf) (x.eval e) (k.eval e)):=by
 simp only[opI,aop]
 rcases x.eval e with _|a<;>rcases k.eval e with _|b<;>rfl
def nckV:AVal→Option AVal
 | .p id off=>some (.p id off)
 | .fn (.func f) a c=>some (.fn (.func f) a c)
 | .ifc t v=>some (.ifc t v)
 | .fp l=>some (.fp l)
 | _=>none
@[simp] theorem nckV_p{id off:Nat}:nckV (.p id off)=some (.p id off):=rfl
@[simp] theorem nckV_fp{l:List AVal}:nckV (.fp l)=some (.fp l):=rfl
@[simp] theorem op_nck{x:Opd}:opI call lo (.nck x) e H=val H ((x.eval e).bind nckV):=by
 simp only[opI,aop]
 rcases x.eval e with _|v
 ·rfl
 ·cases v<;>try rfl
  rename_i f a c
  cases f<;>rfl
@[simp] theorem op_eqNil{k:Nat}{neg:Bool}{x y:Opd}:opI call lo (.eqNil k neg x y) e H=val H (two (fun a b=>(eqNilV k a b).map fun r=>AVal.b (if neg then !r else r)) (x.eval e) (y.eval e)):=by
 simp only[opI,aop]
 rcases x.eval e with _|a<;>rcases y.eval e with _|b<;>rfl
@[simp] theorem eqNil_p{id off:Nat}:eqNilV 1 (.p id off) .np=some false:=rfl
@[simp] theorem eqNil_m{id:Nat}:eqNilV 2 (.m id) .nm=some false:=rfl
noncomputable def mapupR(lo:Nat)(H:AHeap)(ag:Bool)(ks:List Nat):Option AVal→Option AVal→Option AVal→Option (Option AVal×AHeap)
 | some m,some k,some v=>(mapupV lo H ag ks k v m).map fun H'=>(none,H')
 | _,_,_=>none
@[simp] theorem op_mapup{ag:Bool}{ks:List Nat}{x k v:Opd}:opI call lo (.mapup ag ks x k v) e H=mapupR lo H ag ks (x.eval e) (k.eval e) (v.eval e):=by
 simp only[opI,aop]
 rcases x.eval e with _|a<;>rcases k.eval e with _|b<;>rcases v.eval e with _|c<;>rfl
@[simp] theorem tup_m{a:Nat}:(AVal.m a).tup=false:=rfl
@[simp] theorem cells_m{a:Nat}:(AVal.m a).cells=[.m a]:=rfl
noncomputable def lookM(z:AVal)(okf:Bool)(a b:Int):Option AObj→Option AVal
  | some (.map es)=>match findA true [1,1] [.i .i64 a,.i .i64 b] es 0 with
    | some (some (_,v))=>some (if okf then .tu [v,.b true] else v)
    | some none=>some (if okf then .tu [z,.b false] else z)
    | none=>none
  | _=>none
@[simp] theorem look_two{z:AVal}{okf:Bool}{id:Nat}{a b:Int}:lookV H true [1,1] z okf (.m id) (.ag [.i .i64 a,.i .i64 b])=lookM z okf a b (H.get id):=by
 simp only[lookV,mapEs,lookM]
 rcases H.get id with _|⟨c,esz,ro⟩|es
 ·rfl
 ·rfl
 ·simp[keyC]
  rcases findA true [1,1] [.i .i64 a,.i .i64 b] es 0 with _|_|⟨_,_⟩<;>rfl
@[simp] theorem look_none{z:AVal}{okf:Bool}{a b:Int}:lookM z okf a b (some (.map []))=some (if okf then .tu [z,.b false] else z):=by
 simp[lookM,findA]
@[simp] theorem look_some{z v:AVal}{okf:Bool}{a b a' b':Int}:lookM z okf a b (some (.map [(.ag [.i .i64 a',.i .i64 b'],v)]))=some (if a=a'∧b=b' then(if okf then .tu [v,.b true] else v) else(if okf then .tu [z,.b false] else z)):=by
 simp[lookM,keyC,findA]
 by_cases h1:a=a'<;>by_cases h2:b=b'<;>simp[h1,h2]
noncomputable def mapupM(lo id:Nat)(H:AHeap)(a b:Int)(l:List AVal):Option AObj→Option AHeap
  | some (.map es)=>if lo≤id then match findA true [1,1] [.i .i64 a,.i .i64 b] es 0 with
    | some (some (i,_))=>some (H.put id (some (.map (es.set i (.ag [.i .i64 a,.i .i64 b],.ag l)))))
    | some none=>some (H.put id (some (.map (es++[(.ag [.i .i64 a,.i .i64 b],.ag l)]))))
    | none=>none
    else none
  | _=>none
@[simp] theorem mapup_two{lo id:Nat}{a b:Int}{l:List AVal}:mapupV lo H true [1,1] (.ag [.i .i64 a,.i .i64 b]) (.ag l) (.m id)=mapupM lo id H a b l (H.get id):=by
 simp only[mapupV,mapupM]
 rcases H.get id with _|⟨c,esz,ro⟩|es
 ·simp
 ·simp
 ·simp[keyC]
  rcases findA true [1,1] [.i .i64 a,.i .i64 b] es 0 with _|_|⟨_,_⟩<;>rfl
@[simp] theorem mapup_none{lo id:Nat}{a b:Int}{l:List AVal}(hl:lo≤id):mapupM lo id H a b l (some (.map []))=some (H.put id (some (.map [(.ag [.i .i64 a,.i .i64 b],.ag l)]))):=by
 simp[mapupM,hl,findA]
@[simp] theorem mapup_some{lo id:Nat}{a b:Int}{l:List AVal}{v:AVal}(hl:lo≤id):mapupM lo id H a b l (some (.map [(.ag [.i .i64 a,.i .i64 b],v)]))=some (H.put id (some (.map [(.ag [.i .i64 a,.i .i64 b],.ag l)]))):=by
 simp[mapupM,hl,keyC,findA]
@[simp] theorem mapupR_some{lo:Nat}{ag:Bool}{ks:List Nat}{m k v:AVal}:mapupR lo H ag ks (some m) (some k) (some v)=(mapupV lo H ag ks k v m).map fun H'=>(none,H'):=rfl
end
end Go.RI
namespace Go.RI
open Go
instance:Enc (List Val):=⟨1,fun l=>[.fs false false l.length (encs l)],fun _=>rfl⟩
@[simp] theorem cells_vals{l:List Val}:Enc.cells l=[AVal.fs false false l.length (encs l)]:=rfl
instance:EncOk (List Val):={ snap:=fun _ _ _=>by simp,frz:=fun _ _ _ _=>by simp }
@[simp] theorem drop_vals{l:List (List Val)}{i:Nat}:(encs l).drop i=cellsO l[i]?++restE l (i+1):=by
 have:=drop_encs l i
 simpa[show Enc.sz (List Val)=1 from rfl] using this
@[simp] theorem len_vals{l:List (List Val)}:(encs l).length=l.length:=by have:=encs_len l;simpa[show Enc.sz (List Val)=1 from rfl] using this
def bothAt(a b:List Int)(i:Nat):Int:=match a[i]?,b[i]? with
 | some x,some y=>if y=x then x else -1
 | _,_=>-1
def bothG(a b:List Int):List Int:=(List.range (max a.length b.length)).map (bothAt a b)
theorem bothG_len(a b:List Int):(bothG a b).length=max a.length b.length:=by simp[bothG]
theorem bothG_get{a b:List Int}{i:Nat}{k:Int}(h:(bothG a b)[i]?=some k):k=bothAt a b i:=by
 unfold bothG at h
 rw[List.getElem?_map] at h
 rcases Nat.lt_or_ge i (max a.length b.length) with h1|h1
 ·rw[List.getElem?_range h1] at h;simpa using h.symm
 ·rw[List.getElem?_eq_none (by simpa using h1)] at h;cases h
def kindsL(l:List Val):List Int:=l.map Val.kind
@[simp] theorem kindsL_len{l:List Val}:(kindsL l).length=l.length:=by simp[kindsL]
def noteB(l:List Val):Bool:=decide ((l.length:Int)≤64)&&l.all mayV
def noteK:Option (List Int)→List Val→List Int
 | none,l=>kindsL l
 | some k,l=>bothG k (kindsL l)
def KV(H:AHeap)(lo:Nat→Prop)(v:AVal)(K:List Int):Prop :=
 (∃ id,v=.sl id 0 K.length (some K.length)∧lo id∧id<H.next∧H.get id=some (.cells (encs K) 1 false))∨v=.fs false false K.length (encs K)
theorem kv_keep{H H':AHeap}{lo:Nat→Prop}{v:AVal}{K:List Int}(h:KV H lo v K)(hn:H.next≤H'.next)(hk:∀ id,lo id→id<H.next→H'.get id=H.get id):KV H' lo v K:=by
 rcases h with⟨id,rfl,h1,h2,h3⟩|h
 ·exact .inl ⟨id,rfl,h1,by omega,by rw[hk id h1 h2];exact h3⟩
 ·exact .inr h
theorem kv_one{H:AHeap}{lo:Nat→Prop}{v:AVal}{K:List Int}(h:KV H lo v K):v.tup=false∧v.cells=[v]:=by
 rcases h with⟨id,rfl,_⟩|rfl<;>exact⟨rfl,rfl⟩
theorem kv_snap{H:AHeap}{lo:Nat→Prop}{k:Nat}{v:AVal}{K:List Int}(h:KV H lo v K):∃ t,snapV H (k+2) v=some (.fs t false K.length (encs K)):=by
 rcases h with⟨id,rfl,_,_,h⟩|rfl
 ·by_cases hn:K.length=0
  ·have:K=[]:=List.eq_nil_of_length_eq_zero hn
   subst this
   exact⟨false,by simp⟩
  ·exact⟨true,snap_lit hn h (by simp) (by simp) snap_encs⟩
 ·exact⟨false,by simp⟩
theorem kv_clone{H:AHeap}{P:Nat→Prop}{lo:Nat}{v:AVal}{K:List Int}(h:KV H P v K∨(v=.ns∧K=[]))(hl:lo≤H.next)(hK:K.length≤1000):∃ v' H',cloneV H 1 8 v=some (v',H')∧H.next≤H'.next∧Hold H' lo v' 1 K.length (encs K)∧∀ id,id<H.next→H'.get id=H.get id:=by
 by_cases hn:K.length=0
 ·have hk:K=[]:=List.eq_nil_of_length_eq_zero hn
  subst hk
  refine⟨.fs false true 0 [],H,?_,Nat.le_refl _,.inl ⟨.inl rfl,rfl,rfl⟩,fun _ _=>rfl⟩
  rcases h with(⟨id,rfl,_⟩|rfl)|⟨rfl,_⟩<;>rfl
 ·have hm:moreV H 1 v=some (K.length,encs K):=by
   rcases h with(⟨id,rfl,_,_,h⟩|rfl)|⟨_,h⟩
   ·exact more_lit h (by simp) hn
   ·simp only[moreV,if_neg hn]
    rw[if_pos (by simp)]
   ·subst h;simp at hn
  have hs:isSl v=true:=by
   rcases h with(⟨id,rfl,_,_,h⟩|rfl)|⟨_,h⟩
   ·rfl
   ·rfl
   ·subst h;simp at hn
  obtain⟨m,hm2⟩:∃ m,K.length=m+1:=⟨K.length-1,by omega⟩
  refine⟨.sl H.next 0 K.length none,H.push (.cells (encs K) 1 false),?_,by simp,.inr ⟨H.next,none,rfl,.inl rfl,hl,by simp,by simp,by simp⟩,fun id hid=>get_push_lt hid⟩
  unfold cloneV
  rw[hs,hm,hm2]
  simp only
  rw[if_pos (by simp[hm2];omega)]
theorem put_kind{L:List Int}{i:Nat}{k:Int}(h:i<L.length):(encs L).set i (.i .i64 k)=encs (L.set i k):=by
 obtain⟨x,hx⟩:=get_of_lt h
 have:=put_encs (k:=0) hx (m:=[AVal.i .i64 k]) (y:=k) (by simp[Enc.sz]) (by simp)
 simpa[show Enc.sz Int=1 from rfl] using this
theorem take_set{L M:List Int}{i:Nat}{x:Int}(hi:i<L.length)(ht:L.take i=M.take i)(hx:M[i]?=some x):(L.set i x).take (i+1)=M.take (i+1):=by
 rw[List.take_add_one,List.take_add_one,hx,←ht,List.take_set_of_le (Nat.le_refl _),List.getElem?_set_self hi]
theorem noteB_len{l:List Val}(h:noteB l=true):l.length≤64:=by
 simp only[noteB,Bool.and_eq_true,decide_eq_true_eq] at h;omega
theorem rep_kinds:∀ n,repCells [AVal.i .i64 0] n=encs (List.replicate n (0:Int))
 | 0=>rfl
 | n+1=>by simp[repCells,List.replicate_succ,rep_kinds n]
end Go.RI
namespace Go.Proofs.YtfhpkckjkofaoaaDoor
open Go Go.RI
section
variable {G:AHeap} (hG:G.next=2)
include hG
theorem t_both_in(a b:List Int)(ha:a.length≤1000)(hb:b.length≤1000)(t1 f1 t2 f2:Bool)(i m:Nat)(L:List Int)(hm:L.length=m)(him:i<m)(hmm:m≤1000)(R:Nat)(hR:3≤R)(Q:Post)(H:AHeap)
  (g1:H.get 2=some (.cells (encs L) 1 false)) (g2:H.get R=some (.cells [.fs t1 f1 a.length (encs a),.fs t2 f2 b.length (encs b)] 1 false)) (hn:R<H.next)
  (hQ1:(∀ x,a[i]?=some x→b[i]?=some x→False)→∀ H':AHeap,H'.get 2=some (.cells (encs (L.set i (-1))) 1 false)→H'.next=H.next→Q (.exit 1) [(0,.fs t1 f1 a.length (encs a)),(1,.fs t2 f2 b.length (encs b)),(5,.sl 2 0 m (some m)),(16,.i .i64 m),(17,.i .i64 i)] H')
  (hQ2:∀ x,a[i]?=some x→b[i]?=some x→∀ v,Q (.exit 2) [(0,.fs t1 f1 a.length (encs a)),(1,.fs t2 f2 b.length (encs b)),(5,.sl 2 0 m (some m)),(6,.i .i64 i),(16,.i .i64 m),(17,.i .i64 i),(22,.sl R 0 2 (some 2)),(23,.i .i64 2),(24,.i .i64 2),(25,v)] H) :
  wp (theCalls IP G 2) 2 (.loop L18a) Q [(0,.fs t1 f1 a.length (encs a)),(1,.fs t2 f2 b.length (encs b)),(5,.sl 2 0 m (some m)),(6,.i .i64 i),(16,.i .i64 m),(17,.i .i64 i),(22,.sl R 0 2 (some 2)),(23,.i .i64 2),(24,.i .i64 0)] H:=by
 have put:∀ v:Int,(encs L).set i (.i .i64 v)=encs (L.set i v):=fun v=>by
  obtain⟨x,hx⟩:=get_of_lt (l:=L) (i:=i) (by omega)
  have:=put_encs (k:=0) hx (m:=[AVal.i .i64 v]) (y:=v) (by simp -implicitDefEqProofs [Enc.sz]) (by simp)
  simpa[show Enc.sz Int=1 from rfl] using this
 have put1:=put (-1)
 have hi1:(i:Int)<(m:Int):=by omega
 have hw:i+1≤L.length:=by omega
 have w1:wrapI .i64 1=1:=rfl
 have w2:wrapI .i64 2=2:=rfl
 refine wp_loop_list (l:=[0,1]) (by simp) (fun k todo e H'=>e=[(0,.fs t1 f1 a.length (encs a)),(1,.fs t2 f2 b.length (encs b)),(5,.sl 2 0 m (some m)),(6,.i .i64 i),(16,.i .i64 m),(17,.i .i64 i),(22,.sl R 0 2 (some 2)),(23,.i .i64 2),(24,.i .i64 k)]∧H'=H∧k≤2∧(0<k→∃ x,a[i]?=some x)∧(1<k→∃ x,a[i]?=some x∧b[i]?=some x)) ?_ ?_ ?_
 ·rintro k x todo e H' hx hd hlt hlt2 hlt3 ⟨rfl,rfl,hk,hk1,hk2⟩
  have hk01:k=0∨k=1:=by simp at hlt;omega
  clear hlt hx hd
  rcases hk01 with rfl|rfl
  ·clear hk1 hk2
   by_cases hia:i<a.length
   ·obtain⟨y,hy⟩:=get_of_lt (l:=a) hia
    have h1:¬(a.length:Int)≤i:=by omega
    have h2:min (i:Int) ((a.length:Int)-1)=i:=by omega
    have h3:wrapI .i64 ((a.length:Int)-1)=(a.length:Int)-1:=wrap_ok (by omega) (by omega)
    have h4:(i:Int)<(a.length:Int):=by omega
    clear put hQ1 hQ2 hia
    simp -implicitDefEqProofs [L18a,g1,g2,h1,h2,h3,h4,hy,w1]
   ·have h1:(a.length:Int)≤i:=by omega
    have hno:=hQ1 fun x hx _=>by rw[List.getElem?_eq_none (by omega)] at hx;cases hx
    clear put hQ1 hQ2 hia
    simp -implicitDefEqProofs [L18a,g1,g2,h1,hi1,hw,put1]
    refine hno _ ?_ ?_<;>simp
  ·obtain⟨y,hy⟩:=hk1 (by omega)
   clear hk1 hk2
   have hia:i<a.length:=by
    rcases Nat.lt_or_ge i a.length with h|h
    ·exact h
    ·rw[List.getElem?_eq_none h] at hy;cases hy
   have h2:min (i:Int) ((a.length:Int)-1)=i:=by omega
   have h3:wrapI .i64 ((a.length:Int)-1)=(a.length:Int)-1:=wrap_ok (by omega) (by omega)
   have h4:(i:Int)<(a.length:Int):=by omega
   by_cases hib:i<b.length
   ·obtain⟨z,hz⟩:=get_of_lt (l:=b) hib
    have h1:¬(b.length:Int)≤i:=by omega
    have h5:(i:Int)<(b.length:Int):=by omega
    have hno:=hQ1
    by_cases hzy:z=y
    ·subst hzy
     clear put hQ1 hQ2 hia hib hno
     simp -implicitDefEqProofs [L18a,g1,g2,h1,h2,h3,h4,h5,hy,hz,w2]
    ·have hno:=hQ1 fun x hx hx2=>by rw[hy] at hx;cases hx;rw[hz] at hx2;cases hx2;exact hzy rfl
     clear put hQ1 hQ2 hia hib
     simp -implicitDefEqProofs [L18a,g1,g2,h1,h2,h3,h4,h5,hy,hz,hzy,hi1,hw,put1]
     refine hno _ ?_ ?_<;>simp
   ·have h1:(b.length:Int)≤i:=by omega
    have hno:=hQ1 fun x hx hx2=>by rw[List.getElem?_eq_none (by omega)] at hx2;cases hx2
    clear put hQ1 hQ2 hia hib
    simp -implicitDefEqProofs [L18a,g1,g2,h1,hi1,hw,put1]
    refine hno _ ?_ ?_<;>simp
 ·rintro e H' ⟨rfl,rfl,hk,hk1,hk2⟩
  obtain⟨x,hx1,hx2⟩:=hk2 (by simp)
  simp -implicitDefEqProofs [L18a]
  exact hQ2 x hx1 hx2 _
 ·simp
theorem t_both(a b:List Int)(ha:a.length≤1000)(hb:b.length≤1000)(t1 f1 t2 f2:Bool):pureR IP G 18 [.fs t1 f1 a.length (encs a),.fs t2 f2 b.length (encs b)]=some (.fs false false (bothG a b).length (encs (bothG a b))):=by
  have hl:=bothG_len a b
  have hmx:max (a.length:Int) b.length=((bothG a b).length:Int):=by rw[hl];omega
  have hm:(bothG a b).length≤1000:=by omega
  refine pure_run ip18 rfl ?_
  have h8:8*((bothG a b).length:Int)≤281474976710656:=by omega
  have hrep:∀ n,repCells [AVal.i .i64 0] n=encs (List.replicate n (0:Int)):=by
    intro n;induction n with
    | zero=>rfl
    | succ n ih=>simp -implicitDefEqProofs [repCells,List.replicate_succ,ih]
  simp -implicitDefEqProofs [I18,hG,hmx,h8,hrep]
  refine wp_loop_list (l:=bothG a b) (by omega) (fun i todo e H=>e=[(0,.fs t1 f1 a.length (encs a)),(1,.fs t2 f2 b.length (encs b)),(5,.sl 2 0 (bothG a b).length (some (bothG a b).length)),(16,.i .i64 (bothG a b).length),(17,.i .i64 i)]∧3≤H.next ∧
    ∃ L:List Int,L.length=(bothG a b).length∧H.get 2=some (.cells (encs L) 1 false)∧L.take i=(bothG a b).take i) ?_ ?_ ?_
  · rintro i x todo e H hx hd hlt hlt2 hlt3 ⟨rfl,hH,L,hL,hg,ht⟩
    have hxe:=bothG_get hx
    have hlt4:=hlt
    have next:∀ y,y=x→(L.set i y).take (i+1)=(bothG a b).take (i+1):=by
      intro y hy
      subst hy
      rw[List.take_add_one,List.take_add_one,hx,←ht,List.take_set_of_le (Nat.le_refl _),List.getElem?_set_self (by omega)]
    have n1:¬ 2=H.next:=by omega
    clear hlt
    simp -implicitDefEqProofs [L18b,hlt2,hlt3]
    refine t_both_in hG a b ha hb t1 f1 t2 f2 i _ L hL hlt4 hm H.next (by omega) _ _ (by simp -implicitDefEqProofs [n1,hg]) (by simp) (by simp) ?_ ?_
    · intro hno H' g1 g2
      simp -implicitDefEqProofs [hlt3]
      refine⟨by rw[g2];simp;omega,L.set i (-1),by simp -implicitDefEqProofs [hL],g1,next _ ?_⟩
      rw[hxe];unfold bothAt
      cases ha':a[i]? with
      | none=>rfl
      | some u =>
        cases hb':b[i]? with
        | none=>rfl
        | some w =>
          simp only
          rw[if_neg]
          intro h;subst h
          exact hno _ ha' hb'
    · intro y hy hy2 v
      have hia:i<a.length:=by
        rcases Nat.lt_or_ge i a.length with h|h
        · exact h
        · rw[List.getElem?_eq_none h] at hy;cases hy
      have h4:(i:Int)<(a.length:Int):=by omega
      have put:(encs L).set i (.i .i64 y)=encs (L.set i y):=by
        obtain⟨x,hx⟩:=get_of_lt (l:=L) (i:=i) (by omega)
        have:=put_encs (k:=0) hx (m:=[AVal.i .i64 y]) (y:=y) (by simp -implicitDefEqProofs [Enc.sz]) (by simp)
        simpa[show Enc.sz Int=1 from rfl] using this
      have hw:i+1≤L.length:=by omega
      have hyx:y=x:=by rw[hxe];unfold bothAt;rw[hy,hy2];simp
      have hnx:=next y hyx
      clear next hia hlt4
      simp -implicitDefEqProofs [hlt3,hlt2,h4,hy,hg,n1,hw,put]
      refine⟨by omega,L.set i y,by simp -implicitDefEqProofs [hL],by simp,?_⟩
      simpa using hnx
  · rintro e H ⟨rfl,hH,L,hL,hg,ht⟩
    have hLe:L=bothG a b:=by
      rw[←hL] at ht
      rw[List.take_length,hL,List.take_length] at ht
      exact ht
    subst hLe
    simp -implicitDefEqProofs [L18b]
    by_cases h0:(bothG a b).length=0
    · have:bothG a b=[]:=List.eq_nil_of_length_eq_zero h0
      rw[this];simp
    · simp -implicitDefEqProofs [h0,hG,hg]
  · exact⟨by simp,by simp -implicitDefEqProofs [hG],List.replicate (bothG a b).length 0,by simp,by simp -implicitDefEqProofs [hG],by simp⟩
end
end Go.Proofs.YtfhpkckjkofaoaaDoor
namespace Go.RI
open Go
def numV(n:Int):Val:=.mk 1 n [] [] []
def yesV(b:Bool):Val:=.mk 2 (if b then 1 else 0) [] [] []
def madeV(v:Val):Val×Int:=if mayV v then(v,0) else(zeroVal,4)
def unaryV(op:Int)(a:Val):Val×Int×Int :=
 if mayV a=false then(zeroVal,0,2)
 else if op=6 then(if a.kind=1 then(numV (wrapI .i64 (0-a.n)),0,0) else(zeroVal,2,0))
 else if op=7 then(if a.kind=2 then(yesV (decide (a.n=0)),0,0) else(zeroVal,2,0))
 else if op=8 then(if a.kind=3∨a.kind=4 then(numV ((a.s.length:Int)+a.l.length),0,0) else(zeroVal,2,0))
 else(zeroVal,0,2)
def intsV(op a b:Int):Val×Int :=
 if op=9 then(numV (wrapI .i64 (a+b)),0)
 else if op=10 then(numV (wrapI .i64 (a-b)),0)
 else if op=11 then(numV (wrapI .i64 (a*b)),0)
 else if op=17 then(yesV (decide (a≤b)),0)
 else if op=16 then(yesV (decide (a<b)),0)
 else if op=12 then(if b=0 then(zeroVal,1) else(numV (wrapI .i64 (a.tdiv b)),0))
 else if op=13 then(if b=0 then(zeroVal,1) else(numV (a.tmod b),0))
 else(zeroVal,2)
def textsV(op:Int)(a b:Str):Val×Int :=
 if op=9 then madeV (.mk 3 0 (a++b) [] [])
 else if op=17 then(yesV (leS a b),0)
 else if op=16 then(yesV (ltB a b),0)
 else(zeroVal,2)
def longerV(a:Val)(more:List Val):Val×Int:=madeV (.mk 4 0 [] (a.l++more) [])
def binV2(op:Int)(a b:Val):Val×Int :=
 if op=14 then(yesV (sameV a b),0)
 else if op=15 then(yesV (!sameV a b),0)
 else if a.kind=1∧b.kind=1 then intsV op a.n b.n
 else if a.kind=3∧b.kind=3 then textsV op a.s b.s
 else if op=18∧a.kind=4 then longerV a [b]
 else if op=9∧a.kind=4∧b.kind=4 then longerV a b.l
 else if op=19∧a.kind=4∧b.kind=1 then(if 0≤b.n∧b.n<a.l.length then(a.l[b.n.toNat]?.getD zeroVal,0) else(zeroVal,3))
 else(zeroVal,2)
def binaryV(op:Int)(a b:Val):Val×Int×Int :=
 if op<9∨19<op∨mayV a=false∨mayV b=false then(zeroVal,0,2) else((binV2 op a b).1,(binV2 op a b).2,0)
def listV(l:List Val):Val×Int×Int:=if l.all mayV then((madeV (.mk 4 0 [] l [])).1,(madeV (.mk 4 0 [] l [])).2,0) else(zeroVal,0,2)
def recV(ns:List Str)(l:List Val):Val×Int×Int :=
 if recordS ns=true∧l.length=ns.length∧l.all mayV=true then((madeV (.mk 5 0 [] l ns)).1,(madeV (.mk 5 0 [] l ns)).2,0) else(zeroVal,0,2)
def fieldV(a:Val)(s:Str):Val×Int×Int :=
  if mayV a=false∨recordS [s]=false then(zeroVal,0,2)
  else if a.kind=5 then(match a.names.findIdx? (·==s) with
    | some i=>(a.l[i]?.getD zeroVal,0,0)
    | none=>(zeroVal,6,0))
  else(zeroVal,2,0)
mutual
def hasTV:Shp→Val→Bool
 | s,.mk k _ _ l ns=>decide (k=s.kind)&&decide (ns=s.names)&&hasL s l 0
def hasL:Shp→List Val→Nat→Bool
 | _,[],_=>true
 | s,v::l,i=>hasTV (s.l[if s.kind=4 then 0 else i]?.getD default) v&&hasL s l (i+1)
end
def isTV(v:Val)(t:Str):Bool:=(typedS t).2&&(mayV v&&hasTV (typedS t).1 v)
def resV(r:Val×Int×Int):Option Val:=if r.2.1=0∧r.2.2=0 then some r.1 else none
def intsS(op:Int)(a b:Val):Option Val:=if a.kind=1∧b.kind=1 then resV (binaryV op a b) else none
def opS(i:Stp)(l:List Val):Option Val :=
 let a:=l[0]?.getD zeroVal
 let b:=l[1]?.getD zeroVal
 if i.op=20 then resV (listV l)
 else if i.op=21 then resV (recV i.names l)
 else if i.op=22 then resV (fieldV a i.s)
 else if i.op=23 then(if isTV a i.s then some a else none)
 else if i.op=40 then(if a.kind=i.n then some a else none)
 else if i.op=41 then resV (unaryV 6 a)
 else if i.op=42 then resV (unaryV 7 a)
 else if i.op=43 then intsS 9 a b
 else if i.op=44 then intsS 10 a b
 else if i.op=45 then intsS 11 a b
 else if i.op=46 then intsS 16 a b
 else if i.op=47 then intsS 17 a b
 else if i.op=48 then intsS 9 a (numV i.n)
 else if i.op=49 then intsS 16 a (numV i.n)
 else if(needs i).1=2 then resV (binaryV i.op a b)
 else resV (unaryV i.op a)
def stepV(i:Stp)(l:List Val):Option Val :=
 if(needs i).2.2=true∧(needs i).1≤l.length∧(l.length:Int)≤(needs i).2.1∧l.all mayV=true then opS i l else none
def ofO(homes made:List Val)(o:Opn):Val :=
 if o.kind=1 then homes[o.n.toNat]?.getD zeroVal else if o.kind=2 then made[o.n.toNat]?.getD zeroVal else o.v
def stepsV(homes:List Val):List Stp→List Val→Option (List Val)
  | [],made=>some made
  | i::l,made=>match stepV i (i.l.map (ofO homes made)) with
    | some v=>stepsV homes l (made++[v])
    | none=>none
end Go.RI
namespace Go.RI
open Go
section
variable {call:CallI} {lo:Nat} {xs:List Item} {kill:List Nat} {Q:Post} {dst:Option Nat} {op:IOp} {re:ReH} {e:Env} {H:AHeap}
end
end Go.RI
namespace Go.RI
open Go
mutual
def deepOk:Shp→Prop
 | .mk k ns l=>((k=4→l.length=1)∧(k=5→l.length=ns.length))∧deepOkL l
def deepOkL:List Shp→Prop
 | []=>True
 | s::l=>deepOk s∧deepOkL l
end
end Go.RI
namespace Go.RI
open Go
section
variable {H:AHeap}
@[simp] theorem boxR_fs{t f:Bool}{n:Nat}{l:List AVal}:boxR H (.fs t f n l)=some (some (.p H.next 0),H.push (.cells [.fs t f n l] 1 false)):=rfl
def findN(k:Int):List (AVal×AVal)→Nat→Option (Option (Nat×AVal)):=findA false [1] [.i .i64 k]
@[simp] theorem findN_nil{k:Int}{i:Nat}:findN k [] i=some none:=rfl
@[simp] theorem findN_cons{k k':Int}{v:AVal}{es:List (AVal×AVal)}{i:Nat}:findN k ((.i .i64 k',v)::es) i=if k=k' then some (some (i,v)) else findN k es (i+1):=by
 unfold findN
 simp only[findA,keyC]
 by_cases h:k=k'
 ·subst h;simp
 ·simp[h]
noncomputable def lookN(z:AVal)(okf:Bool)(k:Int):Option AObj→Option AVal
  | some (.map es)=>match findN k es 0 with
    | some (some (_,v))=>some (if okf then .tu [v,.b true] else v)
    | some none=>some (if okf then .tu [z,.b false] else z)
    | none=>none
  | _=>none
@[simp] theorem look_num{z:AVal}{okf:Bool}{id:Nat}{k:Int}:lookV H false [1] z okf (.m id) (.i .i64 k)=lookN z okf k (H.get id):=by
 simp only[lookV,mapEs,lookN]
 rcases H.get id with _|⟨c,esz,ro⟩|es
 ·rfl
 ·rfl
 ·simp[keyC,findN]
  rcases findA false [1] [.i .i64 k] es 0 with _|_|⟨_,_⟩<;>rfl
def lookF(z:AVal)(okf:Bool):Option (Option (Nat×AVal))→Option AVal
 | some (some (_,v))=>some (if okf then .tu [v,.b true] else v)
 | some none=>some (if okf then .tu [z,.b false] else z)
 | none=>none
@[simp] theorem lookF_some{z v:AVal}{okf:Bool}{i:Nat}:lookF z okf (some (some (i,v)))=some (if okf then .tu [v,.b true] else v):=rfl
@[simp] theorem lookF_none{z:AVal}{okf:Bool}:lookF z okf (some none)=some (if okf then .tu [z,.b false] else z):=rfl
@[simp] theorem lookN_map{z:AVal}{okf:Bool}{k:Int}{es:List (AVal×AVal)}:lookN z okf k (some (.map es))=lookF z okf (findN k es 0):=by
 simp only[lookN]
 rcases findN k es 0 with _|_|⟨_,_⟩<;>rfl
noncomputable def upF(id:Nat)(H:AHeap)(k v:AVal)(es:List (AVal×AVal)):Option (Option (Nat×AVal))→Option AHeap
 | some none=>some (H.put id (some (.map (es++[(k,v)]))))
 | some (some (i,_))=>some (H.put id (some (.map (es.set i (k,v)))))
 | none=>none
@[simp] theorem upF_none{id:Nat}{k v:AVal}{es:List (AVal×AVal)}:upF id H k v es (some none)=some (H.put id (some (.map (es++[(k,v)])))):=rfl
noncomputable def upN(lo id:Nat)(H:AHeap)(k:Int)(v:AVal):Option AObj→Option AHeap
 | some (.map es)=>if lo≤id∧v.tup=false then upF id H (.i .i64 k) v es (findN k es 0) else none
 | _=>none
@[simp] theorem upN_map{lo id:Nat}{k:Int}{v:AVal}{es:List (AVal×AVal)}:upN lo id H k v (some (.map es))=if lo≤id∧v.tup=false then upF id H (.i .i64 k) v es (findN k es 0) else none:=rfl
@[simp] theorem up_num{lo id:Nat}{k:Int}{v:AVal}:mapupV lo H false [1] (.i .i64 k) v (.m id)=upN lo id H k v (H.get id):=by
 simp only[mapupV,upN]
 by_cases hc:lo≤id∧v.tup=false
 ·rw[if_pos hc]
  rcases H.get id with _|⟨c,esz,ro⟩|es
  ·rfl
  ·rfl
  ·simp only[if_pos hc]
   simp[keyC,findN]
   rcases findA false [1] [.i .i64 k] es 0 with _|_|⟨_,_⟩<;>rfl
 ·rw[if_neg hc]
  rcases H.get id with _|⟨c,esz,ro⟩|es
  ·rfl
  ·rfl
  ·simp only[if_neg hc]
end
@[simp] theorem num_bulk(n:Int):(numV n).bulk=1:=by simp[numV,Val.bulk,bulkL,bulkS]
@[simp] theorem yes_bulk(b:Bool):(yesV b).bulk=1:=by simp[yesV,Val.bulk,bulkL,bulkS]
@[simp] theorem zero_bulk:zeroVal.bulk=1:=by simp[zeroVal,Val.bulk,bulkL,bulkS]
theorem made_bulk(v:Val):(madeV v).1.bulk≤v.bulk:=by
 unfold madeV
 split
 ·exact Nat.le_refl _
 ·have:=v.bulk_pos;simp;omega
end Go.RI
namespace Go.RI
open Go
theorem own_names{v:Val}(h:ownV v=true):v.names.length≤8:=by
 unfold ownV at h
 split at h
 ·rename_i hk;simp[bareV] at h;simp[h.2.2]
 split at h
 ·rename_i hk;simp[bareV] at h;simp[h.2]
 split at h
 ·rename_i hk;simp[bareV] at h;simp[h.2.2]
 split at h
 ·rename_i hk;simp[bareV] at h;simp[h.2.2]
 split at h
 ·rename_i hk;simp[bareV] at h;simp[h.2.2]
 split at h
 ·rename_i hk;simp[bareV] at h;simp[h.2.2]
 split at h
 ·rename_i hk;simp[bareV] at h;omega
 ·cases h
mutual
theorem fits_bulk:∀(v:Val) (w left:Int),(fitsV v w left).2=true→(v.bulk:Int)≤9*(left-(fitsV v w left).1)
  | .mk k n s l ns,w,left,h=>by
    simp only[fitsV] at h ⊢
    split at h
    · cases h
    · rename_i hc
      rw[if_neg hc]
      have ho:ownV (.mk k n s l ns)=true:=by
        cases ho:ownV (.mk k n s l ns) with
        | true=>rfl
        | false=>exact absurd (.inr (.inr ho)) hc
      have h1:=own_names ho
      simp only[Val.names_mk] at h1
      have h2:=lens_bulk ns
      have h3:=fitsL_bulk l (w+1) _ h
      simp only[Val.bulk]
      omega
theorem fitsL_bulk:∀(l:List Val) (w left:Int),(fitsL l w left).2=true→(bulkL l:Int)≤9*(left-(fitsL l w left).1)
  | [],_,_,_=>by simp[bulkL,fitsL]
  | v::l,w,left,h=>by
    simp only[fitsL] at h ⊢
    split at h
    · rename_i hv
      rw[if_pos hv]
      have h1:=fits_bulk v w left hv
      have h2:=fitsL_bulk l w _ h
      simp only[bulkL]
      omega
    · cases h
end
end Go.RI
namespace Go.RI
open Go
def inR(n:Int):Prop:=-9223372036854775808≤n∧n≤9223372036854775807
end Go.RI
namespace Go.RI
open Go
mutual
theorem fitsV_mono:∀(v:Val) (w w' left left':Int),w'≤w→left≤left'→(fitsV v w left).2=true→(fitsV v w' left').2=true∧(fitsV v w' left').1=(fitsV v w left).1+(left'-left)
  | .mk k n s l ns,w,w',left,left',hw,hl,h=>by
    simp only[fitsV] at h ⊢
    split at h
    · cases h
    · rename_i hc
      rw[if_neg hc]
      have hc':¬(8≤w'∨left'-(1+s.length)-lens ns<0∨ownV (.mk k n s l ns)=false):=fun h=>hc (by
        rcases h with h|h|h
        · exact .inl (by omega)
        · exact .inr (.inl (by omega))
        · exact .inr (.inr h))
      rw[if_neg hc']
      obtain⟨h1,h2⟩:=fitsL_mono l (w+1) (w'+1) _ (left'-(1+s.length)-lens ns) (by omega) (by omega) h
      exact⟨h1,by rw[h2];omega⟩
theorem fitsL_mono:∀(l:List Val) (w w' left left':Int),w'≤w→left≤left'→(fitsL l w left).2=true→(fitsL l w' left').2=true∧(fitsL l w' left').1=(fitsL l w left).1+(left'-left)
  | [],w,w',left,left',hw,hl,h=>⟨rfl,by simp only[fitsL];omega⟩
  | v::l,w,w',left,left',hw,hl,h=>by
    simp only[fitsL] at h ⊢
    split at h
    · rename_i hc
      obtain⟨h1,h2⟩:=fitsV_mono v w w' left left' hw hl hc
      rw[if_pos hc,if_pos h1]
      obtain⟨h3,h4⟩:=fitsL_mono l w w' _ (fitsV v w' left').1 hw (by omega) h
      exact⟨h3,by rw[h4,h2];omega⟩
    · cases h
end
end Go.RI
namespace Go.RI
open Go
def makesI(op n:Int):Int :=
 if op=6∨op=8∨op=10∨op=11∨op=12∨op=13∨op=41∨op=43∨op=44∨op=45∨op=48 then 1
 else if op=7∨op=14∨op=15∨op=16∨op=17∨op=42∨op=46∨op=47∨op=49 then 2
 else if op=20∨op=18 then 4
 else if op=21 then 5
 else if op=40 then n
 else -1
def typedI(op:Int):Int×Int×Bool :=
 if op=6 then(41,1,true) else if op=7 then(42,2,true) else if op=9 then(43,1,true) else if op=10 then(44,1,true)
 else if op=11 then(45,1,true) else if op=16 then(46,1,true) else if op=17 then(47,1,true) else(0,0,false)
structure GS where
 out:List Stp
 hs:List Int
 pl:List Int
def stpKind(i:Stp):Int:=makesI i.op i.n
def knownI(g:GS)(o:Opn):Int:=if o.kind=1 then g.hs[o.n.toNat]?.getD 0 else if o.kind=2 then stpKind (g.out[o.n.toNat]?.getD default) else o.v.kind
def saysI(K:List Int)(g:GS)(o:Opn)(k:Int):Bool:=decide (o.kind=1)&&(decide (g.hs[o.n.toNat]?.getD 0=-1)&&(decide (o.n<K.length)&&decide (K[o.n.toNat]?.getD 0=k)))
def checkI(K:List Int)(g:GS)(o:Opn)(k:Int):GS:=if saysI K g o k=true then⟨g.out++[⟨40,k,[o],[],[]⟩],g.hs.set o.n.toNat k,g.pl⟩ else g
def chkL(K:List Int)(k:Int):GS→List Opn→GS
 | g,[]=>g
 | g,o::l=>chkL K k (checkI K g o k) l
def movedO(pl:List Int)(o:Opn):Opn:=if o.kind=2 then{ o with n:=pl[o.n.toNat]?.getD 0 } else o
def chkG(K:List Int)(g:GS)(i:Stp):GS:=if(typedI i.op).2.2=true then chkL K (typedI i.op).2.1 g (i.l.map (movedO g.pl)) else g
def opG(g:GS)(op:Int)(l:List Opn):Int:=if(typedI op).2.2=true then(if l.all (fun o=>decide (knownI g o=(typedI op).2.1))=true then(typedI op).1 else op) else op
def noteG(hs:List Int)(i:Stp)(l:List Opn):List Int:=if i.op=40∧(l[0]?.getD default).kind=1 then hs.set (l[0]?.getD default).n.toNat i.n else hs
def turnG(K:List Int)(g:GS)(i:Stp):Stp:=⟨opG (chkG K g i) i.op (i.l.map (movedO g.pl)),i.n,i.l.map (movedO g.pl),i.s,i.names⟩
def stepG(K:List Int)(g:GS)(i:Stp):GS:=⟨(chkG K g i).out++[turnG K g i],noteG (chkG K g i).hs i (i.l.map (movedO g.pl)),g.pl++[((chkG K g i).out.length:Int)]⟩
structure GoodG (nh:Int) (g:GS) (m:Nat):Prop where
 fits:Fits nh g.out
 hs:g.hs.length=nh.toNat
 pl:g.pl.length=m
 at_:∀(j:Nat) (p:Int),g.pl[j]?=some p→0≤p∧p<g.out.length
end Go.RI
namespace Go.RI
open Go
end Go.RI
namespace Go.RI
open Go
end Go.RI
namespace Go.RI
open Go
structure FS where
 out:List Stp
 pl:List Opn
def allC(l:List Opn):Bool:=l.all fun o=>decide (o.kind=3)
def knownF(i:Stp):Option Val:=if allC i.l=true then stepV i (i.l.map Opn.v) else none
def NoIs(out:List Stp)(o:Opn):Prop:=o.kind=2→∀ s,out[o.n.toNat]?=some s→s.op≠23∧s.op≠40
structure GoodF (nh:Int) (f:FS) (m:Nat):Prop where
 fits:Fits nh f.out
 pl:f.pl.length=m
 plfit:∀ p∈f.pl,opnFits nh f.out.length p=true
 plno:∀ p∈f.pl,NoIs f.out p
 left:∀(k:Nat) (s:Stp),f.out[k]?=some s→knownF s=none∧∀ o∈s.l,NoIs f.out o
 le:f.out.length≤m
structure SemF (homes:List Val) (f:FS) (made md:List Val):Prop where
 run:stepsV homes f.out []=some made
 at_:∀(j:Nat) (p:Opn),f.pl[j]?=some p→md[j]?=some (ofO homes made p)
end Go.RI
namespace Go.RI
open Go
structure Sem (homes:List Val) (g:GS) (made md:List Val):Prop where
 run:stepsV homes g.out []=some made
 at_:∀(j:Nat) (p:Int),g.pl[j]?=some p→made[p.toNat]?=md[j]?
 hs:∀(h:Nat) (k:Int),g.hs[h]?=some k→k≠-1→∃ v,homes[h]?=some v∧v.kind=k
end Go.RI
namespace Go.RI
open Go
structure KS where
 l:List Stp
 hs:List Int
def knownK(k:KS)(o:Opn):Int:=knownI ⟨k.l,k.hs,[]⟩ o
def addK(k:KS)(i:Stp):KS:=⟨k.l++[i],noteG k.hs i i.l⟩
def ks0(nh:Int):KS:=⟨[],List.replicate nh.toNat (-1)⟩
def addL:KS→List Stp→KS
 | k,[]=>k
 | k,i::l=>addL (addK k i) l
def factsK(nh:Int)(l:List Stp):KS:=addL (ks0 nh) l
def allK(k:KS)(l:List Opn)(c:Int):Bool:=l.all fun o=>decide (knownK k o=c)
def isInt(op:Int):Bool:=decide (op=6)||decide (op=10)||decide (op=11)||decide (op=41)||decide (op=43)||decide (op=44)||decide (op=45)||decide (op=46)||decide (op=47)||decide (op=48)||decide (op=49)
def sureK(k:KS)(i:Stp):Bool :=
 if i.op=14∨i.op=15 then true
 else if i.op=40 then allK k i.l i.n
 else if i.op=7∨i.op=42 then allK k i.l 2
 else if i.op=8 then allK k i.l 3||allK k i.l 4
 else if isInt i.op=true then allK k i.l 1
 else false
end Go.RI
namespace Go.RI
open Go
structure OS where
 k:KS
 pl:List Opn
def idxS(l:List Stp)(j:Stp):Int:=idxF (fun t=>decide (j=t)) l 0
structure GoodO (nh:Int) (s:OS) (m:Nat):Prop where
 fits:Fits nh s.k.l
 k:s.k=factsK nh s.k.l
 pl:s.pl.length=m
 plfit:∀ p∈s.pl,opnFits nh s.k.l.length p=true
 le:s.k.l.length≤m
 nodup:∀(a b:Nat) (t:Stp),a<b→s.k.l[a]?=some t→s.k.l[b]?=some t→False
 chk:∀(n:Nat) (t:Stp),s.k.l[n]?=some t→t.op=40→sureK (factsK nh (s.k.l.take n)) t=false
structure SemP (homes:List Val) (l:List Stp) (pl:List Opn) (made md:List Val):Prop where
 run:stepsV homes l []=some made
 at_:∀(j:Nat) (p:Opn),pl[j]?=some p→md[j]?=some (ofO homes made p)
end Go.RI
namespace Go.RI
open Go
def atN(nd:List Bool)(n:Nat):Bool:=nd[n]?.getD false
structure Needed (nh:Int) (l:List Stp) (ops:List Opn) (nd:List Bool):Prop where
 len:nd.length=l.length
 sure:∀(n:Nat) (s:Stp),l[n]?=some s→atN nd n=false→sureK (factsK nh (l.take n)) s=true
 opsN:∀ o∈ops,o.kind=2→atN nd o.n.toNat=true
 closed:∀(m:Nat) (s:Stp),l[m]?=some s→atN nd m=true→∀ o∈s.l,o.kind=2→atN nd o.n.toNat=true
 from_:∀(n:Nat) (s:Stp),l[n]?=some s→atN nd n=true→sureK (factsK nh (l.take n)) s=false∨(∃ o∈ops,o.kind=2∧o.n.toNat=n)∨∃(m:Nat) (t:Stp),n<m∧l[m]?=some t∧atN nd m=true∧∃ o∈t.l,o.kind=2∧o.n.toNat=n
theorem lt_of_get{α:Type}{l:List α}{n:Nat}{x:α}(h:l[n]?=some x):n<l.length:=by
 rcases Nat.lt_or_ge n l.length with h1|h1
 ·exact h1
 ·rw[List.getElem?_eq_none h1] at h;cases h
section
variable {nh:Int} {l:List Stp} {ops:List Opn} {nd:List Bool}
end
structure PruneAll (x:Pce) (s:OS) (sets:List Opn) (cond:Opn) (nd:List Bool):Prop where
 good:GoodO x.homes s x.ins.length
 setsF:∀ o∈sets,opnFits x.homes s.k.l.length o=true
 condF:if x.exit=2 then opnFits x.homes s.k.l.length cond=true else cond=x.cond∧cond.kind=0
 nd:Needed x.homes s.k.l (sets++[cond]) nd
end Go.RI
namespace Go.RI
open Go
end Go.RI
namespace Go.RI
open Go
def room(g:GS):Nat:=g.out.length+g.hs.count (-1)
end Go.RI
namespace Go.RI
open Go
end Go.RI
namespace Go.RI
open Go
structure OpB where
 o:Opn
 b:Bool
instance:Enc OpB:=⟨7,fun x=>[.i .i64 x.o.kind,.i .i64 x.o.n,.i .i64 x.o.v.kind,.i .i64 x.o.v.n,.s x.o.v.s,if x.b then .ns else .fs false false x.o.v.l.length (encs x.o.v.l),if x.b then .ns else .fs false false x.o.v.names.length (encs x.o.v.names)],fun _=>rfl⟩
@[simp] theorem cells_opB(x:OpB):Enc.cells x=[.i .i64 x.o.kind,.i .i64 x.o.n,.i .i64 x.o.v.kind,.i .i64 x.o.v.n,.s x.o.v.s,if x.b then .ns else .fs false false x.o.v.l.length (encs x.o.v.l),if x.b then .ns else .fs false false x.o.v.names.length (encs x.o.v.names)]:=rfl
theorem sz_opB:Enc.sz OpB=7:=rfl
end Go.RI
namespace Go.RI
open Go
end Go.RI
namespace Go.RI
open Go
section
variable {call:CallI} {lo:Nat} {e:Env} {H:AHeap}
noncomputable def cpyR(lo:Nat)(H:AHeap)(esz:Nat):Option AVal→Option AVal→Option (Option AVal×AHeap)
 | some a,some b=>(cpyV lo H esz a b).map fun(v,H')=>(some v,H')
 | _,_=>none
@[simp] theorem op_cpy{esz:Nat}{x y:Opd}:opI call lo (.cpy esz x y) e H=cpyR lo H esz (x.eval e) (y.eval e):=by
 simp only[opI,aop,cpyR]
 rcases x.eval e with _|a<;>rcases y.eval e with _|b<;>rfl
theorem cpyR_sl{esz id off len id2 off2 len2 n e2:Nat}{c c2:Option Nat}{cs ys:List AVal}(hn:min len2 len=n)(h0:0<n)(hs:rowAt H id2 off2 (n*esz)=some ys)(hlo:lo≤id)(hg:H.get id=some (.cells cs e2 false))(hb:off+n*esz≤cs.length)(hy:ys.length=n*esz) :
  cpyR lo H esz (some (.sl id off len c)) (some (.sl id2 off2 len2 c2))=some (some (.i .i64 n),H.put id (some (.cells (putCells cs off ys) e2 false))):=by
 have h1:¬ n=0:=by omega
 simp[cpyR,cpyV,srcLen,srcCells,hn,h1,hs,hlo,hg,hb,hy]
end
end Go.RI
namespace Go.RI
open Go
instance:Enc Bool:=⟨1,fun b=>[.b b],fun _=>rfl⟩
instance:EncOk Bool:={ snap:=fun _ _ _=>by simp[Enc.cells],frz:=fun _ _ _ _=>by simp[Enc.cells]}
@[simp] theorem cells_bool{b:Bool}:Enc.cells b=[AVal.b b]:=rfl
@[simp] theorem drop_bool{l:List Bool}{i:Nat}:(encs l).drop i=cellsO l[i]?++restE l (i+1):=by
 have:=drop_encs l i
 simpa[show Enc.sz Bool=1 from rfl] using this
@[simp] theorem len_bool{l:List Bool}:(encs l).length=l.length:=by have:=encs_len l;simpa[show Enc.sz Bool=1 from rfl] using this
@[simp] theorem take_bool{l:List Bool}:(encs l).take l.length=encs l:=List.take_of_length_le (by simp)
@[simp] theorem get_bool{l:List Bool}{i:Nat}:(encs l)[i]?=l[i]?.map AVal.b:=by
 have:=get_encs (l:=l) (i:=i) (k:=0) (by simp[Enc.sz])
 simp only[show Enc.sz Bool=1 from rfl,Nat.mul_one,Nat.add_zero] at this
 rw[this]
 cases l[i]?<;>simp[cellsO]
theorem set_bool{l:List Bool}{i:Nat}{b:Bool}(h:i<l.length):(encs l).set i (.b b)=encs (l.set i b):=by
 obtain⟨x,hx⟩:=get_of_lt h
 have:=put_encs (k:=0) hx (m:=[AVal.b b]) (y:=b) (by simp[Enc.sz]) (by simp)
 simpa[show Enc.sz Bool=1 from rfl] using this
end Go.RI
namespace Go.RI
open Go
structure Ins3 where
 op:Int
 a:Int
 b:Int
 deriving Inhabited
structure Fnc where
 name:Str
 args:Int
 locals:Int
 code:List Ins3
 deriving Inhabited
structure Prg where
 funcs:List Fnc
 consts:List Val
 deriving Inhabited
structure Hnd where
 at_:Int
 height:Int
 deriving Inhabited
structure Plc where
 reached:Bool
 height:Int
 tries:List Hnd
 deriving Inhabited
structure Blk where
 at_:Nat
 many:Nat
 exit:Int
 to:Int
 deriving Inhabited
instance:Enc Ins3:=⟨3,fun x=>[.i .i64 x.op,.i .i64 x.a,.i .i64 x.b],fun _=>rfl⟩
@[simp] theorem cells_ins3{x:Ins3}:Enc.cells x=[AVal.i .i64 x.op,.i .i64 x.a,.i .i64 x.b]:=rfl
instance:Enc Fnc:=⟨4,fun x=>[.s x.name,.i .i64 x.args,.i .i64 x.locals,.fs false false x.code.length (encs x.code)],fun _=>rfl⟩
@[simp] theorem cells_fnc{x:Fnc}:Enc.cells x=[AVal.s x.name,.i .i64 x.args,.i .i64 x.locals,.fs false false x.code.length (encs x.code)]:=rfl
instance:Enc Prg:=⟨2,fun x=>[.fs false false x.funcs.length (encs x.funcs),.fs false false x.consts.length (encs x.consts)],fun _=>rfl⟩
@[simp] theorem cells_prg{x:Prg}:Enc.cells x=[AVal.fs false false x.funcs.length (encs x.funcs),.fs false false x.consts.length (encs x.consts)]:=rfl
instance:Enc Hnd:=⟨2,fun x=>[.i .i64 x.at_,.i .i64 x.height],fun _=>rfl⟩
@[simp] theorem cells_hnd{x:Hnd}:Enc.cells x=[AVal.i .i64 x.at_,.i .i64 x.height]:=rfl
instance:Enc Plc:=⟨3,fun x=>[.b x.reached,.i .i64 x.height,.fs false false x.tries.length (encs x.tries)],fun _=>rfl⟩
@[simp] theorem cells_plc{x:Plc}:Enc.cells x=[AVal.b x.reached,.i .i64 x.height,.fs false false x.tries.length (encs x.tries)]:=rfl
instance:Enc Blk:=⟨4,fun x=>[.i .i64 x.at_,.i .i64 x.many,.i .i64 x.exit,.i .i64 x.to],fun _=>rfl⟩
@[simp] theorem cells_blk{x:Blk}:Enc.cells x=[AVal.i .i64 x.at_,.i .i64 x.many,.i .i64 x.exit,.i .i64 x.to]:=rfl
instance:EncOk Ins3:={ snap:=fun _ _ _=>by simp,frz:=fun _ _ _ _=>by simp }
instance:EncOk Fnc:={ snap:=fun _ _ _=>by simp,frz:=fun _ _ _ _=>by simp }
instance:EncOk Prg:={ snap:=fun _ _ _=>by simp,frz:=fun _ _ _ _=>by simp }
instance:EncOk Hnd:={ snap:=fun _ _ _=>by simp,frz:=fun _ _ _ _=>by simp }
instance:EncOk Plc:={ snap:=fun _ _ _=>by simp,frz:=fun _ _ _ _=>by simp }
instance:EncOk Blk:={ snap:=fun _ _ _=>by simp,frz:=fun _ _ _ _=>by simp }
@[simp] theorem drop_ins3{l:List Ins3}{i:Nat}:(encs l).drop (i*3)=cellsO l[i]?++restE l (i+1):=drop_encs l i
@[simp] theorem drop_fnc{l:List Fnc}{i:Nat}:(encs l).drop (i*4)=cellsO l[i]?++restE l (i+1):=drop_encs l i
@[simp] theorem drop_blk{l:List Blk}{i:Nat}:(encs l).drop (i*4)=cellsO l[i]?++restE l (i+1):=drop_encs l i
@[simp] theorem drop_plc{l:List Plc}{i:Nat}:(encs l).drop (i*3)=cellsO l[i]?++restE l (i+1):=drop_encs l i
@[simp] theorem drop_hnd{l:List Hnd}{i:Nat}:(encs l).drop (i*2)=cellsO l[i]?++restE l (i+1):=drop_encs l i
@[simp] theorem len_ins3{l:List Ins3}:(encs l).length=l.length*3:=encs_len l
@[simp] theorem len_fnc{l:List Fnc}:(encs l).length=l.length*4:=encs_len l
@[simp] theorem len_blk{l:List Blk}:(encs l).length=l.length*4:=encs_len l
@[simp] theorem len_plc{l:List Plc}:(encs l).length=l.length*3:=encs_len l
@[simp] theorem len_hnd{l:List Hnd}:(encs l).length=l.length*2:=encs_len l
@[simp] theorem take_ins3{l:List Ins3}:(encs l).take (l.length*3)=encs l:=List.take_of_length_le (by simp)
@[simp] theorem take_fnc{l:List Fnc}:(encs l).take (l.length*4)=encs l:=List.take_of_length_le (by simp)
@[simp] theorem take_blk{l:List Blk}:(encs l).take (l.length*4)=encs l:=List.take_of_length_le (by simp)
@[simp] theorem take_plc{l:List Plc}:(encs l).take (l.length*3)=encs l:=List.take_of_length_le (by simp)
@[simp] theorem take_hnd{l:List Hnd}:(encs l).take (l.length*2)=encs l:=List.take_of_length_le (by simp)
def plainI(x:Ins3):Bool:=decide (1≤x.op)&&decide (x.op≤23)
def turnI(x:Ins3):Bool:=decide (x.op=24)||decide (x.op=25)
def tryI(x:Ins3):Bool:=decide (x.op=26)
def rch(pl:List Plc)(i:Nat):Bool:=(pl[i]?.map Plc.reached).getD false
def leads(code:List Ins3)(j i:Nat):Prop:=∃ x,code[j]?=some x∧((i=j+1∧x.op≠24∧x.op≠28∧x.op≠30)∨((turnI x=true∨tryI x=true)∧x.a=i))
structure Known (code:List Ins3) (pl:List Plc):Prop where
 len:pl.length=code.length
 zero:rch pl 0=true
 on:∀ i x,code[i]?=some x→rch pl i=true→(x.op≠24→x.op≠28→x.op≠30→rch pl (i+1)=true)∧(turnI x=true∨tryI x=true→0≤x.a∧rch pl x.a.toNat=true)
 from_:∀ i,rch pl i=true→i≠0→∃ j,rch pl j=true∧leads code j i
def isBeg(ks:List Int)(i:Nat):Bool:=decide ((i:Int)∈ks)
end Go.RI
namespace Go.RI
open Go
structure BlkOk (code:List Ins3) (ks:List Int) (j m:Nat):Prop where
 le:j≤code.length→j+m≤code.length
 mid:∀ k,j<k→k<j+m→isBeg ks k=false
 in_:∀ k x,j≤k→k<j+m→code[k]?=some x→plainI x=true∨(turnI x=true∧k+1=j+m)
 max:j+m<code.length→(0<m∧isBeg ks (j+m)=true)∨(∃ k x,k+1=j+m∧j≤k∧code[k]?=some x∧turnI x=true)∨(∃ x,code[j+m]?=some x∧plainI x=false∧turnI x=false)
section
variable {code:List Ins3} {pl:List Plc}
end
end Go.RI
namespace Go.RI
open Go
end Go.RI
namespace Go.RI
open Go
def aims(x:Ins3)(i:Nat):List Nat :=
 if x.op=28∨x.op=30 then [] else if x.op=24 then [x.a.toNat] else if x.op=25∨x.op=26 then [x.a.toNat,i+1] else [i+1]
def Came(pl:List Plc)(lf:List Int)(at_:Nat)(pl':List Plc)(lf':List Int):Prop :=
 at_<pl.length∧((rch pl at_=true∧pl'=pl∧lf'=lf)∨(rch pl at_=false∧∃ p:Plc,p.reached=true∧pl'=pl.set at_ p∧lf'=lf++[(at_:Int)]))
inductive CameAll:List Plc→List Int→List Nat→List Plc→List Int→Prop where
 | nil {pl lf}:CameAll pl lf [] pl lf
 | cons {pl lf a l pl1 lf1 pl2 lf2} (h:Came pl lf a pl1 lf1) (h2:CameAll pl1 lf1 l pl2 lf2):CameAll pl lf (a::l) pl2 lf2
structure KnownL (code:List Ins3) (pl:List Plc) (lf:List Int):Prop where
 len:pl.length=code.length
 zero:rch pl 0=true
 left:∀ k∈lf,∃ i:Nat,k=(i:Int)∧rch pl i=true
 on:∀(i:Nat) x,code[i]?=some x→rch pl i=true→(i:Int)∉lf→∀ j∈aims x i,rch pl j=true
 from_:∀ i,rch pl i=true→i≠0→∃ j x,rch pl j=true∧code[j]?=some x∧i∈aims x j
end Go.RI
namespace Go.RI
open Go
section
variable {call:CallI} {lo:Nat} {xs:List Item} {kill:List Nat} {Q:Post} {dst:Option Nat} {op:IOp} {re:ReH} {e:Env} {H:AHeap}
end
end Go.RI
namespace Go.RI
open Go
def IsB(v:AVal):Prop:=∃ b,v=.b b
@[simp] theorem isB_b{b:Bool}:IsB (.b b):=⟨b,rfl⟩
def IsI(v:AVal):Prop:=∃ n,v=.i .i64 n
@[simp] theorem isI_i{n:Int}:IsI (.i .i64 n):=⟨n,rfl⟩
def IsBP(P:Prop)(v:AVal):Prop:=∃ b,v=.b b∧(b=true→P)
@[simp] theorem isBP_b{P:Prop}{b:Bool}:IsBP P (.b b)↔(b=true→P):=by
 unfold IsBP
 constructor
 ·rintro⟨c,h1,h2⟩
  cases h1;exact h2
 ·exact fun h=>⟨b,rfl,h⟩
def IsII(v:AVal):Prop:=∃ a b,v=.tu [.i .i64 a,.i .i64 b]
@[simp] theorem isII_i{a b:Int}:IsII (.tu [.i .i64 a,.i .i64 b]):=⟨a,b,rfl⟩
end Go.RI
namespace Go.RI
open Go
end Go.RI
namespace Go.RI
open Go
def inC(n:Nat)(c:Nat→Nat):List AVal:=(List.range n).map fun i=>AVal.i .i64 (c i:Int)
@[simp] theorem inC_len{n:Nat}{c:Nat→Nat}:(inC n c).length=n:=by simp[inC]
theorem inC_get{n:Nat}{c:Nat→Nat}{i:Nat}(h:i<n):(inC n c)[i]?=some (.i .i64 (c i:Int)):=by simp[inC,h]
theorem take_snoc{α:Type}{l:List α}{i:Nat}{x:α}(h:l[i]?=some x):l.take (i+1)=l.take i++[x]:=by rw[List.take_add_one,h];rfl
theorem get_all{α:Type}{l:List α}{i:Nat}{x:α}(h:l[i]?=some x):∀ h,l[i]'h=x:=fun h2=>by rw[List.getElem?_eq_getElem h2] at h;exact Option.some.inj h
theorem wrap_pred{a:Nat}(h:a<4611686018427387904):wrapI .i64 ((a:Int)+1-1)=(a:Int):=by
 rw[wrapI_i64 (by omega) (by omega)];omega
end Go.RI
