import Derived.Test.YtkpgolcjiahdfaaGreatDoorB06
set_option linter.unusedVariables false
set_option linter.unusedSimpArgs false
set_option linter.unusedSectionVars false
/- Values, operands, steps, pieces as plain data, and their cells. Conditions: none. -/
namespace Go.RI
open Go
abbrev Str:=List UInt8
inductive Val where
 | mk (kind n:Int) (s:Str) (l:List Val) (names:List Str)
 deriving Inhabited
namespace Val
def kind:Val→Int|mk k _ _ _ _=>k
def n:Val→Int|mk _ n _ _ _=>n
def s:Val→Str|mk _ _ s _ _=>s
def l:Val→List Val|mk _ _ _ l _=>l
def names:Val→List Str|mk _ _ _ _ ns=>ns
@[simp] theorem kind_mk{k n s l ns}:(mk k n s l ns).kind=k:=rfl
@[simp] theorem n_mk{k n s l ns}:(mk k n s l ns).n=n:=rfl
@[simp] theorem s_mk{k n s l ns}:(mk k n s l ns).s=s:=rfl
@[simp] theorem l_mk{k n s l ns}:(mk k n s l ns).l=l:=rfl
@[simp] theorem names_mk{k n s l ns}:(mk k n s l ns).names=ns:=rfl
theorem eta(v:Val):mk v.kind v.n v.s v.l v.names=v:=by cases v;rfl
end Val
class Enc (α:Type) where
 sz:Nat
 cells:α→List AVal
 len:∀ a,(cells a).length=sz
open Enc
def encs{α:Type}[Enc α](l:List α):List AVal:=l.flatMap cells
@[simp] theorem encs_nil{α:Type}[Enc α]:encs ([]:List α)=[]:=rfl
@[simp] theorem encs_cons{α:Type}[Enc α]{a:α}{l:List α}:encs (a::l)=cells a++encs l:=by simp[encs]
@[simp] theorem encs_append{α:Type}[Enc α]{l m:List α}:encs (l++m)=encs l++encs m:=by simp[encs]
theorem encs_len{α:Type}[Enc α](l:List α):(encs l).length=l.length*sz α:=by
 induction l with
 | nil=>simp
 | cons a l ih=>simp[ih,len,Nat.succ_mul,Nat.add_comm]
def cellsO{α:Type}[Enc α]:Option α→List AVal
 | some a=>cells a
 | none=>[]
@[simp] theorem cellsO_some{α:Type}[Enc α]{a:α}:cellsO (some a)=cells a:=rfl
def restE{α:Type}[Enc α](l:List α)(i:Nat):List AVal:=(encs l).drop (i*sz α)
theorem drop_encs{α:Type}[Enc α](l:List α)(i:Nat):(encs l).drop (i*sz α)=cellsO l[i]?++restE l (i+1):=by
  unfold restE
  induction l generalizing i with
  | nil=>simp[cellsO]
  | cons a l ih =>
    cases i with
    | zero=>simp[len]
    | succ i =>
      have h1:(i+1)*sz α=sz α+i*sz α:=by rw[Nat.succ_mul,Nat.add_comm]
      have h2:(i+1+1)*sz α=sz α+(i+1)*sz α:=by rw[Nat.succ_mul,Nat.add_comm]
      have h3:∀ n,List.drop (sz α+n) (cells a++encs l)=List.drop n (encs l):=fun n=>by
        rw[←List.drop_drop,List.drop_left' (len a)]
      simp only[encs_cons,h1,h2,h3,List.getElem?_cons_succ]
      have:=ih i
      rw[h1] at this
      exact this
theorem get_encs{α:Type}[Enc α]{l:List α}{i k:Nat}(hk:k<sz α):(encs l)[i*sz α+k]?=(cellsO l[i]?)[k]?:=by
 have h:=drop_encs l i
 have h2:((encs l).drop (i*sz α))[k]?=(encs l)[i*sz α+k]?:=List.getElem?_drop
 rw[←h2,h]
 rcases hx:l[i]? with _|x
 ·simp only[cellsO,List.nil_append,restE]
  have:=List.getElem?_eq_none_iff.1 hx
  rw[List.getElem?_eq_none]
  ·rfl
  ·have e:=encs_len l
   have:l.length*sz α≤(i+1)*sz α:=Nat.mul_le_mul_right _ (by omega)
   simp;omega
 ·simp only[cellsO_some]
  rw[List.getElem?_append_left (by rw[len];exact hk)]
theorem set_mid{α:Type}(a b c:List α)(k:Nat)(v:α)(h:k<c.length):(a++(c++b)).set (a.length+k) v=a++(c.set k v++b):=by
 rw[List.set_append_right _ _ (by omega)]
 rw[Nat.add_sub_cancel_left,List.set_append_left _ _ h]
theorem putCells_mid(m:List AVal):∀(a b c:List AVal) (k:Nat),k+m.length≤c.length→putCells (a++(c++b)) (a.length+k) m=a++(putCells c k m++b):=by
  induction m with
  | nil=>intro a b c k _;rfl
  | cons v m ih =>
    intro a b c k h
    simp only[List.length_cons] at h
    rw[putCells_cons,putCells_cons,set_mid _ _ _ _ _ (by omega),Nat.add_assoc,ih _ _ _ _ (by simp;omega)]
theorem encs_split{α:Type}[Enc α]{l:List α}{i:Nat}{x:α}(h:l[i]?=some x):l=l.take i++x::l.drop (i+1):=by
 have hi:i<l.length:=by
  rcases Nat.lt_or_ge i l.length with h1|h1
  ·exact h1
  ·rw[List.getElem?_eq_none h1] at h;cases h
 have:l[i]=x:=by rw[List.getElem?_eq_getElem hi] at h;exact Option.some.inj h
 rw[←this,←List.drop_eq_getElem_cons hi,List.take_append_drop]
theorem put_encs{α:Type}[Enc α]{l:List α}{i k:Nat}{x y:α}(h:l[i]?=some x){m:List AVal}(hm:k+m.length≤sz α)(hy:putCells (cells x) k m=cells y):putCells (encs l) (i*sz α+k) m=encs (l.set i y):=by
 have hi:i<l.length:=by
  rcases Nat.lt_or_ge i l.length with h1|h1
  ·exact h1
  ·rw[List.getElem?_eq_none h1] at h;cases h
 have hl:=encs_split h
 have hs:l.set i y=l.take i++y::l.drop (i+1):=List.set_eq_take_append_cons_drop.trans (by rw[if_pos hi])
 have hlen:(l.take i).length=i:=by simp;omega
 have e0:(encs (l.take i)).length=i*sz α:=by rw[encs_len,hlen]
 have e1:encs l=encs (l.take i)++(cells x++encs (l.drop (i+1))):=by
  have:=congrArg encs hl
  rw[encs_append,encs_cons] at this
  exact this
 rw[e1,←e0,putCells_mid _ _ _ _ _ (by rw[len];exact hm),hy,hs,encs_append,encs_cons]
instance:Enc Str:=⟨1,fun s=>[.s s],fun _=>rfl⟩
instance:Enc Int:=⟨1,fun n=>[.i .i64 n],fun _=>rfl⟩
@[simp] theorem cells_str{s:Str}:cells s=[AVal.s s]:=rfl
@[simp] theorem cells_int{n:Int}:cells n=[AVal.i .i64 n]:=rfl
mutual
def Val.cells:Val→List AVal
 | .mk k n s l ns=>[.i .i64 k,.i .i64 n,.s s,.fs false false l.length (Val.cellsL l),.fs false false ns.length (encs ns)]
def Val.cellsL:List Val→List AVal
 | []=>[]
 | v::l=>v.cells++Val.cellsL l
end
theorem Val.cells_len(v:Val):v.cells.length=5:=by cases v;simp[Val.cells]
instance:Enc Val:=⟨5,Val.cells,Val.cells_len⟩
theorem Val.cellsL_eq:∀ l:List Val,Val.cellsL l=encs l
 | []=>by simp[Val.cellsL]
 | v::l=>by simp only[Val.cellsL,encs_cons,Val.cellsL_eq l];rfl
@[simp] theorem cells_val{v:Val}:cells v=[AVal.i .i64 v.kind,.i .i64 v.n,.s v.s,.fs false false v.l.length (encs v.l),.fs false false v.names.length (encs v.names)]:=by
 cases v;simp[Enc.cells,Val.cells,Val.cellsL_eq]
structure Opn where
 kind:Int
 n:Int
 v:Val
 deriving Inhabited
instance:Enc Opn:=⟨7,fun o=>[.i .i64 o.kind,.i .i64 o.n]++cells o.v,fun o=>by simp⟩
@[simp] theorem cells_opn{o:Opn}:cells o=[AVal.i .i64 o.kind,.i .i64 o.n,.i .i64 o.v.kind,.i .i64 o.v.n,.s o.v.s,.fs false false o.v.l.length (encs o.v.l),.fs false false o.v.names.length (encs o.v.names)]:=by
 show [AVal.i .i64 o.kind,.i .i64 o.n]++cells o.v=_
 simp
structure Stp where
 op:Int
 n:Int
 l:List Opn
 s:Str
 names:List Str
 deriving Inhabited
instance:Enc Stp:=⟨5,fun i=>[.i .i64 i.op,.i .i64 i.n,.fs false false i.l.length (encs i.l),.s i.s,.fs false false i.names.length (encs i.names)],fun _=>rfl⟩
@[simp] theorem cells_stp{i:Stp}:cells i=[AVal.i .i64 i.op,.i .i64 i.n,.fs false false i.l.length (encs i.l),.s i.s,.fs false false i.names.length (encs i.names)]:=rfl
structure Pce where
 func:Int
 at_:Int
 many:Int
 homes:Int
 ins:List Stp
 sets:List Opn
 exit:Int
 to:Int
 cond:Opn
 deep:Int
 deriving Inhabited
instance:Enc Pce:=⟨16,fun x=>[.i .i64 x.func,.i .i64 x.at_,.i .i64 x.many,.i .i64 x.homes,.fs false false x.ins.length (encs x.ins),.fs false false x.sets.length (encs x.sets),.i .i64 x.exit,.i .i64 x.to]++cells x.cond++[.i .i64 x.deep],fun x=>by simp⟩
@[simp] theorem cells_pce{x:Pce}:cells x=[AVal.i .i64 x.func,.i .i64 x.at_,.i .i64 x.many,.i .i64 x.homes,.fs false false x.ins.length (encs x.ins),.fs false false x.sets.length (encs x.sets),.i .i64 x.exit,.i .i64 x.to,.i .i64 x.cond.kind,.i .i64 x.cond.n,.i .i64 x.cond.v.kind,.i .i64 x.cond.v.n,.s x.cond.v.s,.fs false false x.cond.v.l.length (encs x.cond.v.l),.fs false false x.cond.v.names.length (encs x.cond.v.names),.i .i64 x.deep]:=by
 show [AVal.i .i64 x.func,.i .i64 x.at_,.i .i64 x.many,.i .i64 x.homes,.fs false false x.ins.length (encs x.ins),.fs false false x.sets.length (encs x.sets),.i .i64 x.exit,.i .i64 x.to]++cells x.cond++[.i .i64 x.deep]=_
 simp
@[simp] theorem drop_val{l:List Val}{i:Nat}:(encs l).drop (i*5)=cellsO l[i]?++restE l (i+1):=drop_encs l i
@[simp] theorem drop_stp{l:List Stp}{i:Nat}:(encs l).drop (i*5)=cellsO l[i]?++restE l (i+1):=drop_encs l i
@[simp] theorem drop_opn{l:List Opn}{i:Nat}:(encs l).drop (i*7)=cellsO l[i]?++restE l (i+1):=drop_encs l i
@[simp] theorem drop_str{l:List Str}{i:Nat}:(encs l).drop i=cellsO l[i]?++restE l (i+1):=by
 have:=drop_encs l i
 simpa[show sz Str=1 from rfl] using this
@[simp] theorem drop_int{l:List Int}{i:Nat}:(encs l).drop i=cellsO l[i]?++restE l (i+1):=by
 have:=drop_encs l i
 simpa[show sz Int=1 from rfl] using this
class EncOk (α:Type) extends Enc α where
 snap:∀(H:AHeap) (n:Nat) (a:α),mapO (snapV H (n+1)) (cells a)=some (cells a)
 frz:∀(H:AHeap) (g n:Nat) (a:α),mapO (frzV H g (n+1)) (cells a)=some (cells a)
theorem mapO_append{f:AVal→Option AVal}{l m l' m':List AVal}(h:mapO f l=some l')(g:mapO f m=some m'):mapO f (l++m)=some (l'++m'):=by
  induction l generalizing l' with
  | nil=>simp only[mapO_nil,Option.some.injEq] at h;subst h;simpa using g
  | cons a l ih =>
    simp only[mapO] at h
    split at h
    · rename_i u hu
      split at h
      · rename_i us hus
        cases h
        simp only[List.cons_append,mapO,hu,ih hus]
      · cases h
    · cases h
@[simp] theorem snap_encs{α:Type}[EncOk α]{H:AHeap}{n:Nat}{l:List α}:mapO (snapV H (n+1)) (encs l)=some (encs l):=by
 induction l with
 | nil=>simp
 | cons a l ih=>rw[encs_cons];exact mapO_append (EncOk.snap H n a) ih
@[simp] theorem frz_encs{α:Type}[EncOk α]{H:AHeap}{g n:Nat}{l:List α}:mapO (frzV H g (n+1)) (encs l)=some (encs l):=by
 induction l with
 | nil=>simp
 | cons a l ih=>rw[encs_cons];exact mapO_append (EncOk.frz H g n a) ih
instance:EncOk Str:={ snap:=fun _ _ _=>by simp,frz:=fun _ _ _ _=>by simp }
instance:EncOk Int:={ snap:=fun _ _ _=>by simp,frz:=fun _ _ _ _=>by simp }
instance:EncOk Val:={ snap:=fun _ _ _=>by simp,frz:=fun _ _ _ _=>by simp }
instance:EncOk Opn:={ snap:=fun _ _ _=>by simp,frz:=fun _ _ _ _=>by simp }
instance:EncOk Stp:={ snap:=fun _ _ _=>by simp,frz:=fun _ _ _ _=>by simp }
instance:EncOk Pce:={ snap:=fun _ _ _=>by simp,frz:=fun _ _ _ _=>by simp }
def letter(c:UInt8):Bool:=decide (97≤(c.toNat:Int))&&decide ((c.toNat:Int)≤122)
def badc(i:Nat)(c:UInt8):Bool:=!letter c&&(decide (i=0)||(!decide ((c.toNat:Int)=95)&&(decide ((c.toNat:Int)<48)||decide (57<(c.toNat:Int)))))
def namedL:Nat→Str→Bool
 | _,[]=>true
 | i,c::s=>!badc i c&&namedL (i+1) s
def named(s:Str):Bool:=!(s.isEmpty||decide ((16:Int)<s.length))&&namedL 0 s
def leS(a b:Str):Bool:=ltB a b||a==b
@[simp] theorem bin_sleq{a b:Str}:binV .leq (.s a) (.s b)=some (.b (leS a b)):=rfl
@[simp] theorem bin_slss{a b:Str}:binV .lss (.s a) (.s b)=some (.b (ltB a b)):=rfl
@[simp] theorem bin_sgtr{a b:Str}:binV .gtr (.s a) (.s b)=some (.b (!leS a b)):=rfl
@[simp] theorem bin_sgeq{a b:Str}:binV .geq (.s a) (.s b)=some (.b (!ltB a b)):=rfl
def rising:Str→List Str→Bool
 | _,[]=>true
 | last,s::l=>!(leS s last||!named s)&&rising s l
def bareV(text list names:Bool)(v:Val):Bool:=(text||v.s.isEmpty)&&(list||decide (v.l.length=0))&&(names||decide (v.names.length=0))
def clr1(n:Int):Int:=IntKind.i64.wrap ((BitVec.ofInt IntKind.i64.bits n &&& ~~~BitVec.ofInt IntKind.i64.bits 1).toNat:Nat)
@[simp] theorem bin_andNot1{n:Int}:binV .andNot (.i .i64 n) (.i .i64 1)=some (.i .i64 (clr1 n)):=rfl
def ownV(v:Val):Bool :=
 if v.kind=0 then decide (v.n=0)&&bareV false false false v
 else if v.kind=1 then bareV false false false v
 else if v.kind=2 then decide (clr1 v.n=0)&&bareV false false false v
 else if v.kind=6 then decide (1≤v.n)&&decide (v.n≤64)&&bareV false false false v
 else if v.kind=3 then decide (v.n=0)&&decide ((v.s.length:Int)≤64)&&bareV true false false v
 else if v.kind=4 then decide (v.n=0)&&decide ((v.l.length:Int)≤32)&&bareV false true false v
 else if v.kind=5 then decide (v.n=0)&&decide ((v.l.length:Int)=v.names.length)&&decide ((v.l.length:Int)≤8)&&bareV false true true v&&rising [] v.names
 else false
def lens:List Str→Int
 | []=>0
 | s::l=>(s.length:Int)+lens l
def bulkS:List Str→Nat
 | []=>0
 | s::l=>1+s.length+bulkS l
theorem lens_bulk:∀ l:List Str,0≤lens l∧lens l+l.length=bulkS l
 | []=>by simp[lens,bulkS]
 | s::l=>by have:=lens_bulk l;simp only[lens,bulkS,List.length_cons];omega
mutual
def fitsV:Val→Int→Int→Int×Bool
  | .mk k n s l ns,w,left =>
    if 8≤w∨left-(1+s.length)-lens ns<0∨ownV (.mk k n s l ns)=false then(0,false) else fitsL l (w+1) (left-(1+s.length)-lens ns)
def fitsL:List Val→Int→Int→Int×Bool
 | [],_,left=>(left,true)
 | v::l,w,left=>if(fitsV v w left).2 then fitsL l w (fitsV v w left).1 else(0,false)
end
theorem fitsV_eq{v:Val}{w left:Int}:fitsV v w left=if 8≤w∨left-(1+v.s.length)-lens v.names<0∨ownV v=false then(0,false) else fitsL v.l (w+1) (left-(1+v.s.length)-lens v.names):=by cases v;rfl
mutual
theorem fitsV_le:∀(v:Val) (w left:Int),(fitsV v w left).2=true→0≤(fitsV v w left).1∧(fitsV v w left).1≤left
  | .mk k n s l ns,w,left,h=>by
    simp only[fitsV] at h ⊢
    split at h
    · cases h
    · rename_i hc
      rw[if_neg hc]
      have h1:=fitsL_le l (w+1) _ (by omega) h
      have h2:=(lens_bulk ns).1
      omega
theorem fitsL_le:∀(l:List Val) (w left:Int),0≤left→(fitsL l w left).2=true→0≤(fitsL l w left).1∧(fitsL l w left).1≤left
  | [],w,left,h0,h=>by simp only[fitsL];omega
  | v::l,w,left,h0,h=>by
    simp only[fitsL] at h ⊢
    split at h
    · rename_i hc
      rw[if_pos hc]
      have h1:=fitsV_le v w left hc
      have h2:=fitsL_le l w _ h1.1 h
      omega
    · cases h
end
def mayV(v:Val):Bool:=(fitsV v 0 256).2
theorem bulkS_mem:∀ {l:List Str} {s:Str},s∈l→1+s.length≤bulkS l
  | a::l,s,h=>by
    simp only[bulkS]
    rcases List.mem_cons.1 h with rfl|h
    · omega
    · have:=bulkS_mem h;omega
mutual
def Val.bulk:Val→Nat
 | .mk _ _ s l ns=>1+s.length+bulkL l+bulkS ns
def bulkL:List Val→Nat
 | []=>0
 | v::l=>v.bulk+bulkL l
end
theorem Val.bulk_eq(v:Val):v.bulk=1+v.s.length+bulkL v.l+bulkS v.names:=by cases v;simp[Val.bulk]
theorem Val.bulk_pos(v:Val):1≤v.bulk:=by rw[Val.bulk_eq];omega
theorem bulkL_mem:∀ {l:List Val} {v:Val},v∈l→v.bulk≤bulkL l
  | a::l,v,h=>by
    simp only[bulkL]
    rcases List.mem_cons.1 h with rfl|h
    · omega
    · have:=bulkL_mem h;omega
theorem bulkL_len:∀ l:List Val,l.length≤bulkL l
 | []=>by simp[bulkL]
 | v::l=>by have:=bulkL_len l;have:=v.bulk_pos;simp only[bulkL,List.length_cons];omega
theorem bulkS_len(l:List Str):l.length≤bulkS l:=by have:=lens_bulk l;omega
theorem wrap_ok{n:Int}(h1:-9223372036854775808≤n)(h2:n≤9223372036854775807):wrapI .i64 n=n:=by unfold wrapI;rw[if_pos ⟨h1,h2⟩]
inductive Shp where
 | mk (kind:Int) (names:List Str) (l:List Shp)
 deriving Inhabited
namespace Shp
def kind:Shp→Int|mk k _ _=>k
def names:Shp→List Str|mk _ n _=>n
def l:Shp→List Shp|mk _ _ l=>l
@[simp] theorem kind_mk{k n l}:(mk k n l).kind=k:=rfl
@[simp] theorem names_mk{k n l}:(mk k n l).names=n:=rfl
@[simp] theorem l_mk{k n l}:(mk k n l).l=l:=rfl
end Shp
mutual
def Shp.cells:Shp→List AVal
 | .mk k ns l=>[.i .i64 k,.fs false false ns.length (encs ns),.fs false false l.length (Shp.cellsL l)]
def Shp.cellsL:List Shp→List AVal
 | []=>[]
 | v::l=>v.cells++Shp.cellsL l
end
theorem Shp.cells_len(v:Shp):v.cells.length=3:=by cases v;simp[Shp.cells]
instance:Enc Shp:=⟨3,Shp.cells,Shp.cells_len⟩
theorem Shp.cellsL_eq:∀ l:List Shp,Shp.cellsL l=encs l
 | []=>by simp[Shp.cellsL]
 | v::l=>by simp only[Shp.cellsL,encs_cons,Shp.cellsL_eq l];rfl
@[simp] theorem cells_shp{v:Shp}:cells v=[AVal.i .i64 v.kind,.fs false false v.names.length (encs v.names),.fs false false v.l.length (encs v.l)]:=by
 cases v;simp[Enc.cells,Shp.cells,Shp.cellsL_eq]
instance:EncOk Shp:={ snap:=fun _ _ _=>by simp,frz:=fun _ _ _ _=>by simp }
def pre(p s:Str):Bool:=decide ((p.length:Int)≤s.length)&&(s.take p.length==p)
def cutP(s p:Str):Str×Bool:=if pre p s then(s.drop p.length,true) else(s,false)
def idx(s:Str)(c:UInt8):Int:=idxL c s 0
theorem idxL_ge(c:UInt8):∀(s:Str) (i:Int),0≤i→idxL c s i=-1∨(i≤idxL c s i∧idxL c s i<i+s.length)
  | [],i,h=>.inl rfl
  | b::s,i,h=>by
    simp only[idxL,List.length_cons]
    split
    · right;omega
    · rcases idxL_ge c s (i+1) (by omega) with h1|h1
      · exact .inl h1
      · right;omega
theorem idx_lt(s:Str)(c:UInt8)(h:0≤idx s c):idx s c<s.length:=by
 rcases idxL_ge c s 0 (Int.le_refl _) with h1|h1
 ·unfold idx at h;omega
 ·unfold idx;omega
def cutC(s:Str)(c:UInt8):Str×Str×Bool:=if 0≤idx s c then(s.take (idx s c).toNat,s.drop ((idx s c).toNat+1),true) else(s,[],false)
theorem cutC_len(s:Str)(c:UInt8):(cutC s c).1.length≤s.length∧((cutC s c).2.2=false→(cutC s c).2.1=[])∧((cutC s c).2.2=true→(cutC s c).2.1.length+1≤s.length):=by
 unfold cutC
 split
 ·rename_i h
  have:=idx_lt s c h
  refine⟨by simp;omega,fun h=>by simp at h,fun _=>by simp;omega⟩
 ·exact⟨Nat.le_refl _,fun _=>rfl,fun h=>by simp at h⟩
def kindOf(w:Str):Int:=if w==[110,111,110,101] then 0 else if w==[105,110,116] then 1 else if w==[98,111,111,108] then 2 else if w==[116,101,120,116] then 3 else if w==[102,117,116,117,114,101] then 6 else -1
def wordN:Str→Nat
 | []=>0
 | c::s=>if letter c then wordN s+1 else 0
theorem wordN_le:∀ s:Str,wordN s≤s.length
  | []=>by simp[wordN]
  | c::s=>by
    have:=wordN_le s
    simp only[wordN,List.length_cons]
    split<;>omega
mutual
def readF:Nat→Str→Shp×Str×Bool
  | 0,_=>default
  | f+1,t =>
    if pre [91] t then
      (⟨4,[],[(readF f (t.drop 1)).1]⟩,(cutP (readF f (t.drop 1)).2.1 [93]).1,(readF f (t.drop 1)).2.2&&(cutP (readF f (t.drop 1)).2.1 [93]).2)
    else if pre [123,125] t then(⟨5,[],[]⟩,t.drop 2,true)
    else if pre [123] t then recF f [] [] (t.drop 1)
    else(⟨kindOf (t.take (wordN t)),[],[]⟩,t.drop (wordN t),decide (0≤kindOf (t.take (wordN t))))
def recF:Nat→List Str→List Shp→Str→Shp×Str×Bool
  | 0,_,_,_=>default
  | f+1,ns,l,t =>
    if !(cutC t 58).2.2||!(readF f (cutC t 58).2.1).2.2||(readF f (cutC t 58).2.1).2.1.isEmpty then(⟨0,[],[]⟩,[],false)
    else if(readF f (cutC t 58).2.1).2.1.head?=some 125 then(⟨5,ns++[(cutC t 58).1],l++[(readF f (cutC t 58).2.1).1]⟩,(readF f (cutC t 58).2.1).2.1.drop 1,rising [] (ns++[(cutC t 58).1]))
    else if(readF f (cutC t 58).2.1).2.1.head?=some 44 then recF f (ns++[(cutC t 58).1]) (l++[(readF f (cutC t 58).2.1).1]) ((readF f (cutC t 58).2.1).2.1.drop 1)
    else(⟨0,[],[]⟩,[],false)
end
def typedS(t:Str):Shp×Bool:=if(64:Int)<t.length then(⟨0,[],[]⟩,false) else((readF (t.length+1) t).1,(readF (t.length+1) t).2.2&&(readF (t.length+1) t).2.1.isEmpty)
def fitsS(t:Str):Bool:=(typedS t).2
end Go.RI
namespace Go.RI
open Go
theorem more_lit{H:AHeap}{id n e esz:Nat}{ro:Bool}{cap:Option Nat}{cs:List AVal}(hg:H.get id=some (.cells cs e ro))(hl:cs.length=n*esz)(hn:n≠0):moreV H esz (.sl id 0 n cap)=some (n,cs):=by
 simp only[moreV,if_neg hn,rowAt,hg]
 rw[if_pos (by omega)]
 simp only[List.drop_zero,Option.map_some]
 rw[List.take_of_length_le (by omega)]
theorem acc_touch'{H:AHeap}{lo esz n:Nat}{v:AVal}{cells:List AVal}(h:Acc H lo v esz n cells):∃ ids,touchV v=some ids∧∀ i,i<lo∨H.next≤i→¬ i∈ids:=by
 obtain⟨ids,h1,h2⟩:=acc_touch h
 exact⟨ids,h1,fun i hi=>by have:=h2 i hi;simpa using this⟩
theorem acc_row{H:AHeap}{lo esz n id:Nat}{c:Option Nat}{cells:List AVal}(h:Acc H lo (.sl id 0 n c) esz n cells):H.get id=some (.cells cells esz false):=by
 rcases h with⟨h,_,_⟩|⟨id0,h,h1,h2,h3,h4⟩
 ·cases h
 ·cases h;exact h3
@[simp] theorem len_val{l:List Val}:(encs l).length=l.length*5:=encs_len l
@[simp] theorem take_val{l:List Val}:(encs l).take (l.length*5)=encs l:=List.take_of_length_le (by simp)
@[simp] theorem len_stp{l:List Stp}:(encs l).length=l.length*5:=encs_len l
@[simp] theorem take_stp{l:List Stp}:(encs l).take (l.length*5)=encs l:=List.take_of_length_le (by simp)
@[simp] theorem len_opn{l:List Opn}:(encs l).length=l.length*7:=encs_len l
@[simp] theorem take_opn{l:List Opn}:(encs l).take (l.length*7)=encs l:=List.take_of_length_le (by simp)
@[simp] theorem len_shp{l:List Shp}:(encs l).length=l.length*3:=encs_len l
@[simp] theorem take_shp{l:List Shp}:(encs l).take (l.length*3)=encs l:=List.take_of_length_le (by simp)
@[simp] theorem len_pce{l:List Pce}:(encs l).length=l.length*16:=encs_len l
@[simp] theorem take_pce{l:List Pce}:(encs l).take (l.length*16)=encs l:=List.take_of_length_le (by simp)
@[simp] theorem len_str{l:List Str}:(encs l).length=l.length:=by have:=encs_len l;simpa[show Enc.sz Str=1 from rfl] using this
@[simp] theorem take_str{l:List Str}:(encs l).take l.length=encs l:=List.take_of_length_le (by simp)
@[simp] theorem len_int{l:List Int}:(encs l).length=l.length:=by have:=encs_len l;simpa[show Enc.sz Int=1 from rfl] using this
@[simp] theorem take_int{l:List Int}:(encs l).take l.length=encs l:=List.take_of_length_le (by simp)
theorem recF_succ(f:Nat)(ns:List Str)(l:List Shp)(t:Str){nm bh:Str}{is ok:Bool}{x:Shp}{rest:Str}(h1:cutC t 58=(nm,bh,is))(h2:is=true→readF f bh=(x,rest,ok)):recF (f+1) ns l t =
    if is=false then(⟨0,[],[]⟩,[],false) else if ok=false then(⟨0,[],[]⟩,[],false) else if rest.isEmpty then(⟨0,[],[]⟩,[],false) else
    if rest.head?=some 125 then(⟨5,ns++[nm],l++[x]⟩,rest.drop 1,rising [] (ns++[nm]))
    else if rest.head?=some 44 then recF f (ns++[nm]) (l++[x]) (rest.drop 1)
    else(⟨0,[],[]⟩,[],false):=by
  rw[recF,h1]
  cases is with
  | false=>simp
  | true =>
    simp only[h2 rfl]
    cases ok<;>cases rest<;>simp
theorem readF_le:∀(f:Nat) (t:Str),(readF f t).2.1.length≤t.length:=by
  have key:∀ f,(∀ t:Str,(readF f t).2.1.length≤t.length)∧(∀(ns:List Str) (l:List Shp) (t:Str),(recF f ns l t).2.1.length≤t.length):=by
    intro f
    induction f with
    | zero=>exact⟨fun t=>by simp[readF,default,instInhabitedProd],fun ns l t=>by simp[recF,default,instInhabitedProd]⟩
    | succ f ih =>
      obtain⟨ih1,ih2⟩:=ih
      constructor
      · intro t
        rw[readF]
        split
        · have h1:=ih1 (t.drop 1)
          simp only[cutP]
          simp at h1
          split
          · simp;omega
          · simp;omega
        · split
          · simp
          · split
            · have:=ih2 [] [] (t.drop 1);simp at this ⊢;omega
            · simp
      · intro ns l t
        rw[recF]
        have hc:=cutC_len t 58
        have h1:=ih1 (cutC t 58).2.1
        split
        · simp
        · rename_i h
          simp at h
          have h3:=hc.2.2 h.1.1
          split
          · simp;omega
          · split
            · have h2:=ih2 (ns++[(cutC t 58).1]) (l++[(readF f (cutC t 58).2.1).1]) ((readF f (cutC t 58).2.1).2.1.drop 1)
              simp at h2 ⊢;omega
            · simp
  exact fun f t=>(key f).1 t
theorem toNat_eq{c:UInt8}{n:Nat}(h:(c.toNat:Int)=n):c=UInt8.ofNat n:=by
 have:c.toNat=n:=by omega
 rw[←this];simp
@[simp] theorem snap_sln{H:AHeap}{n id len:Nat}(hn:len≠0):snapV H (n+1) (.sl id 0 len none)=snapO H n len (H.get id):=snap_sl hn rfl
@[simp] theorem snap_sls{H:AHeap}{n id len c:Nat}(hn:len≠0)(hc:len≤c):snapV H (n+1) (.sl id 0 len (some c))=snapO H n len (H.get id):=snap_sl hn (by simpa using hc)
@[simp] theorem frz_sln{H:AHeap}{g n id len:Nat}(hn:len≠0)(hid:g≤id):frzV H g (n+1) (.sl id 0 len none)=frzO H g n len (H.get id):=frz_sl hn hid rfl
@[simp] theorem frz_sls{H:AHeap}{g n id len c:Nat}(hn:len≠0)(hid:g≤id)(hc:len≤c):frzV H g (n+1) (.sl id 0 len (some c))=frzO H g n len (H.get id):=frz_sl hn hid (by simpa using hc)
section
variable {call:CallI} {lo:Nat} {e:Env} {H:AHeap}
def callvR(call:CallI)(H:AHeap)(vs:Option (List AVal)):Option AVal→Option (Option AVal×AHeap)
 | some (.fn (.func f) fst cap)=>vs.bind fun vs=>callR (call f (fst++vs++cap) H)
 | _=>none
@[simp] theorem callvR_fn{vs:List AVal}{f:FuncId}{fst cap:List AVal}:callvR call H (some vs) (some (.fn (.func f) fst cap))=callR (call f (fst++vs++cap) H):=rfl
@[simp] theorem op_callv{x:Opd}{args:List Opd}:opI call lo (.callv x args) e H=callvR call H (evals e args) (x.eval e):=by
 simp only[opI,callvR]
 rcases x.eval e with _|v
 ·rfl
 ·cases v<;>try rfl
  rename_i f a c
  cases f<;>try rfl
  rename_i f
  simp only
  rcases evals e args with _|vs
  ·rfl
  ·simp only[Option.bind_some]
   rcases call f (a++vs++c) H with _|⟨v,H'⟩<;>rfl
@[simp] theorem skip_callv{x:Opd}{args:List Opd}:skipI call e (.callv x args)=pureV call (x.eval e):=rfl
@[simp] theorem pureV_fn{f:FuncId}{a c:List AVal}:pureV call (some (.fn (.func f) a c))=call.pure f:=rfl
def mkfR(f:FuncId):Option (List AVal)→Option (List AVal)→Option AVal
 | some a,some c=>some (.fn (.func f) a c)
 | _,_=>none
@[simp] theorem mkfR_some{f:FuncId}{a c:List AVal}:mkfR f (some a) (some c)=some (.fn (.func f) a c):=rfl
@[simp] theorem op_mkf{f:FuncId}{fst cap:List Opd}:opI call lo (.mkf f fst cap) e H=val H (mkfR f (evals e fst) (evals e cap)):=by
 simp only[opI,aop]
 rcases evals e fst with _|a<;>rcases evals e cap with _|c<;>rfl
def snapF(f:Fn):Option (List AVal)→Option (List AVal)→Option AVal
 | some a,some c=>some (.fn f a c)
 | _,_=>none
@[simp] theorem snapF_some{f:Fn}{a c:List AVal}:snapF f (some a) (some c)=some (.fn f a c):=rfl
@[simp] theorem snap_fn{n:Nat}{f:Fn}{a c:List AVal}:snapV H (n+1) (.fn f a c)=snapF f (mapO (snapV H n) a) (mapO (snapV H n) c):=by
 simp only[snapV]
 rcases mapO (snapV H n) a with _|a<;>rcases mapO (snapV H n) c with _|c<;>rfl
noncomputable def snapPO(H:AHeap)(n off:Nat):Option AObj→Option AVal
 | some (.cells c _ _)=>if off≤c.length then(mapO (snapV H n) (c.drop off)).map .fp else none
 | _=>none
@[simp] theorem snapPO_cells{n off esz:Nat}{c:List AVal}{ro:Bool}:snapPO H n off (some (.cells c esz ro))=if off≤c.length then(mapO (snapV H n) (c.drop off)).map .fp else none:=rfl
@[simp] theorem snap_p{n id off:Nat}:snapV H (n+1) (.p id off)=snapPO H n off (H.get id):=by
 simp only[snapV,snapPO]
 rcases H.get id with _|⟨c,esz,ro⟩|es<;>rfl
@[simp] theorem snap_fp{n:Nat}{l:List AVal}:snapV H (n+1) (.fp l)=some (.fp l):=rfl
end
theorem get_drop{α:Type}{l:List α}{i:Nat}{x:α}(h:l[i]?=some x):l.drop i=x::l.drop (i+1):=by
 have hi:i<l.length:=by
  rcases Nat.lt_or_ge i l.length with h1|h1
  ·exact h1
  ·rw[List.getElem?_eq_none h1] at h;cases h
 rw[List.drop_eq_getElem_cons hi]
 rw[List.getElem?_eq_getElem hi] at h
 rw[Option.some.inj h]
theorem get_of_lt{α:Type}{l:List α}{i:Nat}(h:i<l.length):∃ x,l[i]?=some x:=⟨_,List.getElem?_eq_getElem h⟩
def zeroVal:Val:=.mk 0 0 [] [] []
theorem snap_rep{H:AHeap}{k:Nat}:∀ n,mapO (snapV H (k+1)) (repCells [.i .i64 0,.i .i64 0,.s [],.ns,.ns] n)=some (encs (List.replicate n zeroVal))
  | 0=>by simp[repCells]
  | n+1=>by
    have:=@snap_rep H k n
    simp[repCells,List.replicate_succ,this,zeroVal]
theorem rep_len(z:List AVal):∀ n,(repCells z n).length=n*z.length
 | 0=>by simp[repCells]
 | n+1=>by simp[repCells,rep_len z n,Nat.add_mul,Nat.add_comm]
@[simp] theorem take_rep5{a b c d e:AVal}{n:Nat}:(repCells [a,b,c,d,e] n).take (n*5)=repCells [a,b,c,d,e] n:=List.take_of_length_le (by simp[rep_len])
@[simp] theorem snap_sl0{H:AHeap}{n id off:Nat}{cap:Option Nat}:snapV H (n+1) (.sl id off 0 cap)=some (.fs false false 0 []):=rfl
@[simp] theorem frz_sl0{H:AHeap}{g n id off:Nat}{cap:Option Nat}:frzV H g (n+1) (.sl id off 0 cap)=some (.fs false false 0 []):=rfl
mutual
def sameV:Val→Val→Bool
 | .mk k n s l ns,.mk k' n' s' l' ns'=>decide (k=k')&&decide (n=n')&&(s==s')&&decide (ns=ns')&&sameVL l l'
def sameVL:List Val→List Val→Bool
 | [],[]=>true
 | v::l,w::m=>sameV v w&&sameVL l m
 | _,_=>false
end
theorem sameV_eq'(v w:Val):sameV v w=(decide (v.kind=w.kind)&&decide (v.n=w.n)&&(v.s==w.s)&&decide (v.names=w.names)&&sameVL v.l w.l):=by cases v;cases w;simp only[sameV];rfl
mutual
theorem sameV_iff:∀ v w:Val,sameV v w=true↔v=w
  | .mk k n s l ns,.mk k' n' s' l' ns'=>by
    have:=sameVL_iff l l'
    simp[sameV,this,and_assoc]
    intros;exact and_comm
theorem sameVL_iff:∀ l m:List Val,sameVL l m=true↔l=m
 | [],[]=>by simp[sameVL]
 | v::l,w::m=>by simp[sameVL,sameV_iff v w,sameVL_iff l m]
 | [],_::_=>by simp[sameVL]
 | _::_,[]=>by simp[sameVL]
end
def noneV(v:Val):Bool:=sameV v zeroVal
def recordS(ns:List Str):Bool:=decide ((ns.length:Int)≤8)&&mayV (.mk 5 0 [] (List.replicate ns.length zeroVal) ns)
def opnFits(homes steps:Int)(o:Opn):Bool :=
 if o.kind=1 then decide (0≤o.n)&&decide (o.n<homes)&&noneV o.v
 else if o.kind=2 then decide (0≤o.n)&&decide (o.n<steps)&&noneV o.v
 else if o.kind=3 then decide (o.n=0)&&mayV o.v
 else false
def idxF{α:Type}(p:α→Bool):List α→Int→Int
 | [],_=>-1
 | a::l,i=>if p a then i else idxF p l (i+1)
theorem idxF_any{α:Type}(p:α→Bool):∀(l:List α) (i:Int),0≤i→decide (0≤idxF p l i)=l.any p
  | [],i,h=>by simp[idxF]
  | a::l,i,h=>by
    have ih:=idxF_any p l (i+1) (by omega)
    by_cases hp:p a=true
    · simp[idxF,hp,h]
    · simp only[idxF,if_neg hp,List.any_cons,ih]
      simp[hp]
theorem bulk_rep:∀ n,bulkL (List.replicate n zeroVal)=n
  | 0=>rfl
  | n+1=>by
    have h:=bulk_rep n
    have h1:zeroVal.bulk=1:=rfl
    rw[List.replicate_succ,bulkL,h,h1];omega
section
variable {call:CallI} {lo:Nat} {e:Env} {H:AHeap}
def eqAgV(ks:List Nat)(neg:Bool):AVal→AVal→Option AVal
 | .ag a,.ag b=>(eqCells ks a b).map fun r=>.b (if neg then !r else r)
 | _,_=>none
@[simp] theorem eqAgV_ag{ks:List Nat}{neg:Bool}{a b:List AVal}:eqAgV ks neg (.ag a) (.ag b)=(eqCells ks a b).map fun r=>.b (if neg then !r else r):=rfl
@[simp] theorem op_eqAg{ks:List Nat}{neg:Bool}{x y:Opd}:opI call lo (.eqAg ks neg x y) e H=val H (two (eqAgV ks neg) (x.eval e) (y.eval e)):=by
 simp only[opI,aop]
 rcases x.eval e with _|a
 ·rfl
 ·rcases y.eval e with _|b
  ·cases a<;>rfl
  ·cases a<;>cases b<;>rfl
@[simp] theorem eqCells_nil:eqCells [] [] []=some true:=rfl
@[simp] theorem eqCells_b{ks:List Nat}{a b:Bool}{x y:List AVal}:eqCells (0::ks) (.b a::x) (.b b::y)=(eqCells ks x y).map ((a==b)&&·):=rfl
@[simp] theorem eqCells_i{ks:List Nat}{k:IntKind}{a b:Int}{x y:List AVal}:eqCells (1::ks) (.i k a::x) (.i k b::y)=(eqCells ks x y).map (decide (a=b)&&·):=by
 simp only[eqCells,if_true]
 congr 2
@[simp] theorem eqCells_s{ks:List Nat}{a b:List UInt8}{x y:List AVal}:eqCells (2::ks) (.s a::x) (.s b::y)=(eqCells ks x y).map ((a==b)&&·):=rfl
end
def nmd(i:Stp):Bool:=decide ((0:Int)<i.names.length)
def bareI(i:Stp):Bool:=decide (i.n=0)&&((i.s==[])&&(nmd i==false))
def needs(i:Stp):Int×Int×Bool :=
 if i.op=20 then(0,8,bareI i)
 else if i.op=21 then(i.names.length,i.names.length,decide (i.n=0)&&(i.s==[])&&recordS i.names)
 else if i.op=22 then(1,1,decide (i.n=0)&&(nmd i==false)&&recordS [i.s])
 else if i.op=23 then(1,1,decide (i.n=0)&&(nmd i==false)&&fitsS i.s)
 else if i.op=40 then(1,1,(i.s==[])&&(nmd i==false)&&decide (0≤i.n)&&decide (i.n≤6))
 else if i.op=48∨i.op=49 then(1,1,(i.s==[])&&(nmd i==false))
 else if(43≤i.op∧i.op≤47)∨(9≤i.op∧i.op≤19) then(2,2,bareI i)
 else if i.op=41∨i.op=42∨(6≤i.op∧i.op≤8) then(1,1,bareI i)
 else(0,0,false)
def stpFits(homes at_:Int)(i:Stp):Bool:=(needs i).2.2&&decide ((needs i).1≤i.l.length)&&decide ((i.l.length:Int)≤(needs i).2.1)&&i.l.all (opnFits homes at_)
def stepsFit(homes:Int):List Stp→Int→Bool
 | [],_=>true
 | i::l,at_=>stpFits homes at_ i&&stepsFit homes l (at_+1)
def checkP(x:Pce):Bool :=
 decide (0≤x.func)&&decide (0≤x.at_)&&decide (0≤x.many)&&decide (0≤x.homes)&&decide (0≤x.deep)&&decide (0≤x.exit)&&decide (0≤x.to) &&
 decide (x.func≤9007199254740991)&&decide (x.at_≤9007199254740991)&&decide (x.many≤9007199254740991) &&
 decide (x.homes≤64)&&decide (x.deep≤1)&&decide (x.exit≤3)&&decide ((x.ins.length:Int)≤4096)&&decide ((x.sets.length:Int)≤64) &&
 stepsFit x.homes x.ins 0 &&
 (if x.exit=2 then opnFits x.homes x.ins.length x.cond else decide (x.cond.kind=0)&&decide (x.cond.n=0)&&noneV x.cond.v) &&
 x.sets.all (opnFits x.homes x.ins.length)
@[simp] theorem get_int{l:List Int}{i:Nat}:(encs l)[i]?=l[i]?.map (AVal.i .i64):=by
 have h:encs l=l.map (AVal.i .i64):=by
  induction l with
  | nil=>rfl
  | cons a l ih=>simp[ih]
 rw[h,List.getElem?_map]
@[simp] theorem get_strs{l:List Str}{i:Nat}:(encs l)[i]?=l[i]?.map AVal.s:=by
 have h:encs l=l.map AVal.s:=by
  induction l with
  | nil=>rfl
  | cons a l ih=>simp[ih]
 rw[h,List.getElem?_map]
def okO(o:Opn):Prop:=o.v.bulk<1099511627776
def okStp(i:Stp):Prop:=bulkS i.names<549755813888∧i.s.length<549755813887∧i.l.length<1099511627776∧∀ o∈i.l,okO o
def okPce(x:Pce):Prop:=(∀ i∈x.ins,okStp i)∧x.ins.length<1099511627776∧x.sets.length<1099511627776∧(∀ o∈x.sets,okO o)∧okO x.cond
@[simp] theorem mm_nil{mx:Bool}{x:AVal}:mmV mx x []=some x:=by cases x<;>rfl
@[simp] theorem mm_maxs{k:IntKind}{a b:Int}{l:List AVal}:mmV true (.i k a) (.i k b::l)=mmV true (.i k (max a b)) l:=by
 simp only[mmV,if_true]
 have:(if decide (b > a)=true then b else a)=max a b:=by
  by_cases h:a<b<;>simp[h]<;>omega
 rw[this]
@[simp] theorem mm_mins{k:IntKind}{a b:Int}{l:List AVal}:mmV false (.i k a) (.i k b::l)=mmV false (.i k (min a b)) l:=by
 simp only[mmV,if_true]
 have:(if(if false=true then decide (b > a) else decide (b<a))=true then b else a)=min a b:=by
  by_cases h:b<a<;>simp[h]<;>omega
 rw[this]
end Go.RI
namespace Go.RI
open Go
def pceC(x:Pce)(t1 t2 t3 t4:Bool):List AVal:=[.i .i64 x.func,.i .i64 x.at_,.i .i64 x.many,.i .i64 x.homes,.fs t1 false x.ins.length (encs x.ins),.fs t2 false x.sets.length (encs x.sets),.i .i64 x.exit,.i .i64 x.to,.i .i64 x.cond.kind,.i .i64 x.cond.n,.i .i64 x.cond.v.kind,.i .i64 x.cond.v.n,.s x.cond.v.s,.fs t3 false x.cond.v.l.length (encs x.cond.v.l),.fs t4 false x.cond.v.names.length (encs x.cond.v.names),.i .i64 x.deep]
def numsP(x:Pce):Prop:=(0≤x.func∧0≤x.at_∧0≤x.many∧0≤x.homes∧0≤x.deep∧0≤x.exit∧0≤x.to)∧(x.func≤9007199254740991∧x.at_≤9007199254740991∧x.many≤9007199254740991) ∧
 x.homes≤64∧x.deep≤1∧x.exit≤3∧(x.ins.length:Int)≤4096∧(x.sets.length:Int)≤64
def condP(x:Pce):Bool:=if x.exit=2 then opnFits x.homes x.ins.length x.cond else decide (x.cond.kind=0)&&decide (x.cond.n=0)&&noneV x.cond.v
theorem checkP_iff{x:Pce}:checkP x=true↔numsP x∧stepsFit x.homes x.ins 0=true∧condP x=true∧x.sets.all (opnFits x.homes x.ins.length)=true:=by
 unfold checkP numsP condP
 simp only[Bool.and_eq_true,decide_eq_true_eq]
 constructor
 ·rintro⟨⟨⟨⟨⟨⟨⟨⟨⟨⟨⟨⟨⟨⟨⟨⟨⟨a,b⟩,c⟩,d⟩,e⟩,f⟩,g⟩,h⟩,i⟩,j⟩,k⟩,l⟩,m⟩,n⟩,o⟩,p⟩,q⟩,r⟩
  exact⟨⟨⟨a,b,c,d,e,f,g⟩,⟨h,i,j⟩,k,l,m,n,o⟩,p,q,r⟩
 ·rintro⟨⟨⟨a,b,c,d,e,f,g⟩,⟨h,i,j⟩,k,l,m,n,o⟩,p,q,r⟩
  exact⟨⟨⟨⟨⟨⟨⟨⟨⟨⟨⟨⟨⟨⟨⟨⟨⟨a,b⟩,c⟩,d⟩,e⟩,f⟩,g⟩,h⟩,i⟩,j⟩,k⟩,l⟩,m⟩,n⟩,o⟩,p⟩,q⟩,r⟩
theorem checkP_not{x:Pce}(h:¬(numsP x∧stepsFit x.homes x.ins 0=true∧condP x=true∧x.sets.all (opnFits x.homes x.ins.length)=true)):checkP x=false:=by
 cases hc:checkP x with
 | false=>rfl
 | true=>exact absurd (checkP_iff.1 hc) h
theorem stepsFit_at{homes:Int}:∀ {l:List Stp} {i:Nat} {a:Int} {s:Stp},stepsFit homes l a=true→l[i]?=some s→stpFits homes (a+i) s=true
  | [],i,a,s,_,h=>by simp at h
  | x::l,0,a,s,h,hs=>by
    simp only[stepsFit,Bool.and_eq_true] at h
    simp at hs;subst hs;simpa using h.1
  | x::l,i+1,a,s,h,hs=>by
    simp only[stepsFit,Bool.and_eq_true] at h
    have:=stepsFit_at (i:=i) h.2 (by simpa using hs)
    have e:a+1+(i:Int)=a+((i+1:Nat):Int):=by omega
    rw[←e];exact this
end Go.RI
namespace Go.RI
open Go
def Hold(H:AHeap)(lo:Nat)(v:AVal)(esz n:Nat)(cells:List AVal):Prop :=
 ((v=.fs false true 0 []∨v=.ns)∧n=0∧cells=[])∨(∃ id c,v=.sl id 0 n c∧(c=none∨c=some n)∧lo≤id∧id<H.next∧H.get id=some (.cells cells esz false)∧cells.length=n*esz)
theorem Acc.hold{H:AHeap}{lo esz n:Nat}{v:AVal}{cells:List AVal}(h:Acc H lo v esz n cells):Hold H lo v esz n cells:=by
 rcases h with⟨rfl,h1,h2⟩|⟨id,rfl,h1,h2,h3,h4⟩
 ·exact .inl ⟨.inr rfl,h1,h2⟩
 ·exact .inr ⟨id,none,rfl,.inl rfl,h1,h2,h3,h4⟩
theorem hold_keep{H H':AHeap}{lo esz n:Nat}{v:AVal}{cells:List AVal}(h:Hold H lo v esz n cells)(hn:H.next≤H'.next)(hk:∀ id c,v=.sl id 0 n c→H'.get id=H.get id):Hold H' lo v esz n cells:=by
 rcases h with h|⟨id,c,rfl,hc,h1,h2,h3,h4⟩
 ·exact .inl h
 ·exact .inr ⟨id,c,rfl,hc,h1,by omega,by rw[hk id c rfl];exact h3,h4⟩
theorem hold_lt{H:AHeap}{lo esz n:Nat}{v:AVal}{cells:List AVal}(h:Hold H lo v esz n cells):∀ id m a,v=.sl id 0 m a→lo≤id∧id<H.next:=by
 intro id m a hv
 rcases h with⟨h|h,_,_⟩|⟨id0,c,rfl,_,h1,h2,_,_⟩
 ·subst h;cases hv
 ·subst h;cases hv
 ·cases hv;exact⟨h1,h2⟩
theorem hold_frz{H:AHeap}{lo esz n k:Nat}{v:AVal}{cells cells':List AVal}(h:Hold H lo v esz n cells)(hc:mapO (frzV H lo k) cells=some cells'):frzV H lo (k+1) v=some (.fs false false n cells'):=by
 rcases h with⟨h,rfl,rfl⟩|⟨id,c,rfl,hcap,h1,h2,h3,h4⟩
 ·simp only[mapO_nil,Option.some.injEq] at hc
  subst hc
  rcases h with rfl|rfl<;>rfl
 ·by_cases hn:n=0
  ·subst hn
   have:cells=[]:=List.eq_nil_of_length_eq_zero (by simpa using h4)
   subst this
   simp only[mapO_nil,Option.some.injEq] at hc
   subst hc;rfl
  ·exact frz_lit hn h1 h3 h4 (by rcases hcap with rfl|rfl<;>simp) hc
theorem hold_snap{H:AHeap}{lo esz n k:Nat}{v:AVal}{cells cells':List AVal}(h:Hold H lo v esz n cells)(hc:mapO (snapV H k) cells=some cells'):snapV H (k+1) v=some (.fs (decide (0<n)&&!(v.tup)&&(match v with|.sl ..=>true|_=>false)) false n cells'):=by
 rcases h with⟨h,rfl,rfl⟩|⟨id,c,rfl,hcap,h1,h2,h3,h4⟩
 ·simp only[mapO_nil,Option.some.injEq] at hc
  subst hc
  rcases h with rfl|rfl<;>rfl
 ·by_cases hn:n=0
  ·subst hn
   have:cells=[]:=List.eq_nil_of_length_eq_zero (by simpa using h4)
   subst this
   simp only[mapO_nil,Option.some.injEq] at hc
   subst hc;rfl
  ·rw[snap_lit hn h3 h4 (by rcases hcap with rfl|rfl<;>simp) hc]
   have:0<n:=by omega
   simp[this,AVal.tup]
section
variable {call:CallI} {lo:Nat} {xs:List Item} {kill:List Nat} {Q:Post} {dst:Option Nat} {op:IOp} {re:List (Nat×IOp×Option (Nat×Bool))} {e:Env} {H:AHeap}
theorem step_clone{lo' esz bytes n:Nat}{t f:Bool}{cells:List AVal}(hl:cells.length=n*esz)(he:0<esz)(hb:0<bytes)(hs:(2*n+192)*bytes≤281474976710656)(hlo:lo'≤H.next)
  (k:∀(v:AVal) (H':AHeap),H.next≤H'.next→Hold H' lo' v esz n cells→(∀ id m c,v=.sl id 0 m c→H.next≤id)→(∀ id,id<H.next→H'.get id=H.get id)→stepP call lo xs kill Q dst op re e (some (some v,H'))) :
  stepP call lo xs kill Q dst op re e (callR (cloneV H esz bytes (.fs t f n cells))):=by
 by_cases hn:n=0
 ·subst hn
  have:cells=[]:=List.eq_nil_of_length_eq_zero (by simpa using hl)
  subst this
  have hc:cloneV H esz bytes (.fs t f 0 [])=some (.fs false true 0 [],H):=rfl
  rw[hc]
  exact k _ H (Nat.le_refl _) (.inl ⟨.inl rfl,rfl,rfl⟩) (fun id m c h=>by cases h) fun _ _=>rfl
 ·obtain⟨m,rfl⟩:∃ m,n=m+1:=⟨n-1,by omega⟩
  have hc:cloneV H esz bytes (.fs t f (m+1) cells)=some (.sl H.next 0 (m+1) none,H.push (.cells cells esz false)):=by
   have hm:moreV H esz (.fs t f (m+1) cells)=some (m+1,cells):=by
    simp[moreV,hl]
   simp only[cloneV,isSl,hm]
   rw[if_pos ⟨hl,he,hb,hs⟩]
  rw[hc]
  exact k _ _ (by simp) (.inr ⟨H.next,none,rfl,.inl rfl,hlo,by simp,by simp,hl⟩) (fun id m c h=>by cases h;exact Nat.le_refl _) fun id hid=>get_push_lt hid
theorem step_app0{lo' esz bytes n:Nat}{t f:Bool}{cells:List AVal}(hl:cells.length=n*esz)(he:0<esz)(hb:0<bytes)(hs:(2*n+192)*bytes≤281474976710656)(hlo:lo'≤H.next)
  (k:∀(v:AVal) (H':AHeap),H.next≤H'.next→Acc H' lo' v esz n cells→(∀ id,id<H.next→H'.get id=H.get id)→stepP call lo xs kill Q dst op re e (some (some v,H'))) :
  stepP call lo xs kill Q dst op re e (appR lo H esz bytes (some .ns) (some (.fs t f n cells))):=by
 by_cases hn:n=0
 ·subst hn
  have:cells=[]:=List.eq_nil_of_length_eq_zero (by simpa using hl)
  subst this
  have hc:appR lo H esz bytes (some .ns) (some (.fs t f 0 []))=some (some .ns,H):=by simp[appR,appV,moreV,he,hb]
  rw[hc]
  exact k _ H (Nat.le_refl _) acc_none fun _ _=>rfl
 ·have hc:appR lo H esz bytes (some .ns) (some (.fs t f n cells))=some (some (.sl H.next 0 n none),H.push (.cells cells esz false)):=by
   simp[appR,appV,moreV,hn,hl,he,hb,hs]
  rw[hc]
  exact k _ _ (by simp) (.inr ⟨H.next,rfl,hlo,by simp,by simp,hl⟩) fun id hid=>get_push_lt hid
end
theorem set_same{α:Type}{l:List α}{i:Nat}{x:α}(h:l[i]?=some x):l.set i x=l:=by
 apply List.ext_getElem?
 intro j
 by_cases hj:i=j
 ·subst hj
  have hi:i<l.length:=by
   rcases Nat.lt_or_ge i l.length with h1|h1
   ·exact h1
   ·rw[List.getElem?_eq_none h1] at h;cases h
  rw[List.getElem?_set_self hi,h]
 ·rw[List.getElem?_set_ne hj]
theorem put_val{l:List Val}{i:Nat}{x:Val}(h:l[i]?=some x):putCells (encs l) (i*5) (Enc.cells x)=encs l:=by
 have:=put_encs (k:=0) h (m:=Enc.cells x) (y:=x) (by simp[Enc.sz]) (by simp)
 rw[set_same h] at this
 simpa[show Enc.sz Val=5 from rfl] using this
theorem hold_len{H:AHeap}{lo esz n:Nat}{v:AVal}{cells:List AVal}(h:Hold H lo v esz n cells)(H':AHeap):lenV H' 0 v=some n:=by
 rcases h with⟨h|h,rfl,_⟩|⟨id,c,rfl,_⟩
 ·subst h;rfl
 ·subst h;rfl
 ·rfl
theorem hold_one{H:AHeap}{lo esz n:Nat}{v:AVal}{cells:List AVal}(h:Hold H lo v esz n cells):v.tup=false∧v.cells=[v]:=by
 rcases h with⟨h|h,_,_⟩|⟨id,c,rfl,_⟩
 ·subst h;exact⟨rfl,rfl⟩
 ·subst h;exact⟨rfl,rfl⟩
 ·exact⟨rfl,rfl⟩
theorem hold_mono{H:AHeap}{lo lo' esz n:Nat}{v:AVal}{cells:List AVal}(h:Hold H lo v esz n cells)(hl:lo'≤lo):Hold H lo' v esz n cells:=by
 rcases h with h|⟨id,c,rfl,hc,h1,h2,h3,h4⟩
 ·exact .inl h
 ·exact .inr ⟨id,c,rfl,hc,by omega,h2,h3,h4⟩
theorem hold_in{H H':AHeap}{lo lo' esz n:Nat}{v:AVal}{cells:List AVal}(h:Hold H lo v esz n cells)(hl:lo'≤lo)(hn:H.next≤H'.next)(hk:∀ id,lo≤id→id<H.next→H'.get id=H.get id):Hold H' lo' v esz n cells :=
 hold_mono (hold_keep h hn fun id c hv=>hk id (hold_lt h _ _ _ hv).1 (hold_lt h _ _ _ hv).2) hl
theorem list16{α:Type}{z:List α}(h:z.length=16):∃ z0 z1 z2 z3 z4 z5 z6 z7 z8 z9 z10 z11 z12 z13 z14 z15,z=[z0,z1,z2,z3,z4,z5,z6,z7,z8,z9,z10,z11,z12,z13,z14,z15]:=by
 match z,h with
 | [z0,z1,z2,z3,z4,z5,z6,z7,z8,z9,z10,z11,z12,z13,z14,z15],_=>exact⟨z0,z1,z2,z3,z4,z5,z6,z7,z8,z9,z10,z11,z12,z13,z14,z15,rfl⟩
end Go.RI
namespace Go.RI
open Go
def numI(a b:Int):Int:=if a<b then -1 else if b<a then 1 else 0
def txtI(a b:Str):Int:=if ltB a b then -1 else if ltB b a then 1 else 0
def cmpS:List Str→List Str→Int
 | [],[]=>0
 | [],_::_=>-1
 | _::_,[]=>1
 | a::l,b::m=>if a=b then cmpS l m else txtI a b
mutual
def cmpV:Val→Val→Int
 | .mk k n s l ns,.mk k' n' s' l' ns'=>if k=k' then(if n=n' then(if s=s' then(if ns=ns' then cmpVL l l' else cmpS ns ns') else txtI s s') else numI n n') else numI k k'
def cmpVL:List Val→List Val→Int
 | [],[]=>0
 | [],_::_=>-1
 | _::_,[]=>1
 | v::l,w::m=>if cmpV v w=0 then cmpVL l m else cmpV v w
end
theorem ltB_total:∀ a b:Str,a≠b→ltB a b=true∨ltB b a=true
  | [],[],h=>absurd rfl h
  | [],_::_,_=>.inl rfl
  | _::_,[],_=>.inr rfl
  | x::a,y::b,h=>by
    simp only[ltB,Bool.or_eq_true,decide_eq_true_eq,Bool.and_eq_true,beq_iff_eq]
    by_cases hxy:x=y
    · subst hxy
      have:a≠b:=fun e=>h (by rw[e])
      rcases ltB_total a b this with h2|h2
      · exact .inl (.inr ⟨rfl,h2⟩)
      · exact .inr (.inr ⟨rfl,h2⟩)
    · rcases Nat.lt_or_gt_of_ne (fun e=>hxy (UInt8.toNat_inj.1 e)) with h2|h2
      · exact .inl (.inl h2)
      · exact .inr (.inl h2)
theorem txtI_ne{a b:Str}(h:a≠b):txtI a b≠0:=by
 unfold txtI
 rcases ltB_total a b h with h1|h1
 ·rw[h1];simp
 ·split
  ·simp
  ·simp[h1]
theorem numI_ne{a b:Int}(h:a≠b):numI a b≠0:=by
 unfold numI
 split
 ·simp
 ·rw[if_pos (by omega)];simp
theorem cmpS_iff:∀ a b:List Str,cmpS a b=0↔a=b
  | [],[]=>by simp[cmpS]
  | [],_::_=>by simp[cmpS]
  | _::_,[]=>by simp[cmpS]
  | x::a,y::b=>by
    simp only[cmpS]
    split
    · rename_i h;subst h;simp[cmpS_iff a b]
    · rename_i h;simp[txtI_ne h,h]
mutual
theorem cmpV_iff:∀ v w:Val,cmpV v w=0↔v=w
  | .mk k n s l ns,.mk k' n' s' l' ns'=>by
    have h1:=cmpVL_iff l l'
    have h2:=cmpS_iff ns ns'
    simp only[cmpV]
    split
    · rename_i e1
      split
      · rename_i e2
        split
        · rename_i e3
          split
          · rename_i e4;simp[e1,e2,e3,e4,h1]
          · rename_i e4;simp[e4,h2]
        · rename_i e3;simp[e3,txtI_ne e3]
      · rename_i e2;simp[e2,numI_ne e2]
    · rename_i e1;simp[e1,numI_ne e1]
theorem cmpVL_iff:∀ l m:List Val,cmpVL l m=0↔l=m
  | [],[]=>by simp[cmpVL]
  | v::l,w::m=>by
    simp only[cmpVL]
    split
    · rename_i h;have:=(cmpV_iff v w).1 h;subst this;simp[cmpVL_iff l m]
    · rename_i h
      have:v≠w:=fun e=>h ((cmpV_iff v w).2 e)
      simp[h,this]
  | [],_::_=>by simp[cmpVL]
  | _::_,[]=>by simp[cmpVL]
end
theorem ltB_asym:∀ a b:Str,ltB a b=true→ltB b a=false
  | [],[],h=>by cases h
  | _::_,[],h=>by cases h
  | [],_::_,_=>rfl
  | x::a,y::b,h=>by
    simp only[ltB,Bool.or_eq_true,decide_eq_true_eq,Bool.and_eq_true,beq_iff_eq] at h
    simp only[ltB,Bool.or_eq_false_iff,decide_eq_false_iff_not,Bool.and_eq_false_iff]
    rcases h with h|⟨rfl,h⟩
    · have h':x.toNat<y.toNat:=h
      refine⟨fun h2=>?_,.inl ?_⟩
      · have h2':y.toNat<x.toNat:=h2;omega
      · simp;intro e;subst e;omega
    · refine⟨fun h2=>?_,.inr (ltB_asym a b h)⟩
      have h2':x.toNat<x.toNat:=h2;omega
instance:DecidableEq Val:=fun v w=>if h:sameV v w=true then .isTrue ((sameV_iff v w).1 h) else .isFalse fun e=>h ((sameV_iff v w).2 e)
end Go.RI
namespace Go.RI
open Go
theorem Opn.ext_iff'{a b:Opn}:a=b↔a.kind=b.kind∧a.n=b.n∧a.v=b.v:=by cases a;cases b;simp
theorem Stp.ext_iff'{a b:Stp}:a=b↔a.op=b.op∧a.n=b.n∧a.s=b.s∧a.l=b.l∧a.names=b.names:=by
 constructor
 ·rintro rfl;exact⟨rfl,rfl,rfl,rfl,rfl⟩
 ·cases a;cases b;rintro⟨h1,h2,h3,h4,h5⟩;simp only at h1 h2 h3 h4 h5;subst h1 h2 h3 h4 h5;rfl
theorem Pce.ext_iff'{a b:Pce}:a=b↔(a.func=b.func∧a.at_=b.at_∧a.many=b.many∧a.homes=b.homes∧a.exit=b.exit∧a.to=b.to∧a.deep=b.deep)∧a.ins=b.ins∧a.sets=b.sets∧a.cond=b.cond:=by
 constructor
 ·rintro rfl;exact⟨⟨rfl,rfl,rfl,rfl,rfl,rfl,rfl⟩,rfl,rfl,rfl⟩
 ·cases a;cases b;rintro⟨⟨h1,h2,h3,h4,h7,h8,h10⟩,h5,h6,h9⟩;simp only at h1 h2 h3 h4 h5 h6 h7 h8 h9 h10;subst h1 h2 h3 h4 h5 h6 h7 h8 h9 h10;rfl
instance:DecidableEq Opn:=fun _ _=>decidable_of_iff _ Opn.ext_iff'.symm
instance:DecidableEq Stp:=fun _ _=>decidable_of_iff _ Stp.ext_iff'.symm
instance:DecidableEq Pce:=fun _ _=>decidable_of_iff _ Pce.ext_iff'.symm
end Go.RI
namespace Go.RI
open Go
section
variable {call:CallI} {lo:Nat} {e:Env} {H:AHeap} {Q:Post}
noncomputable def slR(esz:Nat)(H:AHeap)(v:Option AVal)(l h m:Option (Option Nat)):Option (Option AVal×AHeap):=match v,l,h,m with
 | some v,some l,some h,some m=>(slV esz H v l h m).map fun x=>(some x.1,x.2)
 | _,_,_,_=>none
noncomputable def slqR(esz:Nat)(H:AHeap)(v:Option AVal)(l h m:Option (Option Nat)):Option (Option AVal×AHeap):=match v,l,h,m with
 | some v,some l,some h,some m=>match slV esz H v l h m with
   | some (v',H')=>if H'.next=H.next∧(isFs v=true→m.isSome∨l.getD 0=0∨isFs0 v'=false) then some (some v',H) else if dynS v l h m=true then some (some v',H') else none
   | none=>none
 | _,_,_,_=>none
@[simp] theorem op_sl{esz:Nat}{x:Opd}{l h m:Option Opd}:opI call lo (.sl esz x l h m) e H=slR esz H (x.eval e) (optI e l) (optI e h) (optI e m):=by
 simp only[opI,aop,slR]
 rcases x.eval e with _|v<;>rcases optI e l with _|l<;>rcases optI e h with _|h<;>rcases optI e m with _|m<;>rfl
@[simp] theorem op_slq{esz:Nat}{x:Opd}{l h m:Option Opd}:opI call lo (.slq esz x l h m) e H=slqR esz H (x.eval e) (optI e l) (optI e h) (optI e m):=by
 simp only[opI,aop,slqR]
 rcases x.eval e with _|v<;>rcases optI e l with _|l<;>rcases optI e h with _|h<;>rcases optI e m with _|m<;>rfl
@[simp] theorem slR_from{esz len l:Nat}{t f:Bool}{cs:List AVal}(hl:cs.length=len*esz)(h:l≤len):slR esz H (some (.fs t f len cs)) (some (some l)) (some none) (some none)=some (some (.fs t (f&&decide (len=len)) (len-l) ((cs.drop (l*esz)).take ((len-l)*esz))),H):=by
 simp[slR,slV,hl,h]
@[simp] theorem slqR_to{esz len h:Nat}{t f:Bool}{cs:List AVal}(hl:cs.length=len*esz)(hh:h≤len):slqR esz H (some (.fs t f len cs)) (some none) (some (some h)) (some none)=some (some (.fs t (f&&decide (h=len)) h (cs.take (h*esz))),H):=by
 simp[slqR,slV,hl,hh]
@[simp] theorem op_idxA{n:Option Nat}{esz len:Nat}{x i:Opd}:opI call lo (.idxA n esz len x i) e H=val H (two (idxAV n esz len) (x.eval e) (i.eval e)):=by
 simp only[opI,aop]
 rcases x.eval e with _|a<;>rcases i.eval e with _|b<;>rfl
@[simp] theorem idxA_i{n:Option Nat}{esz len:Nat}{v:AVal}{k:IntKind}{j:Int}:idxAV n esz len v (.i k j)=if 0≤j∧j<len then partV n (j.toNat*esz) v else none:=rfl
end
@[simp] theorem tup_fn{f:Fn}{a c:List AVal}:(AVal.fn f a c).tup=false:=rfl
@[simp] theorem cells_fn{f:Fn}{a c:List AVal}:(AVal.fn f a c).cells=[.fn f a c]:=rfl
@[simp] theorem tup_nf:AVal.nf.tup=false:=rfl
@[simp] theorem cells_nf:AVal.nf.cells=[.nf]:=rfl
theorem calls_one_of{IP:FuncId→Option IFunc}{G:AHeap}{f:FuncId}{fn:IFunc}{args:List AVal}{H:AHeap}{R:AVal→AHeap→Prop}(hf:IP f=some fn)(hm:fn.mode=1)(hl:args.length=fn.np)
  (h:wp (theCalls IP G H.next) H.next fn.body (ends fn R) (initEnv 0 args) H):∃ v H',(∀ lo,theCalls IP G lo f args H=some (v,H'))∧R v H':=by
 obtain⟨n,u,H1,hb,hr⟩:=body_wp (theCalls_knows _) hl h
 refine⟨u,H1,fun lo=>?_,hr⟩
 apply theCalls_of
 refine⟨n,?_⟩
 simp only[acall,callI,callB,hf,hm,hb]
theorem one_of{α:Type}{l:List α}(h:1≤l.length):∃ x m,l=x::m:=by
 match l,h with
 | x::m,_=>exact⟨x,m,rfl⟩
def isNum(o:Opn):Bool:=decide (o.kind=3)&&decide (o.v.kind=1)
def rowSecond(op to sign:Int)(i:Stp):Stp×Bool :=
 if i.op=op then(⟨to,wrapI .i64 (sign*(i.l[1]?.getD default).v.n),i.l.take 1,[],[]⟩,isNum (i.l[1]?.getD default)) else(i,false)
def rowFirst(i:Stp):Stp×Bool :=
 if i.op=43 then(⟨48,(i.l[0]?.getD default).v.n,i.l.drop 1,[],[]⟩,isNum (i.l[0]?.getD default)) else(i,false)
def rowChain(l:List Stp)(i:Stp):Stp×Bool :=
 if i.op=48∧(i.l[0]?.getD default).kind=2 then
  let j:=l[(i.l[0]?.getD default).n.toNat]?.getD default
  (⟨j.op,wrapI .i64 (j.n+i.n),j.l,[],[]⟩,decide (j.op=48))
 else(i,false)
def rowAtN(n:Nat)(l:List Stp)(i:Stp):Stp×Bool:=match n with
 | 0=>rowSecond 43 48 1 i
 | 1=>rowFirst i
 | 2=>rowSecond 44 48 (-1) i
 | 3=>rowSecond 46 49 1 i
 | _=>rowChain l i
def turn1(l:List Stp)(i:Stp):Option Stp :=
 if(rowAtN 0 l i).2 then some (rowAtN 0 l i).1 else if(rowAtN 1 l i).2 then some (rowAtN 1 l i).1 else if(rowAtN 2 l i).2 then some (rowAtN 2 l i).1
 else if(rowAtN 3 l i).2 then some (rowAtN 3 l i).1 else if(rowAtN 4 l i).2 then some (rowAtN 4 l i).1 else none
def turnN:Nat→List Stp→Stp→Stp
  | 0,_,i=>i
  | k+1,l,i=>match turn1 l i with
    | some j=>turnN k l j
    | none=>i
end Go.RI
namespace Go.RI
end Go.RI
namespace Go.RI
open Go
def rank(l:List Stp)(i:Stp):Nat :=
 if i.op=43∨i.op=44∨i.op=46 then l.length+2
 else if i.op=48∧(i.l[0]?.getD default).kind=2 then(i.l[0]?.getD default).n.toNat+1 else 0
def turned(l:List Stp)(i:Stp):Stp:=turnN (rank l i) l i
end Go.RI
namespace Go.RI
open Go
theorem opnFits_step{homes a:Int}{o:Opn}(h:opnFits homes a o=true)(hk:o.kind=2):0≤o.n∧o.n<a:=by
 unfold opnFits at h
 rw[if_neg (by omega),if_pos hk] at h
 simp only[Bool.and_eq_true,decide_eq_true_eq] at h
 exact h.1
theorem fits_all{homes a:Int}{s:Stp}(h:stpFits homes a s=true):∀ o∈s.l,opnFits homes a o=true:=by
 unfold stpFits at h
 simp only[Bool.and_eq_true,List.all_eq_true] at h
 exact h.2
def Fits(homes:Int)(l:List Stp):Prop:=∀(k:Nat) (s:Stp),l[k]?=some s→stpFits homes k s=true
theorem stepsFit_of{homes:Int}:∀(l:List Stp) (a:Nat),(∀(k:Nat) (s:Stp),l[k]?=some s→stpFits homes (a+k) s=true)→stepsFit homes l a=true
  | [],_,_=>rfl
  | i::l,a,h=>by
    rw[stepsFit,Bool.and_eq_true]
    refine⟨by simpa using h 0 i rfl,?_⟩
    have:=stepsFit_of l (a+1) fun k s hk=>by
      have:=h (k+1) s (by simpa using hk)
      rw[show((a+1:Nat):Int)+(k:Int)=(a:Int)+((k+1:Nat):Int) by omega]
      exact this
    simpa using this
theorem check_fits{x:Pce}(h:checkP x=true):Fits x.homes x.ins:=fun k s hk=>by
 have:=stepsFit_at ((checkP_iff.1 h).2.1) hk
 simpa using this
end Go.RI
namespace Go.RI
open Go
theorem hold_app{lo lo' esz bytes n m:Nat}{H:AHeap}{v y:AVal}{cells ys:List AVal}(h:Hold H lo' v esz n cells)(hll:lo≤lo')(hlo:lo'≤H.next)(hy:moreV H esz y=some (m,ys))(hl:ys.length=m*esz)(he:0<esz)(hb:0<bytes)(hs:(2*(n+m)+192)*bytes≤281474976710656)(hm:0<m) :
  ∃ H',appR lo H esz bytes (some v) (some y)=some (some (.sl H.next 0 (n+m) none),H')∧Acc H' lo' (.sl H.next 0 (n+m) none) esz (n+m) (cells++ys)∧H'.next=H.next+1 ∧
   ∀ id,id<H.next→(∀ id0 n0 c0,v=.sl id0 0 n0 c0→id≠id0)→H'.get id=H.get id:=by
 have hm0:m≠0:=by omega
 rcases h with⟨rfl|rfl,rfl,rfl⟩|⟨id0,c,rfl,hc,h1,h2,h3,h4⟩
 ·refine⟨H.push (.cells ys esz false),?_,.inr ⟨H.next,by simp,hlo,by simp,by simp,by simpa using hl⟩,rfl,?_⟩
  ·have:(2*m+192)*bytes≤281474976710656:=by simpa using hs
   simp[appR,appV,hy,hl,he,hb,hm0,this]
  ·intro id hid _
   simp[show id≠H.next by omega]
 ·exact acc_app (acc_none (H:=H) (lo:=lo') (esz:=esz)) hll hlo hy hl he hb (by simpa using hs) hm
 ·rcases hc with rfl|rfl
  ·exact acc_app (.inr ⟨id0,rfl,h1,h2,h3,h4⟩) hll hlo hy hl he hb hs hm
  ·refine⟨H.push (.cells (cells++ys) esz false),?_,.inr ⟨H.next,rfl,by omega,by simp,by simp,by simp[h4,hl,Nat.add_mul]⟩,rfl,?_⟩
   ·have ht:cells.take (n*esz)=cells:=List.take_of_length_le (by omega)
    by_cases hn:n=0
    ·subst hn
     have:cells=[]:=List.eq_nil_of_length_eq_zero (by simpa using h4)
     subst this
     have:(2*m+192)*bytes≤281474976710656:=by simpa using hs
     simp[appR,appV,hy,hl,he,hb,hm0,this]
    ·have hr:rowAt H id0 0 (n*esz)=some cells:=by
      simp only[rowAt,h3]
      rw[if_pos (by omega)]
      simp[ht]
     simp[appR,appV,hy,hl,he,hb,hm0,hs,hn,hr,show ¬ n+m≤n by omega]
   ·intro id hid hne
    simp[show id≠H.next by omega]
theorem step_appH{call:CallI}{lo lo' esz bytes n m:Nat}{H:AHeap}{v y:AVal}{cells ys:List AVal}{xs:List Item}{kill:List Nat}{Q:Post}{dst:Option Nat}{op:IOp}{re:List (Nat×IOp×Option (Nat×Bool))}{e:Env}
  (h:Hold H lo' v esz n cells) (hll:lo≤lo') (hlo:lo'≤H.next) (hy:moreV H esz y=some (m,ys)) (hl:ys.length=m*esz) (he:0<esz) (hb:0<bytes) (hs:(2*(n+m)+192)*bytes≤281474976710656) (hm:0<m)
  (k:∀ H':AHeap,H'.next=H.next+1→Acc H' lo' (.sl H.next 0 (n+m) none) esz (n+m) (cells++ys)→(∀ id,id<H.next→(∀ id0 n0 c0,v=.sl id0 0 n0 c0→id≠id0)→H'.get id=H.get id)→stepP call lo xs kill Q dst op re e (some (some (.sl H.next 0 (n+m) none),H'))) :
  stepP call lo xs kill Q dst op re e (appR lo H esz bytes (some v) (some y)):=by
 obtain⟨H',h1,h2,h3,h4⟩:=hold_app h hll hlo hy hl he hb hs hm
 rw[h1]
 exact k H' h3 h2 h4
end Go.RI
namespace Go.RI
open Go
theorem law_brings{IP:FuncId→Option IFunc}{G:AHeap}{f:FuncId}{fn:IFunc}(hf:IP f=some fn)(hm:fn.mode=0){args:List AVal}(hl:args.length=fn.np){v:AVal}
  (h:wp (theCalls IP G G.next) G.next fn.body (fin fn.res fun u _=>u=v) (initEnv 0 args) G):∃ H',Brings IP G G.next f args G v H':=by
 obtain⟨n,u,H',hb,rfl⟩:=body_wp (fn:=fn) (R:=fun u _=>u=v) (theCalls_knows _) hl (by rw[ends_fin];exact h)
 refine⟨H',n,?_⟩
 simp only[acall,callI,callB,hf,hm,hb]
end Go.RI
namespace Go.RI
open Go
theorem calls_nil_of{IP:FuncId→Option IFunc}{G:AHeap}{lo:Nat}{f:FuncId}{fn:IFunc}{args:List AVal}{H:AHeap}{R:AVal→AHeap→Prop}(hf:IP f=some fn)(hm:fn.mode=0)(hl:args.length=fn.np)
  (h:wp (theCalls IP G lo) lo fn.body (fin fn.res R) (initEnv 0 args) H):∃ v H',theCalls IP G lo f args H=some (v,H')∧R v H':=by
 obtain⟨n,u,H1,hb,hr⟩:=body_wp (fn:=fn) (R:=R) (theCalls_knows _) hl (by rw[ends_fin];exact h)
 refine⟨u,H1,?_,hr⟩
 apply theCalls_of
 refine⟨n,?_⟩
 simp only[acall,callI,callB,hf,hm,hb]
section
variable {call:CallI} {lo:Nat} {e:Env} {H:AHeap}
@[simp] theorem op_mkmap:opI call lo .mkmap e H=some (some (.m H.next),H.push (.map [])):=rfl
@[simp] theorem op_look{ag okf:Bool}{ks:List Nat}{z:AVal}{x k:Opd}:opI call lo (.look ag ks z okf x k) e H=val H (two (lookV H ag ks z okf) (x.eval e) (k.eval e)):=by
 simp only[opI,aop]
 rcases x.eval e with _|a<;>rcases k.eval e with _|b<;>rfl
def nckV:AVal→Option AVal
 | .p id off=>some (.p id off)
 | .fn (.func f) a c=>some (.fn (.func f) a c)
 | .ifc t v=>some (.ifc t v)
 | .fp l=>some (.fp l)
 | _=>none
@[simp] theorem nckV_p{id off:Nat}:nckV (.p id off)=some (.p id off):=rfl
@[simp] theorem nckV_fp{l:List AVal}:nckV (.fp l)=some (.fp l):=rfl
@[simp] theorem op_nck{x:Opd}:opI call lo (.nck x) e H=val H ((x.eval e).bind nckV):=by
 simp only[opI,aop]
 rcases x.eval e with _|v
 ·rfl
 ·cases v<;>try rfl
  rename_i f a c
  cases f<;>rfl
@[simp] theorem op_eqNil{k:Nat}{neg:Bool}{x y:Opd}:opI call lo (.eqNil k neg x y) e H=val H (two (fun a b=>(eqNilV k a b).map fun r=>AVal.b (if neg then !r else r)) (x.eval e) (y.eval e)):=by
 simp only[opI,aop]
 rcases x.eval e with _|a<;>rcases y.eval e with _|b<;>rfl
@[simp] theorem eqNil_p{id off:Nat}:eqNilV 1 (.p id off) .np=some false:=rfl
@[simp] theorem eqNil_m{id:Nat}:eqNilV 2 (.m id) .nm=some false:=rfl
noncomputable def mapupR(lo:Nat)(H:AHeap)(ag:Bool)(ks:List Nat):Option AVal→Option AVal→Option AVal→Option (Option AVal×AHeap)
 | some m,some k,some v=>(mapupV lo H ag ks k v m).map fun H'=>(none,H')
 | _,_,_=>none
@[simp] theorem op_mapup{ag:Bool}{ks:List Nat}{x k v:Opd}:opI call lo (.mapup ag ks x k v) e H=mapupR lo H ag ks (x.eval e) (k.eval e) (v.eval e):=by
 simp only[opI,aop]
 rcases x.eval e with _|a<;>rcases k.eval e with _|b<;>rcases v.eval e with _|c<;>rfl
@[simp] theorem tup_m{a:Nat}:(AVal.m a).tup=false:=rfl
@[simp] theorem cells_m{a:Nat}:(AVal.m a).cells=[.m a]:=rfl
noncomputable def lookM(z:AVal)(okf:Bool)(a b:Int):Option AObj→Option AVal
  | some (.map es)=>match findA true [1,1] [.i .i64 a,.i .i64 b] es 0 with
    | some (some (_,v))=>some (if okf then .tu [v,.b true] else v)
    | some none=>some (if okf then .tu [z,.b false] else z)
    | none=>none
  | _=>none
@[simp] theorem look_two{z:AVal}{okf:Bool}{id:Nat}{a b:Int}:lookV H true [1,1] z okf (.m id) (.ag [.i .i64 a,.i .i64 b])=lookM z okf a b (H.get id):=by
 simp only[lookV,mapEs,lookM]
 rcases H.get id with _|⟨c,esz,ro⟩|es
 ·rfl
 ·rfl
 ·simp[keyC]
  rcases findA true [1,1] [.i .i64 a,.i .i64 b] es 0 with _|_|⟨_,_⟩<;>rfl
@[simp] theorem look_none{z:AVal}{okf:Bool}{a b:Int}:lookM z okf a b (some (.map []))=some (if okf then .tu [z,.b false] else z):=by
 simp[lookM,findA]
@[simp] theorem look_some{z v:AVal}{okf:Bool}{a b a' b':Int}:lookM z okf a b (some (.map [(.ag [.i .i64 a',.i .i64 b'],v)]))=some (if a=a'∧b=b' then(if okf then .tu [v,.b true] else v) else(if okf then .tu [z,.b false] else z)):=by
 simp[lookM,keyC,findA]
 by_cases h1:a=a'<;>by_cases h2:b=b'<;>simp[h1,h2]
noncomputable def mapupM(lo id:Nat)(H:AHeap)(a b:Int)(l:List AVal):Option AObj→Option AHeap
  | some (.map es)=>if lo≤id then match findA true [1,1] [.i .i64 a,.i .i64 b] es 0 with
    | some (some (i,_))=>some (H.put id (some (.map (es.set i (.ag [.i .i64 a,.i .i64 b],.ag l)))))
    | some none=>some (H.put id (some (.map (es++[(.ag [.i .i64 a,.i .i64 b],.ag l)]))))
    | none=>none
    else none
  | _=>none
@[simp] theorem mapup_two{lo id:Nat}{a b:Int}{l:List AVal}:mapupV lo H true [1,1] (.ag [.i .i64 a,.i .i64 b]) (.ag l) (.m id)=mapupM lo id H a b l (H.get id):=by
 simp only[mapupV,mapupM]
 rcases H.get id with _|⟨c,esz,ro⟩|es
 ·simp
 ·simp
 ·simp[keyC]
  rcases findA true [1,1] [.i .i64 a,.i .i64 b] es 0 with _|_|⟨_,_⟩<;>rfl
@[simp] theorem mapup_none{lo id:Nat}{a b:Int}{l:List AVal}(hl:lo≤id):mapupM lo id H a b l (some (.map []))=some (H.put id (some (.map [(.ag [.i .i64 a,.i .i64 b],.ag l)]))):=by
 simp[mapupM,hl,findA]
@[simp] theorem mapup_some{lo id:Nat}{a b:Int}{l:List AVal}{v:AVal}(hl:lo≤id):mapupM lo id H a b l (some (.map [(.ag [.i .i64 a,.i .i64 b],v)]))=some (H.put id (some (.map [(.ag [.i .i64 a,.i .i64 b],.ag l)]))):=by
 simp[mapupM,hl,keyC,findA]
@[simp] theorem mapupR_some{lo:Nat}{ag:Bool}{ks:List Nat}{m k v:AVal}:mapupR lo H ag ks (some m) (some k) (some v)=(mapupV lo H ag ks k v m).map fun H'=>(none,H'):=rfl
end
end Go.RI
namespace Go.RI
open Go
def numV(n:Int):Val:=.mk 1 n [] [] []
def yesV(b:Bool):Val:=.mk 2 (if b then 1 else 0) [] [] []
def madeV(v:Val):Val×Int:=if mayV v then(v,0) else(zeroVal,4)
def unaryV(op:Int)(a:Val):Val×Int×Int :=
 if mayV a=false then(zeroVal,0,2)
 else if op=6 then(if a.kind=1 then(numV (wrapI .i64 (0-a.n)),0,0) else(zeroVal,2,0))
 else if op=7 then(if a.kind=2 then(yesV (decide (a.n=0)),0,0) else(zeroVal,2,0))
 else if op=8 then(if a.kind=3∨a.kind=4 then(numV ((a.s.length:Int)+a.l.length),0,0) else(zeroVal,2,0))
 else(zeroVal,0,2)
def intsV(op a b:Int):Val×Int :=
 if op=9 then(numV (wrapI .i64 (a+b)),0)
 else if op=10 then(numV (wrapI .i64 (a-b)),0)
 else if op=11 then(numV (wrapI .i64 (a*b)),0)
 else if op=17 then(yesV (decide (a≤b)),0)
 else if op=16 then(yesV (decide (a<b)),0)
 else if op=12 then(if b=0 then(zeroVal,1) else(numV (wrapI .i64 (a.tdiv b)),0))
 else if op=13 then(if b=0 then(zeroVal,1) else(numV (a.tmod b),0))
 else(zeroVal,2)
def textsV(op:Int)(a b:Str):Val×Int :=
 if op=9 then madeV (.mk 3 0 (a++b) [] [])
 else if op=17 then(yesV (leS a b),0)
 else if op=16 then(yesV (ltB a b),0)
 else(zeroVal,2)
def longerV(a:Val)(more:List Val):Val×Int:=madeV (.mk 4 0 [] (a.l++more) [])
def binV2(op:Int)(a b:Val):Val×Int :=
 if op=14 then(yesV (sameV a b),0)
 else if op=15 then(yesV (!sameV a b),0)
 else if a.kind=1∧b.kind=1 then intsV op a.n b.n
 else if a.kind=3∧b.kind=3 then textsV op a.s b.s
 else if op=18∧a.kind=4 then longerV a [b]
 else if op=9∧a.kind=4∧b.kind=4 then longerV a b.l
 else if op=19∧a.kind=4∧b.kind=1 then(if 0≤b.n∧b.n<a.l.length then(a.l[b.n.toNat]?.getD zeroVal,0) else(zeroVal,3))
 else(zeroVal,2)
def binaryV(op:Int)(a b:Val):Val×Int×Int :=
 if op<9∨19<op∨mayV a=false∨mayV b=false then(zeroVal,0,2) else((binV2 op a b).1,(binV2 op a b).2,0)
def listV(l:List Val):Val×Int×Int:=if l.all mayV then((madeV (.mk 4 0 [] l [])).1,(madeV (.mk 4 0 [] l [])).2,0) else(zeroVal,0,2)
def recV(ns:List Str)(l:List Val):Val×Int×Int :=
 if recordS ns=true∧l.length=ns.length∧l.all mayV=true then((madeV (.mk 5 0 [] l ns)).1,(madeV (.mk 5 0 [] l ns)).2,0) else(zeroVal,0,2)
def fieldV(a:Val)(s:Str):Val×Int×Int :=
  if mayV a=false∨recordS [s]=false then(zeroVal,0,2)
  else if a.kind=5 then(match a.names.findIdx? (·==s) with
    | some i=>(a.l[i]?.getD zeroVal,0,0)
    | none=>(zeroVal,6,0))
  else(zeroVal,2,0)
mutual
def hasTV:Shp→Val→Bool
 | s,.mk k _ _ l ns=>decide (k=s.kind)&&decide (ns=s.names)&&hasL s l 0
def hasL:Shp→List Val→Nat→Bool
 | _,[],_=>true
 | s,v::l,i=>hasTV (s.l[if s.kind=4 then 0 else i]?.getD default) v&&hasL s l (i+1)
end
theorem hasTV_eq(s:Shp)(v:Val):hasTV s v=(decide (v.kind=s.kind)&&decide (v.names=s.names)&&hasL s v.l 0):=by cases v;rw[hasTV];rfl
def isTV(v:Val)(t:Str):Bool:=(typedS t).2&&(mayV v&&hasTV (typedS t).1 v)
def resV(r:Val×Int×Int):Option Val:=if r.2.1=0∧r.2.2=0 then some r.1 else none
def intsS(op:Int)(a b:Val):Option Val:=if a.kind=1∧b.kind=1 then resV (binaryV op a b) else none
def opS(i:Stp)(l:List Val):Option Val :=
 let a:=l[0]?.getD zeroVal
 let b:=l[1]?.getD zeroVal
 if i.op=20 then resV (listV l)
 else if i.op=21 then resV (recV i.names l)
 else if i.op=22 then resV (fieldV a i.s)
 else if i.op=23 then(if isTV a i.s then some a else none)
 else if i.op=40 then(if a.kind=i.n then some a else none)
 else if i.op=41 then resV (unaryV 6 a)
 else if i.op=42 then resV (unaryV 7 a)
 else if i.op=43 then intsS 9 a b
 else if i.op=44 then intsS 10 a b
 else if i.op=45 then intsS 11 a b
 else if i.op=46 then intsS 16 a b
 else if i.op=47 then intsS 17 a b
 else if i.op=48 then intsS 9 a (numV i.n)
 else if i.op=49 then intsS 16 a (numV i.n)
 else if(needs i).1=2 then resV (binaryV i.op a b)
 else resV (unaryV i.op a)
def stepV(i:Stp)(l:List Val):Option Val :=
 if(needs i).2.2=true∧(needs i).1≤l.length∧(l.length:Int)≤(needs i).2.1∧l.all mayV=true then opS i l else none
def ofO(homes made:List Val)(o:Opn):Val :=
 if o.kind=1 then homes[o.n.toNat]?.getD zeroVal else if o.kind=2 then made[o.n.toNat]?.getD zeroVal else o.v
def stepsV(homes:List Val):List Stp→List Val→Option (List Val)
  | [],made=>some made
  | i::l,made=>match stepV i (i.l.map (ofO homes made)) with
    | some v=>stepsV homes l (made++[v])
    | none=>none
def toP(x:Pce)(homes made:List Val):Option Int :=
 if x.exit=2 then(if(ofO homes made x.cond).kind=2 then some (if(ofO homes made x.cond).n=1 then wrapI .i64 (x.at_+x.many) else x.to) else none) else some x.to
def doP(x:Pce)(homes:List Val):Option (List Val×Int) :=
 if checkP x=true∧(homes.length:Int)=x.homes∧homes.all mayV=true then match stepsV homes x.ins [] with
  | some made=>(toP x homes made).map fun to=>(x.sets.map (ofO homes made),to)
  | none=>none
 else none
end Go.RI
namespace Go.RI
open Go
theorem bin_sadd{a b:Str}(h:a.length+b.length≤9223372036854775807):binV .add (.s a) (.s b)=some (.s (a++b)):=by
 show binS .add a b=_
 unfold binS
 rw[if_pos h]
theorem bulkL_app:∀ l m:List Val,bulkL (l++m)=bulkL l+bulkL m
 | [],m=>by simp[bulkL]
 | v::l,m=>by simp only[List.cons_append,bulkL,bulkL_app l m];omega
section
variable {call:CallI} {lo:Nat} {xs:List Item} {kill:List Nat} {Q:Post} {dst:Option Nat} {op:IOp} {re:List (Nat×IOp×Option (Nat×Bool))} {e:Env} {H:AHeap}
theorem step_appA{lo' esz bytes n m:Nat}{v:AVal}{cells ys:List AVal}{t f:Bool}(h:Hold H lo' v esz n cells)(hll:lo≤lo')(hlo:lo'≤H.next)(hl:ys.length=m*esz)(he:0<esz)(hb:0<bytes)(hs:(2*(n+m)+192)*bytes≤281474976710656)
  (k:∀(v':AVal) (H':AHeap),H.next≤H'.next→Hold H' lo' v' esz (n+m) (cells++ys)→(∀ id,id<H.next→(∀ id0 n0 c0,v=.sl id0 0 n0 c0→id≠id0)→H'.get id=H.get id)→stepP call lo xs kill Q dst op re e (some (some v',H'))) :
  stepP call lo xs kill Q dst op re e (appR lo H esz bytes (some v) (some (.fs t f m ys))):=by
 by_cases hm:m=0
 ·subst hm
  have hy:ys=[]:=List.eq_nil_of_length_eq_zero (by simpa using hl)
  subst hy
  have hc:appR lo H esz bytes (some v) (some (.fs t f 0 []))=some (some v,H):=by
   rcases h with⟨rfl|rfl,rfl,rfl⟩|⟨id,c,rfl,hc,_⟩
   ·simp[appR,appV,moreV,he,hb]
   ·simp[appR,appV,moreV,he,hb]
   ·rcases hc with rfl|rfl<;>simp[appR,appV,moreV,he,hb]
  rw[hc]
  exact k v H (Nat.le_refl _) (by simpa using h) fun _ _ _=>rfl
 ·refine step_appH h hll hlo (by simp[moreV,hm,hl]) hl he hb hs (by omega) ?_
  intro H' hn hA hf
  exact k _ H' (by omega) hA.hold hf
end
end Go.RI
namespace Go.RI
open Go
theorem ltB_irrefl(a:Str):ltB a a=false:=by
 cases h:ltB a a with
 | false=>rfl
 | true=>have:=ltB_asym a a h;rw[h] at this;cases this
theorem ltB_trans:∀ a b c:Str,ltB a b=true→ltB b c=true→ltB a c=true
  | _,[],_,h,_=>by simp[ltB] at h
  | _,_::_,[],_,h=>by simp[ltB] at h
  | [],_::_,_::_,_,_=>by simp[ltB]
  | a::x,b::y,c::z,h1,h2=>by
    simp only[ltB,Bool.or_eq_true,Bool.and_eq_true,decide_eq_true_eq,beq_iff_eq] at h1 h2 ⊢
    rcases h1 with h1|⟨rfl,h1⟩
    · rcases h2 with h2|⟨rfl,h2⟩
      · left;exact Nat.lt_trans h1 h2
      · left;exact h1
    · rcases h2 with h2|⟨rfl,h2⟩
      · left;exact h2
      · right;exact⟨rfl,ltB_trans x y z h1 h2⟩
def Rises(ns:List Str):Prop:=∀(i j:Nat) (x y:Str),i<j→ns[i]?=some x→ns[j]?=some y→ltB x y=true
theorem rising_above:∀(l:List Str) (last:Str),rising last l=true→∀ s∈l,ltB last s=true
  | [],_,_,s,h=>by cases h
  | a::l,last,h,s,hs=>by
    simp only[rising,Bool.and_eq_true,Bool.not_eq_true',Bool.or_eq_false_iff,leS] at h
    obtain⟨⟨⟨h1,h2⟩,_⟩,h3⟩:=h
    have hne:¬ a=last:=by intro e;subst e;simp at h2
    have hlt:ltB last a=true:=by
      rcases ltB_total a last hne with h|h
      · rw[h1] at h;cases h
      · exact h
    rcases List.mem_cons.1 hs with rfl|hs
    · exact hlt
    · exact ltB_trans _ _ _ hlt (rising_above l a h3 s hs)
theorem rises_of:∀(l:List Str) (last:Str),rising last l=true→Rises l
  | [],_,_=>by intro i j x y _ h;simp at h
  | a::l,last,h=>by
    have h3:rising a l=true:=by simp only[rising,Bool.and_eq_true] at h;exact h.2
    intro i j x y hij hx hy
    cases j with
    | zero=>omega
    | succ j =>
      simp at hy
      cases i with
      | zero=>simp at hx;subst hx;exact rising_above l a h3 y (List.mem_of_getElem? hy)
      | succ i=>simp at hx;exact rises_of l a h3 i j x y (by omega) hx hy
theorem find_some:∀ {ns:List Str} {s:Str} {i:Nat},ns[i]?=some s→(∀ k x,k<i→ns[k]?=some x→ltB x s=true)→ns.findIdx? (·==s)=some i
  | [],_,i,h,_=>by simp at h
  | a::ns,s,0,h,_=>by simp at h;subst h;simp[List.findIdx?_cons]
  | a::ns,s,i+1,h,hl=>by
    simp at h
    have ha:(a==s)=false:=by
      have:=hl 0 a (by omega) rfl
      cases he:(a==s) with
      | false=>rfl
      | true=>rw[beq_iff_eq] at he;subst he;rw[ltB_irrefl] at this;cases this
    rw[List.findIdx?_cons,find_some h fun k x hk hx=>hl (k+1) x (by omega) (by simpa using hx)]
    simp[ha]
theorem find_none{ns:List Str}{s:Str}{i:Nat}(hr:Rises ns)(hlo:∀ k x,k<i→ns[k]?=some x→ltB x s=true)(hhi:∀ k x,i≤k→ns[k]?=some x→ltB x s=false)(hne:∀ x,ns[i]?=some x→x≠s):ns.findIdx? (·==s)=none:=by
  rw[List.findIdx?_eq_none_iff]
  intro x hx
  obtain⟨k,hk⟩:=List.mem_iff_getElem?.1 hx
  cases he:(x==s) with
  | false=>rfl
  | true =>
    rw[beq_iff_eq] at he
    subst he
    exfalso
    rcases Nat.lt_trichotomy k i with h|h|h
    · have:=hlo k x h hk;rw[ltB_irrefl] at this;cases this
    · subst h;exact hne x hk rfl
    · have hi:i<ns.length:=by
        have:k<ns.length:=by
          rcases Nat.lt_or_ge k ns.length with h1|h1
          · exact h1
          · rw[List.getElem?_eq_none h1] at hk;cases hk
        omega
      obtain⟨y,hy⟩:=get_of_lt hi
      have h1:=hr i k y x h hy hk
      have h2:=hhi i y (Nat.le_refl _) hy
      rw[h1] at h2;cases h2
theorem may_rec{v:Val}(h:mayV v=true)(hk:v.kind=5):v.l.length=v.names.length∧v.names.length≤8∧Rises v.names:=by
 unfold mayV at h
 rw[fitsV_eq] at h
 split at h
 ·cases h
 ·rename_i hc
  have ho:ownV v=true:=by
   cases ho:ownV v with
   | true=>rfl
   | false=>exact absurd (.inr (.inr ho)) hc
  unfold ownV at ho
  simp[hk] at ho
  obtain⟨⟨⟨⟨h1,h2⟩,h3⟩,_⟩,h4⟩:=ho
  exact⟨by omega,by omega,rises_of _ _ h4⟩
theorem wrap_nu{m:Nat}(h:m<4611686018427387904):wrapI .u64 (m:Int)=(m:Int):=by
 obtain⟨I,hI⟩:∃ I:Int,I=m:=⟨_,rfl⟩
 rw[←hI]
 exact wrapI_u64 (by omega) (by omega)
theorem wrap_ni{m:Nat}(h:m<4611686018427387904):wrapI .i64 (m:Int)=(m:Int):=by
 obtain⟨I,hI⟩:∃ I:Int,I=m:=⟨_,rfl⟩
 rw[←hI]
 exact wrap_ok (by omega) (by omega)
theorem half_nat(n:Nat):binV .shr (.i .u64 (n:Int)) (.i .u64 1)=some (.i .u64 ((n / 2:Nat):Int)):=by
 show some (AVal.i IntKind.u64 (Int.fdiv (n:Int) (2 ^ 1)))=_
 rw[Int.fdiv_eq_ediv_of_nonneg _ (by decide)]
 rfl
def shpOk:Shp→Prop:=fun s=>(s.kind=4→s.l.length=1)∧(s.kind=5→s.l.length=s.names.length)
mutual
def deepOk:Shp→Prop
 | .mk k ns l=>((k=4→l.length=1)∧(k=5→l.length=ns.length))∧deepOkL l
def deepOkL:List Shp→Prop
 | []=>True
 | s::l=>deepOk s∧deepOkL l
end
theorem deepL_iff:∀ l:List Shp,deepOkL l↔∀ s∈l,deepOk s
 | []=>by simp[deepOkL]
 | s::l=>by simp[deepOkL,deepL_iff l]
theorem deep_eq(s:Shp):deepOk s↔shpOk s∧∀ x∈s.l,deepOk x:=by
 cases s
 simp only[deepOk,shpOk,deepL_iff,Shp.kind_mk,Shp.l_mk,Shp.names_mk]
theorem kindOf_le(w:Str):kindOf w≠4∧kindOf w≠5:=by
 unfold kindOf
 repeat' split
 all_goals omega
theorem read_deep:∀ f,(∀ t:Str,deepOk (readF f t).1)∧(∀(ns:List Str) (l:List Shp) (t:Str),l.length=ns.length→(∀ x∈l,deepOk x)→deepOk (recF f ns l t).1):=by
  intro f
  induction f with
  | zero =>
    have hz:deepOk ⟨0,[],[]⟩:=by simp[deepOk,deepOkL]
    exact⟨fun t=>by rw[readF];exact hz,fun ns l t _ _=>by rw[recF];exact hz⟩
  | succ f ih =>
    obtain⟨ih1,ih2⟩:=ih
    constructor
    · intro t
      rw[readF]
      split
      · rw[deep_eq]
        simp only[shpOk,Shp.kind_mk,Shp.l_mk,Shp.names_mk]
        exact⟨⟨fun _=>rfl,fun h=>by simp at h⟩,fun x hx=>by simp at hx;subst hx;exact ih1 _⟩
      · split
        · simp[deepOk,deepOkL]
        · split
          · exact ih2 [] [] _ rfl (fun x hx=>by cases hx)
          · have:=kindOf_le (t.take (wordN t))
            simp only[deepOk,deepOkL]
            exact⟨⟨fun h=>absurd h this.1,fun h=>absurd h this.2⟩,trivial⟩
    · intro ns l t hl hd
      have hz:deepOk ⟨0,[],[]⟩:=by simp[deepOk,deepOkL]
      have hadd:∀ x∈l++[(readF f (cutC t 58).2.1).1],deepOk x:=by
        intro x hx
        rcases List.mem_append.1 hx with h|h
        · exact hd x h
        · simp at h;subst h;exact ih1 _
      rw[recF]
      split
      · exact hz
      · split
        · rw[deep_eq]
          simp only[shpOk,Shp.kind_mk,Shp.l_mk,Shp.names_mk]
          exact⟨⟨fun h=>by simp at h,fun _=>by simp[hl]⟩,hadd⟩
        · split
          · exact ih2 _ _ _ (by simp[hl]) hadd
          · exact hz
theorem typed_deep(t:Str):deepOk (typedS t).1:=by
 unfold typedS
 split
 ·simp[deepOk,deepOkL]
 ·exact(read_deep _).1 t
end Go.RI
namespace Go.RI
open Go
section
variable {H:AHeap}
@[simp] theorem boxR_fs{t f:Bool}{n:Nat}{l:List AVal}:boxR H (.fs t f n l)=some (some (.p H.next 0),H.push (.cells [.fs t f n l] 1 false)):=rfl
def findN(k:Int):List (AVal×AVal)→Nat→Option (Option (Nat×AVal)):=findA false [1] [.i .i64 k]
@[simp] theorem findN_nil{k:Int}{i:Nat}:findN k [] i=some none:=rfl
@[simp] theorem findN_cons{k k':Int}{v:AVal}{es:List (AVal×AVal)}{i:Nat}:findN k ((.i .i64 k',v)::es) i=if k=k' then some (some (i,v)) else findN k es (i+1):=by
 unfold findN
 simp only[findA,keyC]
 by_cases h:k=k'
 ·subst h;simp
 ·simp[h]
noncomputable def lookN(z:AVal)(okf:Bool)(k:Int):Option AObj→Option AVal
  | some (.map es)=>match findN k es 0 with
    | some (some (_,v))=>some (if okf then .tu [v,.b true] else v)
    | some none=>some (if okf then .tu [z,.b false] else z)
    | none=>none
  | _=>none
@[simp] theorem look_num{z:AVal}{okf:Bool}{id:Nat}{k:Int}:lookV H false [1] z okf (.m id) (.i .i64 k)=lookN z okf k (H.get id):=by
 simp only[lookV,mapEs,lookN]
 rcases H.get id with _|⟨c,esz,ro⟩|es
 ·rfl
 ·rfl
 ·simp[keyC,findN]
  rcases findA false [1] [.i .i64 k] es 0 with _|_|⟨_,_⟩<;>rfl
def lookF(z:AVal)(okf:Bool):Option (Option (Nat×AVal))→Option AVal
 | some (some (_,v))=>some (if okf then .tu [v,.b true] else v)
 | some none=>some (if okf then .tu [z,.b false] else z)
 | none=>none
@[simp] theorem lookF_some{z v:AVal}{okf:Bool}{i:Nat}:lookF z okf (some (some (i,v)))=some (if okf then .tu [v,.b true] else v):=rfl
@[simp] theorem lookF_none{z:AVal}{okf:Bool}:lookF z okf (some none)=some (if okf then .tu [z,.b false] else z):=rfl
@[simp] theorem lookN_map{z:AVal}{okf:Bool}{k:Int}{es:List (AVal×AVal)}:lookN z okf k (some (.map es))=lookF z okf (findN k es 0):=by
 simp only[lookN]
 rcases findN k es 0 with _|_|⟨_,_⟩<;>rfl
noncomputable def upF(id:Nat)(H:AHeap)(k v:AVal)(es:List (AVal×AVal)):Option (Option (Nat×AVal))→Option AHeap
 | some none=>some (H.put id (some (.map (es++[(k,v)]))))
 | some (some (i,_))=>some (H.put id (some (.map (es.set i (k,v)))))
 | none=>none
@[simp] theorem upF_none{id:Nat}{k v:AVal}{es:List (AVal×AVal)}:upF id H k v es (some none)=some (H.put id (some (.map (es++[(k,v)])))):=rfl
noncomputable def upN(lo id:Nat)(H:AHeap)(k:Int)(v:AVal):Option AObj→Option AHeap
 | some (.map es)=>if lo≤id∧v.tup=false then upF id H (.i .i64 k) v es (findN k es 0) else none
 | _=>none
@[simp] theorem upN_map{lo id:Nat}{k:Int}{v:AVal}{es:List (AVal×AVal)}:upN lo id H k v (some (.map es))=if lo≤id∧v.tup=false then upF id H (.i .i64 k) v es (findN k es 0) else none:=rfl
@[simp] theorem up_num{lo id:Nat}{k:Int}{v:AVal}:mapupV lo H false [1] (.i .i64 k) v (.m id)=upN lo id H k v (H.get id):=by
 simp only[mapupV,upN]
 by_cases hc:lo≤id∧v.tup=false
 ·rw[if_pos hc]
  rcases H.get id with _|⟨c,esz,ro⟩|es
  ·rfl
  ·rfl
  ·simp only[if_pos hc]
   simp[keyC,findN]
   rcases findA false [1] [.i .i64 k] es 0 with _|_|⟨_,_⟩<;>rfl
 ·rw[if_neg hc]
  rcases H.get id with _|⟨c,esz,ro⟩|es
  ·rfl
  ·rfl
  ·simp only[if_neg hc]
end
@[simp] theorem num_bulk(n:Int):(numV n).bulk=1:=by simp[numV,Val.bulk,bulkL,bulkS]
@[simp] theorem yes_bulk(b:Bool):(yesV b).bulk=1:=by simp[yesV,Val.bulk,bulkL,bulkS]
@[simp] theorem zero_bulk:zeroVal.bulk=1:=by simp[zeroVal,Val.bulk,bulkL,bulkS]
theorem made_bulk(v:Val):(madeV v).1.bulk≤v.bulk:=by
 unfold madeV
 split
 ·exact Nat.le_refl _
 ·have:=v.bulk_pos;simp;omega
theorem unary_bulk(op:Int)(a:Val):(unaryV op a).1.bulk=1:=by
 unfold unaryV
 repeat' split
 all_goals simp
theorem ints_bulk(op a b:Int):(intsV op a b).1.bulk=1:=by
 unfold intsV
 repeat' split
 all_goals simp
theorem texts_bulk(op:Int)(a b:Str):(textsV op a b).1.bulk≤1+a.length+b.length:=by
 unfold textsV
 split
 ·refine Nat.le_trans (made_bulk _) ?_;simp[Val.bulk,bulkL,bulkS];omega
 ·repeat' split
  all_goals (simp;omega)
theorem longer_bulk(a:Val)(m:List Val):(longerV a m).1.bulk≤1+bulkL a.l+bulkL m:=by
 unfold longerV
 refine Nat.le_trans (made_bulk _) ?_
 simp[Val.bulk,bulkL_app,bulkS];omega
theorem get_bulk{l:List Val}(i:Nat):(l[i]?.getD zeroVal).bulk≤1+bulkL l:=by
 cases h:l[i]? with
 | none=>simp
 | some x=>have:=bulkL_mem (List.mem_of_getElem? h);simp;omega
theorem binV2_bulk(op:Int)(a b:Val):(binV2 op a b).1.bulk≤1+a.bulk+b.bulk:=by
 have h1:=Val.bulk_eq a
 have h2:=Val.bulk_eq b
 unfold binV2
 split
 ·simp;omega
 split
 ·simp;omega
 split
 ·rw[ints_bulk];omega
 split
 ·have:=texts_bulk op a.s b.s;omega
 split
 ·have:=longer_bulk a [b];simp[bulkL] at this;omega
 split
 ·have:=longer_bulk a b.l;omega
 split
 ·split
  ·have:=get_bulk (l:=a.l) b.n.toNat;simp only;omega
  ·simp;omega
 ·simp;omega
theorem binary_bulk(op:Int)(a b:Val):(binaryV op a b).1.bulk≤1+a.bulk+b.bulk:=by
 unfold binaryV
 split
 ·simp;omega
 ·exact binV2_bulk op a b
theorem list_bulk(l:List Val):(listV l).1.bulk≤1+bulkL l:=by
 unfold listV
 split
 ·refine Nat.le_trans (made_bulk _) ?_;simp[Val.bulk,bulkS]
 ·simp
theorem rec_bulk(ns:List Str)(l:List Val):(recV ns l).1.bulk≤1+bulkL l+bulkS ns:=by
 unfold recV
 split
 ·refine Nat.le_trans (made_bulk _) ?_;simp[Val.bulk]
 ·simp;omega
theorem field_bulk(a:Val)(s:Str):(fieldV a s).1.bulk≤1+a.bulk:=by
 have h1:=Val.bulk_eq a
 unfold fieldV
 split
 ·simp
 split
 ·split
  ·rename_i i _;have:=get_bulk (l:=a.l) i;simp only;omega
  ·simp
 ·simp
def Makes(r:Val×Bool)(o:Option Val):Prop:=(r.2=true→o=some r.1)∧(r.2=false→o=none)
def resR(r:Val×Int×Int):Val×Bool:=(r.1,decide (r.2.1=0)&&decide (r.2.2=0))
theorem makes_res(r:Val×Int×Int):Makes (resR r) (resV r):=by
 unfold Makes resR resV
 constructor
 ·intro h;simp at h;rw[if_pos h]
 ·intro h;simp at h;rw[if_neg];intro h2;exact h h2.1 h2.2
def intsR(op:Int)(a b:Val):Val×Bool:=if a.kind=1∧b.kind=1 then resR (binaryV op a b) else(zeroVal,false)
theorem makes_ints(op:Int)(a b:Val):Makes (intsR op a b) (intsS op a b):=by
 unfold intsR intsS
 split
 ·exact makes_res _
 ·exact⟨fun h=>(by cases h),fun _=>rfl⟩
theorem makes_if(a:Val)(b:Bool):Makes (a,b) (if b=true then some a else none):=by
 cases b
 ·exact⟨fun h=>(by cases h),fun _=>rfl⟩
 ·exact⟨fun _=>rfl,fun h=>(by cases h)⟩
theorem intsR_bulk(op:Int)(a b:Val):(intsR op a b).1.bulk≤1+a.bulk+b.bulk:=by
 unfold intsR
 split
 ·exact binary_bulk op a b
 ·simp;omega
end Go.RI
namespace Go.RI
open Go
theorem own_names{v:Val}(h:ownV v=true):v.names.length≤8:=by
 unfold ownV at h
 split at h
 ·rename_i hk;simp[bareV] at h;simp[h.2.2]
 split at h
 ·rename_i hk;simp[bareV] at h;simp[h.2]
 split at h
 ·rename_i hk;simp[bareV] at h;simp[h.2.2]
 split at h
 ·rename_i hk;simp[bareV] at h;simp[h.2.2]
 split at h
 ·rename_i hk;simp[bareV] at h;simp[h.2.2]
 split at h
 ·rename_i hk;simp[bareV] at h;simp[h.2.2]
 split at h
 ·rename_i hk;simp[bareV] at h;omega
 ·cases h
mutual
theorem fits_bulk:∀(v:Val) (w left:Int),(fitsV v w left).2=true→(v.bulk:Int)≤9*(left-(fitsV v w left).1)
  | .mk k n s l ns,w,left,h=>by
    simp only[fitsV] at h ⊢
    split at h
    · cases h
    · rename_i hc
      rw[if_neg hc]
      have ho:ownV (.mk k n s l ns)=true:=by
        cases ho:ownV (.mk k n s l ns) with
        | true=>rfl
        | false=>exact absurd (.inr (.inr ho)) hc
      have h1:=own_names ho
      simp only[Val.names_mk] at h1
      have h2:=lens_bulk ns
      have h3:=fitsL_bulk l (w+1) _ h
      simp only[Val.bulk]
      omega
theorem fitsL_bulk:∀(l:List Val) (w left:Int),(fitsL l w left).2=true→(bulkL l:Int)≤9*(left-(fitsL l w left).1)
  | [],_,_,_=>by simp[bulkL,fitsL]
  | v::l,w,left,h=>by
    simp only[fitsL] at h ⊢
    split at h
    · rename_i hv
      rw[if_pos hv]
      have h1:=fits_bulk v w left hv
      have h2:=fitsL_bulk l w _ h
      simp only[bulkL]
      omega
    · cases h
end
theorem may_bulk{v:Val}(h:mayV v=true):v.bulk≤2304:=by
 have h1:=fits_bulk v 0 256 h
 have h2:=(fitsV_le v 0 256 h).1
 omega
theorem all_bulk{l:List Val}(h:l.all mayV=true){v:Val}(hv:v∈l):v.bulk≤2304:=may_bulk (List.all_eq_true.1 h v hv)
theorem bulkL_le{B:Nat}:∀ {l:List Val},(∀ v∈l,v.bulk≤B)→bulkL l≤l.length*B
  | [],_=>by simp[bulkL]
  | v::l,h=>by
    have h1:=h v (by simp)
    have h2:=bulkL_le (l:=l) fun x hx=>h x (by simp[hx])
    simp only[bulkL,List.length_cons,Nat.add_mul,Nat.one_mul]
    omega
theorem res_eq{r:Val×Int×Int}{v:Val}(h:resV r=some v):v=r.1∧r.2.1=0∧r.2.2=0:=by
 unfold resV at h
 split at h
 ·rename_i hc;exact⟨(Option.some.inj h).symm,hc⟩
 ·cases h
theorem made_ok{v:Val}(h:(madeV v).2=0):(madeV v).1.bulk≤2304:=by
 unfold madeV at h ⊢
 split
 ·rename_i hm;exact may_bulk hm
 ·simp
theorem texts_ok{op:Int}{a b:Str}(h:(textsV op a b).2=0):(textsV op a b).1.bulk≤2304:=by
 unfold textsV at h ⊢
 split
 ·rename_i h9;rw[if_pos h9] at h;exact made_ok h
 ·repeat' split
  all_goals simp
theorem binary_ok{op:Int}{a b:Val}(ha:mayV a=true){v:Val}(h:resV (binaryV op a b)=some v):v.bulk≤2304:=by
 obtain⟨rfl,h1,h2⟩:=res_eq h
 have hab:=may_bulk ha
 have hb:=Val.bulk_eq a
 unfold binaryV at h1 h2 ⊢
 split at h1
 ·rename_i hc;rw[if_pos hc];simp
 ·rename_i hc
  rw[if_neg hc]
  simp only at h1 ⊢
  unfold binV2 at h1 ⊢
  split
  ·simp
  rename_i k1
  rw[if_neg k1] at h1
  split
  ·simp
  rename_i k2
  rw[if_neg k2] at h1
  split
  ·rw[ints_bulk];omega
  rename_i k3
  rw[if_neg k3] at h1
  split
  ·rename_i k4;rw[if_pos k4] at h1;exact texts_ok h1
  rename_i k4
  rw[if_neg k4] at h1
  split
  ·rename_i k5;rw[if_pos k5] at h1;exact made_ok h1
  rename_i k5
  rw[if_neg k5] at h1
  split
  ·rename_i k6;rw[if_pos k6] at h1;exact made_ok h1
  split
  ·split
   ·simp only
    cases hx:a.l[b.n.toNat]? with
    | none=>simp
    | some x=>have:=bulkL_mem (List.mem_of_getElem? hx);simp;omega
   ·simp
  ·simp
theorem intsS_ok{op:Int}{a b:Val}(ha:mayV a=true){v:Val}(h:intsS op a b=some v):v.bulk≤2304:=by
 unfold intsS at h
 split at h
 ·exact binary_ok ha h
 ·cases h
theorem may_zero:mayV zeroVal=true:=by simp[mayV,fitsV,fitsL,zeroVal,ownV,bareV,lens]
theorem may_get{l:List Val}(h:l.all mayV=true)(i:Nat):mayV (l[i]?.getD zeroVal)=true:=by
 cases hx:l[i]? with
 | none=>exact may_zero
 | some x=>exact List.all_eq_true.1 h x (List.mem_of_getElem? hx)
theorem res_list{l:List Val}(hall:l.all mayV=true){v:Val}(h:resV (listV l)=some v):v.bulk≤2304:=by
 obtain⟨rfl,h1,_⟩:=res_eq h
 unfold listV at h1 ⊢
 rw[if_pos hall] at h1 ⊢
 exact made_ok h1
theorem res_rec{ns:List Str}{l:List Val}{v:Val}(h:resV (recV ns l)=some v):v.bulk≤2304:=by
 obtain⟨rfl,h1,h2⟩:=res_eq h
 unfold recV at h1 h2 ⊢
 split
 ·rename_i hr;rw[if_pos hr] at h1;exact made_ok h1
 ·simp
theorem res_field{a:Val}{s:Str}(ha:mayV a=true){v:Val}(h:resV (fieldV a s)=some v):v.bulk≤2304:=by
 obtain⟨rfl,h1,h2⟩:=res_eq h
 have hab:=may_bulk ha
 have hbe:=Val.bulk_eq a
 unfold fieldV
 split
 ·simp
 split
 ·split
  ·rename_i k _
   simp only
   cases hx:a.l[k]? with
   | none=>simp
   | some x=>have:=bulkL_mem (List.mem_of_getElem? hx);simp;omega
  ·simp
 ·simp
theorem res_unary{op:Int}{a:Val}{v:Val}(h:resV (unaryV op a)=some v):v.bulk≤2304:=by
 obtain⟨rfl,_⟩:=res_eq h
 rw[unary_bulk];omega
theorem res_if{a:Val}{b:Bool}(ha:mayV a=true){v:Val}(h:(if b=true then some a else none)=some v):v.bulk≤2304:=by
 cases b
 ·cases h
 ·cases h;exact may_bulk ha
theorem step_ok{i:Stp}{l:List Val}{v:Val}(h:stepV i l=some v):v.bulk≤2304:=by
 unfold stepV at h
 split at h
 ·rename_i hc
  have hall:=hc.2.2.2
  have ha:=may_get hall 0
  by_cases k20:i.op=20
  ·have e:opS i l=resV (listV l):=by simp[opS,k20]
   rw[e] at h
   exact res_list hall h
  by_cases k21:i.op=21
  ·have e:opS i l=resV (recV i.names l):=by simp[opS,k21]
   rw[e] at h
   exact res_rec h
  by_cases k22:i.op=22
  ·have e:opS i l=resV (fieldV (l[0]?.getD zeroVal) i.s):=by simp[opS,k22]
   rw[e] at h
   exact res_field ha h
  by_cases k23:i.op=23
  ·have e:opS i l=(if isTV (l[0]?.getD zeroVal) i.s=true then some (l[0]?.getD zeroVal) else none):=by simp[opS,k23]
   rw[e] at h
   exact res_if ha h
  by_cases k40:i.op=40
  ·have e:opS i l=(if decide ((l[0]?.getD zeroVal).kind=i.n)=true then some (l[0]?.getD zeroVal) else none):=by simp[opS,k40]
   rw[e] at h
   exact res_if ha h
  by_cases k41:i.op=41
  ·have e:opS i l=resV (unaryV 6 (l[0]?.getD zeroVal)):=by simp[opS,k41]
   rw[e] at h
   exact res_unary h
  by_cases k42:i.op=42
  ·have e:opS i l=resV (unaryV 7 (l[0]?.getD zeroVal)):=by simp[opS,k42]
   rw[e] at h
   exact res_unary h
  by_cases k43:i.op=43
  ·have e:opS i l=intsS 9 (l[0]?.getD zeroVal) (l[1]?.getD zeroVal):=by simp[opS,k43]
   rw[e] at h
   exact intsS_ok ha h
  by_cases k44:i.op=44
  ·have e:opS i l=intsS 10 (l[0]?.getD zeroVal) (l[1]?.getD zeroVal):=by simp[opS,k44]
   rw[e] at h
   exact intsS_ok ha h
  by_cases k45:i.op=45
  ·have e:opS i l=intsS 11 (l[0]?.getD zeroVal) (l[1]?.getD zeroVal):=by simp[opS,k45]
   rw[e] at h
   exact intsS_ok ha h
  by_cases k46:i.op=46
  ·have e:opS i l=intsS 16 (l[0]?.getD zeroVal) (l[1]?.getD zeroVal):=by simp[opS,k46]
   rw[e] at h
   exact intsS_ok ha h
  by_cases k47:i.op=47
  ·have e:opS i l=intsS 17 (l[0]?.getD zeroVal) (l[1]?.getD zeroVal):=by simp[opS,k47]
   rw[e] at h
   exact intsS_ok ha h
  by_cases k48:i.op=48
  ·have e:opS i l=intsS 9 (l[0]?.getD zeroVal) (numV i.n):=by simp[opS,k48]
   rw[e] at h
   exact intsS_ok ha h
  by_cases k49:i.op=49
  ·have e:opS i l=intsS 16 (l[0]?.getD zeroVal) (numV i.n):=by simp[opS,k49]
   rw[e] at h
   exact intsS_ok ha h
  by_cases n2:(needs i).1=2
  ·have e:opS i l=resV (binaryV i.op (l[0]?.getD zeroVal) (l[1]?.getD zeroVal)):=by simp[opS,k20,k21,k22,k23,k40,k41,k42,k43,k44,k45,k46,k47,k48,k49,n2]
   rw[e] at h
   exact binary_ok ha h
  ·have e:opS i l=resV (unaryV i.op (l[0]?.getD zeroVal)):=by simp[opS,k20,k21,k22,k23,k40,k41,k42,k43,k44,k45,k46,k47,k48,k49,n2]
   rw[e] at h
   exact res_unary h
 ·cases h
theorem record_len{ns:List Str}(h:recordS ns=true):ns.length≤8:=by
 simp only[recordS,Bool.and_eq_true,decide_eq_true_eq] at h;omega
theorem needs_most{i:Stp}(h:(needs i).2.2=true):(needs i).2.1≤8:=by
 unfold needs at h ⊢
 split
 ·simp
 rename_i h1
 rw[if_neg h1] at h
 split
 ·rename_i h2
  rw[if_pos h2] at h
  simp only[Bool.and_eq_true] at h
  have:=record_len h.2
  simp only;omega
 ·repeat' split
  all_goals simp
theorem fits_most{homes a:Int}{s:Stp}(h:stpFits homes a s=true):s.l.length≤8:=by
 unfold stpFits at h
 simp only[Bool.and_eq_true,decide_eq_true_eq] at h
 have:=needs_most h.1.1.1
 omega
theorem of_bulk{nh ns:Int}{homes made:List Val}{o:Opn}(h:opnFits nh ns o=true)(hh:∀ v∈homes,v.bulk≤2304)(hm:∀ v∈made,v.bulk≤2304):(ofO homes made o).bulk≤2304:=by
 unfold ofO
 split
 ·cases hx:homes[o.n.toNat]? with
  | none=>simp
  | some x=>exact hh x (List.mem_of_getElem? hx)
 split
 ·cases hx:made[o.n.toNat]? with
  | none=>simp
  | some x=>exact hm x (List.mem_of_getElem? hx)
 ·rename_i h1 h2
  unfold opnFits at h
  rw[if_neg h1,if_neg h2] at h
  split at h
  ·simp only[Bool.and_eq_true] at h;exact may_bulk h.2
  ·cases h
theorem opnFits_home{homes a:Int}{o:Opn}(h:opnFits homes a o=true)(hk:o.kind=1):0≤o.n∧o.n<homes:=by
 unfold opnFits at h
 rw[if_pos hk] at h
 simp only[Bool.and_eq_true,decide_eq_true_eq] at h
 exact h.1
theorem put_last(made:List Val)(v:Val):putCells (encs made++[.i .i64 0,.i .i64 0,.s [],.ns,.ns]) (made.length*5) (Enc.cells v)=encs (made++[v]):=by
 have h:=putCells_mid (Enc.cells v) (encs made) [] [.i .i64 0,.i .i64 0,.s [],.ns,.ns] 0 (by simp)
 rw[List.append_nil,Nat.add_zero,len_val] at h
 rw[h,encs_append]
 simp
end Go.RI
namespace Go.RI
open Go
theorem may_num(n:Int):mayV (numV n)=true:=by simp[mayV,fitsV,fitsL,numV,ownV,bareV,lens]
theorem one_len{l:List Opn}(h:l.length=1):∃ x,l=[x]:=by
 match l,h with
 | [x],_=>exact⟨x,rfl⟩
end Go.RI
namespace Go.RI
open Go
mutual
theorem fitsV_mono:∀(v:Val) (w w' left left':Int),w'≤w→left≤left'→(fitsV v w left).2=true→(fitsV v w' left').2=true∧(fitsV v w' left').1=(fitsV v w left).1+(left'-left)
  | .mk k n s l ns,w,w',left,left',hw,hl,h=>by
    simp only[fitsV] at h ⊢
    split at h
    · cases h
    · rename_i hc
      rw[if_neg hc]
      have hc':¬(8≤w'∨left'-(1+s.length)-lens ns<0∨ownV (.mk k n s l ns)=false):=fun h=>hc (by
        rcases h with h|h|h
        · exact .inl (by omega)
        · exact .inr (.inl (by omega))
        · exact .inr (.inr h))
      rw[if_neg hc']
      obtain⟨h1,h2⟩:=fitsL_mono l (w+1) (w'+1) _ (left'-(1+s.length)-lens ns) (by omega) (by omega) h
      exact⟨h1,by rw[h2];omega⟩
theorem fitsL_mono:∀(l:List Val) (w w' left left':Int),w'≤w→left≤left'→(fitsL l w left).2=true→(fitsL l w' left').2=true∧(fitsL l w' left').1=(fitsL l w left).1+(left'-left)
  | [],w,w',left,left',hw,hl,h=>⟨rfl,by simp only[fitsL];omega⟩
  | v::l,w,w',left,left',hw,hl,h=>by
    simp only[fitsL] at h ⊢
    split at h
    · rename_i hc
      obtain⟨h1,h2⟩:=fitsV_mono v w w' left left' hw hl hc
      rw[if_pos hc,if_pos h1]
      obtain⟨h3,h4⟩:=fitsL_mono l w w' _ (fitsV v w' left').1 hw (by omega) h
      exact⟨h3,by rw[h4,h2];omega⟩
    · cases h
end
theorem fitsL_mem:∀(l:List Val) (w left L:Int),0≤w→0≤left→left≤L→(fitsL l w left).2=true→∀ x∈l,(fitsV x 0 L).2=true
  | [],_,_,_,_,_,_,_,x,hx=>by cases hx
  | v::l,w,left,L,hw,h0,hL,h,x,hx=>by
    simp only[fitsL] at h
    split at h
    · rename_i hc
      rcases List.mem_cons.1 hx with rfl|hx
      · exact(fitsV_mono _ w 0 left L hw hL hc).1
      · have:=fitsV_le v w left hc
        exact fitsL_mem l w _ L hw this.1 (by omega) h x hx
    · cases h
theorem may_part{a x:Val}(h:mayV a=true)(hx:x∈a.l):mayV x=true:=by
 unfold mayV at h ⊢
 rw[fitsV_eq] at h
 split at h
 ·cases h
 ·rename_i hc
  have h1:=(lens_bulk a.names).1
  exact fitsL_mem a.l 1 _ 256 (by omega) (by omega) (by omega) h x hx
theorem may_at{a:Val}(h:mayV a=true)(i:Nat):mayV (a.l[i]?.getD zeroVal)=true:=by
 cases hx:a.l[i]? with
 | none=>exact may_zero
 | some x=>exact may_part h (List.mem_of_getElem? hx)
theorem may_yes(b:Bool):mayV (yesV b)=true:=by
 have h0:clr1 0=0:=by decide
 have h1:clr1 1=0:=by decide
 cases b<;>simp[mayV,fitsV,fitsL,yesV,ownV,bareV,lens,h0,h1]
theorem made_may(v:Val):mayV (madeV v).1=true:=by
 unfold madeV
 split
 ·assumption
 ·exact may_zero
theorem unary_may(op:Int)(a:Val):mayV (unaryV op a).1=true:=by
 unfold unaryV
 repeat' split
 all_goals first|exact may_num _|exact may_yes _|exact may_zero
theorem ints_may(op a b:Int):mayV (intsV op a b).1=true:=by
 unfold intsV
 repeat' split
 all_goals first|exact may_num _|exact may_yes _|exact may_zero
theorem texts_may(op:Int)(a b:Str):mayV (textsV op a b).1=true:=by
 unfold textsV
 repeat' split
 all_goals first|exact made_may _|exact may_yes _|exact may_zero
theorem binary_may(op:Int){a:Val}(b:Val)(ha:mayV a=true):mayV (binaryV op a b).1=true:=by
 unfold binaryV
 split
 ·exact may_zero
 ·show mayV (binV2 op a b).1=true
  unfold binV2
  repeat' split
  all_goals first|exact may_yes _|exact ints_may _ _ _|exact texts_may _ _ _|exact made_may _|exact may_at ha _|exact may_zero
theorem list_may(l:List Val):mayV (listV l).1=true:=by
 unfold listV
 split
 ·exact made_may _
 ·exact may_zero
theorem rec_may(ns:List Str)(l:List Val):mayV (recV ns l).1=true:=by
 unfold recV
 split
 ·exact made_may _
 ·exact may_zero
theorem field_may{a:Val}(s:Str)(ha:mayV a=true):mayV (fieldV a s).1=true:=by
 unfold fieldV
 repeat' split
 all_goals first|exact may_at ha _|exact may_zero
theorem intsS_may{op:Int}{a b v:Val}(ha:mayV a=true)(h:intsS op a b=some v):mayV v=true:=by
 unfold intsS at h
 split at h
 ·obtain⟨rfl,_⟩:=res_eq h
  exact binary_may _ _ ha
 ·cases h
theorem op_may{i:Stp}{l:List Val}{v:Val}(ha:mayV (l[0]?.getD zeroVal)=true)(h:opS i l=some v):mayV v=true:=by
 have res:∀ r:Val×Int×Int,mayV r.1=true→resV r=some v→mayV v=true:=fun r h1 h2=>by obtain⟨rfl,_⟩:=res_eq h2;exact h1
 have cond:∀ c:Prop,[Decidable c]→(if c then some (l[0]?.getD zeroVal) else none)=some v→mayV v=true:=fun c _ h=>by
  split at h
  ·cases h;exact ha
  ·cases h
 by_cases k20:i.op=20
 ·have e:opS i l=(resV (listV l)):=by simp[opS,k20]
  rw[e] at h
  exact res _ (list_may _) h
 by_cases k21:i.op=21
 ·have e:opS i l=(resV (recV i.names l)):=by simp[opS,k21]
  rw[e] at h
  exact res _ (rec_may _ _) h
 by_cases k22:i.op=22
 ·have e:opS i l=(resV (fieldV (l[0]?.getD zeroVal) i.s)):=by simp[opS,k22]
  rw[e] at h
  exact res _ (field_may _ ha) h
 by_cases k23:i.op=23
 ·have e:opS i l=(if isTV (l[0]?.getD zeroVal) i.s=true then some (l[0]?.getD zeroVal) else none):=by simp[opS,k23]
  rw[e] at h
  exact cond _ h
 by_cases k40:i.op=40
 ·have e:opS i l=(if(l[0]?.getD zeroVal).kind=i.n then some (l[0]?.getD zeroVal) else none):=by simp[opS,k40]
  rw[e] at h
  exact cond _ h
 by_cases k41:i.op=41
 ·have e:opS i l=(resV (unaryV 6 (l[0]?.getD zeroVal))):=by simp[opS,k41]
  rw[e] at h
  exact res _ (unary_may _ _) h
 by_cases k42:i.op=42
 ·have e:opS i l=(resV (unaryV 7 (l[0]?.getD zeroVal))):=by simp[opS,k42]
  rw[e] at h
  exact res _ (unary_may _ _) h
 by_cases k43:i.op=43
 ·have e:opS i l=(intsS 9 (l[0]?.getD zeroVal) (l[1]?.getD zeroVal)):=by simp[opS,k43]
  rw[e] at h
  exact intsS_may ha h
 by_cases k44:i.op=44
 ·have e:opS i l=(intsS 10 (l[0]?.getD zeroVal) (l[1]?.getD zeroVal)):=by simp[opS,k44]
  rw[e] at h
  exact intsS_may ha h
 by_cases k45:i.op=45
 ·have e:opS i l=(intsS 11 (l[0]?.getD zeroVal) (l[1]?.getD zeroVal)):=by simp[opS,k45]
  rw[e] at h
  exact intsS_may ha h
 by_cases k46:i.op=46
 ·have e:opS i l=(intsS 16 (l[0]?.getD zeroVal) (l[1]?.getD zeroVal)):=by simp[opS,k46]
  rw[e] at h
  exact intsS_may ha h
 by_cases k47:i.op=47
 ·have e:opS i l=(intsS 17 (l[0]?.getD zeroVal) (l[1]?.getD zeroVal)):=by simp[opS,k47]
  rw[e] at h
  exact intsS_may ha h
 by_cases k48:i.op=48
 ·have e:opS i l=(intsS 9 (l[0]?.getD zeroVal) (numV i.n)):=by simp[opS,k48]
  rw[e] at h
  exact intsS_may ha h
 by_cases k49:i.op=49
 ·have e:opS i l=(intsS 16 (l[0]?.getD zeroVal) (numV i.n)):=by simp[opS,k49]
  rw[e] at h
  exact intsS_may ha h
 by_cases n2:(needs i).1=2
 ·have e:opS i l=resV (binaryV i.op (l[0]?.getD zeroVal) (l[1]?.getD zeroVal)):=by simp[opS,k20,k21,k22,k23,k40,k41,k42,k43,k44,k45,k46,k47,k48,k49,n2]
  rw[e] at h
  exact res _ (binary_may _ _ ha) h
 ·have e:opS i l=resV (unaryV i.op (l[0]?.getD zeroVal)):=by simp[opS,k20,k21,k22,k23,k40,k41,k42,k43,k44,k45,k46,k47,k48,k49,n2]
  rw[e] at h
  exact res _ (unary_may _ _) h
theorem step_may{i:Stp}{l:List Val}{v:Val}(h:stepV i l=some v):mayV v=true:=by
 unfold stepV at h
 split at h
 ·rename_i hc
  exact op_may (may_get hc.2.2.2 0) h
 ·cases h
theorem fits_hands{homes a:Int}{s:Stp}(h:stpFits homes a s=true)(ho:s.op=23∨s.op=40):s.l.length=1:=by
 unfold stpFits at h
 rcases ho with ho|ho<;>simp[needs,ho] at h<;>omega
end Go.RI
namespace Go.RI
open Go
def makesI(op n:Int):Int :=
 if op=6∨op=8∨op=10∨op=11∨op=12∨op=13∨op=41∨op=43∨op=44∨op=45∨op=48 then 1
 else if op=7∨op=14∨op=15∨op=16∨op=17∨op=42∨op=46∨op=47∨op=49 then 2
 else if op=20∨op=18 then 4
 else if op=21 then 5
 else if op=40 then n
 else -1
def typedI(op:Int):Int×Int×Bool :=
 if op=6 then(41,1,true) else if op=7 then(42,2,true) else if op=9 then(43,1,true) else if op=10 then(44,1,true)
 else if op=11 then(45,1,true) else if op=16 then(46,1,true) else if op=17 then(47,1,true) else(0,0,false)
structure GS where
 out:List Stp
 hs:List Int
 pl:List Int
def stpKind(i:Stp):Int:=makesI i.op i.n
def knownI(g:GS)(o:Opn):Int:=if o.kind=1 then g.hs[o.n.toNat]?.getD 0 else if o.kind=2 then stpKind (g.out[o.n.toNat]?.getD default) else o.v.kind
def saysI(K:List Int)(g:GS)(o:Opn)(k:Int):Bool:=decide (o.kind=1)&&(decide (g.hs[o.n.toNat]?.getD 0=-1)&&(decide (o.n<K.length)&&decide (K[o.n.toNat]?.getD 0=k)))
def checkI(K:List Int)(g:GS)(o:Opn)(k:Int):GS:=if saysI K g o k=true then⟨g.out++[⟨40,k,[o],[],[]⟩],g.hs.set o.n.toNat k,g.pl⟩ else g
def chkL(K:List Int)(k:Int):GS→List Opn→GS
 | g,[]=>g
 | g,o::l=>chkL K k (checkI K g o k) l
def movedO(pl:List Int)(o:Opn):Opn:=if o.kind=2 then{ o with n:=pl[o.n.toNat]?.getD 0 } else o
def chkG(K:List Int)(g:GS)(i:Stp):GS:=if(typedI i.op).2.2=true then chkL K (typedI i.op).2.1 g (i.l.map (movedO g.pl)) else g
def opG(g:GS)(op:Int)(l:List Opn):Int:=if(typedI op).2.2=true then(if l.all (fun o=>decide (knownI g o=(typedI op).2.1))=true then(typedI op).1 else op) else op
def noteG(hs:List Int)(i:Stp)(l:List Opn):List Int:=if i.op=40∧(l[0]?.getD default).kind=1 then hs.set (l[0]?.getD default).n.toNat i.n else hs
def turnG(K:List Int)(g:GS)(i:Stp):Stp:=⟨opG (chkG K g i) i.op (i.l.map (movedO g.pl)),i.n,i.l.map (movedO g.pl),i.s,i.names⟩
def stepG(K:List Int)(g:GS)(i:Stp):GS:=⟨(chkG K g i).out++[turnG K g i],noteG (chkG K g i).hs i (i.l.map (movedO g.pl)),g.pl++[((chkG K g i).out.length:Int)]⟩
structure GoodG (nh:Int) (g:GS) (m:Nat):Prop where
 fits:Fits nh g.out
 hs:g.hs.length=nh.toNat
 pl:g.pl.length=m
 at_:∀(j:Nat) (p:Int),g.pl[j]?=some p→0≤p∧p<g.out.length
theorem noteG_len{hs:List Int}{i:Stp}{l:List Opn}:(noteG hs i l).length=hs.length:=by
 unfold noteG;split<;>simp
end Go.RI
namespace Go.RI
open Go
end Go.RI
namespace Go.RI
open Go
theorem steps_app{homes:List Val}:∀(a b:List Stp) (m:List Val),stepsV homes (a++b) m=(stepsV homes a m).bind (stepsV homes b)
  | [],b,m=>rfl
  | i::a,b,m=>by
    simp only[List.cons_append,stepsV]
    cases h:stepV i (i.l.map (ofO homes m)) with
    | none=>rfl
    | some v=>exact steps_app a b _
theorem steps_pre{homes:List Val}:∀(l:List Stp) (m made:List Val),stepsV homes l m=some made→∃ more,made=m++more∧more.length=l.length
  | [],m,made,h=>by cases h;exact⟨[],by simp,rfl⟩
  | i::l,m,made,h=>by
    simp only[stepsV] at h
    split at h
    · rename_i v hv
      obtain⟨more,h1,h2⟩:=steps_pre l _ _ h
      exact⟨v::more,by rw[h1];simp,by simp[h2]⟩
    · cases h
theorem steps_at{homes:List Val}:∀(l:List Stp) (m made:List Val) (k:Nat) (s:Stp),stepsV homes l m=some made→l[k]?=some s→∃ v w,made[m.length+k]?=some v∧stepV s w=some v
  | [],_,_,_,_,_,hs=>by simp at hs
  | i::l,m,made,k,s,h,hs=>by
    simp only[stepsV] at h
    split at h
    · rename_i v hv
      cases k with
      | zero =>
        obtain⟨more,h1,h2⟩:=steps_pre l _ _ h
        simp at hs
        subst hs
        exact⟨v,_,by rw[h1];simp,hv⟩
      | succ k =>
        obtain⟨v,w,h1,h2⟩:=steps_at l _ _ k s h (by simpa using hs)
        refine⟨v,w,?_,h2⟩
        rw[←h1]
        congr 1
        simp;omega
    · cases h
theorem bin_int{op:Int}{a b v:Val}(ho:op=10∨op=11∨op=12∨op=13)(h:resV (binaryV op a b)=some v):v.kind=1:=by
 obtain⟨rfl,h1,h2⟩:=res_eq h
 unfold binaryV at h1 h2 ⊢
 split
 ·rename_i hc;rw[if_pos hc] at h2;cases h2
 rename_i hc
 rw[if_neg hc] at h1
 simp only at h1 ⊢
 unfold binV2 at h1 ⊢
 rw[if_neg (by omega),if_neg (by omega)] at h1 ⊢
 by_cases hk:a.kind=1∧b.kind=1
 ·rw[if_pos hk] at h1 ⊢
  rcases ho with rfl|rfl|rfl|rfl
  ·rfl
  ·rfl
  ·by_cases hb:b.n=0
   ·simp[intsV,hb] at h1
   ·simp[intsV,hb,numV]
  ·by_cases hb:b.n=0
   ·simp[intsV,hb] at h1
   ·simp[intsV,hb,numV]
 ·rw[if_neg hk] at h1
  exfalso
  split at h1
  ·rcases ho with rfl|rfl|rfl|rfl<;>simp[textsV] at h1
  ·rw[if_neg (by omega),if_neg (by omega),if_neg (by omega)] at h1;cases h1
theorem bin_yes{op:Int}{a b v:Val}(ho:op=14∨op=15∨op=16∨op=17)(h:resV (binaryV op a b)=some v):v.kind=2:=by
 obtain⟨rfl,h1,h2⟩:=res_eq h
 unfold binaryV at h1 h2 ⊢
 split
 ·rename_i hc;rw[if_pos hc] at h2;cases h2
 rename_i hc
 rw[if_neg hc] at h1
 simp only at h1 ⊢
 unfold binV2 at h1 ⊢
 rcases ho with rfl|rfl|rfl|rfl
 ·rfl
 ·rfl
 ·rw[if_neg (by omega),if_neg (by omega)] at h1 ⊢
  split
  ·rfl
  rename_i hk
  rw[if_neg hk] at h1
  split
  ·rfl
  rename_i hk2
  rw[if_neg hk2,if_neg (by omega),if_neg (by omega),if_neg (by omega)] at h1
  cases h1
 ·rw[if_neg (by omega),if_neg (by omega)] at h1 ⊢
  split
  ·rfl
  rename_i hk
  rw[if_neg hk] at h1
  split
  ·rfl
  rename_i hk2
  rw[if_neg hk2,if_neg (by omega),if_neg (by omega),if_neg (by omega)] at h1
  cases h1
theorem made_kind{v:Val}(h:(madeV v).2=0):(madeV v).1=v:=by
 unfold madeV at h ⊢
 split
 ·rfl
 ·rename_i hm;rw[if_neg hm] at h;cases h
theorem bin_push{a b v:Val}(h:resV (binaryV 18 a b)=some v):v.kind=4:=by
 obtain⟨rfl,h1,h2⟩:=res_eq h
 unfold binaryV at h1 h2 ⊢
 split
 ·rename_i hc;rw[if_pos hc] at h2;cases h2
 rename_i hc
 rw[if_neg hc] at h1
 simp only at h1 ⊢
 unfold binV2 at h1 ⊢
 rw[if_neg (by omega),if_neg (by omega)] at h1 ⊢
 split
 ·rename_i hk;rw[if_pos hk] at h1;simp[intsV] at h1
 rename_i hk
 rw[if_neg hk] at h1
 split
 ·rename_i hk2;rw[if_pos hk2] at h1;simp[textsV] at h1
 rename_i hk2
 rw[if_neg hk2] at h1
 split
 ·rename_i hk3
  rw[if_pos hk3] at h1
  unfold longerV at h1 ⊢
  rw[made_kind h1]
  rfl
 ·rename_i hk3
  rw[if_neg hk3,if_neg (by omega),if_neg (by omega)] at h1
  cases h1
theorem un_kind{op:Int}{a v:Val}(h:resV (unaryV op a)=some v):(op=6∨op=8→v.kind=1)∧(op=7→v.kind=2):=by
 obtain⟨rfl,h1,h2⟩:=res_eq h
 unfold unaryV at h1 h2 ⊢
 split
 ·rename_i hc;rw[if_pos hc] at h2;cases h2
 rename_i hc
 rw[if_neg hc] at h1
 constructor
 ·rintro(rfl|rfl)
  ·by_cases hk:a.kind=1
   ·simp[hk,numV]
   ·simp[hk] at h1
  ·by_cases hk:a.kind=3∨a.kind=4
   ·simp[hk,numV]
   ·simp[hk] at h1
 ·rintro rfl
  by_cases hk:a.kind=2
  ·simp[hk,yesV]
  ·simp[hk] at h1
theorem list_kind{l:List Val}{v:Val}(h:resV (listV l)=some v):v.kind=4:=by
 obtain⟨rfl,h1,h2⟩:=res_eq h
 unfold listV at h1 h2 ⊢
 split
 ·rename_i hc;rw[if_pos hc] at h1;simp only at h1 ⊢;rw[made_kind h1];rfl
 ·rename_i hc;rw[if_neg hc] at h2;cases h2
theorem rec_kind{ns:List Str}{l:List Val}{v:Val}(h:resV (recV ns l)=some v):v.kind=5:=by
 obtain⟨rfl,h1,h2⟩:=res_eq h
 unfold recV at h1 h2 ⊢
 split
 ·rename_i hc;rw[if_pos hc] at h1;simp only at h1 ⊢;rw[made_kind h1];rfl
 ·rename_i hc;rw[if_neg hc] at h2;cases h2
theorem ints_res{op:Int}{a b v:Val}(h:intsS op a b=some v):a.kind=1∧b.kind=1∧resV (binaryV op a b)=some v:=by
 unfold intsS at h
 split at h
 ·rename_i hk;exact⟨hk.1,hk.2,h⟩
 ·cases h
theorem ints_nine{a b v:Val}(h:intsS 9 a b=some v):v.kind=1:=by
 obtain⟨h1,h2,h3⟩:=ints_res h
 obtain⟨rfl,h4,h5⟩:=res_eq h3
 unfold binaryV at h4 h5 ⊢
 split
 ·rename_i hc;rw[if_pos hc] at h5;cases h5
 simp[binV2,h1,h2,intsV,numV]
theorem stepV_op{i:Stp}{l:List Val}{v:Val}(h:stepV i l=some v):opS i l=some v∧(needs i).2.2=true:=by
 unfold stepV at h
 split at h
 ·rename_i hc;exact⟨h,hc.1⟩
 ·cases h
theorem makes_kind{i:Stp}{l:List Val}{v:Val}(h:stepV i l=some v)(hk:stpKind i≠-1):v.kind=stpKind i:=by
 obtain⟨h,hn⟩:=stepV_op h
 unfold stpKind makesI at hk ⊢
 split
 ·rename_i ho
  rcases ho with h1|h1|h1|h1|h1|h1|h1|h1|h1|h1|h1
  ·simp[opS,h1,needs] at h;exact(un_kind h).1 (.inl rfl)
  ·simp[opS,h1,needs] at h;exact(un_kind h).1 (.inr rfl)
  ·simp[opS,h1,needs] at h;exact bin_int (by omega) h
  ·simp[opS,h1,needs] at h;exact bin_int (by omega) h
  ·simp[opS,h1,needs] at h;exact bin_int (by omega) h
  ·simp[opS,h1,needs] at h;exact bin_int (by omega) h
  ·simp[opS,h1] at h;exact(un_kind h).1 (.inl rfl)
  ·simp[opS,h1] at h;exact ints_nine h
  ·simp[opS,h1] at h;exact bin_int (op:=10) (by omega) (ints_res h).2.2
  ·simp[opS,h1] at h;exact bin_int (op:=11) (by omega) (ints_res h).2.2
  ·simp[opS,h1] at h;exact ints_nine h
 rename_i c1
 rw[if_neg c1] at hk
 split
 ·rename_i ho
  rcases ho with h1|h1|h1|h1|h1|h1|h1|h1|h1
  ·simp[opS,h1,needs] at h;exact(un_kind h).2 rfl
  ·simp[opS,h1,needs] at h;exact bin_yes (by omega) h
  ·simp[opS,h1,needs] at h;exact bin_yes (by omega) h
  ·simp[opS,h1,needs] at h;exact bin_yes (by omega) h
  ·simp[opS,h1,needs] at h;exact bin_yes (by omega) h
  ·simp[opS,h1] at h;exact(un_kind h).2 rfl
  ·simp[opS,h1] at h;exact bin_yes (op:=16) (by omega) (ints_res h).2.2
  ·simp[opS,h1] at h;exact bin_yes (op:=17) (by omega) (ints_res h).2.2
  ·simp[opS,h1] at h;exact bin_yes (op:=16) (by omega) (ints_res h).2.2
 rename_i c2
 rw[if_neg c2] at hk
 split
 ·rename_i ho
  rcases ho with h1|h1
  ·simp[opS,h1] at h;exact list_kind h
  ·simp[opS,h1,needs] at h;exact bin_push h
 rename_i c3
 rw[if_neg c3] at hk
 split
 ·rename_i h1;simp[opS,h1] at h;exact rec_kind h
 rename_i c4
 rw[if_neg c4] at hk
 split
 ·rename_i h1
  simp[opS,h1] at h
  rw[←h.2,h.1]
 ·rename_i c5
  rw[if_neg c5] at hk
  exact absurd rfl hk
end Go.RI
namespace Go.RI
open Go
structure FS where
 out:List Stp
 pl:List Opn
def allC(l:List Opn):Bool:=l.all fun o=>decide (o.kind=3)
def knownF(i:Stp):Option Val:=if allC i.l=true then stepV i (i.l.map Opn.v) else none
def NoIs(out:List Stp)(o:Opn):Prop:=o.kind=2→∀ s,out[o.n.toNat]?=some s→s.op≠23∧s.op≠40
structure GoodF (nh:Int) (f:FS) (m:Nat):Prop where
 fits:Fits nh f.out
 pl:f.pl.length=m
 plfit:∀ p∈f.pl,opnFits nh f.out.length p=true
 plno:∀ p∈f.pl,NoIs f.out p
 left:∀(k:Nat) (s:Stp),f.out[k]?=some s→knownF s=none∧∀ o∈s.l,NoIs f.out o
 le:f.out.length≤m
theorem none_zero:noneV zeroVal=true:=(sameV_iff _ _).2 rfl
structure SemF (homes:List Val) (f:FS) (made md:List Val):Prop where
 run:stepsV homes f.out []=some made
 at_:∀(j:Nat) (p:Opn),f.pl[j]?=some p→md[j]?=some (ofO homes made p)
end Go.RI
namespace Go.RI
open Go
structure Sem (homes:List Val) (g:GS) (made md:List Val):Prop where
 run:stepsV homes g.out []=some made
 at_:∀(j:Nat) (p:Int),g.pl[j]?=some p→made[p.toNat]?=md[j]?
 hs:∀(h:Nat) (k:Int),g.hs[h]?=some k→k≠-1→∃ v,homes[h]?=some v∧v.kind=k
end Go.RI
