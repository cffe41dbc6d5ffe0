import Derived.Test.YtbfajkcmehaliacGreatDoorM09
import Derived.Test.YtbfajkcmehaliacGreatDoorM08
set_option linter.unusedVariables false
set_option linter.unusedSimpArgs false
set_option linter.unusedSectionVars false
/- RI, part SO: what steps make of values that may be may be. Conditions: none. -/
namespace Go.RI
open Go
mutual
theorem fitsV_mono:∀(v:Val) (w w' left left':Int),w'≤w→left≤left'→(fitsV v w left).2=true→(fitsV v w' left').2=true∧(fitsV v w' left').1=(fitsV v w left).1+(left'-left)
  | .mk k n s l ns,w,w',left,left',hw,hl,h=>by
    simp only[fitsV] at h ⊢
    split at h
    · cases h
    · rename_i hc
      rw[if_neg hc]
      have hc':¬(8≤w'∨left'-(1+s.length)-lens ns<0∨ownV (.mk k n s l ns)=false):=fun h=>hc (by
        rcases h with h|h|h
        · exact .inl (by omega)
        · exact .inr (.inl (by omega))
        · exact .inr (.inr h))
      rw[if_neg hc']
      obtain⟨h1,h2⟩:=fitsL_mono l (w+1) (w'+1) _ (left'-(1+s.length)-lens ns) (by omega) (by omega) h
      exact⟨h1,by rw[h2];omega⟩
theorem fitsL_mono:∀(l:List Val) (w w' left left':Int),w'≤w→left≤left'→(fitsL l w left).2=true→(fitsL l w' left').2=true∧(fitsL l w' left').1=(fitsL l w left).1+(left'-left)
  | [],w,w',left,left',hw,hl,h=>⟨rfl,by simp only[fitsL];omega⟩
  | v::l,w,w',left,left',hw,hl,h=>by
    simp only[fitsL] at h ⊢
    split at h
    · rename_i hc
      obtain⟨h1,h2⟩:=fitsV_mono v w w' left left' hw hl hc
      rw[if_pos hc,if_pos h1]
      obtain⟨h3,h4⟩:=fitsL_mono l w w' _ (fitsV v w' left').1 hw (by omega) h
      exact⟨h3,by rw[h4,h2];omega⟩
    · cases h
end
theorem fitsL_mem:∀(l:List Val) (w left L:Int),0≤w→0≤left→left≤L→(fitsL l w left).2=true→∀ x∈l,(fitsV x 0 L).2=true
  | [],_,_,_,_,_,_,_,x,hx=>by cases hx
  | v::l,w,left,L,hw,h0,hL,h,x,hx=>by
    simp only[fitsL] at h
    split at h
    · rename_i hc
      rcases List.mem_cons.1 hx with rfl|hx
      · exact(fitsV_mono _ w 0 left L hw hL hc).1
      · have:=fitsV_le v w left hc
        exact fitsL_mem l w _ L hw this.1 (by omega) h x hx
    · cases h
theorem may_part{a x:Val}(h:mayV a=true)(hx:x∈a.l):mayV x=true:=by
 unfold mayV at h ⊢
 rw[fitsV_eq] at h
 split at h
 ·cases h
 ·rename_i hc
  have h1:=(lens_bulk a.names).1
  exact fitsL_mem a.l 1 _ 256 (by omega) (by omega) (by omega) h x hx
theorem may_at{a:Val}(h:mayV a=true)(i:Nat):mayV (a.l[i]?.getD zeroVal)=true:=by
 cases hx:a.l[i]? with
 | none=>exact may_zero
 | some x=>exact may_part h (List.mem_of_getElem? hx)
theorem may_yes(b:Bool):mayV (yesV b)=true:=by
 have h0:clr1 0=0:=by decide
 have h1:clr1 1=0:=by decide
 cases b<;>simp[mayV,fitsV,fitsL,yesV,ownV,bareV,lens,h0,h1]
theorem made_may(v:Val):mayV (madeV v).1=true:=by
 unfold madeV
 split
 ·assumption
 ·exact may_zero
theorem unary_may(op:Int)(a:Val):mayV (unaryV op a).1=true:=by
 unfold unaryV
 repeat' split
 all_goals first|exact may_num _|exact may_yes _|exact may_zero
theorem ints_may(op a b:Int):mayV (intsV op a b).1=true:=by
 unfold intsV
 repeat' split
 all_goals first|exact may_num _|exact may_yes _|exact may_zero
theorem texts_may(op:Int)(a b:Str):mayV (textsV op a b).1=true:=by
 unfold textsV
 repeat' split
 all_goals first|exact made_may _|exact may_yes _|exact may_zero
theorem binary_may(op:Int){a:Val}(b:Val)(ha:mayV a=true):mayV (binaryV op a b).1=true:=by
 unfold binaryV
 split
 ·exact may_zero
 ·show mayV (binV2 op a b).1=true
  unfold binV2
  repeat' split
  all_goals first|exact may_yes _|exact ints_may _ _ _|exact texts_may _ _ _|exact made_may _|exact may_at ha _|exact may_zero
theorem list_may(l:List Val):mayV (listV l).1=true:=by
 unfold listV
 split
 ·exact made_may _
 ·exact may_zero
theorem rec_may(ns:List Str)(l:List Val):mayV (recV ns l).1=true:=by
 unfold recV
 split
 ·exact made_may _
 ·exact may_zero
theorem field_may{a:Val}(s:Str)(ha:mayV a=true):mayV (fieldV a s).1=true:=by
 unfold fieldV
 repeat' split
 all_goals first|exact may_at ha _|exact may_zero
theorem intsS_may{op:Int}{a b v:Val}(ha:mayV a=true)(h:intsS op a b=some v):mayV v=true:=by
 unfold intsS at h
 split at h
 ·obtain⟨rfl,_⟩:=res_eq h
  exact binary_may _ _ ha
 ·cases h
theorem op_may{i:Stp}{l:List Val}{v:Val}(ha:mayV (l[0]?.getD zeroVal)=true)(h:opS i l=some v):mayV v=true:=by
 have res:∀ r:Val×Int×Int,mayV r.1=true→resV r=some v→mayV v=true:=fun r h1 h2=>by obtain⟨rfl,_⟩:=res_eq h2;exact h1
 have cond:∀ c:Prop,[Decidable c]→(if c then some (l[0]?.getD zeroVal) else none)=some v→mayV v=true:=fun c _ h=>by
  split at h
  ·cases h;exact ha
  ·cases h
 by_cases k20:i.op=20
 ·have e:opS i l=(resV (listV l)):=by simp[opS,k20]
  rw[e] at h
  exact res _ (list_may _) h
 by_cases k21:i.op=21
 ·have e:opS i l=(resV (recV i.names l)):=by simp[opS,k21]
  rw[e] at h
  exact res _ (rec_may _ _) h
 by_cases k22:i.op=22
 ·have e:opS i l=(resV (fieldV (l[0]?.getD zeroVal) i.s)):=by simp[opS,k22]
  rw[e] at h
  exact res _ (field_may _ ha) h
 by_cases k23:i.op=23
 ·have e:opS i l=(if isTV (l[0]?.getD zeroVal) i.s=true then some (l[0]?.getD zeroVal) else none):=by simp[opS,k23]
  rw[e] at h
  exact cond _ h
 by_cases k40:i.op=40
 ·have e:opS i l=(if(l[0]?.getD zeroVal).kind=i.n then some (l[0]?.getD zeroVal) else none):=by simp[opS,k40]
  rw[e] at h
  exact cond _ h
 by_cases k41:i.op=41
 ·have e:opS i l=(resV (unaryV 6 (l[0]?.getD zeroVal))):=by simp[opS,k41]
  rw[e] at h
  exact res _ (unary_may _ _) h
 by_cases k42:i.op=42
 ·have e:opS i l=(resV (unaryV 7 (l[0]?.getD zeroVal))):=by simp[opS,k42]
  rw[e] at h
  exact res _ (unary_may _ _) h
 by_cases k43:i.op=43
 ·have e:opS i l=(intsS 9 (l[0]?.getD zeroVal) (l[1]?.getD zeroVal)):=by simp[opS,k43]
  rw[e] at h
  exact intsS_may ha h
 by_cases k44:i.op=44
 ·have e:opS i l=(intsS 10 (l[0]?.getD zeroVal) (l[1]?.getD zeroVal)):=by simp[opS,k44]
  rw[e] at h
  exact intsS_may ha h
 by_cases k45:i.op=45
 ·have e:opS i l=(intsS 11 (l[0]?.getD zeroVal) (l[1]?.getD zeroVal)):=by simp[opS,k45]
  rw[e] at h
  exact intsS_may ha h
 by_cases k46:i.op=46
 ·have e:opS i l=(intsS 16 (l[0]?.getD zeroVal) (l[1]?.getD zeroVal)):=by simp[opS,k46]
  rw[e] at h
  exact intsS_may ha h
 by_cases k47:i.op=47
 ·have e:opS i l=(intsS 17 (l[0]?.getD zeroVal) (l[1]?.getD zeroVal)):=by simp[opS,k47]
  rw[e] at h
  exact intsS_may ha h
 by_cases k48:i.op=48
 ·have e:opS i l=(intsS 9 (l[0]?.getD zeroVal) (numV i.n)):=by simp[opS,k48]
  rw[e] at h
  exact intsS_may ha h
 by_cases k49:i.op=49
 ·have e:opS i l=(intsS 16 (l[0]?.getD zeroVal) (numV i.n)):=by simp[opS,k49]
  rw[e] at h
  exact intsS_may ha h
 by_cases n2:(needs i).1=2
 ·have e:opS i l=resV (binaryV i.op (l[0]?.getD zeroVal) (l[1]?.getD zeroVal)):=by simp[opS,k20,k21,k22,k23,k40,k41,k42,k43,k44,k45,k46,k47,k48,k49,n2]
  rw[e] at h
  exact res _ (binary_may _ _ ha) h
 ·have e:opS i l=resV (unaryV i.op (l[0]?.getD zeroVal)):=by simp[opS,k20,k21,k22,k23,k40,k41,k42,k43,k44,k45,k46,k47,k48,k49,n2]
  rw[e] at h
  exact res _ (unary_may _ _) h
theorem step_may{i:Stp}{l:List Val}{v:Val}(h:stepV i l=some v):mayV v=true:=by
 unfold stepV at h
 split at h
 ·rename_i hc
  exact op_may (may_get hc.2.2.2 0) h
 ·cases h
theorem step_hands{i:Stp}{l:List Val}{v:Val}(ho:i.op=23∨i.op=40)(h:stepV i l=some v):v=l[0]?.getD zeroVal:=by
 unfold stepV at h
 split at h
 ·rcases ho with ho|ho
  ·simp[opS,ho] at h;exact h.2.symm
  ·simp[opS,ho] at h;exact h.2.symm
 ·cases h
theorem fits_hands{homes a:Int}{s:Stp}(h:stpFits homes a s=true)(ho:s.op=23∨s.op=40):s.l.length=1:=by
 unfold stpFits at h
 rcases ho with ho|ho<;>simp[needs,ho] at h<;>omega
end Go.RI
namespace Go.RI
open Go
def makesI(op n:Int):Int :=
 if op=6∨op=8∨op=10∨op=11∨op=12∨op=13∨op=41∨op=43∨op=44∨op=45∨op=48 then 1
 else if op=7∨op=14∨op=15∨op=16∨op=17∨op=42∨op=46∨op=47∨op=49 then 2
 else if op=20∨op=18 then 4
 else if op=21 then 5
 else if op=40 then n
 else -1
def typedI(op:Int):Int×Int×Bool :=
 if op=6 then(41,1,true) else if op=7 then(42,2,true) else if op=9 then(43,1,true) else if op=10 then(44,1,true)
 else if op=11 then(45,1,true) else if op=16 then(46,1,true) else if op=17 then(47,1,true) else(0,0,false)
structure GS where
 out:List Stp
 hs:List Int
 pl:List Int
def stpKind(i:Stp):Int:=makesI i.op i.n
def knownI(g:GS)(o:Opn):Int:=if o.kind=1 then g.hs[o.n.toNat]?.getD 0 else if o.kind=2 then stpKind (g.out[o.n.toNat]?.getD default) else o.v.kind
def saysI(K:List Int)(g:GS)(o:Opn)(k:Int):Bool:=decide (o.kind=1)&&(decide (g.hs[o.n.toNat]?.getD 0=-1)&&(decide (o.n<K.length)&&decide (K[o.n.toNat]?.getD 0=k)))
def checkI(K:List Int)(g:GS)(o:Opn)(k:Int):GS:=if saysI K g o k=true then⟨g.out++[⟨40,k,[o],[],[]⟩],g.hs.set o.n.toNat k,g.pl⟩ else g
def chkL(K:List Int)(k:Int):GS→List Opn→GS
 | g,[]=>g
 | g,o::l=>chkL K k (checkI K g o k) l
def movedO(pl:List Int)(o:Opn):Opn:=if o.kind=2 then{ o with n:=pl[o.n.toNat]?.getD 0 } else o
def chkG(K:List Int)(g:GS)(i:Stp):GS:=if(typedI i.op).2.2=true then chkL K (typedI i.op).2.1 g (i.l.map (movedO g.pl)) else g
def opG(g:GS)(op:Int)(l:List Opn):Int:=if(typedI op).2.2=true then(if l.all (fun o=>decide (knownI g o=(typedI op).2.1))=true then(typedI op).1 else op) else op
def noteG(hs:List Int)(i:Stp)(l:List Opn):List Int:=if i.op=40∧(l[0]?.getD default).kind=1 then hs.set (l[0]?.getD default).n.toNat i.n else hs
def turnG(K:List Int)(g:GS)(i:Stp):Stp:=⟨opG (chkG K g i) i.op (i.l.map (movedO g.pl)),i.n,i.l.map (movedO g.pl),i.s,i.names⟩
def stepG(K:List Int)(g:GS)(i:Stp):GS:=⟨(chkG K g i).out++[turnG K g i],noteG (chkG K g i).hs i (i.l.map (movedO g.pl)),g.pl++[((chkG K g i).out.length:Int)]⟩
structure GoodG (nh:Int) (g:GS) (m:Nat):Prop where
 fits:Fits nh g.out
 hs:g.hs.length=nh.toNat
 pl:g.pl.length=m
 at_:∀(j:Nat) (p:Int),g.pl[j]?=some p→0≤p∧p<g.out.length
end Go.RI
namespace Go.RI
open Go
end Go.RI
namespace Go.RI
open Go
theorem steps_app{homes:List Val}:∀(a b:List Stp) (m:List Val),stepsV homes (a++b) m=(stepsV homes a m).bind (stepsV homes b)
  | [],b,m=>rfl
  | i::a,b,m=>by
    simp only[List.cons_append,stepsV]
    cases h:stepV i (i.l.map (ofO homes m)) with
    | none=>rfl
    | some v=>exact steps_app a b _
theorem steps_pre{homes:List Val}:∀(l:List Stp) (m made:List Val),stepsV homes l m=some made→∃ more,made=m++more∧more.length=l.length
  | [],m,made,h=>by cases h;exact⟨[],by simp,rfl⟩
  | i::l,m,made,h=>by
    simp only[stepsV] at h
    split at h
    · rename_i v hv
      obtain⟨more,h1,h2⟩:=steps_pre l _ _ h
      exact⟨v::more,by rw[h1];simp,by simp[h2]⟩
    · cases h
theorem steps_len{homes:List Val}{l:List Stp}{made:List Val}(h:stepsV homes l []=some made):made.length=l.length:=by
 obtain⟨more,h1,h2⟩:=steps_pre _ _ _ h
 simp[h1,h2]
end Go.RI
namespace Go.RI
open Go
structure FS where
 out:List Stp
 pl:List Opn
def turnO(pl:List Opn)(o:Opn):Opn:=if o.kind=2 then pl[o.n.toNat]?.getD default else o
def allC(l:List Opn):Bool:=l.all fun o=>decide (o.kind=3)
def knownF(i:Stp):Option Val:=if allC i.l=true then stepV i (i.l.map Opn.v) else none
def conO(v:Val):Opn:=⟨3,0,v⟩
def stO(n:Nat):Opn:=⟨2,n,zeroVal⟩
def turnS(pl:List Opn)(i:Stp):Stp:=⟨i.op,i.n,i.l.map (turnO pl),i.s,i.names⟩
def placeF(n:Nat)(j:Stp):Opn:=if j.op=23∨j.op=40 then j.l[0]?.getD default else stO n
def stepF(f:FS)(i:Stp):FS:=match knownF (turnS f.pl i) with
 | some v=>⟨f.out,f.pl++[conO v]⟩
 | none=>⟨f.out++[turnS f.pl i],f.pl++[placeF f.out.length (turnS f.pl i)]⟩
def foldG:FS→List Stp→FS
 | f,[]=>f
 | f,i::l=>foldG (stepF f i) l
theorem foldG_app:∀(l m:List Stp) (f:FS),foldG f (l++m)=foldG (foldG f l) m
 | [],_,_=>rfl
 | i::l,m,f=>foldG_app l m (stepF f i)
def foldF(x:Pce):FS:=foldG ⟨[],[]⟩ x.ins
def isB(o:Opn):Bool:=decide (o.kind=3)&&decide (o.v.kind=2)
def foldP(x:Pce):Pce :=
 if x.exit=2∧isB (turnO (foldF x).pl x.cond)=true then
  { x with ins:=(foldF x).out,sets:=x.sets.map (turnO (foldF x).pl),exit:=1,to:=if(turnO (foldF x).pl x.cond).v.n=1 then wrapI .i64 (x.at_+x.many) else x.to,cond:=⟨0,0,zeroVal⟩}
 else{ x with ins:=(foldF x).out,sets:=x.sets.map (turnO (foldF x).pl),cond:=turnO (foldF x).pl x.cond }
theorem foldP_yes{x:Pce}(h:x.exit=2∧isB (turnO (foldF x).pl x.cond)=true):foldP x =
  { x with ins:=(foldF x).out,sets:=x.sets.map (turnO (foldF x).pl),exit:=1,to:=if(turnO (foldF x).pl x.cond).v.n=1 then wrapI .i64 (x.at_+x.many) else x.to,cond:=⟨0,0,zeroVal⟩}:=by unfold foldP;rw[if_pos h]
theorem foldP_no{x:Pce}(h:¬(x.exit=2∧isB (turnO (foldF x).pl x.cond)=true)):foldP x =
  { x with ins:=(foldF x).out,sets:=x.sets.map (turnO (foldF x).pl),cond:=turnO (foldF x).pl x.cond }:=by unfold foldP;rw[if_neg h]
theorem foldP_ins(x:Pce):(foldP x).ins=(foldF x).out:=by unfold foldP;split<;>rfl
theorem foldP_sets(x:Pce):(foldP x).sets=x.sets.map (turnO (foldF x).pl):=by unfold foldP;split<;>rfl
def NoIs(out:List Stp)(o:Opn):Prop:=o.kind=2→∀ s,out[o.n.toNat]?=some s→s.op≠23∧s.op≠40
structure GoodF (nh:Int) (f:FS) (m:Nat):Prop where
 fits:Fits nh f.out
 pl:f.pl.length=m
 plfit:∀ p∈f.pl,opnFits nh f.out.length p=true
 plno:∀ p∈f.pl,NoIs f.out p
 left:∀(k:Nat) (s:Stp),f.out[k]?=some s→knownF s=none∧∀ o∈s.l,NoIs f.out o
 le:f.out.length≤m
theorem noIs_app{nh:Int}{out m:List Stp}{o:Opn}(h:NoIs out o)(hf:opnFits nh out.length o=true):NoIs (out++m) o:=by
 intro hk s hs
 obtain⟨h1,h2⟩:=opnFits_step hf hk
 rw[List.getElem?_append_left (by omega)] at hs
 exact h hk s hs
theorem turnO_mem{nh:Int}{f:FS}{m:Nat}{o:Opn}(hp:f.pl.length=m)(h:opnFits nh m o=true):(o.kind=2∧turnO f.pl o∈f.pl∧f.pl[o.n.toNat]?=some (turnO f.pl o))∨(o.kind≠2∧turnO f.pl o=o):=by
 unfold turnO
 by_cases hk:o.kind=2
 ·obtain⟨h1,h2⟩:=opnFits_step h hk
  obtain⟨p,hpp⟩:=get_of_lt (l:=f.pl) (i:=o.n.toNat) (by omega)
  rw[if_pos hk,hpp]
  exact .inl ⟨hk,List.mem_of_getElem? hpp,rfl⟩
 ·rw[if_neg hk];exact .inr ⟨hk,rfl⟩
theorem fits_not{nh a b:Int}{o:Opn}(hk:o.kind≠2)(h:opnFits nh a o=true):opnFits nh b o=true:=by
 unfold opnFits at h ⊢
 rw[if_neg hk] at h ⊢
 exact h
theorem turnO_fits{nh:Int}{f:FS}{m:Nat}{o:Opn}(hg:GoodF nh f m)(h:opnFits nh m o=true):opnFits nh f.out.length (turnO f.pl o)=true:=by
 rcases turnO_mem hg.pl h with⟨_,h1,_⟩|⟨h1,h2⟩
 ·exact hg.plfit _ h1
 ·rw[h2];exact fits_not h1 h
theorem turnO_no{nh:Int}{f:FS}{m:Nat}{o:Opn}(hg:GoodF nh f m)(h:opnFits nh m o=true):NoIs f.out (turnO f.pl o):=by
 rcases turnO_mem hg.pl h with⟨_,h1,_⟩|⟨h1,h2⟩
 ·exact hg.plno _ h1
 ·rw[h2];exact fun hk=>absurd hk h1
theorem turnS_fits{nh:Int}{f:FS}{m:Nat}{i:Stp}(hg:GoodF nh f m)(h:stpFits nh m i=true):stpFits nh f.out.length (turnS f.pl i)=true:=by
 have hn:needs (turnS f.pl i)=needs i:=rfl
 unfold stpFits at h ⊢
 rw[hn]
 simp only[turnS,Bool.and_eq_true,List.all_eq_true,List.length_map] at h ⊢
 refine⟨h.1,fun o ho=>?_⟩
 obtain⟨p,hp,rfl⟩:=List.mem_map.1 ho
 exact turnO_fits hg (h.2 p hp)
theorem con_fits{nh a:Int}{v:Val}(h:mayV v=true):opnFits nh a (conO v)=true:=by simp[opnFits,conO,h]
theorem none_zero:noneV zeroVal=true:=(sameV_iff _ _).2 rfl
theorem place_fits{nh:Int}{n:Nat}{j:Stp}(h:stpFits nh n j=true):opnFits nh (n+1:Nat) (placeF n j)=true:=by
 unfold placeF
 split
 ·rename_i ho
  obtain⟨x,hx⟩:=one_len (fits_hands h ho)
  have:=fits_all h x (by rw[hx];simp)
  rw[hx]
  exact opnFits_mono (by omega) this
 ·unfold opnFits stO
  rw[if_neg (by simp),if_pos rfl]
  simp only[none_zero,Bool.and_true,Bool.and_eq_true,decide_eq_true_eq]
  omega
theorem stepF_good{nh:Int}{f:FS}{m:Nat}{i:Stp}(hg:GoodF nh f m)(h:stpFits nh m i=true):GoodF nh (stepF f i) (m+1):=by
  have hj:=turnS_fits hg h
  unfold stepF
  cases hk:knownF (turnS f.pl i) with
  | some v =>
    dsimp only
    have hv:mayV v=true:=by
      unfold knownF at hk
      split at hk
      · exact step_may hk
      · cases hk
    refine⟨hg.fits,by simp[hg.pl],fun p hp=>?_,fun p hp=>?_,hg.left,by have:=hg.le;simp only;omega⟩
    · rcases List.mem_append.1 hp with hp|hp
      · exact hg.plfit p hp
      · simp at hp;subst hp;exact con_fits hv
    · rcases List.mem_append.1 hp with hp|hp
      · exact hg.plno p hp
      · simp at hp;subst hp;exact fun hk=>by simp[conO] at hk
  | none =>
    dsimp only
    have hno:∀ o∈(turnS f.pl i).l,NoIs f.out o:=by
      intro o ho
      obtain⟨p,hp,rfl⟩:=List.mem_map.1 ho
      exact turnO_no hg (fits_all h p hp)
    refine⟨fits_add hg.fits hj,by simp[hg.pl],fun p hp=>?_,fun p hp=>?_,fun k s hs=>?_,by have:=hg.le;simp;omega⟩
    · simp only[List.length_append,List.length_singleton]
      rcases List.mem_append.1 hp with hp|hp
      · exact opnFits_mono (by omega) (hg.plfit p hp)
      · simp at hp;subst hp;exact place_fits hj
    · rcases List.mem_append.1 hp with hp|hp
      · exact noIs_app (hg.plno p hp) (hg.plfit p hp)
      · simp at hp;subst hp
        unfold placeF
        split
        · rename_i ho
          obtain⟨x,hx⟩:=one_len (fits_hands hj ho)
          have hm:x∈(turnS f.pl i).l:=by rw[hx];simp
          rw[hx]
          exact noIs_app (hno x hm) (fits_all hj x hm)
        · rename_i ho
          intro _ s hs
          simp[stO] at hs
          subst hs
          exact⟨fun h=>ho (.inl h),fun h=>ho (.inr h)⟩
    · rcases Nat.lt_or_ge k f.out.length with h1|h1
      · simp only at hs
        rw[List.getElem?_append_left h1] at hs
        refine⟨(hg.left k s hs).1,fun o ho=>noIs_app (nh:=nh) ((hg.left k s hs).2 o ho) (opnFits_mono (by omega) (fits_all (hg.fits k s hs) o ho))⟩
      · have h2:k=f.out.length:=by
          rcases Nat.lt_or_ge k (f.out.length+1) with h2|h2
          · omega
          · rw[List.getElem?_eq_none (by simp;omega)] at hs;cases hs
        subst h2
        simp at hs
        subst hs
        exact⟨hk,fun o ho=>noIs_app (hno o ho) (fits_all hj o ho)⟩
theorem foldG_good{nh:Int}:∀(l:List Stp) (f:FS) (m:Nat),GoodF nh f m→(∀(k:Nat) (s:Stp),l[k]?=some s→stpFits nh (m+k:Nat) s=true)→GoodF nh (foldG f l) (m+l.length)
  | [],f,m,hg,_=>hg
  | i::l,f,m,hg,h=>by
    have h1:=stepF_good hg (h 0 i rfl)
    have:=foldG_good l (stepF f i) (m+1) h1 fun k s hk=>by
      have:=h (k+1) s (by simpa using hk)
      rwa [show m+(k+1)=m+1+k by omega] at this
    rw[List.length_cons,show m+(l.length+1)=m+1+l.length by omega]
    exact this
theorem fs0_good{nh:Int}:GoodF nh ⟨[],[]⟩ 0:=⟨fun k s h=>by simp at h,rfl,fun p h=>by simp at h,fun p h=>by simp at h,fun k s h=>by simp at h,Nat.le_refl _⟩
theorem foldF_good{x:Pce}(hc:checkP x=true):GoodF x.homes (foldF x) x.ins.length:=by
 have:=foldG_good (nh:=x.homes) x.ins ⟨[],[]⟩ 0 fs0_good fun k s hk=>by simpa using check_fits hc k s hk
 rwa [Nat.zero_add] at this
theorem foldP_check{x:Pce}(hc:checkP x=true):checkP (foldP x)=true:=by
 have hg:=foldF_good hc
 have hc':=checkP_iff.1 hc
 obtain⟨⟨n1,n2,n3,n4,n5,n6,n7⟩,h2,h3,h4⟩:=hc'
 have hlen:(foldP x).ins.length≤x.ins.length:=by rw[foldP_ins];exact hg.le
 have hsl:(foldP x).sets.length=x.sets.length:=by rw[foldP_sets];simp
 have hhom:(foldP x).homes=x.homes:=by unfold foldP;split<;>rfl
 have hw:wrapI .i64 (x.at_+x.many)=x.at_+x.many:=wrap_ok (by omega) (by omega)
 refine checkP_iff.2 ⟨?_,?_,?_,?_⟩
 ·unfold numsP
  rw[hsl,hhom]
  unfold foldP at hlen ⊢
  by_cases hb:x.exit=2∧isB (turnO (foldF x).pl x.cond)=true
  ·rw[if_pos hb] at hlen ⊢
   simp only at hlen ⊢
   refine⟨⟨by omega,by omega,by omega,by omega,by omega,by omega,?_⟩,by omega,by omega,by omega,by omega,by omega,by omega⟩
   split<;>omega
  ·rw[if_neg hb] at hlen ⊢
   simp only at hlen ⊢
   exact⟨⟨by omega,by omega,by omega,by omega,by omega,by omega,by omega⟩,by omega,by omega,by omega,by omega,by omega,by omega⟩
 ·rw[foldP_ins,hhom]
  have:=stepsFit_of (homes:=x.homes) (foldF x).out 0 fun k s hk=>by simpa using hg.fits k s hk
  simpa using this
 ·unfold condP
  rw[hhom,foldP_ins]
  unfold foldP
  by_cases hb:x.exit=2∧isB (turnO (foldF x).pl x.cond)=true
  ·rw[if_pos hb]
   simp[none_zero]
  ·rw[if_neg hb]
   simp only
   unfold condP at h3
   by_cases he:x.exit=2
   ·rw[if_pos he] at h3 ⊢
    exact turnO_fits hg h3
   ·rw[if_neg he] at h3 ⊢
    have:turnO (foldF x).pl x.cond=x.cond:=by
     unfold turnO
     simp only[Bool.and_eq_true,decide_eq_true_eq] at h3
     rw[if_neg (by omega)]
    rw[this];exact h3
 ·rw[foldP_sets,foldP_ins,hhom,List.all_eq_true]
  intro o ho
  obtain⟨p,hp,rfl⟩:=List.mem_map.1 ho
  exact turnO_fits hg (List.all_eq_true.1 h4 p hp)
structure SemF (homes:List Val) (f:FS) (made md:List Val):Prop where
 run:stepsV homes f.out []=some made
 at_:∀(j:Nat) (p:Opn),f.pl[j]?=some p→md[j]?=some (ofO homes made p)
theorem turnO_of{homes made md:List Val}{nh:Int}{f:FS}{m:Nat}{o:Opn}(hg:GoodF nh f m)(hs:SemF homes f made md)(h:opnFits nh m o=true):ofO homes made (turnO f.pl o)=ofO homes md o:=by
 rcases turnO_mem hg.pl h with⟨hk,_,h1⟩|⟨h1,h2⟩
 ·have:=hs.at_ _ _ h1
  have e:ofO homes md o=md[o.n.toNat]?.getD zeroVal:=by simp[ofO,hk]
  rw[e,this];rfl
 ·rw[h2];simp[ofO,h1]
theorem allC_of{homes made:List Val}{l:List Opn}(h:allC l=true):l.map (ofO homes made)=l.map Opn.v:=by
 refine List.map_congr_left fun o ho=>?_
 have:=List.all_eq_true.1 h o ho
 simp only[decide_eq_true_eq] at this
 simp[ofO,this]
theorem stepF_sem{homes made md:List Val}{nh:Int}{f:FS}{m:Nat}{i:Stp}(hg:GoodF nh f m)(hm:md.length=m)(hs:SemF homes f made md)(hi:stpFits nh m i=true) :
    match stepV i (i.l.map (ofO homes md)) with
      | some v=>∃ made',SemF homes (stepF f i) made' (md++[v])
      | none=>stepsV homes (stepF f i).out []=none:=by
  have hl:=steps_len hs.run
  have hv:(turnS f.pl i).l.map (ofO homes made)=i.l.map (ofO homes md):=by
    simp only[turnS,List.map_map]
    exact List.map_congr_left fun o ho=>turnO_of hg hs (fits_all hi o ho)
  have hst:∀ l,stepV (turnS f.pl i) l=stepV i l:=fun l=>rfl
  have hj:=turnS_fits hg hi
  unfold stepF
  cases hk:knownF (turnS f.pl i) with
  | some w =>
    unfold knownF at hk
    split at hk
    · rename_i ha
      rw[←allC_of (homes:=homes) (made:=made) ha,hv,hst] at hk
      rw[hk]
      refine⟨made,hs.run,fun j p hp=>?_⟩
      simp only at hp
      rcases Nat.lt_or_ge j f.pl.length with h1|h1
      · rw[List.getElem?_append_left h1] at hp
        have h2:=hg.pl
        rw[List.getElem?_append_left (by omega)]
        exact hs.at_ j p hp
      · have h2:j=f.pl.length:=by
          rcases Nat.lt_or_ge j (f.pl.length+1) with h2|h2
          · omega
          · rw[List.getElem?_eq_none (by simp;omega)] at hp;cases hp
        subst h2
        simp at hp
        subst hp
        rw[hg.pl,←hm]
        simp[ofO,conO]
    · cases hk
  | none =>
    have hr:stepsV homes (f.out++[turnS f.pl i]) []=(stepV i (i.l.map (ofO homes md))).map fun v=>made++[v]:=by
      rw[steps_app,hs.run]
      simp only[Option.bind_some,stepsV,hv,hst]
      cases stepV i (i.l.map (ofO homes md))<;>rfl
    cases hw:stepV i (i.l.map (ofO homes md)) with
    | none=>rw[hw] at hr;exact hr
    | some v =>
      rw[hw] at hr
      refine⟨made++[v],hr,fun j p hp=>?_⟩
      simp only at hp
      rcases Nat.lt_or_ge j f.pl.length with h1|h1
      · rw[List.getElem?_append_left h1] at hp
        have h2:=hg.pl
        rw[List.getElem?_append_left (by omega),hs.at_ j p hp,of_app]
        intro hk2
        have:=opnFits_step (hg.plfit p (List.mem_of_getElem? hp)) hk2
        omega
      · have h2:j=f.pl.length:=by
          rcases Nat.lt_or_ge j (f.pl.length+1) with h2|h2
          · omega
          · rw[List.getElem?_eq_none (by simp;omega)] at hp;cases hp
        subst h2
        simp at hp
        subst hp
        rw[hg.pl,←hm]
        simp only[List.getElem?_concat_length]
        unfold placeF
        split
        · rename_i ho
          have hho:=step_hands (i:=i) ho hw
          obtain⟨x,hx⟩:=one_len (fits_hands hj ho)
          have hf:=fits_all hj x (by rw[hx];simp)
          rw[hx] at hv
          rw[←hv] at hho
          rw[hx,hho]
          simp only[List.map_cons,List.map_nil,List.getElem?_cons_zero,Option.getD_some]
          rw[of_app]
          intro hk2
          have:=opnFits_step hf hk2
          omega
        · simp[ofO,stO,hl]
theorem stepF_ext{f:FS}{i:Stp}:∃ C,(stepF f i).out=f.out++C:=by
 unfold stepF
 split
 ·exact⟨[],by simp⟩
 ·exact⟨_,rfl⟩
theorem foldG_ext:∀(l:List Stp) (f:FS),∃ C,(foldG f l).out=f.out++C
  | [],f=>⟨[],by simp[foldG]⟩
  | i::l,f=>by
    obtain⟨C,h1⟩:=stepF_ext (f:=f) (i:=i)
    obtain⟨D,h2⟩:=foldG_ext l (stepF f i)
    exact⟨C++D,by rw[foldG,h2,h1,List.append_assoc]⟩
theorem stop_ext{homes:List Val}{a b C:List Stp}(h:stepsV homes a []=none)(e:b=a++C):stepsV homes b []=none:=by
 rw[e,steps_app,h];rfl
theorem foldG_sem{homes:List Val}{nh:Int}:∀(l:List Stp) (f:FS) (m:Nat) (made md:List Val),GoodF nh f m→md.length=m→SemF homes f made md→(∀(k:Nat) (s:Stp),l[k]?=some s→stpFits nh (m+k:Nat) s=true) →
    match stepsV homes l md with
      | some md'=>∃ made',SemF homes (foldG f l) made' md'
      | none=>stepsV homes (foldG f l).out []=none
  | [],f,m,made,md,_,_,hs,_=>⟨made,hs⟩
  | i::l,f,m,made,md,hg,hm,hs,h=>by
    have hi:stpFits nh m i=true:=h 0 i rfl
    have h1:=stepF_good hg hi
    have h2:=stepF_sem hg hm hs hi
    obtain⟨C,hC⟩:=foldG_ext l (stepF f i)
    simp only[stepsV,foldG]
    cases hv:stepV i (i.l.map (ofO homes md)) with
    | none =>
      rw[hv] at h2
      exact stop_ext h2 hC
    | some v =>
      rw[hv] at h2
      obtain⟨made',hs'⟩:=h2
      exact foldG_sem l _ (m+1) made' (md++[v]) h1 (by simp[hm]) hs' fun k s hk=>by
        have:=h (k+1) s (by simpa using hk)
        rwa [show m+(k+1)=m+1+k by omega] at this
theorem fold_do{x:Pce}(hc:checkP x=true)(homes:List Val):doP (foldP x) homes=doP x homes:=by
  have hcy:=foldP_check hc
  have hg:=foldF_good hc
  have hck:=checkP_iff.1 hc
  have hhom:(foldP x).homes=x.homes:=by unfold foldP;split<;>rfl
  have key:=foldG_sem (homes:=homes) (nh:=x.homes) x.ins ⟨[],[]⟩ 0 [] [] fs0_good rfl ⟨rfl,fun j p h=>by simp at h⟩ fun k s h=>by simpa using check_fits hc k s h
  unfold doP
  rw[hcy,hc,hhom,foldP_ins,foldP_sets]
  cases hs:stepsV homes x.ins [] with
  | none =>
    rw[hs] at key
    simp only at key
    rw[show stepsV homes (foldF x).out []=none from key]
  | some md =>
    rw[hs] at key
    obtain⟨made,hsm⟩:=key
    have hsm:SemF homes (foldF x) made md:=hsm
    rw[hsm.run]
    simp only
    have e3:(x.sets.map (turnO (foldF x).pl)).map (ofO homes made)=x.sets.map (ofO homes md):=by
      simp only[List.map_map]
      exact List.map_congr_left fun o ho=>turnO_of hg hsm (List.all_eq_true.1 hck.2.2.2 o ho)
    have e2:toP (foldP x) homes made=toP x homes md:=by
      unfold toP
      by_cases he:x.exit=2
      · have hcond:=hck.2.2.1
        unfold condP at hcond
        rw[if_pos he] at hcond
        have ho:=turnO_of hg hsm hcond
        by_cases hb:isB (turnO (foldF x).pl x.cond)=true
        · have hb0:=hb
          simp only[isB,Bool.and_eq_true,decide_eq_true_eq] at hb
          have hv:ofO homes md x.cond=(turnO (foldF x).pl x.cond).v:=by
            rw[←ho];simp[ofO,hb.1]
          simp only[foldP_yes ⟨he,hb0⟩]
          rw[if_neg (by decide),if_pos he,hv,if_pos hb.2]
        · simp only[foldP_no (fun h=>hb h.2)]
          rw[if_pos he,if_pos he,ho]
      · simp only[foldP_no (fun h=>he h.1)]
        rw[if_neg he,if_neg he]
    rw[e2,e3]
def Firm(out:List Stp)(pl:List Opn):Prop:=pl.length=out.length∧∀(j:Nat) (s:Stp),out[j]?=some s→s.op≠23→s.op≠40→pl[j]?=some (stO j)
theorem firm_turn{nh:Int}{out all:List Stp}{pl:List Opn}{o:Opn}(hf:Firm out pl)(h:opnFits nh out.length o=true)(hno:NoIs all o)(hp:∀(j:Nat) (s:Stp),out[j]?=some s→all[j]?=some s):turnO pl o=o:=by
  unfold turnO
  by_cases hk:o.kind=2
  · rw[if_pos hk]
    obtain⟨h1,h2⟩:=opnFits_step h hk
    obtain⟨s,hs⟩:=get_of_lt (l:=out) (i:=o.n.toNat) (by omega)
    obtain⟨n1,n2⟩:=hno hk s (hp _ _ hs)
    rw[hf.2 _ s hs n1 n2]
    unfold opnFits at h
    rw[if_neg (by omega),if_pos hk] at h
    simp only[Bool.and_eq_true] at h
    have hz:=(sameV_iff _ _).1 h.2
    cases o with
    | mk k n v =>
      simp only at hk hz h1
      subst hk hz
      simp[stO]
      omega
  · rw[if_neg hk]
theorem foldG_id{nh:Int}(all:List Stp)(ha:∀(k:Nat) (s:Stp),all[k]?=some s→stpFits nh k s=true∧knownF s=none∧∀ o∈s.l,NoIs all o):∀(l acc:List Stp) (pl:List Opn),all=acc++l→Firm acc pl→∃ pl',foldG ⟨acc,pl⟩ l=⟨acc++l,pl'⟩∧Firm (acc++l) pl'
  | [],acc,pl,he,hf=>⟨pl,by simp[foldG],by simpa using hf⟩
  | i::l,acc,pl,he,hf=>by
    have hi:all[acc.length]?=some i:=by rw[he];simp
    obtain⟨h1,h2,h3⟩:=ha _ i hi
    have hp:∀(j:Nat) (s:Stp),acc[j]?=some s→all[j]?=some s:=by
      intro j s hs
      rw[he,List.getElem?_append_left]
      · exact hs
      · rcases Nat.lt_or_ge j acc.length with h|h
        · exact h
        · rw[List.getElem?_eq_none h] at hs;cases hs
    have ht:turnS pl i=i:=by
      have:i.l.map (turnO pl)=i.l:=by
        conv=>rhs;rw[←List.map_id i.l]
        exact List.map_congr_left fun o ho=>firm_turn hf (fits_all h1 o ho) (h3 o ho) hp
      unfold turnS
      rw[this]
    have hs:stepF ⟨acc,pl⟩ i=⟨acc++[i],pl++[placeF acc.length i]⟩:=by
      unfold stepF
      simp only[ht,h2]
    have hf':Firm (acc++[i]) (pl++[placeF acc.length i]):=by
      refine⟨by simp[hf.1],fun j s hj n1 n2=>?_⟩
      rcases Nat.lt_or_ge j acc.length with h|h
      · rw[List.getElem?_append_left h] at hj
        rw[List.getElem?_append_left (by rw[hf.1];exact h)]
        exact hf.2 j s hj n1 n2
      · have h2:j=acc.length:=by
          rcases Nat.lt_or_ge j (acc.length+1) with h2|h2
          · omega
          · rw[List.getElem?_eq_none (by simp;omega)] at hj;cases hj
        subst h2
        simp at hj
        subst hj
        rw[←hf.1]
        simp only[List.getElem?_concat_length,placeF]
        rw[if_neg (by omega)]
    obtain⟨pl',h5,h6⟩:=foldG_id all ha l (acc++[i]) _ (by rw[he];simp) hf'
    refine⟨pl',?_,by simpa using h6⟩
    rw[foldG,hs,h5]
    simp
theorem fold_again{x:Pce}(hc:checkP x=true):foldP (foldP x)=foldP x:=by
 have hg:=foldF_good hc
 have hck:=checkP_iff.1 hc
 have hcy:=foldP_check hc
 have hcy':=checkP_iff.1 hcy
 have hhom:(foldP x).homes=x.homes:=by unfold foldP;split<;>rfl
 obtain⟨pl',h1,h2⟩:=foldG_id (nh:=x.homes) (foldF x).out (fun k s hk=>⟨hg.fits k s hk,(hg.left k s hk).1,(hg.left k s hk).2⟩) (foldF x).out [] [] (by simp) ⟨rfl,fun j s h=>by simp at h⟩
 simp only[List.nil_append] at h1 h2
 have hF:foldF (foldP x)=⟨(foldF x).out,pl'⟩:=by unfold foldF;rw[foldP_ins];exact h1
 have tid:∀ o,opnFits x.homes (foldF x).out.length o=true→NoIs (foldF x).out o→turnO pl' o=o:=fun o ho hno=>firm_turn h2 ho hno fun j s h=>h
 have hsets:(foldP x).sets.map (turnO pl')=(foldP x).sets:=by
  conv=>rhs;rw[←List.map_id (foldP x).sets]
  refine List.map_congr_left fun o ho=>?_
  rw[foldP_sets] at ho
  obtain⟨p,hp,rfl⟩:=List.mem_map.1 ho
  have hfp:=List.all_eq_true.1 hck.2.2.2 p hp
  exact tid _ (turnO_fits hg hfp) (turnO_no hg hfp)
 have hcond:turnO pl' (foldP x).cond=(foldP x).cond∧¬((foldP x).exit=2∧isB (foldP x).cond=true):=by
  unfold foldP
  by_cases hb:x.exit=2∧isB (turnO (foldF x).pl x.cond)=true
  ·rw[if_pos hb]
   exact⟨by simp[turnO],fun h=>by simp at h⟩
  ·rw[if_neg hb]
   simp only
   refine⟨?_,hb⟩
   have hcd:=hck.2.2.1
   unfold condP at hcd
   by_cases he:x.exit=2
   ·rw[if_pos he] at hcd
    exact tid _ (turnO_fits hg hcd) (turnO_no hg hcd)
   ·rw[if_neg he] at hcd
    simp only[Bool.and_eq_true,decide_eq_true_eq] at hcd
    have:turnO (foldF x).pl x.cond=x.cond:=by unfold turnO;rw[if_neg (by omega)]
    rw[this]
    unfold turnO;rw[if_neg (by omega)]
 generalize hy:foldP x=y at *
 unfold foldP
 rw[hF]
 simp only
 rw[hcond.1,if_neg hcond.2,hsets,←hy,←foldP_ins,hy]
end Go.RI
namespace Go.Proofs.YtbfajkcmehaliacGreatDoor
open Go Go.RI
section
variable {G:AHeap} (hG:G.next=2)
include hG
theorem t_constants(l:List Opn)(hlen:l.length<1000000)(t f:Bool):pureR IP G 42 [.fs t f l.length (encs l)]=some (.tu [if allC l=true then .fs false false l.length (encs (l.map Opn.v)) else .fs false false 0 [],.b (allC l)]):=by
 refine pure_run ip42 rfl ?_
 simp -implicitDefEqProofs [I42,hG]
 refine wp_loop_list (l:=l) (by omega) (fun i todo e H=>∃ lv,e=[(2,lv),(6,.fs t f l.length (encs l)),(7,.i .i64 l.length),(8,.i .i64 i)]∧2≤H.next∧allC (l.take i)=true∧Acc H 2 lv 5 i (encs ((l.take i).map Opn.v))) ?_ ?_ ?_
 ·rintro i o todo e H' hx hd hlt hlt2 hlt3 ⟨lv,rfl,hn,hall,hL⟩
  have n3:2≤H'.next:=hn
  clear hlt
  by_cases hk:o.kind=3
  ·have ha:allC (l.take (i+1))=true:=by
    rw[List.take_add_one,hx]
    unfold allC at hall ⊢
    rw[List.all_append,hall]
    simp -implicitDefEqProofs [hk]
   simp -implicitDefEqProofs [L42a,hlt2,hlt3,hx,n3,hk]
   refine step_app (lo':=2) (acc_keep hL (by simp<;>omega) ?_) (m:=1) (ys:=Enc.cells o.v) (by omega) (by simp<;>omega) (more_lit (cs:=Enc.cells o.v) (e:=5) (ro:=false) (by simp) (by simp) (by omega)) (by simp) (by omega) (by omega) (by omega) (by omega) ?_
   ·intro id a b hv
    have:=acc_lt hL id a b hv
    simp -implicitDefEqProofs [show ¬ id=H'.next+1 by omega,show ¬ id=H'.next by omega]
   intro H2 hn2 hL2 hf2
   simp at hn2 hL2
   simp -implicitDefEqProofs [hlt3]
   exact⟨by omega,ha,by simpa[List.take_add_one,hx] using hL2⟩
  ·have ha:allC l=false:=by
    unfold allC
    rw[Bool.eq_false_iff]
    intro h
    have:=List.all_eq_true.1 h o (List.mem_of_getElem? hx)
    simp -implicitDefEqProofs [hk] at this
   simp -implicitDefEqProofs [L42a,hlt2,hlt3,hx,n3,hk,ha]
 ·rintro e H' ⟨lv,rfl,hn,hall,hL⟩
  rw[List.take_length] at hL hall
  have:=acc_frz (k:=14) hL frz_encs
  simp -implicitDefEqProofs [L42a,hall,this]
 ·exact⟨.ns,by simp,by omega,rfl,acc_none⟩
def knownO(i:Stp):Opn:=if allC i.l=true then conO ((knownF i).getD zeroVal) else⟨0,0,zeroVal⟩
theorem t_knownF(cN:NeedsOk G)(i:Stp)(hi:okStp i)(hl:i.l.length≤8)(hb:bulkL (i.l.map Opn.v)<68719476736)(t1 t2:Bool):pureR IP G 21 [.ag [.i .i64 i.op,.i .i64 i.n,.fs t1 false i.l.length (encs i.l),.s i.s,.fs t2 false i.names.length (encs i.names)]] =
  some (.tu [.ag (Enc.cells (knownO i)),.b (knownF i).isSome]):=by
 have c1:=t_constants hG i.l (by omega) t1 false
 refine pure_run ip21 rfl ?_
 cases ha:allC i.l
 ·rw[ha] at c1
  simp at c1
  simp -implicitDefEqProofs [I21,hG,c1,knownO,knownF,ha,zeroVal]
 ·rw[ha] at c1
  simp at c1
  have c2:=t_liftStep hG cN i hi (i.l.map Opn.v) hb false t1 t2 false
  simp at c2
  simp -implicitDefEqProofs [I21,hG,c1,c2,knownO,knownF,ha,conO]
end
end Go.Proofs.YtbfajkcmehaliacGreatDoor
namespace Go.Proofs.YtbfajkcmehaliacGreatDoor
open Go Go.RI
section
variable {G:AHeap} (hG:G.next=2)
include hG
theorem t_ofT(o:Opn)(pl:List Opn)(h:o.kind=2→0≤o.n∧o.n<pl.length)(hb:(turnO pl o).v.bulk<1099511627776)(tb ta tc:Bool):pureR IP G 17 [.ag [.i .i64 o.kind,.i .i64 o.n,.i .i64 o.v.kind,.i .i64 o.v.n,.s o.v.s,.fs ta false o.v.l.length (encs o.v.l),.fs tc false o.v.names.length (encs o.v.names)],.fp [.fs tb false pl.length (encs pl)]]=some (.ag (Enc.cells (turnO pl o))):=by
 by_cases k:o.kind=2
 ·obtain⟨a1,a2⟩:=h k
  obtain⟨x,hx⟩:=get_of_lt (l:=pl) (i:=o.n.toNat) (by omega)
  have e:turnO pl o=x:=by simp -implicitDefEqProofs [turnO,k,hx]
  rw[e] at hb ⊢
  have hx2:pl[o.n.toNat]'(by omega)=x:=by rw[List.getElem?_eq_getElem (by omega)] at hx;exact Option.some.inj hx
  have hd:=drop_encs pl o.n.toNat
  rw[hx,show Enc.sz Opn=7 from rfl] at hd
  have c1:=t_fownV hG x.v hb false false
  clear h
  simp at hd c1
  refine pure_run ip17 rfl ?_
  simp -implicitDefEqProofs [I17,hG,k,a1,a2,hd,hx2,c1]
 ·have e:turnO pl o=o:=by simp -implicitDefEqProofs [turnO,k]
  rw[e] at hb ⊢
  have c1:=t_fownV hG o.v hb ta tc
  simp at c1
  refine pure_run ip17 rfl ?_
  simp -implicitDefEqProofs [I17,hG,k,c1]
theorem t_ofAll(l:List Opn)(hlen:l.length<1099511627776)(pl:List Opn)(h:∀ o∈l,o.kind=2→0≤o.n∧o.n<pl.length)(hb:∀ o∈l,(turnO pl o).v.bulk<1099511627776)(t f tb:Bool):pureR IP G 19 [.fs t f l.length (encs l),.fp [.fn (.func 17) [] [.fp [.fs tb false pl.length (encs pl)]]]]=some (.fs false false l.length (encs (l.map (turnO pl)))):=by
 refine pure_run ip19 rfl ?_
 simp -implicitDefEqProofs [I19,hG]
 refine wp_loop_list (l:=l) (by omega) (fun i todo e H=>∃ lv,e=[(1,.fp [.fn (.func 17) [] [.fp [.fs tb false pl.length (encs pl)]]]),(3,lv),(6,.fs t f l.length (encs l)),(7,.i .i64 l.length),(8,.i .i64 i)]∧2≤H.next∧Acc H 2 lv 7 i (encs ((l.take i).map (turnO pl)))) ?_ ?_ ?_
 ·rintro i o todo e H' hx hd hlt hlt2 hlt3 ⟨lv,rfl,n3,hL⟩
  have c1:=t_ofT hG o pl (h o (List.mem_of_getElem? hx)) (hb o (List.mem_of_getElem? hx)) tb false false
  simp at c1
  clear hlt
  simp -implicitDefEqProofs [L19a,hlt2,hlt3,hx,n3,c1]
  refine step_app (lo':=2) (acc_keep hL (by simp<;>omega) ?_) (m:=1) (ys:=Enc.cells (turnO pl o)) (by omega) (by simp<;>omega) (more_lit (cs:=Enc.cells (turnO pl o)) (e:=7) (ro:=false) (by simp) (by simp) (by omega)) (by simp) (by omega) (by omega) (by omega) (by omega) ?_
  ·intro id a b hv
   have:=acc_lt hL id a b hv
   simp -implicitDefEqProofs [show ¬ id=H'.next+1 by omega,show ¬ id=H'.next by omega]
  intro H2 hn2 hL2 hf2
  simp at hn2 hL2
  simp -implicitDefEqProofs [hlt3]
  exact⟨by omega,by simpa[List.take_add_one,hx] using hL2⟩
 ·rintro e H' ⟨lv,rfl,hn,hL⟩
  rw[List.take_length] at hL
  have:=acc_frz (k:=15) hL frz_encs
  simp -implicitDefEqProofs [L19a,this]
 ·exact⟨.ns,by simp,by omega,acc_none⟩
end
end Go.Proofs.YtbfajkcmehaliacGreatDoor
namespace Go.RI
open Go
structure Sem (homes:List Val) (g:GS) (made md:List Val):Prop where
 run:stepsV homes g.out []=some made
 at_:∀(j:Nat) (p:Int),g.pl[j]?=some p→made[p.toNat]?=md[j]?
 hs:∀(h:Nat) (k:Int),g.hs[h]?=some k→k≠-1→∃ v,homes[h]?=some v∧v.kind=k
end Go.RI
namespace Go.RI
open Go
def Sl(H:AHeap)(P:Nat→Prop)(v:AVal)(esz n:Nat)(cells:List AVal):Prop :=
 ((∃ f,v=.fs false f n cells)∨(v=.ns∧n=0∧cells=[]))∨∃ id c,v=.sl id 0 n c∧(c=none∨c=some n)∧P id∧id<H.next∧H.get id=some (.cells cells esz false)∧cells.length=n*esz
theorem sl_keep{H H':AHeap}{P P':Nat→Prop}{v:AVal}{esz n:Nat}{cells:List AVal}(h:Sl H P v esz n cells)(hn:H.next≤H'.next)(hk:∀ id,P id→id<H.next→H'.get id=H.get id∧P' id):Sl H' P' v esz n cells:=by
 rcases h with h|⟨id,c,h1,h2,h3,h4,h5,h6⟩
 ·exact .inl h
 ·obtain⟨k1,k2⟩:=hk id h3 h4
  exact .inr ⟨id,c,h1,h2,k2,by omega,k1.trans h5,h6⟩
theorem sl_frz{H:AHeap}{P:Nat→Prop}{lo esz n k:Nat}{v:AVal}{cells:List AVal}(h:Sl H P v esz n cells)(hP:∀ id,P id→lo≤id)(hc:mapO (frzV H lo k) cells=some cells):frzV H lo (k+1) v=some (.fs false false n cells):=by
 rcases h with(⟨f,rfl⟩|⟨rfl,rfl,rfl⟩)|⟨id,c,rfl,hcap,h1,h2,h3,h4⟩
 ·rfl
 ·rfl
 ·by_cases hn:n=0
  ·subst hn
   have:cells=[]:=List.eq_nil_of_length_eq_zero (by simpa using h4)
   subst this
   rfl
  ·exact frz_lit hn (hP _ h1) h3 h4 (by rcases hcap with rfl|rfl<;>simp) hc
def Out(H:AHeap)(P:Nat→Prop):List AVal→List Stp→Prop
 | cs,[]=>cs=[]
 | cs,s::l=>∃ lv nv cs',cs=.i .i64 s.op::.i .i64 s.n::lv::.s s.s::nv::cs'∧Sl H P lv 7 s.l.length (encs s.l)∧Sl H P nv 1 s.names.length (encs s.names)∧Out H P cs' l
theorem out_keep{H H':AHeap}{P P':Nat→Prop}(hn:H.next≤H'.next)(hk:∀ id,P id→id<H.next→H'.get id=H.get id∧P' id):∀(l:List Stp) (cs:List AVal),Out H P cs l→Out H' P' cs l
 | [],cs,h=>h
 | s::l,cs,⟨lv,nv,cs',h,h1,h2,h3⟩=>⟨lv,nv,cs',h,sl_keep h1 hn hk,sl_keep h2 hn hk,out_keep hn hk l cs' h3⟩
theorem out_add{H:AHeap}{P:Nat→Prop}{s:Stp}{lv nv:AVal}(h1:Sl H P lv 7 s.l.length (encs s.l))(h2:Sl H P nv 1 s.names.length (encs s.names)):∀(l:List Stp) (cs:List AVal),Out H P cs l→Out H P (cs++[.i .i64 s.op,.i .i64 s.n,lv,.s s.s,nv]) (l++[s])
 | [],cs,h=>by subst h;exact⟨lv,nv,[],rfl,h1,h2,rfl⟩
 | t::l,cs,⟨lv',nv',cs',h,k1,k2,k3⟩=>⟨lv',nv',cs'++_,by rw[h];rfl,k1,k2,out_add h1 h2 l cs' k3⟩
theorem out_frz{H:AHeap}{P:Nat→Prop}{lo k:Nat}(hP:∀ id,P id→lo≤id):∀(l:List Stp) (cs:List AVal),Out H P cs l→mapO (frzV H lo (k+2)) cs=some (encs l)
  | [],cs,h=>by subst h;rfl
  | s::l,cs,⟨lv,nv,cs',h,k1,k2,k3⟩=>by
    subst h
    have e1:=sl_frz (k:=k+1) k1 hP frz_encs
    have e2:=sl_frz (k:=k+1) k2 hP frz_encs
    have e3:=out_frz (k:=k) hP l cs' k3
    simp[e1,e2,e3]
end Go.RI
namespace Go.RI
open Go
structure OpB where
 o:Opn
 b:Bool
instance:Enc OpB:=⟨7,fun x=>[.i .i64 x.o.kind,.i .i64 x.o.n,.i .i64 x.o.v.kind,.i .i64 x.o.v.n,.s x.o.v.s,if x.b then .ns else .fs false false x.o.v.l.length (encs x.o.v.l),if x.b then .ns else .fs false false x.o.v.names.length (encs x.o.v.names)],fun _=>rfl⟩
@[simp] theorem cells_opB(x:OpB):Enc.cells x=[.i .i64 x.o.kind,.i .i64 x.o.n,.i .i64 x.o.v.kind,.i .i64 x.o.v.n,.s x.o.v.s,if x.b then .ns else .fs false false x.o.v.l.length (encs x.o.v.l),if x.b then .ns else .fs false false x.o.v.names.length (encs x.o.v.names)]:=rfl
theorem sz_opB:Enc.sz OpB=7:=rfl
def okB(x:OpB):Prop:=x.b=true→x.o.v.l=[]∧x.o.v.names=[]
def zeroO:Opn:=⟨0,0,zeroVal⟩
theorem snap_B{H:AHeap}{k:Nat}:∀ l:List OpB,(∀ x∈l,okB x)→mapO (snapV H (k+1)) (encs l)=some (encs (l.map OpB.o))
  | [],_=>by simp
  | x::l,h=>by
    have ih:=snap_B (H:=H) (k:=k) l fun y hy=>h y (by simp[hy])
    rw[encs_cons,List.map_cons,encs_cons]
    refine mapO_append ?_ ih
    have hb:=h x (by simp)
    cases hx:x.b
    · simp[hx]
    · obtain⟨h1,h2⟩:=hb hx
      simp[hx,h1,h2]
theorem rep_B:∀ n,repCells [.i .i64 0,.i .i64 0,.i .i64 0,.i .i64 0,.s [],.ns,.ns] n=encs (List.replicate n (⟨zeroO,true⟩:OpB))
  | 0=>rfl
  | n+1=>by
    have:=rep_B n
    simp[repCells,List.replicate_succ,this,zeroO,zeroVal]
theorem put_B{l:List OpB}{i:Nat}(y:OpB)(hi:i<l.length):putCells (encs l) (i*7) (Enc.cells y)=encs (l.set i y):=by
 have:=put_encs (k:=0) (l:=l) (i:=i) (x:=l[i]) (y:=y) (by rw[List.getElem?_eq_getElem hi]) (m:=Enc.cells y) (by simp[Enc.sz]) (by simp)
 simpa[show Enc.sz OpB=7 from rfl] using this
theorem okB_set{l:List OpB}{i:Nat}{y:OpB}(h:∀ x∈l,okB x)(hy:okB y):∀ x∈l.set i y,okB x:=by
 intro x hx
 rcases List.mem_or_eq_of_mem_set hx with h1|rfl
 ·exact h x h1
 ·exact hy
def Pl(PB:List OpB)(pl:List Opn):Prop:=∀(j:Nat) (p:Opn),pl[j]?=some p→∃ b,PB[j]?=some ⟨p,b⟩
theorem pl_turn{PB:List OpB}{pl:List Opn}(h:Pl PB pl){nh:Int}{o:Opn}(ho:opnFits nh pl.length o=true):turnO (PB.map OpB.o) o=turnO pl o:=by
 unfold turnO
 by_cases hk:o.kind=2
 ·rw[if_pos hk,if_pos hk]
  obtain⟨h1,h2⟩:=opnFits_step ho hk
  obtain⟨p,hp⟩:=get_of_lt (l:=pl) (i:=o.n.toNat) (by omega)
  obtain⟨b,hb⟩:=h _ _ hp
  rw[hp,List.getElem?_map,hb];rfl
 ·rw[if_neg hk,if_neg hk]
theorem pl_turns{PB:List OpB}{pl:List Opn}(h:Pl PB pl){nh:Int}{l:List Opn}(ho:∀ o∈l,opnFits nh pl.length o=true):l.map (turnO (PB.map OpB.o))=l.map (turnO pl) :=
 List.map_congr_left fun o h1=>pl_turn h (ho o h1)
theorem pl_add{PB:List OpB}{pl:List Opn}(h:Pl PB pl)(p:Opn)(b:Bool)(hl:pl.length<PB.length):Pl (PB.set pl.length ⟨p,b⟩) (pl++[p]):=by
 intro j q hq
 rcases Nat.lt_or_ge j pl.length with h1|h1
 ·rw[List.getElem?_append_left h1] at hq
  obtain⟨b',hb⟩:=h j q hq
  exact⟨b',by rw[List.getElem?_set_ne (by omega)];exact hb⟩
 ·rcases Nat.lt_or_ge j (pl.length+1) with h2|h2
  ·have:j=pl.length:=by omega
   subst this
   simp at hq
   subst hq
   exact⟨b,by rw[List.getElem?_set_self hl]⟩
  ·rw[List.getElem?_eq_none (by simp;omega)] at hq;cases hq
theorem opn_bulk{nh a:Int}{o:Opn}(h:opnFits nh a o=true):o.v.bulk≤2304:=by
 have hz:noneV o.v=true→o.v.bulk≤2304:=fun h=>by rw[(sameV_iff _ _).1 h];decide
 unfold opnFits at h
 split at h
 ·simp only[Bool.and_eq_true] at h;exact hz h.2
 split at h
 ·simp only[Bool.and_eq_true] at h;exact hz h.2
 split at h
 ·simp only[Bool.and_eq_true] at h;exact may_bulk h.2
 ·cases h
theorem stp_fok{nh a:Int}{j:Stp}(h:stpFits nh a j=true)(h1:bulkS j.names<549755813888)(h2:j.s.length<549755813887):okStp j∧bulkL (j.l.map Opn.v)<68719476736:=by
 have hl:=fits_most h
 refine⟨⟨h1,h2,by omega,fun o ho=>by have:=opn_bulk (fits_all h o ho);unfold okO;omega⟩,?_⟩
 have:=bulkL_le (B:=2304) (l:=j.l.map Opn.v) (fun v hv=>by
  obtain⟨o,ho,rfl⟩:=List.mem_map.1 hv
  exact opn_bulk (fits_all h o ho))
 simp at this
 omega
def snapW(v:AVal)(n:Nat):Bool:=decide (0<n)&&!(v.tup)&&(match v with|.sl ..=>true|_=>false)
theorem hold_snapW{H:AHeap}{lo esz n k:Nat}{v:AVal}{cells cells':List AVal}(h:Hold H lo v esz n cells)(hc:mapO (snapV H k) cells=some cells'):snapV H (k+1) v=some (.fs (snapW v n) false n cells'):=by
 rw[hold_snap h hc]
 unfold snapW
 cases v<;>rfl
theorem hold_sl{H:AHeap}{lo esz n:Nat}{v:AVal}{cells:List AVal}{P:Nat→Prop}(h:Hold H lo v esz n cells)(hP:∀ id c,v=.sl id 0 n c→P id):Sl H P v esz n cells:=by
 rcases h with⟨h|h,rfl,rfl⟩|⟨id,c,h1,h2,h3,h4,h5,h6⟩
 ·exact .inl (.inl ⟨true,h⟩)
 ·exact .inl (.inr ⟨h,rfl,rfl⟩)
 ·exact .inr ⟨id,c,h1,h2,hP id c h1,h4,h5,h6⟩
theorem stepF_from{f:FS}{i t:Stp}(h:t∈(stepF f i).out):t∈f.out∨(t.names=i.names∧t.s=i.s):=by
 unfold stepF at h
 split at h
 ·exact .inl h
 ·rcases List.mem_append.1 h with h|h
  ·exact .inl h
  ·simp at h;subst h;exact .inr ⟨rfl,rfl⟩
theorem foldG_from:∀(l:List Stp) (f:FS) (t:Stp),t∈(foldG f l).out→t∈f.out∨∃ s∈l,t.names=s.names∧t.s=s.s
  | [],f,t,h=>.inl h
  | i::l,f,t,h=>by
    rcases foldG_from l _ t h with h1|⟨s,h1,h2⟩
    · rcases stepF_from h1 with h3|h3
      · exact .inl h3
      · exact .inr ⟨i,by simp,h3⟩
    · exact .inr ⟨s,by simp[h1],h2⟩
theorem get_of_mem{α:Type}{l:List α}{x:α}(h:x∈l):∃ n:Nat,l[n]?=some x:=by
 obtain⟨n,hn,rfl⟩:=List.getElem_of_mem h
 exact⟨n,List.getElem?_eq_getElem hn⟩
theorem foldP_ok{x:Pce}(hc:checkP x=true)(ho:okPce x):okPce (foldP x):=by
 have hg:=foldF_good hc
 have hcy:=checkP_iff.1 (foldP_check hc)
 have hn:=hcy.1
 unfold numsP at hn
 refine⟨fun t ht=>?_,by omega,by omega,fun o hm=>?_,?_⟩
 ·rw[foldP_ins] at ht
  obtain⟨n,hn⟩:=get_of_mem ht
  rcases foldG_from x.ins ⟨[],[]⟩ t ht with h|⟨s,h1,h2,h3⟩
  ·cases h
  ·have:=ho.1 s h1
   exact(stp_fok (hg.fits n t hn) (by rw[h2];exact this.1) (by rw[h3];exact this.2.1)).1
 ·have:=opn_bulk (List.all_eq_true.1 hcy.2.2.2 o hm)
  unfold okO;omega
 ·have hcd:=hcy.2.2.1
  unfold condP at hcd
  split at hcd
  ·have:=opn_bulk hcd;unfold okO;omega
  ·simp only[Bool.and_eq_true] at hcd
   have:=(sameV_iff _ _).1 hcd.2
   unfold okO;rw[this];decide
theorem pl_nil{PB:List OpB}:Pl PB []:=fun j p h=>by simp at h
end Go.RI
namespace Go.Proofs.YtbfajkcmehaliacGreatDoor
open Go Go.RI
def fcells(x:Pce)(lv:AVal)(t2 t3 t4:Bool):List AVal:=[.i .i64 x.func,.i .i64 x.at_,.i .i64 x.many,.i .i64 x.homes,lv,.fs t2 false x.sets.length (encs x.sets),.i .i64 x.exit,.i .i64 x.to,.i .i64 x.cond.kind,.i .i64 x.cond.n,.i .i64 x.cond.v.kind,.i .i64 x.cond.v.n,.s x.cond.v.s,.fs t3 false x.cond.v.l.length (encs x.cond.v.l),.fs t4 false x.cond.v.names.length (encs x.cond.v.names),.i .i64 x.deep]
theorem knownO_some{i:Stp}{v:Val}(h:knownF i=some v):knownO i=conO v:=by
 have ha:allC i.l=true:=by
  unfold knownF at h
  split at h
  ·assumption
  ·cases h
 unfold knownO
 rw[if_pos ha,h];rfl
theorem lt_of_getI{α:Type}{l:List α}{n:Nat}{x:α}(h:l[n]?=some x):n<l.length:=by
 rcases Nat.lt_or_ge n l.length with h1|h1
 ·exact h1
 ·rw[List.getElem?_eq_none h1] at h;cases h
def Ap(lo:Nat)(lv:AVal)(id:Nat):Prop:=lo≤id∧∀ j m c,lv=.sl j 0 m c→id≠j
structure FoldI (x:Pce) (t2 t3 t4:Bool) (f:FS) (lv:AVal) (cs:List AVal) (PB:List OpB) (H:AHeap):Prop where
 g0:H.get 2=some (.cells (fcells x lv t2 t3 t4) 1 false)
 g1:∃ z,z.length=16∧H.get 3=some (.cells z 1 false)
 g2:H.get 4=some (.cells (encs PB) 7 false)
 g3:H.get 5=some (.cells [.sl 4 0 x.ins.length (some x.ins.length)] 1 false)
 g4:H.get 6=some (.cells [.fn (.func 17) [] [.p 5 0]] 1 false)
 nx:7≤H.next
 pb:PB.length=x.ins.length
 ok:∀ b∈PB,okB b
 pl:Pl PB f.pl
 acc:Acc H 7 lv 5 f.out.length cs
 out:Out H (Ap 7 lv) cs f.out
section
variable {G:AHeap} (hG:G.next=2)
include hG
theorem fold_snaps{H:AHeap}{PB:List OpB}{n:Nat}(hn:PB.length=n)(ok:∀ b∈PB,okB b)(hx:4<H.next)(g2:H.get 4=some (.cells (encs PB) 7 false))(g3:H.get 5=some (.cells [.sl 4 0 n (some n)] 1 false))(g4:H.get 6=some (.cells [.fn (.func 17) [] [.p 5 0]] 1 false)) :
  ∃ tb,snapV H 16 (.p 6 0)=some (.fp [.fn (.func 17) [] [.fp [.fs tb false (PB.map OpB.o).length (encs (PB.map OpB.o))]]])∧snapV H 16 (.p 5 0)=some (.fp [.fs tb false (PB.map OpB.o).length (encs (PB.map OpB.o))])∧snapV H 14 (.p 5 0)=some (.fp [.fs tb false (PB.map OpB.o).length (encs (PB.map OpB.o))]):=by
 have hH:Hold H 4 (.sl 4 0 n (some n)) 7 n (encs PB):=.inr ⟨4,some n,rfl,.inr rfl,Nat.le_refl _,hx,g2,by rw[encs_len,sz_opB,hn]⟩
 have s1:=hold_snap (k:=12) hH (snap_B (k:=11) PB ok)
 have s2:=hold_snap (k:=14) hH (snap_B (k:=13) PB ok)
 simp at s1 s2
 refine⟨decide (0<n),?_,?_,?_⟩
 ·simp -implicitDefEqProofs [g4,g3,s1,hn]
 ·simp -implicitDefEqProofs [g3,s2,hn]
 ·simp -implicitDefEqProofs [g3,s1,hn]
def fenv(x:Pce)(t1:Bool)(i:Int):Env:=[(1,.p 2 0),(2,.p 3 0),(5,.p 5 0),(6,.p 6 0),(7,.fn (.func 19) [] [.p 6 0]),(8,.fs t1 false x.ins.length (encs x.ins)),(29,.i .i64 x.ins.length),(30,.i .i64 i)]
set_option maxHeartbeats 1000000 in
theorem t_fold_loop(cN:NeedsOk G)(x:Pce)(hx:okPce x)(hc:checkP x=true)(t1 t2 t3 t4:Bool)(Q:Post)(H:AHeap)(h0:∃ lv cs PB,FoldI x t2 t3 t4 ⟨[],[]⟩ lv cs PB H)
    (hQ:∀ w H' lv cs PB,FoldI x t2 t3 t4 (foldF x) lv cs PB H'→Q (.exit 0) [(1,.p 2 0),(2,.p 3 0),(5,.p 5 0),(6,.p 6 0),(7,.fn (.func 19) [] [.p 6 0]),(8,.fs t1 false x.ins.length (encs x.ins)),(29,.i .i64 x.ins.length),(30,.i .i64 x.ins.length),(31,w)] H') :
    wp (theCalls IP G 2) 2 (.loop L7a) Q (fenv x t1 0) H:=by
  have hfits:=check_fits hc
  have hins:x.ins.length≤4096:=by have:=(checkP_iff.1 hc).1;unfold numsP at this;omega
  refine wp_loop_list (l:=x.ins) (by omega) (fun i todo e H'=>e=fenv x t1 i∧∃ f lv cs PB,f=foldG ⟨[],[]⟩ (x.ins.take i)∧GoodF x.homes f i∧FoldI x t2 t3 t4 f lv cs PB H') ?_ ?_ ?_
  · rintro i s todo e H' hs hdr hlt hlt2 hlt3 ⟨rfl,f,lv,cs,PB,hf,hg,⟨g0,⟨z,hz,g1⟩,g2,g3,g4,nx,pb,ok,pl,acc,out⟩⟩
    have hfs:=hfits _ s hs
    have hok:=hx.1 s (List.mem_of_getElem? hs)
    have hsl:=fits_most hfs
    have n3:2≤H'.next:=by omega
    obtain⟨H1,hH1⟩:∃ H1,H1=(H'.push (.cells [.i .i64 0,.i .i64 0,.ns,.s [],.ns] 1 false)).put H'.next (some (.cells (Enc.cells s) 1 false)):=⟨_,rfl⟩
    have hk1:∀ id,id<H'.next→H1.get id=H'.get id:=fun id h=>by rw[hH1];simp -implicitDefEqProofs [show ¬ id=H'.next by omega]
    have q3:H1.get H'.next=some (.cells (Enc.cells s) 1 false):=by rw[hH1];simp
    have q4:H1.next=H'.next+1:=by rw[hH1];simp
    obtain⟨tb,s1,s2,_⟩:=fold_snaps hG pb ok (by omega) ((hk1 4 (by omega)).trans g2) ((hk1 5 (by omega)).trans g3) ((hk1 6 (by omega)).trans g4)
    have ht:s.l.map (turnO (PB.map OpB.o))=(turnS f.pl s).l:=pl_turns (nh:=x.homes) pl fun o ho=>by rw[hg.pl];exact fits_all hfs o ho
    have c1:=t_ofAll hG s.l (by omega) (PB.map OpB.o) (fun o ho hk=>by have:=opnFits_step (fits_all hfs o ho) hk;simp;omega) (fun o ho=>by
      have h1:turnO (PB.map OpB.o) o=turnO f.pl o:=pl_turn (nh:=x.homes) pl (by rw[hg.pl];exact fits_all hfs o ho)
      rw[h1]
      have:=opn_bulk (turnO_fits hg (fits_all hfs o ho))
      omega) false false tb
    rw[ht] at c1
    simp at hH1 q3 s1 c1
    clear hlt
    simp -implicitDefEqProofs [fenv,L7a,hlt2,hlt3,hs,n3,←hH1,q3,s1,c1]
    have hjf:=turnS_fits hg hfs
    obtain⟨hj1,hj2⟩:=stp_fok hjf hok.1 hok.2.1
    refine step_clone (lo':=H'.next+1) (by simp) (by omega) (by omega) (by have:=bulkS_len s.names;have:=hok.1;omega) (by omega) ?_
    intro nv H2 hn2 hN hnew hf2
    have hk2:∀ id,id<H'.next→H2.get id=H'.get id:=fun id h=>(hf2 id (by omega)).trans (hk1 id h)
    have r3:H2.get H'.next=some (.cells (Enc.cells s) 1 false):=(hf2 H'.next (by omega)).trans q3
    obtain⟨o1,o2⟩:=hold_one hN
    have sN:∀ o p,snapV ((H2.put H'.next o).put H'.next p) 15 nv=some (.fs (snapW nv s.names.length) false s.names.length (encs s.names)):=fun o p =>
      hold_snapW (k:=14) (hold_in hN (H':=(H2.put H'.next o).put H'.next p) (lo':=H'.next+1) (Nat.le_refl _) (by simp) fun id h1 h2=>by simp -implicitDefEqProofs [show ¬ id=H'.next by omega]) snap_encs
    have c2:=t_knownF hG cN (turnS f.pl s) hj1 (by simpa[turnS] using hsl) hj2 false (snapW nv s.names.length)
    have hlen:(turnS f.pl s).l.length=s.l.length:=by simp -implicitDefEqProofs [turnS]
    have e1:(turnS f.pl s).op=s.op:=rfl
    have e2:(turnS f.pl s).n=s.n:=rfl
    have e3:(turnS f.pl s).s=s.s:=rfl
    have e4:(turnS f.pl s).names=s.names:=rfl
    rw[hlen,e1,e2,e3,e4] at c2
    simp at r3 c2
    have n4:2≤H2.next:=by omega
    obtain⟨H3,hH3⟩:∃ H3,H3=((((H2.put H'.next (some (.cells [.i .i64 s.op,.i .i64 s.n,.fs false false s.l.length (encs (turnS f.pl s).l),.s s.s,.fs false false s.names.length (encs s.names)] 1 false))).put H'.next (some (.cells [.i .i64 s.op,.i .i64 s.n,.fs false false s.l.length (encs (turnS f.pl s).l),.s s.s,nv] 1 false))).push (.cells [.i .i64 0,.i .i64 0,.i .i64 0,.i .i64 0,.s [],.ns,.ns] 1 false)).put H2.next (some (.cells (Enc.cells (knownO (turnS f.pl s))) 1 false))):=⟨_,rfl⟩
    have hk3:∀ id,id<H'.next→H3.get id=H'.get id:=fun id h=>by rw[hH3];simp -implicitDefEqProofs [show ¬ id=H'.next by omega,show ¬ id=H2.next by omega];exact hk2 id h
    have v1:H3.get H'.next=some (.cells [.i .i64 s.op,.i .i64 s.n,.fs false false s.l.length (encs (turnS f.pl s).l),.s s.s,nv] 1 false):=by rw[hH3];simp -implicitDefEqProofs [show ¬ H'.next=H2.next by omega]
    have v2:H3.get H2.next=some (.cells (Enc.cells (knownO (turnS f.pl s))) 1 false):=by rw[hH3];simp
    have v3:H3.next=H2.next+1:=by rw[hH3];simp
    simp at hH3 v2
    simp -implicitDefEqProofs [hlt3,r3,o1,o2,sN,c2,n3,n4,←hH3]
    have hlE:(encs PB).length=x.ins.length*7:=by rw[encs_len,sz_opB,pb]
    have hlB:i*7+7≤(encs PB).length:=by have:=lt_of_getI hs;omega
    have hiB:i<PB.length:=by have:=lt_of_getI hs;omega
    have hip:f.pl.length=i:=hg.pl
    have w0:=(hk3 2 (by omega)).trans g0
    have w1:=(hk3 3 (by omega)).trans g1
    have w2:=(hk3 4 (by omega)).trans g2
    have w3:=(hk3 5 (by omega)).trans g3
    have w4:=(hk3 6 (by omega)).trans g4
    have hfn:foldG ⟨[],[]⟩ (x.ins.take (i+1))=stepF f s:=by rw[List.take_add_one,hs,foldG_app,←hf];rfl
    rw[hfn]
    have hgn:=stepF_good hg hfs
    have acc3:Acc H3 7 lv 5 f.out.length cs:=acc_keep acc (by omega) fun id a b hv=>hk3 id (acc_lt acc _ _ _ hv).2
    have out3:Out H3 (Ap 7 lv) cs f.out:=out_keep (by omega) (fun id h1 h2=>⟨hk3 id h2,h1⟩) _ _ out
    cases hkn:knownF (turnS f.pl s) with
    | some v =>
      have hko:knownO (turnS f.pl s)=conO v:=knownO_some hkn
      rw[hko] at v2
      have hp:putCells (encs PB) (i*7) (Enc.cells (⟨conO v,false⟩:OpB))=encs (PB.set i ⟨conO v,false⟩):=put_B ⟨conO v,false⟩ hiB
      simp at v2 hp
      simp -implicitDefEqProofs [hlt2,hlt3,hkn,w2,w3,v2,hlB,hp]
      refine⟨hgn,?_⟩
      have hst:stepF f s=⟨f.out,f.pl++[conO v]⟩:=by unfold stepF;rw[hkn]
      rw[hst]
      refine⟨lv,cs,PB.set i ⟨conO v,false⟩,?_⟩
      exact{ g0:=by simp -implicitDefEqProofs [w0],g1:=⟨z,hz,by simp -implicitDefEqProofs [w1]⟩,g2:=by simp,g3:=by simp -implicitDefEqProofs [w3],g4:=by simp -implicitDefEqProofs [w4],nx:=by simp;omega,pb:=by simp -implicitDefEqProofs [pb],ok:=okB_set ok (fun h=>by cases h),pl:=by rw[←hip];exact pl_add pl _ _ (by omega),acc:=acc_keep acc3 (by simp) fun id a b hv=>by have:=acc_lt acc3 _ _ _ hv;simp -implicitDefEqProofs [show ¬ id=4 by omega],out:=out_keep (by simp) (fun id h1 h2=>⟨by simp -implicitDefEqProofs [show ¬ id=4 by have:=h1.1;omega],h1⟩) _ _ out3 }
    | none =>
      have hp:putCells (encs PB) (i*7) (Enc.cells (⟨stO f.out.length,true⟩:OpB))=encs (PB.set i ⟨stO f.out.length,true⟩):=put_B _ hiB
      have n5:¬ H'.next=4:=by omega
      have n6:¬ 4=H'.next:=by omega
      have n7:¬ 2=4:=by omega
      have hB1:∀ y,(PB.set i y).length=x.ins.length:=fun y=>by simp -implicitDefEqProofs [pb]
      have hlB1:∀ y,i*7+7≤(encs (PB.set i y)).length:=fun y=>by rw[encs_len,sz_opB,hB1];omega
      simp -implicitDefEqProofs [stO,zeroVal] at hp
      by_cases h23:s.op=23
      · have hop:=h23
        obtain⟨o,hjl⟩:=one_len (fits_hands hjf (by rw[e1];omega))
        have hl0:0<s.l.length:=by rw[←hlen,hjl];simp
        have hne:¬ s.l=[]:=fun h=>by rw[h] at hl0;simp at hl0
        have hld:(encs (turnS f.pl s).l).take 7=Enc.cells o:=by rw[hjl];simp
        have hle:7≤(turnS f.pl s).l.length*7:=by rw[hjl];simp
        have hp2:putCells (encs (PB.set i ⟨⟨2,(f.out.length:Int),.mk 0 0 [] [] []⟩,true⟩)) (i*7) (Enc.cells (⟨o,false⟩:OpB))=encs ((PB.set i ⟨⟨2,(f.out.length:Int),.mk 0 0 [] [] []⟩,true⟩).set i ⟨o,false⟩):=put_B _ (by rw[hB1];omega)
        have hlB2:=hlB1 ⟨⟨2,(f.out.length:Int),.mk 0 0 [] [] []⟩,true⟩
        obtain⟨H4,hH4⟩:∃ H4,H4=(H3.put 4 (some (.cells (encs (PB.set i ⟨⟨2,(f.out.length:Int),.mk 0 0 [] [] []⟩,true⟩)) 7 false))).put 4 (some (.cells (encs (PB.set i ⟨o,false⟩)) 7 false)):=⟨_,rfl⟩
        have u1:H4.next=H3.next:=by rw[hH4];simp
        have u2:∀ id,id≠4→H4.get id=H3.get id:=fun id h=>by rw[hH4];simp -implicitDefEqProofs [h]
        have k2:H4.get 4=some (.cells (encs (PB.set i ⟨o,false⟩)) 7 false):=by rw[hH4];simp
        simp at hp2 hld
        simp -implicitDefEqProofs [hlt2,hlt3,hkn,w2,w3,w0,fcells,hold_len acc3.hold,hlB,hp,n5,v1,hop,hl0,hne,hld,hle,hp2,hlB2,←hH4]
        have k0:=(u2 2 (by omega)).trans w0
        have k1:=(u2 3 (by omega)).trans w1
        have k3:=(u2 5 (by omega)).trans w3
        have k4:=(u2 6 (by omega)).trans w4
        have v5:=(u2 H'.next (by omega)).trans v1
        have acc4:Acc H4 7 lv 5 f.out.length cs:=acc_keep acc3 (by omega) fun id a b hv=>u2 id (by have:=acc_lt acc3 _ _ _ hv;omega)
        have out4:Out H4 (Ap 7 lv) cs f.out:=out_keep (by omega) (fun id h1 h2=>⟨u2 id (by have:=h1.1;omega),h1⟩) _ _ out3
        simp -implicitDefEqProofs [hlt3,k0,v5,fcells]
        refine step_app (lo':=7) (acc_keep acc4 (by simp) ?_) (m:=1) (ys:=[.i .i64 s.op,.i .i64 s.n,.fs false false s.l.length (encs (turnS f.pl s).l),.s s.s,nv]) (by omega) (by simp;omega) (more_lit (cs:=[.i .i64 s.op,.i .i64 s.n,.fs false false s.l.length (encs (turnS f.pl s).l),.s s.s,nv]) (e:=5) (ro:=false) (by simp) (by simp) (by omega)) (by simp) (by omega) (by omega) (by have:=hg.le;omega) (by omega) ?_
        · intro id a b hv
          have:=acc_lt acc4 id a b hv
          simp -implicitDefEqProofs [show ¬ id=H4.next by omega]
        intro H5 hn5 acc5 hf5
        have hf6:∀ id,id<H4.next→(∀ id0 n0 c0,lv=.sl id0 0 n0 c0→id≠id0)→H5.get id=H4.get id:=fun id h1 h2=>by
          rw[hf5 id (by simp;omega) h2]
          simp -implicitDefEqProofs [show ¬ id=H4.next by omega]
        simp at hn5 acc5
        have ne0:∀ id,id<7→∀ id0 n0 c0,lv=.sl id0 0 n0 c0→id≠id0:=fun id h id0 n0 c0 hv=>by have:=acc_lt acc4 _ _ _ hv;omega
        have y0:=(hf6 2 (by omega) (ne0 _ (by omega))).trans k0
        have y1:=(hf6 3 (by omega) (ne0 _ (by omega))).trans k1
        have y2:=(hf6 4 (by omega) (ne0 _ (by omega))).trans k2
        have y3:=(hf6 5 (by omega) (ne0 _ (by omega))).trans k3
        have y4:=(hf6 6 (by omega) (ne0 _ (by omega))).trans k4
        simp only[fcells] at y0
        simp -implicitDefEqProofs [hlt3,y0]
        refine⟨hgn,?_⟩
        have hst:stepF f s=⟨f.out++[turnS f.pl s],f.pl++[o]⟩:=by unfold stepF placeF;rw[hkn];simp -implicitDefEqProofs [e1,hop,hjl]
        rw[hst]
        refine⟨.sl (H4.next+1) 0 (f.out.length+1) none,cs++[.i .i64 s.op,.i .i64 s.n,.fs false false s.l.length (encs (turnS f.pl s).l),.s s.s,nv],PB.set i ⟨o,false⟩,?_⟩
        have hfr:∀ o id,id≠2→(H5.put 2 o).get id=H5.get id:=fun o id h=>by simp -implicitDefEqProofs [h]
        have hN5:∀ o,Sl (H5.put 2 o) (Ap 7 (.sl (H4.next+1) 0 (f.out.length+1) none)) nv 1 s.names.length (encs s.names):=fun o=>by
          refine hold_sl (hold_in hN (H':=H5.put 2 o) (lo':=H'.next+1) (Nat.le_refl _) (by simp;omega) fun id h1 h2=>?_) fun id c hv=>⟨by have:=hold_lt hN _ _ _ hv;omega,fun j m c hj=>?_⟩
          · rw[hfr o id (by omega),hf6 id (by omega) (fun id0 n0 c0 hv=>by have:=acc_lt acc _ _ _ hv;omega),u2 id (by omega)]
            rw[hH3]
            simp -implicitDefEqProofs [show ¬ id=H'.next by omega,show ¬ id=H2.next by omega]
          · cases hj
            have:=hold_lt hN _ _ _ hv
            omega
        have hL5:∀ o,Sl (H5.put 2 o) (Ap 7 (.sl (H4.next+1) 0 (f.out.length+1) none)) (.fs false false s.l.length (encs (turnS f.pl s).l)) 7 (turnS f.pl s).l.length (encs (turnS f.pl s).l):=fun o=>by
          rw[hlen];exact .inl (.inl ⟨false,rfl⟩)
        have accN:Acc (H5.put 2 (some (.cells (fcells x (.sl (H4.next+1) 0 (f.out.length+1) none) t2 t3 t4) 1 false))) 7 (.sl (H4.next+1) 0 (f.out.length+1) none) 5 (f.out++[turnS f.pl s]).length (cs++[.i .i64 s.op,.i .i64 s.n,.fs false false s.l.length (encs (turnS f.pl s).l),.s s.s,nv]):=by
          have:=acc_keep (H':=H5.put 2 (some (.cells (fcells x (.sl (H4.next+1) 0 (f.out.length+1) none) t2 t3 t4) 1 false))) acc5 (Nat.le_refl _) fun id a b hv=>by cases hv;simp -implicitDefEqProofs [show ¬ H4.next+1=2 by omega]
          simpa using this
        exact{ g0:=by simp -implicitDefEqProofs [fcells],g1:=⟨z,hz,by simp -implicitDefEqProofs [y1]⟩,g2:=by simp -implicitDefEqProofs [y2],g3:=by simp -implicitDefEqProofs [y3],g4:=by simp -implicitDefEqProofs [y4],nx:=by simp;omega,pb:=by simp -implicitDefEqProofs [pb],ok:=okB_set ok (fun h=>by cases h),pl:=by have:=pl_add pl o false (by omega);rw[hip] at this;exact this,acc:=accN,out:=out_add (s:=turnS f.pl s) (hL5 _) (hN5 _) _ _ (out_keep (by simp;omega) (fun id h1 h2=>⟨by rw[hfr _ id (by have:=h1.1;omega)];exact hf6 id h2 h1.2,⟨h1.1,fun j m c hj=>by cases hj;omega⟩⟩) _ _ out4)}
      by_cases h40:s.op=40
      · have hop:=h40
        obtain⟨o,hjl⟩:=one_len (fits_hands hjf (by rw[e1];omega))
        have hl0:0<s.l.length:=by rw[←hlen,hjl];simp
        have hne:¬ s.l=[]:=fun h=>by rw[h] at hl0;simp at hl0
        have hld:(encs (turnS f.pl s).l).take 7=Enc.cells o:=by rw[hjl];simp
        have hle:7≤(turnS f.pl s).l.length*7:=by rw[hjl];simp
        have hp2:putCells (encs (PB.set i ⟨⟨2,(f.out.length:Int),.mk 0 0 [] [] []⟩,true⟩)) (i*7) (Enc.cells (⟨o,false⟩:OpB))=encs ((PB.set i ⟨⟨2,(f.out.length:Int),.mk 0 0 [] [] []⟩,true⟩).set i ⟨o,false⟩):=put_B _ (by rw[hB1];omega)
        have hlB2:=hlB1 ⟨⟨2,(f.out.length:Int),.mk 0 0 [] [] []⟩,true⟩
        obtain⟨H4,hH4⟩:∃ H4,H4=(H3.put 4 (some (.cells (encs (PB.set i ⟨⟨2,(f.out.length:Int),.mk 0 0 [] [] []⟩,true⟩)) 7 false))).put 4 (some (.cells (encs (PB.set i ⟨o,false⟩)) 7 false)):=⟨_,rfl⟩
        have u1:H4.next=H3.next:=by rw[hH4];simp
        have u2:∀ id,id≠4→H4.get id=H3.get id:=fun id h=>by rw[hH4];simp -implicitDefEqProofs [h]
        have k2:H4.get 4=some (.cells (encs (PB.set i ⟨o,false⟩)) 7 false):=by rw[hH4];simp
        simp at hp2 hld
        simp -implicitDefEqProofs [hlt2,hlt3,hkn,w2,w3,w0,fcells,hold_len acc3.hold,hlB,hp,n5,v1,hop,hl0,hne,hld,hle,hp2,hlB2,←hH4]
        have k0:=(u2 2 (by omega)).trans w0
        have k1:=(u2 3 (by omega)).trans w1
        have k3:=(u2 5 (by omega)).trans w3
        have k4:=(u2 6 (by omega)).trans w4
        have v5:=(u2 H'.next (by omega)).trans v1
        have acc4:Acc H4 7 lv 5 f.out.length cs:=acc_keep acc3 (by omega) fun id a b hv=>u2 id (by have:=acc_lt acc3 _ _ _ hv;omega)
        have out4:Out H4 (Ap 7 lv) cs f.out:=out_keep (by omega) (fun id h1 h2=>⟨u2 id (by have:=h1.1;omega),h1⟩) _ _ out3
        simp -implicitDefEqProofs [hlt3,k0,v5,fcells]
        refine step_app (lo':=7) (acc_keep acc4 (by simp) ?_) (m:=1) (ys:=[.i .i64 s.op,.i .i64 s.n,.fs false false s.l.length (encs (turnS f.pl s).l),.s s.s,nv]) (by omega) (by simp;omega) (more_lit (cs:=[.i .i64 s.op,.i .i64 s.n,.fs false false s.l.length (encs (turnS f.pl s).l),.s s.s,nv]) (e:=5) (ro:=false) (by simp) (by simp) (by omega)) (by simp) (by omega) (by omega) (by have:=hg.le;omega) (by omega) ?_
        · intro id a b hv
          have:=acc_lt acc4 id a b hv
          simp -implicitDefEqProofs [show ¬ id=H4.next by omega]
        intro H5 hn5 acc5 hf5
        have hf6:∀ id,id<H4.next→(∀ id0 n0 c0,lv=.sl id0 0 n0 c0→id≠id0)→H5.get id=H4.get id:=fun id h1 h2=>by
          rw[hf5 id (by simp;omega) h2]
          simp -implicitDefEqProofs [show ¬ id=H4.next by omega]
        simp at hn5 acc5
        have ne0:∀ id,id<7→∀ id0 n0 c0,lv=.sl id0 0 n0 c0→id≠id0:=fun id h id0 n0 c0 hv=>by have:=acc_lt acc4 _ _ _ hv;omega
        have y0:=(hf6 2 (by omega) (ne0 _ (by omega))).trans k0
        have y1:=(hf6 3 (by omega) (ne0 _ (by omega))).trans k1
        have y2:=(hf6 4 (by omega) (ne0 _ (by omega))).trans k2
        have y3:=(hf6 5 (by omega) (ne0 _ (by omega))).trans k3
        have y4:=(hf6 6 (by omega) (ne0 _ (by omega))).trans k4
        simp only[fcells] at y0
        simp -implicitDefEqProofs [hlt3,y0]
        refine⟨hgn,?_⟩
        have hst:stepF f s=⟨f.out++[turnS f.pl s],f.pl++[o]⟩:=by unfold stepF placeF;rw[hkn];simp -implicitDefEqProofs [e1,hop,hjl]
        rw[hst]
        refine⟨.sl (H4.next+1) 0 (f.out.length+1) none,cs++[.i .i64 s.op,.i .i64 s.n,.fs false false s.l.length (encs (turnS f.pl s).l),.s s.s,nv],PB.set i ⟨o,false⟩,?_⟩
        have hfr:∀ o id,id≠2→(H5.put 2 o).get id=H5.get id:=fun o id h=>by simp -implicitDefEqProofs [h]
        have hN5:∀ o,Sl (H5.put 2 o) (Ap 7 (.sl (H4.next+1) 0 (f.out.length+1) none)) nv 1 s.names.length (encs s.names):=fun o=>by
          refine hold_sl (hold_in hN (H':=H5.put 2 o) (lo':=H'.next+1) (Nat.le_refl _) (by simp;omega) fun id h1 h2=>?_) fun id c hv=>⟨by have:=hold_lt hN _ _ _ hv;omega,fun j m c hj=>?_⟩
          · rw[hfr o id (by omega),hf6 id (by omega) (fun id0 n0 c0 hv=>by have:=acc_lt acc _ _ _ hv;omega),u2 id (by omega)]
            rw[hH3]
            simp -implicitDefEqProofs [show ¬ id=H'.next by omega,show ¬ id=H2.next by omega]
          · cases hj
            have:=hold_lt hN _ _ _ hv
            omega
        have hL5:∀ o,Sl (H5.put 2 o) (Ap 7 (.sl (H4.next+1) 0 (f.out.length+1) none)) (.fs false false s.l.length (encs (turnS f.pl s).l)) 7 (turnS f.pl s).l.length (encs (turnS f.pl s).l):=fun o=>by
          rw[hlen];exact .inl (.inl ⟨false,rfl⟩)
        have accN:Acc (H5.put 2 (some (.cells (fcells x (.sl (H4.next+1) 0 (f.out.length+1) none) t2 t3 t4) 1 false))) 7 (.sl (H4.next+1) 0 (f.out.length+1) none) 5 (f.out++[turnS f.pl s]).length (cs++[.i .i64 s.op,.i .i64 s.n,.fs false false s.l.length (encs (turnS f.pl s).l),.s s.s,nv]):=by
          have:=acc_keep (H':=H5.put 2 (some (.cells (fcells x (.sl (H4.next+1) 0 (f.out.length+1) none) t2 t3 t4) 1 false))) acc5 (Nat.le_refl _) fun id a b hv=>by cases hv;simp -implicitDefEqProofs [show ¬ H4.next+1=2 by omega]
          simpa using this
        exact{ g0:=by simp -implicitDefEqProofs [fcells],g1:=⟨z,hz,by simp -implicitDefEqProofs [y1]⟩,g2:=by simp -implicitDefEqProofs [y2],g3:=by simp -implicitDefEqProofs [y3],g4:=by simp -implicitDefEqProofs [y4],nx:=by simp;omega,pb:=by simp -implicitDefEqProofs [pb],ok:=okB_set ok (fun h=>by cases h),pl:=by have:=pl_add pl o false (by omega);rw[hip] at this;exact this,acc:=accN,out:=out_add (s:=turnS f.pl s) (hL5 _) (hN5 _) _ _ (out_keep (by simp;omega) (fun id h1 h2=>⟨by rw[hfr _ id (by have:=h1.1;omega)];exact hf6 id h2 h1.2,⟨h1.1,fun j m c hj=>by cases hj;omega⟩⟩) _ _ out4)}
      · have d23:decide (s.op=23)=false:=decide_eq_false h23
        have d40:decide (s.op=40)=false:=decide_eq_false h40
        obtain⟨H4,hH4⟩:∃ H4,H4=H3.put 4 (some (.cells (encs (PB.set i ⟨⟨2,(f.out.length:Int),.mk 0 0 [] [] []⟩,true⟩)) 7 false)):=⟨_,rfl⟩
        have u1:H4.next=H3.next:=by rw[hH4];simp
        have u2:∀ id,id≠4→H4.get id=H3.get id:=fun id h=>by rw[hH4];simp -implicitDefEqProofs [h]
        have k2:H4.get 4=some (.cells (encs (PB.set i ⟨⟨2,(f.out.length:Int),.mk 0 0 [] [] []⟩,true⟩)) 7 false):=by rw[hH4];simp
        simp -implicitDefEqProofs [hlt2,hlt3,hkn,w2,w3,w0,fcells,hold_len acc3.hold,hlB,hp,n5,v1,d23,d40,←hH4]
        have k0:=(u2 2 (by omega)).trans w0
        have k1:=(u2 3 (by omega)).trans w1
        have k3:=(u2 5 (by omega)).trans w3
        have k4:=(u2 6 (by omega)).trans w4
        have v5:=(u2 H'.next (by omega)).trans v1
        have acc4:Acc H4 7 lv 5 f.out.length cs:=acc_keep acc3 (by omega) fun id a b hv=>u2 id (by have:=acc_lt acc3 _ _ _ hv;omega)
        have out4:Out H4 (Ap 7 lv) cs f.out:=out_keep (by omega) (fun id h1 h2=>⟨u2 id (by have:=h1.1;omega),h1⟩) _ _ out3
        simp -implicitDefEqProofs [hlt3,k0,v5,fcells,d23,d40]
        refine step_app (lo':=7) (acc_keep acc4 (by simp) ?_) (m:=1) (ys:=[.i .i64 s.op,.i .i64 s.n,.fs false false s.l.length (encs (turnS f.pl s).l),.s s.s,nv]) (by omega) (by simp;omega) (more_lit (cs:=[.i .i64 s.op,.i .i64 s.n,.fs false false s.l.length (encs (turnS f.pl s).l),.s s.s,nv]) (e:=5) (ro:=false) (by simp) (by simp) (by omega)) (by simp) (by omega) (by omega) (by have:=hg.le;omega) (by omega) ?_
        · intro id a b hv
          have:=acc_lt acc4 id a b hv
          simp -implicitDefEqProofs [show ¬ id=H4.next by omega]
        intro H5 hn5 acc5 hf5
        have hf6:∀ id,id<H4.next→(∀ id0 n0 c0,lv=.sl id0 0 n0 c0→id≠id0)→H5.get id=H4.get id:=fun id h1 h2=>by
          rw[hf5 id (by simp;omega) h2]
          simp -implicitDefEqProofs [show ¬ id=H4.next by omega]
        simp at hn5 acc5
        have ne0:∀ id,id<7→∀ id0 n0 c0,lv=.sl id0 0 n0 c0→id≠id0:=fun id h id0 n0 c0 hv=>by have:=acc_lt acc4 _ _ _ hv;omega
        have y0:=(hf6 2 (by omega) (ne0 _ (by omega))).trans k0
        have y1:=(hf6 3 (by omega) (ne0 _ (by omega))).trans k1
        have y2:=(hf6 4 (by omega) (ne0 _ (by omega))).trans k2
        have y3:=(hf6 5 (by omega) (ne0 _ (by omega))).trans k3
        have y4:=(hf6 6 (by omega) (ne0 _ (by omega))).trans k4
        simp only[fcells] at y0
        simp -implicitDefEqProofs [hlt3,y0]
        refine⟨hgn,?_⟩
        have hst:stepF f s=⟨f.out++[turnS f.pl s],f.pl++[stO f.out.length]⟩:=by unfold stepF placeF;rw[hkn];simp -implicitDefEqProofs [e1,h23,h40]
        rw[hst]
        refine⟨.sl (H4.next+1) 0 (f.out.length+1) none,cs++[.i .i64 s.op,.i .i64 s.n,.fs false false s.l.length (encs (turnS f.pl s).l),.s s.s,nv],PB.set i ⟨⟨2,(f.out.length:Int),.mk 0 0 [] [] []⟩,true⟩,?_⟩
        have hfr:∀ o id,id≠2→(H5.put 2 o).get id=H5.get id:=fun o id h=>by simp -implicitDefEqProofs [h]
        have hN5:∀ o,Sl (H5.put 2 o) (Ap 7 (.sl (H4.next+1) 0 (f.out.length+1) none)) nv 1 s.names.length (encs s.names):=fun o=>by
          refine hold_sl (hold_in hN (H':=H5.put 2 o) (lo':=H'.next+1) (Nat.le_refl _) (by simp;omega) fun id h1 h2=>?_) fun id c hv=>⟨by have:=hold_lt hN _ _ _ hv;omega,fun j m c hj=>?_⟩
          · rw[hfr o id (by omega),hf6 id (by omega) (fun id0 n0 c0 hv=>by have:=acc_lt acc _ _ _ hv;omega),u2 id (by omega)]
            rw[hH3]
            simp -implicitDefEqProofs [show ¬ id=H'.next by omega,show ¬ id=H2.next by omega]
          · cases hj
            have:=hold_lt hN _ _ _ hv
            omega
        have hL5:∀ o,Sl (H5.put 2 o) (Ap 7 (.sl (H4.next+1) 0 (f.out.length+1) none)) (.fs false false s.l.length (encs (turnS f.pl s).l)) 7 (turnS f.pl s).l.length (encs (turnS f.pl s).l):=fun o=>by
          rw[hlen];exact .inl (.inl ⟨false,rfl⟩)
        have accN:Acc (H5.put 2 (some (.cells (fcells x (.sl (H4.next+1) 0 (f.out.length+1) none) t2 t3 t4) 1 false))) 7 (.sl (H4.next+1) 0 (f.out.length+1) none) 5 (f.out++[turnS f.pl s]).length (cs++[.i .i64 s.op,.i .i64 s.n,.fs false false s.l.length (encs (turnS f.pl s).l),.s s.s,nv]):=by
          have:=acc_keep (H':=H5.put 2 (some (.cells (fcells x (.sl (H4.next+1) 0 (f.out.length+1) none) t2 t3 t4) 1 false))) acc5 (Nat.le_refl _) fun id a b hv=>by cases hv;simp -implicitDefEqProofs [show ¬ H4.next+1=2 by omega]
          simpa using this
        exact{ g0:=by simp -implicitDefEqProofs [fcells],g1:=⟨z,hz,by simp -implicitDefEqProofs [y1]⟩,g2:=by simp -implicitDefEqProofs [y2],g3:=by simp -implicitDefEqProofs [y3],g4:=by simp -implicitDefEqProofs [y4],nx:=by simp;omega,pb:=by simp -implicitDefEqProofs [pb],ok:=okB_set ok (fun _=>⟨rfl,rfl⟩),pl:=by have:=pl_add pl (stO f.out.length) true (by omega);rw[hip] at this;exact this,acc:=accN,out:=out_add (s:=turnS f.pl s) (hL5 _) (hN5 _) _ _ (out_keep (by simp;omega) (fun id h1 h2=>⟨by rw[hfr _ id (by have:=h1.1;omega)];exact hf6 id h2 h1.2,⟨h1.1,fun j m c hj=>by cases hj;omega⟩⟩) _ _ out4)}
  · rintro e H' ⟨rfl,f,lv,cs,PB,hf,hg,hI⟩
    rw[List.take_length] at hf
    subst hf
    simp -implicitDefEqProofs [fenv,L7a]
    exact hQ _ H' lv cs PB hI
  · obtain⟨lv,cs,PB,hI⟩:=h0
    exact⟨rfl,⟨[],[]⟩,lv,cs,PB,rfl,fs0_good,hI⟩
end
end Go.Proofs.YtbfajkcmehaliacGreatDoor
namespace Go.Proofs.YtbfajkcmehaliacGreatDoor
open Go Go.RI
section
variable {G:AHeap} (hG:G.next=2)
include hG
theorem t_doNot(v:Val)(hv:v.bulk<1099511627776):pureR IP G 83 [.ag (Enc.cells v)]=some (.b (!mayV v)):=by
 have c1:=t_mayBe hG v hv false false
 refine pure_run ip83 rfl ?_
 simp -implicitDefEqProofs [I83,hG,c1]
theorem t_doAny(l:List Val)(hl:bulkL l<1099511627776)(t f:Bool):pureR IP G 27 [.fs t f l.length (encs l),.fn (.func 83) [] []]=some (.b (!l.all mayV)):=by
 have c1:=t_anyV hG 83 (fun v=>!mayV v) (fun lo l H=>pu83) l (by have:=bulkL_len l;omega) (fun v hv=>t_doNot hG v (by have:=bulkL_mem hv;omega)) t f
 have e:(l.any fun v=>!mayV v)=!(l.all mayV):=by simp -implicitDefEqProofs [List.not_all_eq_any_not]
 rw[e] at c1
 exact c1
theorem t_doOf(o:Opn)(homes made:List Val)(h1:o.kind=1→0≤o.n∧o.n<homes.length)(h2:o.kind=2→0≤o.n∧o.n<made.length)(ta tb:Bool) :
  pureR IP G 84 [.ag [.i .i64 o.kind,.i .i64 o.n,.i .i64 o.v.kind,.i .i64 o.v.n,.s o.v.s,.fs false false o.v.l.length (encs o.v.l),.fs false false o.v.names.length (encs o.v.names)],.fp [.fs ta false homes.length (encs homes)],.fp [.fs tb false made.length (encs made)]]=some (.ag (Enc.cells (ofO homes made o))):=by
 by_cases k1:o.kind=1
 ·obtain⟨a1,a2⟩:=h1 k1
  obtain⟨x,hx⟩:=get_of_lt (l:=homes) (i:=o.n.toNat) (by omega)
  have hx2:homes[o.n.toNat]'(by omega)=x:=by rw[List.getElem?_eq_getElem (by omega)] at hx;exact Option.some.inj hx
  have e:ofO homes made o=x:=by simp -implicitDefEqProofs [ofO,k1,hx]
  have hd:=drop_encs homes o.n.toNat
  rw[hx,show Enc.sz Val=5 from rfl] at hd
  rw[e]
  clear e h1 h2
  simp at hd
  refine pure_run ip84 rfl ?_
  simp -implicitDefEqProofs [I84,hG,k1,a1,a2,hd,hx2]
 by_cases k2:o.kind=2
 ·obtain⟨a1,a2⟩:=h2 k2
  obtain⟨x,hx⟩:=get_of_lt (l:=made) (i:=o.n.toNat) (by omega)
  have hx2:made[o.n.toNat]'(by omega)=x:=by rw[List.getElem?_eq_getElem (by omega)] at hx;exact Option.some.inj hx
  have e:ofO homes made o=x:=by simp -implicitDefEqProofs [ofO,k2,hx]
  have hd:=drop_encs made o.n.toNat
  rw[hx,show Enc.sz Val=5 from rfl] at hd
  rw[e]
  clear e h1 h2
  simp at hd
  refine pure_run ip84 rfl ?_
  simp -implicitDefEqProofs [I84,hG,k2,a1,a2,hd,hx2]
 ·have e:ofO homes made o=o.v:=by simp -implicitDefEqProofs [ofO,k1,k2]
  rw[e]
  refine pure_run ip84 rfl ?_
  simp -implicitDefEqProofs [I84,hG,k1,k2]
theorem do_snaps{H:AHeap}{homes made:List Val}{th:Bool}{sv:AVal}(g1:H.get 3=some (.cells [.fs th false homes.length (encs homes)] 1 false))(g2:H.get 4=some (.cells [sv] 1 false))(hA:Acc H 5 sv 5 made.length (encs made)) :
  ∃ tb,(snapV H 16 (.p 3 0)=some (.fp [.fs th false homes.length (encs homes)]))∧snapV H 16 (.p 4 0)=some (.fp [.fs tb false made.length (encs made)]):=by
 have s:=acc_snap (k:=14) hA snap_encs
 refine⟨decide (0<made.length),?_,?_⟩
 ·simp -implicitDefEqProofs [g1]
 ·simp -implicitDefEqProofs [g2,s]
theorem t_do_l(s:Stp)(homes made:List Val)(hlen:s.l.length<1000000)(ho:∀ o∈s.l,(o.kind=1→0≤o.n∧o.n<homes.length)∧(o.kind=2→0≤o.n∧o.n<made.length))(t1 th:Bool)(xn i m:Nat)(ins:AVal)(sv:AVal)(d:Nat)(Q:Post)(H:AHeap)
  (hd:5≤d) (hn:d≤H.next) (g1:H.get 3=some (.cells [.fs th false homes.length (encs homes)] 1 false)) (g2:H.get 4=some (.cells [sv] 1 false)) (hA:Acc H 5 sv 5 made.length (encs made)) (hsv:∀ id n c,sv=.sl id 0 n c→id<d)
  (hQ:∀ lv w H',H.next≤H'.next→(∀ id,id<d→H'.get id=H.get id)→Acc H' d lv 5 s.l.length (encs (s.l.map (ofO homes made)))→Q (.exit 2) [(2,.p 2 0),(4,.ns),(7,.p 4 0),(8,.fn (.func 84) [] [.p 3 0,.p 4 0]),(10,.p xn 0),(11,lv),(35,ins),(36,.i .i64 m),(37,.i .i64 i),(42,.fs t1 false s.l.length (encs s.l)),(43,.i .i64 s.l.length),(44,.i .i64 s.l.length),(45,w)] H') :
  wp (theCalls IP G 2) 2 (.loop L39a) Q [(2,.p 2 0),(4,.ns),(7,.p 4 0),(8,.fn (.func 84) [] [.p 3 0,.p 4 0]),(10,.p xn 0),(11,.ns),(35,ins),(36,.i .i64 m),(37,.i .i64 i),(42,.fs t1 false s.l.length (encs s.l)),(43,.i .i64 s.l.length),(44,.i .i64 0)] H:=by
 refine wp_loop_list (l:=s.l) (by omega) (fun k todo e H'=>∃ lv,e=[(2,.p 2 0),(4,.ns),(7,.p 4 0),(8,.fn (.func 84) [] [.p 3 0,.p 4 0]),(10,.p xn 0),(11,lv),(35,ins),(36,.i .i64 m),(37,.i .i64 i),(42,.fs t1 false s.l.length (encs s.l)),(43,.i .i64 s.l.length),(44,.i .i64 k)]∧H.next≤H'.next∧(∀ id,id<d→H'.get id=H.get id)∧Acc H' d lv 5 k (encs ((s.l.take k).map (ofO homes made)))) ?_ ?_ ?_
 ·rintro k o todo e H' hx hdr hlt hlt2 hlt3 ⟨lv,rfl,hn1,hf,hL⟩
  obtain⟨b1,b2⟩:=ho o (List.mem_of_getElem? hx)
  have k1:=(hf 3 (by omega)).trans g1
  have k2:=(hf 4 (by omega)).trans g2
  have hA1:Acc H' 5 sv 5 made.length (encs made):=acc_keep hA hn1 fun id n c hv=>hf id (hsv id n c hv)
  have n1:¬ 3=H'.next:=by omega
  have n2:¬ 4=H'.next:=by omega
  have n3:2≤H'.next:=by omega
  obtain⟨H1,hH1⟩:∃ H1,H1=(H'.push (.cells [.i .i64 0,.i .i64 0,.i .i64 0,.i .i64 0,.s [],.ns,.ns] 1 false)).put H'.next (some (.cells (Enc.cells o) 1 false)):=⟨_,rfl⟩
  have hk1:∀ id,id<H'.next→H1.get id=H'.get id:=fun id h=>by rw[hH1];simp -implicitDefEqProofs [show ¬ id=H'.next by omega]
  have q1:=(hk1 3 (by omega)).trans k1
  have q2:=(hk1 4 (by omega)).trans k2
  have q3:H1.get H'.next=some (.cells (Enc.cells o) 1 false):=by rw[hH1];simp
  have q4:H1.next=H'.next+1:=by rw[hH1];simp
  obtain⟨tb,s1,s2⟩:=do_snaps hG q1 q2 (acc_keep hA1 (by omega) fun id n c hv=>hk1 id (by have:=hsv id n c hv;omega))
  have c1:=t_doOf hG o homes made b1 b2 th tb
  simp at hH1 q3 s1 s2 c1
  clear hlt
  simp -implicitDefEqProofs [L39a,hlt2,hlt3,hx,n3,←hH1,q3,s1,s2,c1,q4]
  refine step_app (lo':=d) (acc_keep hL (by simp -implicitDefEqProofs [q4];omega) ?_) (m:=1) (ys:=Enc.cells (ofO homes made o)) (by omega) (by simp -implicitDefEqProofs [q4];omega) (more_lit (cs:=Enc.cells (ofO homes made o)) (e:=5) (ro:=false) (by simp -implicitDefEqProofs [q4]) (by simp) (by omega)) (by simp) (by omega) (by omega) (by omega) (by omega) ?_
  ·intro id a b hv
   have:=acc_lt hL id a b hv
   rw[get_push_lt (by omega)]
   exact hk1 id this.2
  intro H2 hn2 hL2 hf2
  simp -implicitDefEqProofs [q4] at hn2 hL2 hf2
  simp -implicitDefEqProofs [hlt3]
  refine⟨by omega,fun id hid=>?_,by simpa[List.take_add_one,hx,q4] using hL2⟩
  rw[hf2 id (by omega) fun id0 n0 c0 hv=>by have:=(acc_lt hL _ _ _ hv).1;omega]
  simp -implicitDefEqProofs [show ¬ id=H'.next+1 by omega,hk1 id (by omega),hf id hid]
 ·rintro e H' ⟨lv,rfl,hn1,hf,hL⟩
  rw[List.take_length] at hL
  simp -implicitDefEqProofs [L39a]
  exact hQ lv _ H' hn1 hf hL
 ·exact⟨.ns,by simp,Nat.le_refl _,fun _ _=>rfl,acc_none⟩
end
end Go.Proofs.YtbfajkcmehaliacGreatDoor
namespace Go.Proofs.YtbfajkcmehaliacGreatDoor
open Go Go.RI
section
variable {G:AHeap} (hG:G.next=2)
include hG
theorem t_do_steps(cN:NeedsOk G)(x:Pce)(hc:checkP x=true)(hx:okPce x)(homes:List Val)(hh:(homes.length:Int)=x.homes)(hm:homes.all mayV=true)(t1 t2 th:Bool)(Q:Post)(H:AHeap)
    (g0:H.get 2=some (.cells (pceC x t1 t2 false false) 1 false)) (g1:H.get 3=some (.cells [.fs th false homes.length (encs homes)] 1 false)) (g2:H.get 4=some (.cells [.ns] 1 false)) (hn:5≤H.next)
    (hQ1:∀ made,stepsV homes x.ins []=some made→made.length=x.ins.length→(∀ v∈made,v.bulk≤2304)→∀ sv w H',5≤H'.next→H'.get 2=some (.cells (pceC x t1 t2 false false) 1 false)→H'.get 3=some (.cells [.fs th false homes.length (encs homes)] 1 false)→H'.get 4=some (.cells [sv] 1 false)→Acc H' 5 sv 5 made.length (encs made) →
      Q (.exit 0) [(2,.p 2 0),(4,.ns),(7,.p 4 0),(8,.fn (.func 84) [] [.p 3 0,.p 4 0]),(35,.fs t1 false x.ins.length (encs x.ins)),(36,.i .i64 x.ins.length),(37,.i .i64 x.ins.length),(38,w)] H')
    (hQ2:stepsV homes x.ins []=none→∀ H',Q .ret [(4,.ns),(5,.i .i64 0),(6,.b false)] H') :
    wp (theCalls IP G 2) 2 (.loop L39b) Q [(2,.p 2 0),(4,.ns),(7,.p 4 0),(8,.fn (.func 84) [] [.p 3 0,.p 4 0]),(35,.fs t1 false x.ins.length (encs x.ins)),(36,.i .i64 x.ins.length),(37,.i .i64 0)] H:=by
  have hfits:=check_fits hc
  have hins:x.ins.length≤4096:=by have:=(checkP_iff.1 hc).1;unfold numsP at this;omega
  have hhb:∀ v∈homes,v.bulk≤2304:=fun v hv=>all_bulk hm hv
  refine wp_loop_list (l:=x.ins) (by omega) (fun i todo e H'=>∃ made sv,e=[(2,.p 2 0),(4,.ns),(7,.p 4 0),(8,.fn (.func 84) [] [.p 3 0,.p 4 0]),(35,.fs t1 false x.ins.length (encs x.ins)),(36,.i .i64 x.ins.length),(37,.i .i64 i)] ∧
    5≤H'.next∧H'.get 2=some (.cells (pceC x t1 t2 false false) 1 false)∧H'.get 3=some (.cells [.fs th false homes.length (encs homes)] 1 false)∧H'.get 4=some (.cells [sv] 1 false)∧Acc H' 5 sv 5 made.length (encs made)∧made.length=i∧(∀ v∈made,v.bulk≤2304)∧stepsV homes x.ins []=stepsV homes todo made) ?_ ?_ ?_
  · rintro i s todo e H' hs hdr hlt hlt2 hlt3 ⟨made,sv,rfl,n1,k0,k1,k2,hA,hml,hmb,he⟩
    subst hml
    have hfs:=hfits _ s hs
    have hok:=hx.1 s (List.mem_of_getElem? hs)
    have hsl:=fits_most hfs
    have hof:=fits_all hfs
    have hops:∀ o∈s.l,(o.kind=1→0≤o.n∧o.n<homes.length)∧(o.kind=2→0≤o.n∧o.n<made.length):=fun o ho=>⟨fun h=>by have:=opnFits_home (hof o ho) h;omega,fun h=>by have:=opnFits_step (hof o ho) h;omega⟩
    have hlb:bulkL (s.l.map (ofO homes made))≤s.l.length*2304:=by
      have:=bulkL_le (B:=2304) (l:=s.l.map (ofO homes made)) (fun v hv=>by
        obtain⟨o,ho,rfl⟩:=List.mem_map.1 hv
        exact of_bulk (hof o ho) hhb hmb)
      simpa using this
    have hlb2:bulkL (s.l.map (ofO homes made))<68719476736:=by omega
    obtain⟨H1,hH1⟩:∃ H1,H1=(H'.push (.cells [.i .i64 0,.i .i64 0,.ns,.s [],.ns] 1 false)).put H'.next (some (.cells (Enc.cells s) 1 false)):=⟨_,rfl⟩
    have hk1:∀ id,id<H'.next→H1.get id=H'.get id:=fun id h=>by rw[hH1];simp -implicitDefEqProofs [show ¬ id=H'.next by omega]
    have q0:=(hk1 2 (by omega)).trans k0
    have q1:=(hk1 3 (by omega)).trans k1
    have q2:=(hk1 4 (by omega)).trans k2
    have q3:H1.get H'.next=some (.cells (Enc.cells s) 1 false):=by rw[hH1];simp
    have q4:H1.next=H'.next+1:=by rw[hH1];simp
    have hA1:Acc H1 5 sv 5 made.length (encs made):=acc_keep hA (by omega) fun id n c hv=>hk1 id (acc_lt hA _ _ _ hv).2
    have n3:2≤H'.next:=by omega
    have hlt4:=hlt
    clear hlt
    simp at hH1 q3
    simp -implicitDefEqProofs [L39b,hlt2,hlt3,hs,n3,←hH1,q3]
    refine t_do_l hG s homes made (by omega) hops false th H'.next made.length x.ins.length _ sv (H'.next+1) _ H1 (by omega) (by omega) q1 q2 hA1 (fun id n c hv=>by have:=(acc_lt hA _ _ _ hv).2;omega) ?_
    intro lv w H2 hn2 hf2 hL
    have c4:=t_liftStep hG cN s hok (s.l.map (ofO homes made)) hlb2 (decide (0<s.l.length)) false false false
    have sl:=acc_snap (k:=15) hL snap_encs
    have r3:=(hf2 H'.next (by omega)).trans q3
    simp only[List.length_map] at c4
    rw[stepsV] at he
    obtain⟨v,hv⟩:∃ v,v=stepV s (s.l.map (ofO homes made)):=⟨_,rfl⟩
    rw[←hv] at c4 he
    have n4:2≤H2.next:=by omega
    simp at sl c4 r3
    cases v with
    | none =>
      simp at c4
      simp -implicitDefEqProofs [hlt3,r3,sl,c4,n4]
      exact hQ2 he _
    | some v =>
      have hvb:=step_ok hv.symm
      simp at c4
      obtain⟨H3,hH3⟩:∃ H3,H3=(H2.push (.cells [.i .i64 0,.i .i64 0,.s [],.ns,.ns] 1 false)).put H2.next (some (.cells (Enc.cells v) 1 false)):=⟨_,rfl⟩
      have hk3:∀ id,id<H2.next→H3.get id=H2.get id:=fun id h=>by rw[hH3];simp -implicitDefEqProofs [show ¬ id=H2.next by omega]
      have u2:=((hk3 4 (by omega)).trans (hf2 4 (by omega))).trans q2
      have u3:H3.get H2.next=some (.cells (Enc.cells v) 1 false):=by rw[hH3];simp
      have u4:H3.next=H2.next+1:=by rw[hH3];simp
      have hA3:Acc H3 5 sv 5 made.length (encs made):=acc_keep hA1 (by omega) fun id n c hv=>by
        have:=(acc_lt hA _ _ _ hv).2
        exact(hk3 id (by omega)).trans (hf2 id (by omega))
      simp at hH3 u3
      simp -implicitDefEqProofs [hlt3,r3,sl,c4,n4,←hH3,u2,u3,u4,hold_len hA3.hold]
      refine step_app (lo':=5) (acc_keep hA3 (by simp) ?_) (m:=1) (ys:=[.i .i64 0,.i .i64 0,.s [],.ns,.ns]) (by omega) (by simp -implicitDefEqProofs [u4];omega) (more_lit (cs:=[.i .i64 0,.i .i64 0,.s [],.ns,.ns]) (e:=5) (ro:=false) (by simp -implicitDefEqProofs [u4]) (by simp) (by omega)) (by simp) (by omega) (by omega) (by omega) (by omega) ?_
      · intro id a b hw
        have:=acc_lt hA3 id a b hw
        exact get_push_lt this.2
      intro H4 hn4 hA4 hf4
      have r4:=acc_row hA4
      have hn5:H4.next=H2.next+3:=by rw[hn4];simp -implicitDefEqProofs [u4]
      have hid:(H3.push (.cells [.i .i64 0,.i .i64 0,.s [],.ns,.ns] 5 false)).next=H2.next+2:=by simp -implicitDefEqProofs [u4]
      rw[hid] at hA4 r4
      have hk4:∀ id,id<5→H4.get id=H3.get id:=fun id h=>by
        rw[hf4 id (by rw[hid];omega) fun id0 n0 c0 hw=>by have:=(acc_lt hA3 _ _ _ hw).1;omega]
        exact get_push_lt (by omega)
      have v0:=(((hk4 2 (by omega)).trans (hk3 2 (by omega))).trans (hf2 2 (by omega))).trans q0
      have v1:=(((hk4 3 (by omega)).trans (hk3 3 (by omega))).trans (hf2 3 (by omega))).trans q1
      have v2:=(hk4 4 (by omega)).trans u2
      have pc:=put_last made v
      have m1:(made.length:Int)<(made.length:Int)+1:=by omega
      have m2:made.length*5+5≤(made.length+1)*5:=by omega
      have m3:2≤H2.next+2:=by omega
      have m4:¬ H2.next+2=4:=by omega
      have m5:¬ 4=H2.next+2:=by omega
      have m6:¬ 3=H2.next+2:=by omega
      have m7:¬ 2=H2.next+2:=by omega
      simp at pc
      have hid2:H3.next+1=H2.next+2:=by omega
      simp -implicitDefEqProofs [hid2,r4,v0,v1,v2,hlt3,pc,m1,m2,m3,m4,m5,m6,m7]
      refine⟨by omega,by omega,made++[v],.inr ⟨H2.next+2,by simp,by omega,by simp;omega,by simp -implicitDefEqProofs [m4,m5],by simp;omega⟩,by simp,fun w hw=>?_,by simpa using he⟩
      rcases List.mem_append.1 hw with h|h
      · exact hmb w h
      · simp at h;subst h;exact hvb
  · rintro e H' ⟨made,sv,rfl,n1,k0,k1,k2,hA,hml,hmb,he⟩
    simp -implicitDefEqProofs [L39b]
    exact hQ1 made he hml hmb sv _ H' n1 k0 k1 k2 hA
  · exact⟨[],.ns,by simp,hn,g0,g1,g2,acc_none,rfl,fun v hv=>(by cases hv),rfl⟩
theorem t_do_sets(x:Pce)(hc:checkP x=true)(homes made:List Val)(hh:(homes.length:Int)=x.homes)(hml:made.length=x.ins.length)(hhb:∀ v∈homes,v.bulk≤2304)(hmb:∀ v∈made,v.bulk≤2304)(t2 th:Bool)(to:Int)(sv:AVal)(d:Nat)(Q:Post)(H:AHeap)
  (hd:5≤d) (hn:d≤H.next) (g1:H.get 3=some (.cells [.fs th false homes.length (encs homes)] 1 false)) (g2:H.get 4=some (.cells [sv] 1 false)) (hA:Acc H 5 sv 5 made.length (encs made)) (hsv:∀ id n c,sv=.sl id 0 n c→id<d)
  (hQ:∀ lv w H',Acc H' d lv 5 x.sets.length (encs (x.sets.map (ofO homes made)))→Q (.exit 4) [(4,lv),(5,.i .i64 to),(8,.fn (.func 84) [] [.p 3 0,.p 4 0]),(91,.fs t2 false x.sets.length (encs x.sets)),(92,.i .i64 x.sets.length),(93,.i .i64 x.sets.length),(94,w)] H') :
  wp (theCalls IP G 2) 2 (.loop L39c) Q [(4,.ns),(5,.i .i64 to),(8,.fn (.func 84) [] [.p 3 0,.p 4 0]),(91,.fs t2 false x.sets.length (encs x.sets)),(92,.i .i64 x.sets.length),(93,.i .i64 0)] H:=by
 have hcp:=checkP_iff.1 hc
 have hset:x.sets.length≤64:=by have:=hcp.1;unfold numsP at this;omega
 have hof:=List.all_eq_true.1 hcp.2.2.2
 refine wp_loop_list (l:=x.sets) (by omega) (fun k todo e H'=>∃ lv,e=[(4,lv),(5,.i .i64 to),(8,.fn (.func 84) [] [.p 3 0,.p 4 0]),(91,.fs t2 false x.sets.length (encs x.sets)),(92,.i .i64 x.sets.length),(93,.i .i64 k)]∧H.next≤H'.next∧(∀ id,id<d→H'.get id=H.get id)∧Acc H' d lv 5 k (encs ((x.sets.take k).map (ofO homes made)))) ?_ ?_ ?_
 ·rintro k o todo e H' hx hdr hlt hlt2 hlt3 ⟨lv,rfl,hn1,hf,hL⟩
  have hoo:=hof o (List.mem_of_getElem? hx)
  have b1:o.kind=1→0≤o.n∧o.n<homes.length:=fun h=>by have:=opnFits_home hoo h;omega
  have b2:o.kind=2→0≤o.n∧o.n<made.length:=fun h=>by have:=opnFits_step hoo h;omega
  have hvb:=of_bulk (homes:=homes) (made:=made) hoo hhb hmb
  have k1:=(hf 3 (by omega)).trans g1
  have k2:=(hf 4 (by omega)).trans g2
  have hA1:Acc H' 5 sv 5 made.length (encs made):=acc_keep hA hn1 fun id n c hv=>hf id (hsv id n c hv)
  have n3:2≤H'.next:=by omega
  obtain⟨H1,hH1⟩:∃ H1,H1=(H'.push (.cells [.i .i64 0,.i .i64 0,.i .i64 0,.i .i64 0,.s [],.ns,.ns] 1 false)).put H'.next (some (.cells (Enc.cells o) 1 false)):=⟨_,rfl⟩
  have hk1:∀ id,id<H'.next→H1.get id=H'.get id:=fun id h=>by rw[hH1];simp -implicitDefEqProofs [show ¬ id=H'.next by omega]
  have q1:=(hk1 3 (by omega)).trans k1
  have q2:=(hk1 4 (by omega)).trans k2
  have q3:H1.get H'.next=some (.cells (Enc.cells o) 1 false):=by rw[hH1];simp
  have q4:H1.next=H'.next+1:=by rw[hH1];simp
  obtain⟨tb,s1,s2⟩:=do_snaps hG q1 q2 (acc_keep hA1 (by omega) fun id n c hv=>hk1 id (by have:=hsv id n c hv;omega))
  have c1:=t_doOf hG o homes made b1 b2 th tb
  have c2:=t_lown hG (ofO homes made o) (by omega) false false
  simp at hH1 q3 s1 s2 c1 c2
  clear hlt
  simp -implicitDefEqProofs [L39c,hlt2,hlt3,hx,n3,←hH1,q3,s1,s2,c1,c2,q4]
  refine step_app (lo':=d) (acc_keep hL (by simp -implicitDefEqProofs [q4];omega) ?_) (m:=1) (ys:=Enc.cells (ofO homes made o)) (by omega) (by simp -implicitDefEqProofs [q4];omega) (more_lit (cs:=Enc.cells (ofO homes made o)) (e:=5) (ro:=false) (by simp -implicitDefEqProofs [q4]) (by simp) (by omega)) (by simp) (by omega) (by omega) (by omega) (by omega) ?_
  ·intro id a b hv
   have:=acc_lt hL id a b hv
   rw[get_push_lt (by omega)]
   exact hk1 id this.2
  intro H2 hn2 hL2 hf2
  simp -implicitDefEqProofs [q4] at hn2 hL2 hf2
  simp -implicitDefEqProofs [hlt3]
  refine⟨by omega,fun id hid=>?_,by simpa[List.take_add_one,hx,q4] using hL2⟩
  rw[hf2 id (by omega) fun id0 n0 c0 hv=>by have:=(acc_lt hL _ _ _ hv).1;omega]
  simp -implicitDefEqProofs [show ¬ id=H'.next+1 by omega,hk1 id (by omega),hf id hid]
 ·rintro e H' ⟨lv,rfl,hn1,hf,hL⟩
  rw[List.take_length] at hL
  simp -implicitDefEqProofs [L39c]
  exact hQ lv _ H' hL
 ·exact⟨.ns,by simp,Nat.le_refl _,fun _ _=>rfl,acc_none⟩
end
end Go.Proofs.YtbfajkcmehaliacGreatDoor
namespace Go.Proofs.YtbfajkcmehaliacGreatDoor
open Go Go.RI
def CheckOk(G:AHeap):Prop:=∀ x:Pce,okPce x→∀ t1 t2 t3 t4:Bool,pureR IP G 11 [.ag (pceC x t1 t2 t3 t4)]=some (.i .i64 (if checkP x then 0 else 2))
def doR(x:Pce)(homes:List Val):List Val×Int×Bool:=match doP x homes with
 | some (l,to)=>(l,to,true)
 | none=>([],0,false)
section
variable {G:AHeap} (hG:G.next=2)
include hG
set_option maxHeartbeats 1000000 in
theorem t_do(c17:CheckOk G)(cN:NeedsOk G)(x:Pce)(hx:okPce x)(homes:List Val)(hb:bulkL homes<1099511627776)(t1 t2 th:Bool):pureR IP G 39 [.ag (pceC x t1 t2 false false),.fs th false homes.length (encs homes)] =
    some (.tu [.fs false false (doR x homes).1.length (encs (doR x homes).1),.i .i64 (doR x homes).2.1,.b (doR x homes).2.2]):=by
  have c1:=c17 x hx t1 t2 false false
  have c2:=t_doAny hG homes hb th false
  unfold doR doP
  cases hc:checkP x
  · rw[hc] at c1
    simp -implicitDefEqProofs [pceC] at c1
    rw[if_neg (by simp)]
    refine pure_run ip39 rfl ?_
    simp -implicitDefEqProofs [I39,hG,c1,pceC]
  rw[hc] at c1
  by_cases hh:(homes.length:Int)=x.homes
  · cases hm:homes.all mayV
    · rw[hm] at c2
      rw[if_neg (by simp)]
      simp -implicitDefEqProofs [pceC] at c1
      refine pure_run ip39 rfl ?_
      simp -implicitDefEqProofs [I39,hG,c1,c2,hh,pceC]
    · rw[hm] at c2
      rw[if_pos ⟨rfl,hh,rfl⟩]
      have hhb:∀ v∈homes,v.bulk≤2304:=fun v hv=>all_bulk hm hv
      simp -implicitDefEqProofs [pceC] at c1
      refine pure_run ip39 rfl ?_
      simp -implicitDefEqProofs [I39,hG,c1,c2,hh,pceC]
      refine t_do_steps hG cN x hc hx homes hh hm t1 t2 th _ _ (by simp -implicitDefEqProofs [hG,pceC]) (by simp -implicitDefEqProofs [hG]) (by simp -implicitDefEqProofs [hG]) (by simp -implicitDefEqProofs [hG]) ?_ ?_
      · intro made hs hml hmb sv w H' hn g0 g1 g2 hA
        simp only[hs]
        have gg0:=g0
        simp only[pceC] at g0
        have fin:∀(lv:AVal) (d:Nat) (H2:AHeap),5≤d→Acc H2 d lv 5 x.sets.length (encs (x.sets.map (ofO homes made)))→frzV H2 2 15 lv=some (.fs false false x.sets.length (encs (x.sets.map (ofO homes made)))):=fun lv d H2 h1 h2=>hold_frz (k:=14) (hold_mono h2.hold (by omega)) frz_encs
        by_cases he:x.exit=2
        · have hcf:opnFits x.homes x.ins.length x.cond=true:=by
            have:=(checkP_iff.1 hc).2.2.1
            unfold condP at this
            rw[if_pos he] at this
            exact this
          have b1:x.cond.kind=1→0≤x.cond.n∧x.cond.n<homes.length:=fun h=>by have:=opnFits_home hcf h;omega
          have b2:x.cond.kind=2→0≤x.cond.n∧x.cond.n<made.length:=fun h=>by have:=opnFits_step hcf h;omega
          obtain⟨tb,s1,s2⟩:=do_snaps hG g1 g2 hA
          have c3:=t_doOf hG x.cond homes made b1 b2 th tb
          unfold toP
          rw[if_pos he]
          obtain⟨v,hv⟩:∃ v,v=ofO homes made x.cond:=⟨_,rfl⟩
          rw[←hv] at c3 ⊢
          simp at s1 s2 c3
          have n1:2≤H'.next:=by omega
          have n2:¬ 2=H'.next:=by omega
          by_cases hk:v.kind=2
          · rw[if_pos hk]
            by_cases hv1:v.n=1
            · rw[if_pos hv1]
              simp -implicitDefEqProofs [g0,he,s1,s2,c3,hk,hv1,n1,n2]
              refine t_do_sets hG x hc homes made hh hml hhb hmb t2 th _ sv (H'.next+1) _ _ (by omega) (by simp) (by simp -implicitDefEqProofs [show ¬ 3=H'.next by omega,g1]) (by simp -implicitDefEqProofs [show ¬ 4=H'.next by omega,g2]) (acc_keep hA (by simp) fun id n c hv=>by have:=(acc_lt hA _ _ _ hv).2;simp -implicitDefEqProofs [show ¬ id=H'.next by omega]) (fun id n c hv=>by have:=(acc_lt hA _ _ _ hv).2;omega) ?_
              intro lv w H2 hL
              have:=fin lv _ H2 (by omega) hL
              simp -implicitDefEqProofs [this]
            · rw[if_neg hv1]
              simp -implicitDefEqProofs [g0,he,s1,s2,c3,hk,hv1,n1,n2]
              refine t_do_sets hG x hc homes made hh hml hhb hmb t2 th _ sv (H'.next+1) _ _ (by omega) (by simp) (by simp -implicitDefEqProofs [show ¬ 3=H'.next by omega,g1]) (by simp -implicitDefEqProofs [show ¬ 4=H'.next by omega,g2]) (acc_keep hA (by simp) fun id n c hv=>by have:=(acc_lt hA _ _ _ hv).2;simp -implicitDefEqProofs [show ¬ id=H'.next by omega]) (fun id n c hv=>by have:=(acc_lt hA _ _ _ hv).2;omega) ?_
              intro lv w H2 hL
              have:=fin lv _ H2 (by omega) hL
              simp -implicitDefEqProofs [this]
          · rw[if_neg hk]
            simp -implicitDefEqProofs [g0,he,s1,s2,c3,hk,n1,n2]
        · unfold toP
          rw[if_neg he]
          simp -implicitDefEqProofs [g0,he]
          refine t_do_sets hG x hc homes made hh hml hhb hmb t2 th _ sv H'.next _ _ hn (Nat.le_refl _) g1 g2 hA (fun id n c hv=>(acc_lt hA _ _ _ hv).2) ?_
          intro lv w H2 hL
          have:=fin lv _ H2 hn hL
          simp -implicitDefEqProofs [this]
      · intro hs H'
        simp -implicitDefEqProofs [hs]
  · rw[if_neg (fun h=>hh h.2.1)]
    simp -implicitDefEqProofs [pceC] at c1
    refine pure_run ip39 rfl ?_
    simp -implicitDefEqProofs [I39,hG,c1,hh,pceC]
end
end Go.Proofs.YtbfajkcmehaliacGreatDoor
namespace Go.Proofs.YtbfajkcmehaliacGreatDoor
open Go Go.RI
section
variable {G:AHeap} (hG:G.next=2)
include hG
set_option maxHeartbeats 1000000 in
theorem t_foldOf(c17:CheckOk G)(cN:NeedsOk G)(x:Pce)(hx:okPce x)(t1 t2 t3 t4:Bool):pureR IP G 7 [.ag (pceC x t1 t2 t3 t4)] =
  some (if checkP x then .tu [.ag (Enc.cells (foldP x)),.i .i64 0] else .tu [.ag (Enc.cells (⟨0,0,0,0,[],[],0,0,⟨0,0,zeroVal⟩,0⟩:Pce)),.i .i64 2]):=by
 have c1:=c17 x hx t1 t2 t3 t4
 have hx0:=hx
 obtain⟨ho1,ho2,ho3,ho4,ho5⟩:=hx
 simp only[pceC] at c1
 refine pure_run ip7 rfl ?_
 cases hc:checkP x
 ·rw[hc] at c1
  simp at c1
  simp -implicitDefEqProofs [I7,hG,pceC,c1,zeroVal]
 ·rw[hc] at c1
  simp at c1
  have hins:x.ins.length≤4096:=by have:=(checkP_iff.1 hc).1;unfold numsP at this;omega
  have hmk:(96:Int)*(x.ins.length:Int)≤281474976710656:=by omega
  simp -implicitDefEqProofs [I7,hG,pceC,c1,hmk,rep_B]
  have key:=t_fold_loop hG cN x hx0 hc t1 t2 t3 t4
  simp only[fenv] at key
  refine key _ _ ⟨.ns,[],List.replicate x.ins.length ⟨zeroO,true⟩,?_⟩ ?_
  ·exact{ g0:=by simp -implicitDefEqProofs [fcells,hG],g1:=⟨[.i .i64 0,.i .i64 0,.i .i64 0,.i .i64 0,.ns,.ns,.i .i64 0,.i .i64 0,.i .i64 0,.i .i64 0,.i .i64 0,.i .i64 0,.s [],.ns,.ns,.i .i64 0],rfl,by simp -implicitDefEqProofs [hG]⟩,g2:=by simp -implicitDefEqProofs [hG],g3:=by simp -implicitDefEqProofs [hG],g4:=by simp -implicitDefEqProofs [hG],nx:=by simp -implicitDefEqProofs [hG],pb:=by simp,ok:=fun b hb=>by rw[List.mem_replicate] at hb;rw[hb.2];exact fun _=>⟨rfl,rfl⟩,pl:=pl_nil,acc:=acc_none,out:=rfl }
  ·intro w H lv cs PB hI
   obtain⟨g0,⟨z,hz,g1⟩,g2,g3,g4,nx,pb,ok,pl,acc,out⟩:=hI
   obtain⟨z0,z1,z2,z3,z4,z5,z6,z7,z8,z9,z10,z11,z12,z13,z14,z15,rfl⟩:=list16 hz
   have hg:=foldF_good hc
   have hck:=checkP_iff.1 hc
   have hpl:(foldF x).pl.length=x.ins.length:=hg.pl
   obtain⟨tb,s1,s2,s3⟩:=fold_snaps hG pb ok (by omega) g2 g3 g4
   have hset:=List.all_eq_true.1 hck.2.2.2
   have hsl:x.sets.length≤64:=by have:=hck.1;unfold numsP at this;omega
   have c2:=t_ofAll hG x.sets (by omega) (PB.map OpB.o) (fun o ho hk=>by have:=opnFits_step (hset o ho) hk;simp;omega) (fun o ho=>by
    have h1:turnO (PB.map OpB.o) o=turnO (foldF x).pl o:=pl_turn (nh:=x.homes) pl (by rw[hpl];exact hset o ho)
    rw[h1]
    have:=opn_bulk (turnO_fits hg (hset o ho))
    omega) t2 false tb
   rw[pl_turns (nh:=x.homes) pl (fun o ho=>by rw[hpl];exact hset o ho)] at c2
   have hcd:(x.cond.kind=2→0≤x.cond.n∧x.cond.n<(PB.map OpB.o).length)∧turnO (PB.map OpB.o) x.cond=turnO (foldF x).pl x.cond∧(turnO (foldF x).pl x.cond).v.bulk<1099511627776:=by
    have hcond:=hck.2.2.1
    unfold condP at hcond
    by_cases he:x.exit=2
    ·rw[if_pos he] at hcond
     exact⟨fun hk=>by have:=opnFits_step hcond hk;simp;omega,pl_turn (nh:=x.homes) pl (by rw[hpl];exact hcond),by have:=opn_bulk (turnO_fits hg hcond);omega⟩
    ·rw[if_neg he] at hcond
     simp only[Bool.and_eq_true,decide_eq_true_eq] at hcond
     have hk:¬ x.cond.kind=2:=by omega
     have e:∀ l,turnO l x.cond=x.cond:=fun l=>by unfold turnO;rw[if_neg hk]
     rw[e,e]
     exact⟨fun h=>absurd h hk,rfl,ho5⟩
   obtain⟨hc1,hc2,hc3⟩:=hcd
   have c3:=t_ofT hG x.cond (PB.map OpB.o) hc1 (by rw[hc2];exact hc3) tb t3 t4
   rw[hc2] at c3
   have n3:2≤H.next:=by omega
   have fz:∀ K:AHeap,K.next=H.next→(∀ id,7≤id→K.get id=H.get id)→frzV K 2 14 lv=some (.fs false false (foldF x).out.length (encs (foldF x).out)):=fun K h1 h2=>by
    refine hold_frz (k:=13) (hold_mono (acc_keep acc (by omega) fun id a b hv=>h2 id (acc_lt acc _ _ _ hv).1).hold (by omega)) ?_
    exact out_frz (P:=Ap 7 lv) (k:=11) (fun id h=>by have:=h.1;omega) _ _ (out_keep (by omega) (fun id h3 h4=>⟨h2 id h3.1,h3⟩) _ _ out)
   obtain⟨d1,d2⟩:=hold_one acc.hold
   simp only[fcells] at g0
   simp at c2 c3 s1 s2 s3
   obtain⟨cd,hcdE⟩:∃ cd,cd=turnO (foldF x).pl x.cond:=⟨_,rfl⟩
   by_cases he:x.exit=2
   ·by_cases hk3:(turnO (foldF x).pl x.cond).kind=3
    ·by_cases hk2:(turnO (foldF x).pl x.cond).v.kind=2
     ·have hyes:=foldP_yes (x:=x) ⟨he,by simp -implicitDefEqProofs [isB,hk3,hk2]⟩
      rw[hyes]
      by_cases hn:(turnO (foldF x).pl x.cond).v.n=1
      ·simp -implicitDefEqProofs [g0,g1,g4,s2,s3,c2,c3,he,hk3,hk2,hn,d1,d2]
       rw[fz _ (by simp) (fun id h=>by simp -implicitDefEqProofs [show ¬ id=2 by omega,show ¬ id=3 by omega])]
       simp -implicitDefEqProofs [zeroVal]
      ·simp -implicitDefEqProofs [g0,g1,g4,s2,s3,c2,c3,he,hk3,hk2,hn,d1,d2]
       rw[fz _ (by simp) (fun id h=>by simp -implicitDefEqProofs [show ¬ id=2 by omega,show ¬ id=3 by omega])]
       simp -implicitDefEqProofs [zeroVal]
     ·have hno:=foldP_no (x:=x) (fun h=>by simp -implicitDefEqProofs [isB,hk2] at h)
      rw[hno]
      simp -implicitDefEqProofs [g0,g1,g4,s2,s3,c2,c3,he,hk3,hk2,d1,d2]
      rw[fz _ (by simp) (fun id h=>by simp -implicitDefEqProofs [show ¬ id=2 by omega,show ¬ id=3 by omega])]
      simp
    ·have hno:=foldP_no (x:=x) (fun h=>by simp -implicitDefEqProofs [isB,hk3] at h)
     rw[hno]
     simp -implicitDefEqProofs [g0,g1,g4,s2,s3,c2,c3,he,hk3,d1,d2]
     rw[fz _ (by simp) (fun id h=>by simp -implicitDefEqProofs [show ¬ id=2 by omega,show ¬ id=3 by omega])]
     simp
   ·have hno:=foldP_no (x:=x) (fun h=>he h.1)
    rw[hno]
    simp -implicitDefEqProofs [g0,g1,g4,s2,s3,c2,c3,he,d1,d2]
    rw[fz _ (by simp) (fun id h=>by simp -implicitDefEqProofs [show ¬ id=2 by omega,show ¬ id=3 by omega])]
    simp
end
end Go.Proofs.YtbfajkcmehaliacGreatDoor
namespace Go.Proofs.YtbfajkcmehaliacGreatDoor
open Go Go.RI
section
variable {G:AHeap} (hG:G.next=2)
include hG
theorem t_number(a b:Int):pureR IP G 104 [.i .i64 a,.i .i64 b]=some (.i .i64 (numI a b)):=by
 refine pure_run ip104 rfl ?_
 simp -implicitDefEqProofs [I104,hG]
 repeat' ((first|refine guard_intro ?_ ?_|refine test_intro ?_ ?_)<;>intro h<;>(try simp -implicitDefEqProofs [h,hG]))
 all_goals simp only[decide_eq_true_eq,decide_eq_false_iff_not] at *
 all_goals simp -implicitDefEqProofs [numI, *]
theorem t_text(a b:Str):pureR IP G 105 [.s a,.s b]=some (.i .i64 (txtI a b)):=by
 have e:∀ a b:Str,leS a b=(ltB a b||a==b):=fun _ _=>rfl
 have hgt:∀ a b:Str,(!leS a b)=true→ltB b a=true:=fun a b h=>by
  have hne:a≠b:=fun he=>by subst he;simp -implicitDefEqProofs [leS] at h
  rcases ltB_total a b hne with h1|h1
  ·simp -implicitDefEqProofs [leS,h1] at h
  ·exact h1
 refine pure_run ip105 rfl ?_
 simp -implicitDefEqProofs [I105,hG]
 refine test_intro ?_ ?_<;>intro h<;>simp -implicitDefEqProofs [hG]
 ·simp -implicitDefEqProofs [txtI,h]
 ·refine test_intro ?_ ?_<;>intro h2<;>simp -implicitDefEqProofs [hG]
  ·have h3:ltB b a=false:=by
    cases h4:ltB b a with
    | false=>rfl
    | true=>exact absurd (ltB_not_le b a h4) (by rw[h2];simp)
   simp -implicitDefEqProofs [txtI,h,h3]
  ·simp -implicitDefEqProofs [txtI,h,hgt a b (by rw[h2];rfl)]
def valC(v:Val)(t1 t2:Bool):List AVal:=[.i .i64 v.kind,.i .i64 v.n,.s v.s,.fs t1 false v.l.length (encs v.l),.fs t2 false v.names.length (encs v.names)]
theorem t_cmp_loop1(v w:Val)(hv:v.names.length<1099511627776)(t1 t2 t3 t4:Bool)(Q:Post)(H:AHeap)(g1:H.get 2=some (.cells (valC v t1 t2) 1 false))(g2:H.get 3=some (.cells (valC w t3 t4) 1 false))
  (h1:(v.names=w.names∨cmpS v.names w.names=numI v.names.length w.names.length∧v.names.length≠w.names.length)→∀ b i,Q (.exit 0) [(2,.p 2 0),(3,.p 3 0),(5,.i .i64 i),(49,b)] H)
  (h2:v.names≠w.names→Q .ret [(4,.i .i64 (cmpS v.names w.names))] H) :
  wp (theCalls IP G 2) 2 (.loop L99a) Q [(2,.p 2 0),(3,.p 3 0),(5,.i .i64 0)] H:=by
 simp only[valC] at g1 g2
 refine wp_loop_inv (fun k e H'=>∃ i:Nat,k=v.names.length-i∧i≤v.names.length∧i≤w.names.length∧v.names.take i=w.names.take i∧e=[(2,.p 2 0),(3,.p 3 0),(5,.i .i64 i)]∧H'=H) ?_ _ _ _ ⟨0,rfl,by omega,by omega,by simp,rfl,rfl⟩
 rintro k e H' ⟨i,hk,hi1,hi2,ht,rfl,rfl⟩
 have done:(i=v.names.length∨i=w.names.length)→(v.names=w.names∨cmpS v.names w.names=numI v.names.length w.names.length∧v.names.length≠w.names.length):=fun he=>by
  by_cases hl:v.names.length=w.names.length
  ·left
   have e1:i=v.names.length:=by omega
   rw[e1] at ht
   rw[List.take_of_length_le (Nat.le_refl _),List.take_of_length_le (by omega)] at ht
   exact ht
  ·exact .inr ⟨cmpS_end ht ⟨hi1,hi2⟩ he,hl⟩
 rcases Nat.lt_or_ge i v.names.length with hlt1|hge1
 ·have hlt2:(i:Int)<(v.names.length:Int):=by omega
  rcases Nat.lt_or_ge i w.names.length with hlt3|hge3
  ·have hlt4:(i:Int)<(w.names.length:Int):=by omega
   obtain⟨x,hx⟩:=get_of_lt hlt1
   obtain⟨y,hy⟩:=get_of_lt hlt3
   have hlt5:i<4611686018427387904:=by omega
   clear hlt1 hlt3
   have c1:=t_text hG x y
   simp -implicitDefEqProofs [L99a,g1,g2,hlt2,hlt4,hx,hy]
   refine test_intro ?_ ?_<;>intro h<;>simp -implicitDefEqProofs [g1,g2,hlt2,hlt4,hx,hy,hlt5,c1]
   ·have hxy:x=y:=by simpa using h
    subst hxy
    exact⟨v.names.length-(i+1),by omega,i+1,rfl,by omega,by omega,take_succ_eq ht hx hy,rfl⟩
   ·have hxy:x≠y:=by simpa using h
    rw[←cmpS_at ht hx hy hxy]
    refine h2 fun he=>?_
    rw[he,hy] at hx
    cases hx
    exact hxy rfl
  ·have hlt4:¬(i:Int)<(w.names.length:Int):=by omega
   simp -implicitDefEqProofs [L99a,g1,g2,hlt2,hlt4]
   exact h1 (done (by omega)) _ _
 ·have hlt2:¬(i:Int)<(v.names.length:Int):=by omega
  simp -implicitDefEqProofs [L99a,g1,g2,hlt2]
  exact h1 (done (by omega)) _ _
theorem t_cmp_loop2(v w:Val)(hv:v.l.length<1099511627776)(t1 t2 t3 t4:Bool)
  (ih:∀ x∈v.l,∀ y:Val,∀ t1 t2 t3 t4:Bool,pureR IP G 99 [.ag (valC x t1 t2),.ag (valC y t3 t4)]=some (.i .i64 (cmpV x y)))
  (Q:Post) (H:AHeap) (g1:H.get 2=some (.cells (valC v t1 t2) 1 false)) (g2:H.get 3=some (.cells (valC w t3 t4) 1 false))
  (h1:cmpVL v.l w.l=numI v.l.length w.l.length→∀ b i,Q (.exit 2) [(2,.p 2 0),(3,.p 3 0),(6,.i .i64 i),(99,b)] H)
  (h2:Q .ret [(4,.i .i64 (cmpVL v.l w.l))] H) :
  wp (theCalls IP G 2) 2 (.loop L99b) Q [(2,.p 2 0),(3,.p 3 0),(6,.i .i64 0)] H:=by
 simp only[valC] at g1 g2
 refine wp_loop_inv (fun k e H'=>∃ i:Nat,k=v.l.length-i∧i≤v.l.length∧i≤w.l.length∧v.l.take i=w.l.take i∧e=[(2,.p 2 0),(3,.p 3 0),(6,.i .i64 i)]∧H'=H) ?_ _ _ _ ⟨0,rfl,by omega,by omega,by simp,rfl,rfl⟩
 rintro k e H' ⟨i,hk,hi1,hi2,ht,rfl,rfl⟩
 rcases Nat.lt_or_ge i v.l.length with hlt1|hge1
 ·have hlt2:(i:Int)<(v.l.length:Int):=by omega
  rcases Nat.lt_or_ge i w.l.length with hlt3|hge3
  ·have hlt4:(i:Int)<(w.l.length:Int):=by omega
   obtain⟨x,hx⟩:=get_of_lt hlt1
   obtain⟨y,hy⟩:=get_of_lt hlt3
   have hlt5:i<4611686018427387904:=by omega
   clear hlt1 hlt3
   have c1:=ih x (List.mem_of_getElem? hx) y false false false false
   simp only[valC] at c1
   simp -implicitDefEqProofs [L99b,g1,g2,hlt2,hlt4,hx,hy,c1]
   refine test_intro ?_ ?_<;>intro h<;>simp -implicitDefEqProofs [g1,g2,hlt5]
   ·have hxy:cmpV x y=0:=by simpa using h
    have:=(cmpV_iff x y).1 hxy
    subst this
    exact⟨v.l.length-(i+1),by omega,i+1,rfl,by omega,by omega,take_succ_eq ht hx hy,rfl⟩
   ·have hxy:cmpV x y≠0:=by simpa using h
    rw[←cmpVL_at ht hx hy hxy]
    exact h2
  ·have hlt4:¬(i:Int)<(w.l.length:Int):=by omega
   simp -implicitDefEqProofs [L99b,g1,g2,hlt2,hlt4]
   exact h1 (cmpVL_end ht ⟨hi1,hi2⟩ (by omega)) _ _
 ·have hlt2:¬(i:Int)<(v.l.length:Int):=by omega
  simp -implicitDefEqProofs [L99b,g1,g2,hlt2]
  exact h1 (cmpVL_end ht ⟨hi1,hi2⟩ (by omega)) _ _
theorem t_cmp1:∀ b,b<1099511627776→∀ v w:Val,v.bulk≤b→∀ t1 t2 t3 t4:Bool,pureR IP G 99 [.ag (valC v t1 t2),.ag (valC w t3 t4)]=some (.i .i64 (cmpV v w)):=by
  intro b
  induction b with
  | zero=>intro _ v w h;have:=v.bulk_pos;omega
  | succ b ih =>
    intro hb v w hv t1 t2 t3 t4
    rw[Val.bulk_eq] at hv
    have hl1:=bulkL_len v.l
    have hl2:=bulkS_len v.names
    have c1:=t_number hG
    have c2:=t_text hG
    rw[cmpV_eq]
    refine pure_run ip99 rfl ?_
    simp -implicitDefEqProofs [I99,hG,valC]
    refine test_intro ?_ ?_<;>intro h<;>simp -implicitDefEqProofs [hG,c1]
    · have h := of_decide_eq_true h
      rw[if_pos h]
      refine test_intro ?_ ?_<;>intro h2<;>simp -implicitDefEqProofs [hG,c1]
      · have h2:=of_decide_eq_true h2
        rw[if_pos h2]
        refine test_intro ?_ ?_<;>intro h3<;>simp -implicitDefEqProofs [hG,c2]
        · have h3:v.s=w.s:=by simpa using h3
          rw[if_pos h3]
          refine t_cmp_loop1 hG v w (by omega) t1 t2 t3 t4 _ _ (by simp -implicitDefEqProofs [hG,valC]) (by simp -implicitDefEqProofs [hG,valC]) ?_ ?_
          · intro hc b i
            simp -implicitDefEqProofs [hG]
            refine test_intro ?_ ?_<;>intro h4<;>simp -implicitDefEqProofs [hG,c1]
            · have h4:=of_decide_eq_true h4
              have hnm:v.names=w.names:=by
                rcases hc with hc|hc
                · exact hc
                · omega
              rw[if_pos hnm]
              refine t_cmp_loop2 hG v w (by omega) t1 t2 t3 t4 (fun x hx y=>ih (by omega) x y (by have:=bulkL_mem hx;omega)) _ _ (by simp -implicitDefEqProofs [hG,valC]) (by simp -implicitDefEqProofs [hG,valC]) ?_ ?_
              · intro he b i
                simp -implicitDefEqProofs [hG,c1,he]
              · simp
            · have h4:=of_decide_eq_false h4
              rcases hc with hc|hc
              · rw[hc] at h4;exact absurd rfl h4
              · rw[if_neg (fun e=>by rw[e] at h4;exact h4 rfl),hc.1]
          · intro hne
            rw[if_neg hne]
            simp
        · intro e;rw[e] at h3;simp at h3
      · intro e;exact absurd e (of_decide_eq_false h2)
    · intro e;exact absurd e (of_decide_eq_false h)
theorem t_sameR(v w:Val)(hv:v.bulk<1099511627776)(t1 t2 t3 t4:Bool):pureR IP G 85 [.ag (valC v t1 t2),.ag (valC w t3 t4)]=some (.b (decide (v=w))):=by
 have c1:=t_cmp1 hG v.bulk hv v w (Nat.le_refl _) t1 t2 t3 t4
 simp only[valC] at c1 ⊢
 refine pure_run ip85 rfl ?_
 simp -implicitDefEqProofs [I85,hG,c1]
 exact cmpV_iff v w
end
end Go.Proofs.YtbfajkcmehaliacGreatDoor
