import Derived.Test.YtbfajkcmehaliacGreatDoorM08
set_option linter.unusedVariables false
set_option linter.unusedSimpArgs false
set_option linter.unusedSectionVars false
/- RI, part SB: what operations make of values, steps of values, pieces of homes (chapters 13, 20), in plain terms. Conditions: none. -/
namespace Go.RI
open Go
def numV(n:Int):Val:=.mk 1 n [] [] []
def yesV(b:Bool):Val:=.mk 2 (if b then 1 else 0) [] [] []
def madeV(v:Val):Val×Int:=if mayV v then(v,0) else(zeroVal,4)
def unaryV(op:Int)(a:Val):Val×Int×Int :=
 if mayV a=false then(zeroVal,0,2)
 else if op=6 then(if a.kind=1 then(numV (wrapI .i64 (0-a.n)),0,0) else(zeroVal,2,0))
 else if op=7 then(if a.kind=2 then(yesV (decide (a.n=0)),0,0) else(zeroVal,2,0))
 else if op=8 then(if a.kind=3∨a.kind=4 then(numV ((a.s.length:Int)+a.l.length),0,0) else(zeroVal,2,0))
 else(zeroVal,0,2)
def intsV(op a b:Int):Val×Int :=
 if op=9 then(numV (wrapI .i64 (a+b)),0)
 else if op=10 then(numV (wrapI .i64 (a-b)),0)
 else if op=11 then(numV (wrapI .i64 (a*b)),0)
 else if op=17 then(yesV (decide (a≤b)),0)
 else if op=16 then(yesV (decide (a<b)),0)
 else if op=12 then(if b=0 then(zeroVal,1) else(numV (wrapI .i64 (a.tdiv b)),0))
 else if op=13 then(if b=0 then(zeroVal,1) else(numV (a.tmod b),0))
 else(zeroVal,2)
def textsV(op:Int)(a b:Str):Val×Int :=
 if op=9 then madeV (.mk 3 0 (a++b) [] [])
 else if op=17 then(yesV (leS a b),0)
 else if op=16 then(yesV (ltB a b),0)
 else(zeroVal,2)
def longerV(a:Val)(more:List Val):Val×Int:=madeV (.mk 4 0 [] (a.l++more) [])
def binV2(op:Int)(a b:Val):Val×Int :=
 if op=14 then(yesV (sameV a b),0)
 else if op=15 then(yesV (!sameV a b),0)
 else if a.kind=1∧b.kind=1 then intsV op a.n b.n
 else if a.kind=3∧b.kind=3 then textsV op a.s b.s
 else if op=18∧a.kind=4 then longerV a [b]
 else if op=9∧a.kind=4∧b.kind=4 then longerV a b.l
 else if op=19∧a.kind=4∧b.kind=1 then(if 0≤b.n∧b.n<a.l.length then(a.l[b.n.toNat]?.getD zeroVal,0) else(zeroVal,3))
 else(zeroVal,2)
def binaryV(op:Int)(a b:Val):Val×Int×Int :=
 if op<9∨19<op∨mayV a=false∨mayV b=false then(zeroVal,0,2) else((binV2 op a b).1,(binV2 op a b).2,0)
def listV(l:List Val):Val×Int×Int:=if l.all mayV then((madeV (.mk 4 0 [] l [])).1,(madeV (.mk 4 0 [] l [])).2,0) else(zeroVal,0,2)
def recV(ns:List Str)(l:List Val):Val×Int×Int :=
 if recordS ns=true∧l.length=ns.length∧l.all mayV=true then((madeV (.mk 5 0 [] l ns)).1,(madeV (.mk 5 0 [] l ns)).2,0) else(zeroVal,0,2)
def fieldV(a:Val)(s:Str):Val×Int×Int :=
  if mayV a=false∨recordS [s]=false then(zeroVal,0,2)
  else if a.kind=5 then(match a.names.findIdx? (·==s) with
    | some i=>(a.l[i]?.getD zeroVal,0,0)
    | none=>(zeroVal,6,0))
  else(zeroVal,2,0)
mutual
def hasTV:Shp→Val→Bool
 | s,.mk k _ _ l ns=>decide (k=s.kind)&&decide (ns=s.names)&&hasL s l 0
def hasL:Shp→List Val→Nat→Bool
 | _,[],_=>true
 | s,v::l,i=>hasTV (s.l[if s.kind=4 then 0 else i]?.getD default) v&&hasL s l (i+1)
end
theorem hasTV_eq(s:Shp)(v:Val):hasTV s v=(decide (v.kind=s.kind)&&decide (v.names=s.names)&&hasL s v.l 0):=by cases v;rw[hasTV];rfl
def isTV(v:Val)(t:Str):Bool:=(typedS t).2&&(mayV v&&hasTV (typedS t).1 v)
def resV(r:Val×Int×Int):Option Val:=if r.2.1=0∧r.2.2=0 then some r.1 else none
def intsS(op:Int)(a b:Val):Option Val:=if a.kind=1∧b.kind=1 then resV (binaryV op a b) else none
def opS(i:Stp)(l:List Val):Option Val :=
 let a:=l[0]?.getD zeroVal
 let b:=l[1]?.getD zeroVal
 if i.op=20 then resV (listV l)
 else if i.op=21 then resV (recV i.names l)
 else if i.op=22 then resV (fieldV a i.s)
 else if i.op=23 then(if isTV a i.s then some a else none)
 else if i.op=40 then(if a.kind=i.n then some a else none)
 else if i.op=41 then resV (unaryV 6 a)
 else if i.op=42 then resV (unaryV 7 a)
 else if i.op=43 then intsS 9 a b
 else if i.op=44 then intsS 10 a b
 else if i.op=45 then intsS 11 a b
 else if i.op=46 then intsS 16 a b
 else if i.op=47 then intsS 17 a b
 else if i.op=48 then intsS 9 a (numV i.n)
 else if i.op=49 then intsS 16 a (numV i.n)
 else if(needs i).1=2 then resV (binaryV i.op a b)
 else resV (unaryV i.op a)
def stepV(i:Stp)(l:List Val):Option Val :=
 if(needs i).2.2=true∧(needs i).1≤l.length∧(l.length:Int)≤(needs i).2.1∧l.all mayV=true then opS i l else none
def ofO(homes made:List Val)(o:Opn):Val :=
 if o.kind=1 then homes[o.n.toNat]?.getD zeroVal else if o.kind=2 then made[o.n.toNat]?.getD zeroVal else o.v
def stepsV(homes:List Val):List Stp→List Val→Option (List Val)
  | [],made=>some made
  | i::l,made=>match stepV i (i.l.map (ofO homes made)) with
    | some v=>stepsV homes l (made++[v])
    | none=>none
def toP(x:Pce)(homes made:List Val):Option Int :=
 if x.exit=2 then(if(ofO homes made x.cond).kind=2 then some (if(ofO homes made x.cond).n=1 then wrapI .i64 (x.at_+x.many) else x.to) else none) else some x.to
def doP(x:Pce)(homes:List Val):Option (List Val×Int) :=
 if checkP x=true∧(homes.length:Int)=x.homes∧homes.all mayV=true then match stepsV homes x.ins [] with
  | some made=>(toP x homes made).map fun to=>(x.sets.map (ofO homes made),to)
  | none=>none
 else none
end Go.RI
namespace Go.Proofs.YtbfajkcmehaliacGreatDoor
open Go Go.RI
section
variable {G:AHeap} (hG:G.next=2)
include hG
theorem t_aown_loop(v:Val)(hv:v.l.length<1099511627776)(lv nv:AVal)(H:AHeap)(hr:H.get 2=some (.cells [.i .i64 v.kind,.i .i64 v.n,.s v.s,lv,nv] 1 false))(hL:Hold H 4 lv 5 v.l.length (encs v.l))
  (ih:∀ x∈v.l,∀ t1 t2:Bool,pureR IP G 79 [.ag [.i .i64 x.kind,.i .i64 x.n,.s x.s,.fs t1 false x.l.length (encs x.l),.fs t2 false x.names.length (encs x.names)]]=some (.ag (Enc.cells x)))
  (Q:Post) (hQ:∀ b H',(∀ id,H'.get id=H.get id)→H'.next=H.next→Q (.exit 0) [(1,.p 2 0),(2,.p 3 0),(14,.i .i64 v.l.length),(15,.i .i64 v.l.length),(16,b)] H') :
  wp (theCalls IP G 2) 2 (.loop L79a) Q [(1,.p 2 0),(2,.p 3 0),(14,.i .i64 v.l.length),(15,.i .i64 0)] H:=by
 refine wp_loop_list (l:=v.l) (by omega) (fun i todo e H'=>e=[(1,.p 2 0),(2,.p 3 0),(14,.i .i64 v.l.length),(15,.i .i64 i)]∧(∀ id,H'.get id=H.get id)∧H'.next=H.next) ?_ ?_ ?_
 ·rintro i x todo e H' hx hd hlt hlt2 hlt3 ⟨rfl,hs,hn⟩
  have c1:=ih x (List.mem_of_getElem? hx) false false
  simp at c1
  rcases hL with⟨_,h0,_⟩|⟨id,c,rfl,hc,h1,h2,h3,h4⟩
  ·omega
  have hr':=(hs 2).trans hr
  have h3':=(hs id).trans h3
  have h5:i*5+5≤v.l.length*5:=by omega
  have hne:¬ id=2:=by omega
  have hp:=put_val hx
  simp at hp
  have hlo:2≤id:=by omega
  clear hlt
  simp -implicitDefEqProofs [L79a,hlt2,hlt3,hx,hr',h3',h5,c1,hne,hlo,hp]
  refine⟨fun j=>?_,hn⟩
  by_cases hj:j=id
  ·subst hj;simp -implicitDefEqProofs [h3]
  ·simp -implicitDefEqProofs [hj,hs]
 ·rintro e H' ⟨rfl,hs,hn⟩
  simp -implicitDefEqProofs [L79a]
  exact hQ _ _ hs hn
 ·simp
theorem t_aown1:∀ b,b<1099511627776→∀ v:Val,v.bulk≤b→∀ t1 t2:Bool,pureR IP G 79 [.ag [.i .i64 v.kind,.i .i64 v.n,.s v.s,.fs t1 false v.l.length (encs v.l),.fs t2 false v.names.length (encs v.names)]]=some (.ag (Enc.cells v)):=by
  intro b
  induction b with
  | zero=>intro _ v h;have:=v.bulk_pos;omega
  | succ b ih =>
    intro hb v hv t1 t2
    rw[Val.bulk_eq] at hv
    have hl1:=bulkL_len v.l
    have hl2:=bulkS_len v.names
    refine pure_run ip79 rfl ?_
    simp -implicitDefEqProofs [I79,hG]
    refine step_clone (lo':=4) (by simp) (by omega) (by omega) (by omega) (by simp -implicitDefEqProofs [hG]) ?_
    intro nv H1 hn1 hN hnew1 hf1
    have hg1:H1.get 2=_:=hf1 2 (by simp -implicitDefEqProofs [hG])
    have hg2:H1.get 3=_:=hf1 3 (by simp -implicitDefEqProofs [hG])
    simp -implicitDefEqProofs [hG] at hg1 hg2 hn1
    simp -implicitDefEqProofs [hg1]
    refine step_clone (lo':=4) (by simp) (by omega) (by omega) (by omega) (by omega) ?_
    intro lv H2 hn2 hL hnew2 hf2
    have hg3:H2.get 2=_:=(hf2 2 (by omega)).trans hg1
    have hg4:H2.get 3=_:=(hf2 3 (by omega)).trans hg2
    obtain⟨o1,o2⟩:=hold_one hN
    obtain⟨o3,o4⟩:=hold_one hL
    simp -implicitDefEqProofs [hg3,o1,o2,o3,o4,hold_len hL]
    have hN2:Hold H2 4 nv 1 v.names.length (encs v.names):=hold_keep hN hn2 fun id c h=>hf2 id (hold_lt hN _ _ _ h).2
    refine t_aown_loop hG v (by omega) lv nv _ (by simp) (hold_keep hL (by simp) fun id c h=>?_) (fun x hx t1 t2=>ih (by omega) x (by have:=bulkL_mem hx;omega) t1 t2) _ ?_
    · have:=hold_lt hL _ _ _ h
      simp -implicitDefEqProofs [show ¬ id=2 by omega]
    · intro b H3 hs hn3
      have e1:H3.get 2=_:=hs 2
      have e2:H3.get 3=_:=hs 3
      simp -implicitDefEqProofs [hg4] at e1 e2
      simp -implicitDefEqProofs [e1,e2]
      simp at hn3
      have f1:=fun o=>hold_frz (k:=14) (hold_in hL (H':=H3.put 3 o) (lo':=2) (by omega) (by simp;omega) fun id h1 h2=>by simp -implicitDefEqProofs [hs,show ¬ id=3 by omega,show ¬ id=2 by omega]) frz_encs
      have f2:=fun o=>hold_frz (k:=14) (hold_in hN2 (H':=H3.put 3 o) (lo':=2) (by omega) (by simp;omega) fun id h1 h2=>by simp -implicitDefEqProofs [hs,show ¬ id=3 by omega,show ¬ id=2 by omega]) frz_encs
      simp -implicitDefEqProofs [f1,f2]
theorem t_aown(v:Val)(hv:v.bulk<1099511627776)(t1 t2:Bool):pureR IP G 79 [.ag [.i .i64 v.kind,.i .i64 v.n,.s v.s,.fs t1 false v.l.length (encs v.l),.fs t2 false v.names.length (encs v.names)]]=some (.ag (Enc.cells v)) :=
 t_aown1 hG v.bulk hv v (Nat.le_refl _) t1 t2
theorem t_lown_loop(v:Val)(hv:v.l.length<1099511627776)(lv nv:AVal)(H:AHeap)(hr:H.get 2=some (.cells [.i .i64 v.kind,.i .i64 v.n,.s v.s,lv,nv] 1 false))(hL:Hold H 4 lv 5 v.l.length (encs v.l))
  (ih:∀ x∈v.l,∀ t1 t2:Bool,pureR IP G 34 [.ag [.i .i64 x.kind,.i .i64 x.n,.s x.s,.fs t1 false x.l.length (encs x.l),.fs t2 false x.names.length (encs x.names)]]=some (.ag (Enc.cells x)))
  (Q:Post) (hQ:∀ b H',(∀ id,H'.get id=H.get id)→H'.next=H.next→Q (.exit 0) [(1,.p 2 0),(2,.p 3 0),(14,.i .i64 v.l.length),(15,.i .i64 v.l.length),(16,b)] H') :
  wp (theCalls IP G 2) 2 (.loop L34a) Q [(1,.p 2 0),(2,.p 3 0),(14,.i .i64 v.l.length),(15,.i .i64 0)] H:=by
 refine wp_loop_list (l:=v.l) (by omega) (fun i todo e H'=>e=[(1,.p 2 0),(2,.p 3 0),(14,.i .i64 v.l.length),(15,.i .i64 i)]∧(∀ id,H'.get id=H.get id)∧H'.next=H.next) ?_ ?_ ?_
 ·rintro i x todo e H' hx hd hlt hlt2 hlt3 ⟨rfl,hs,hn⟩
  have c1:=ih x (List.mem_of_getElem? hx) false false
  simp at c1
  rcases hL with⟨_,h0,_⟩|⟨id,c,rfl,hc,h1,h2,h3,h4⟩
  ·omega
  have hr':=(hs 2).trans hr
  have h3':=(hs id).trans h3
  have h5:i*5+5≤v.l.length*5:=by omega
  have hne:¬ id=2:=by omega
  have hp:=put_val hx
  simp at hp
  have hlo:2≤id:=by omega
  clear hlt
  simp -implicitDefEqProofs [L34a,hlt2,hlt3,hx,hr',h3',h5,c1,hne,hlo,hp]
  refine⟨fun j=>?_,hn⟩
  by_cases hj:j=id
  ·subst hj;simp -implicitDefEqProofs [h3]
  ·simp -implicitDefEqProofs [hj,hs]
 ·rintro e H' ⟨rfl,hs,hn⟩
  simp -implicitDefEqProofs [L34a]
  exact hQ _ _ hs hn
 ·simp
theorem t_lown1:∀ b,b<1099511627776→∀ v:Val,v.bulk≤b→∀ t1 t2:Bool,pureR IP G 34 [.ag [.i .i64 v.kind,.i .i64 v.n,.s v.s,.fs t1 false v.l.length (encs v.l),.fs t2 false v.names.length (encs v.names)]]=some (.ag (Enc.cells v)):=by
  intro b
  induction b with
  | zero=>intro _ v h;have:=v.bulk_pos;omega
  | succ b ih =>
    intro hb v hv t1 t2
    rw[Val.bulk_eq] at hv
    have hl1:=bulkL_len v.l
    have hl2:=bulkS_len v.names
    refine pure_run ip34 rfl ?_
    simp -implicitDefEqProofs [I34,hG]
    refine step_clone (lo':=4) (by simp) (by omega) (by omega) (by omega) (by simp -implicitDefEqProofs [hG]) ?_
    intro nv H1 hn1 hN hnew1 hf1
    have hg1:H1.get 2=_:=hf1 2 (by simp -implicitDefEqProofs [hG])
    have hg2:H1.get 3=_:=hf1 3 (by simp -implicitDefEqProofs [hG])
    simp -implicitDefEqProofs [hG] at hg1 hg2 hn1
    simp -implicitDefEqProofs [hg1]
    refine step_clone (lo':=4) (by simp) (by omega) (by omega) (by omega) (by omega) ?_
    intro lv H2 hn2 hL hnew2 hf2
    have hg3:H2.get 2=_:=(hf2 2 (by omega)).trans hg1
    have hg4:H2.get 3=_:=(hf2 3 (by omega)).trans hg2
    obtain⟨o1,o2⟩:=hold_one hN
    obtain⟨o3,o4⟩:=hold_one hL
    simp -implicitDefEqProofs [hg3,o1,o2,o3,o4,hold_len hL]
    have hN2:Hold H2 4 nv 1 v.names.length (encs v.names):=hold_keep hN hn2 fun id c h=>hf2 id (hold_lt hN _ _ _ h).2
    refine t_lown_loop hG v (by omega) lv nv _ (by simp) (hold_keep hL (by simp) fun id c h=>?_) (fun x hx t1 t2=>ih (by omega) x (by have:=bulkL_mem hx;omega) t1 t2) _ ?_
    · have:=hold_lt hL _ _ _ h
      simp -implicitDefEqProofs [show ¬ id=2 by omega]
    · intro b H3 hs hn3
      have e1:H3.get 2=_:=hs 2
      have e2:H3.get 3=_:=hs 3
      simp -implicitDefEqProofs [hg4] at e1 e2
      simp -implicitDefEqProofs [e1,e2]
      simp at hn3
      have f1:=fun o=>hold_frz (k:=14) (hold_in hL (H':=H3.put 3 o) (lo':=2) (by omega) (by simp;omega) fun id h1 h2=>by simp -implicitDefEqProofs [hs,show ¬ id=3 by omega,show ¬ id=2 by omega]) frz_encs
      have f2:=fun o=>hold_frz (k:=14) (hold_in hN2 (H':=H3.put 3 o) (lo':=2) (by omega) (by simp;omega) fun id h1 h2=>by simp -implicitDefEqProofs [hs,show ¬ id=3 by omega,show ¬ id=2 by omega]) frz_encs
      simp -implicitDefEqProofs [f1,f2]
theorem t_lown(v:Val)(hv:v.bulk<1099511627776)(t1 t2:Bool):pureR IP G 34 [.ag [.i .i64 v.kind,.i .i64 v.n,.s v.s,.fs t1 false v.l.length (encs v.l),.fs t2 false v.names.length (encs v.names)]]=some (.ag (Enc.cells v)) :=
 t_lown1 hG v.bulk hv v (Nat.le_refl _) t1 t2
end
end Go.Proofs.YtbfajkcmehaliacGreatDoor
namespace Go.RI
open Go
theorem bin_sadd{a b:Str}(h:a.length+b.length≤9223372036854775807):binV .add (.s a) (.s b)=some (.s (a++b)):=by
 show binS .add a b=_
 unfold binS
 rw[if_pos h]
theorem bulkL_app:∀ l m:List Val,bulkL (l++m)=bulkL l+bulkL m
 | [],m=>by simp[bulkL]
 | v::l,m=>by simp only[List.cons_append,bulkL,bulkL_app l m];omega
section
variable {call:CallI} {lo:Nat} {xs:List Item} {kill:List Nat} {Q:Post} {dst:Option Nat} {op:IOp} {re:List (Nat×IOp×Option (Nat×Bool))} {e:Env} {H:AHeap}
theorem step_appA{lo' esz bytes n m:Nat}{v:AVal}{cells ys:List AVal}{t f:Bool}(h:Hold H lo' v esz n cells)(hll:lo≤lo')(hlo:lo'≤H.next)(hl:ys.length=m*esz)(he:0<esz)(hb:0<bytes)(hs:(2*(n+m)+192)*bytes≤281474976710656)
  (k:∀(v':AVal) (H':AHeap),H.next≤H'.next→Hold H' lo' v' esz (n+m) (cells++ys)→(∀ id,id<H.next→(∀ id0 n0 c0,v=.sl id0 0 n0 c0→id≠id0)→H'.get id=H.get id)→stepP call lo xs kill Q dst op re e (some (some v',H'))) :
  stepP call lo xs kill Q dst op re e (appR lo H esz bytes (some v) (some (.fs t f m ys))):=by
 by_cases hm:m=0
 ·subst hm
  have hy:ys=[]:=List.eq_nil_of_length_eq_zero (by simpa using hl)
  subst hy
  have hc:appR lo H esz bytes (some v) (some (.fs t f 0 []))=some (some v,H):=by
   rcases h with⟨rfl|rfl,rfl,rfl⟩|⟨id,c,rfl,hc,_⟩
   ·simp[appR,appV,moreV,he,hb]
   ·simp[appR,appV,moreV,he,hb]
   ·rcases hc with rfl|rfl<;>simp[appR,appV,moreV,he,hb]
  rw[hc]
  exact k v H (Nat.le_refl _) (by simpa using h) fun _ _ _=>rfl
 ·refine step_appH h hll hlo (by simp[moreV,hm,hl]) hl he hb hs (by omega) ?_
  intro H' hn hA hf
  exact k _ H' (by omega) hA.hold hf
end
end Go.RI
namespace Go.Proofs.YtbfajkcmehaliacGreatDoor
open Go Go.RI
section
variable {G:AHeap} (hG:G.next=2)
include hG
theorem t_idxV(g:Nat)(p:Val→Bool)(hg:∀ lo l H,theCalls IP G lo g l H=given H ((snaps H l).bind (pureR IP G g)))(l:List Val)(hl:l.length<1099511627776)(hp:∀ v∈l,pureR IP G g [.ag (Enc.cells v)]=some (.b (p v)))(t:Bool):pureR IP G 52 [.fs t false l.length (encs l),.fn (.func g) [] []]=some (.i .i64 (idxF p l 0)):=by
 simp only[snaps_eq] at hg
 refine pure_run ip52 rfl ?_
 simp -implicitDefEqProofs [I52,hG]
 refine wp_loop_list (l:=l) (by omega) (fun i todo e H=>e=[(0,.fs t false l.length (encs l)),(1,.fn (.func g) [] []),(7,.i .i64 l.length),(8,.i .i64 i)]∧H=G∧idxF p l 0=idxF p todo i) ?_ ?_ ?_
 ·rintro i x todo e H hx hd hlt hlt2 hlt3 ⟨rfl,rfl,hn⟩
  have c1:=hp x (List.mem_of_getElem? hx)
  simp at c1
  rw[idxF] at hn
  clear hlt
  simp -implicitDefEqProofs [L52a,hlt2,hlt3,hx,hg,c1,hG]
  refine test_intro ?_ ?_<;>intro h2<;>simp -implicitDefEqProofs [hlt3,hG]
  ·rw[hn,h2];simp
  ·rw[hn,h2];simp
 ·rintro e H ⟨rfl,rfl,hn⟩
  simp -implicitDefEqProofs [L52a,hG]
  rw[hn];rfl
 ·simp -implicitDefEqProofs [hG]
theorem t_anyV(g:Nat)(p:Val→Bool)(hg:∀ lo l H,theCalls IP G lo g l H=given H ((snaps H l).bind (pureR IP G g)))(l:List Val)(hl:l.length<1099511627776)(hp:∀ v∈l,pureR IP G g [.ag (Enc.cells v)]=some (.b (p v)))(t f:Bool):pureR IP G 27 [.fs t f l.length (encs l),.fn (.func g) [] []]=some (.b (l.any p)):=by
 have c1:=t_idxV hG g p hg l hl hp
 refine pure_run ip27 rfl ?_
 simp -implicitDefEqProofs [I27,hG,c1]
 rw[←idxF_any _ l 0 (by omega)]
theorem t_mayNot(v:Val)(hv:v.bulk<1099511627776):pureR IP G 95 [.ag (Enc.cells v)]=some (.b (!mayV v)):=by
 have c1:=t_check hG v hv
 refine pure_run ip95 rfl ?_
 simp -implicitDefEqProofs [I95,hG,c1]
theorem t_may(l:List Val)(hl:bulkL l<1099511627776)(t f:Bool):pureR IP G 73 [.fs t f l.length (encs l)]=some (.b (l.all mayV)):=by
 have c1:=t_anyV hG 95 (fun v=>!mayV v) (fun lo l H=>pu95) l (by have:=bulkL_len l;omega) (fun v hv=>t_mayNot hG v (by have:=bulkL_mem hv;omega))
 have e:(l.any fun v=>!mayV v)=!(l.all mayV):=by simp -implicitDefEqProofs [List.not_all_eq_any_not]
 rw[e] at c1
 refine pure_run ip73 rfl ?_
 simp -implicitDefEqProofs [I73,hG,c1]
end
end Go.Proofs.YtbfajkcmehaliacGreatDoor
namespace Go.Proofs.YtbfajkcmehaliacGreatDoor
open Go Go.RI
section
variable {G:AHeap} (hG:G.next=2)
include hG
theorem t_anum(n:Int):pureR IP G 80 [.i .i64 n]=some (.ag (Enc.cells (numV n))):=by
 refine pure_run ip80 rfl ?_
 simp -implicitDefEqProofs [I80,hG,numV]
theorem t_ayes(b:Bool):pureR IP G 74 [.b b]=some (.ag (Enc.cells (yesV b))):=by
 refine pure_run ip74 rfl ?_
 cases b<;>simp -implicitDefEqProofs [I74,hG,yesV]
theorem t_amade(v:Val)(hv:v.bulk<1099511627776)(t1 t2:Bool):pureR IP G 90 [.ag [.i .i64 v.kind,.i .i64 v.n,.s v.s,.fs t1 false v.l.length (encs v.l),.fs t2 false v.names.length (encs v.names)]]=some (.tu [.ag (Enc.cells (madeV v).1),.i .i64 (madeV v).2]):=by
 have c1:=t_check hG v hv t1 t2
 have c2:=t_aown hG v hv t1 t2
 refine pure_run ip90 rfl ?_
 cases hm:mayV v
 ·simp -implicitDefEqProofs [hm] at c1
  simp -implicitDefEqProofs [I90,hG,c1,madeV,hm,zeroVal]
 ·simp -implicitDefEqProofs [hm] at c1 c2
  simp -implicitDefEqProofs [I90,hG,c1,c2,madeV,hm]
set_option maxHeartbeats 1000000 in
theorem t_aints(op a b:Int):pureR IP G 76 [.i .i64 op,.i .i64 a,.i .i64 b]=some (.tu [.ag (Enc.cells (intsV op a b).1),.i .i64 (intsV op a b).2]):=by
 have n1:=fun n=>t_anum hG n
 simp at n1
 by_cases h9:op=9
 ·subst h9
  refine pure_run ip76 rfl ?_
  simp -implicitDefEqProofs [I76,hG,n1,intsV]
 by_cases h10:op=10
 ·subst h10
  refine pure_run ip76 rfl ?_
  simp -implicitDefEqProofs [I76,hG,n1,intsV]
 by_cases h11:op=11
 ·subst h11
  refine pure_run ip76 rfl ?_
  simp -implicitDefEqProofs [I76,hG,n1,intsV]
 by_cases h17:op=17
 ·subst h17
  by_cases hab:a=b
  ·subst hab
   have e1:(intsV 17 a a)=(yesV true,0):=by simp -implicitDefEqProofs [intsV]
   rw[e1]
   have y2:=t_ayes hG true
   generalize yesV true=w at y2 ⊢
   simp at y2
   refine pure_run ip76 rfl ?_
   simp -implicitDefEqProofs [I76,hG,y2]
  ·have e:decide (a≤b)=decide (a<b):=by rw[Bool.eq_iff_iff];simp;omega
   have e1:(intsV 17 a b)=(yesV (decide (a<b)),0):=by rw[←e];simp -implicitDefEqProofs [intsV]
   rw[e1]
   have y2:=t_ayes hG (decide (a<b))
   clear e e1
   generalize yesV (decide (a<b))=w at y2 ⊢
   simp at y2
   refine pure_run ip76 rfl ?_
   simp -implicitDefEqProofs [I76,hG,y2,hab]
 by_cases h16:op=16
 ·subst h16
  have e1:(intsV 16 a b)=(yesV (decide (a<b)),0):=by simp -implicitDefEqProofs [intsV]
  rw[e1]
  have y2:=t_ayes hG (decide (a<b))
  generalize yesV (decide (a<b))=w at y2 ⊢
  simp at y2
  refine pure_run ip76 rfl ?_
  simp -implicitDefEqProofs [I76,hG,y2]
 by_cases h12:op=12
 ·subst h12
  by_cases hb:b=0
  ·subst hb
   refine pure_run ip76 rfl ?_
   simp -implicitDefEqProofs [I76,hG,intsV,zeroVal]
  ·refine pure_run ip76 rfl ?_
   simp -implicitDefEqProofs [I76,hG,n1,intsV,hb]
 by_cases h13:op=13
 ·subst h13
  by_cases hb:b=0
  ·subst hb
   refine pure_run ip76 rfl ?_
   simp -implicitDefEqProofs [I76,hG,intsV,zeroVal]
  ·refine pure_run ip76 rfl ?_
   simp -implicitDefEqProofs [I76,hG,n1,intsV,hb]
 refine pure_run ip76 rfl ?_
 simp -implicitDefEqProofs [I76,hG,intsV,h9,h10,h11,h17,h16,h12,h13,zeroVal]
set_option maxHeartbeats 1000000 in
theorem t_atexts(op:Int)(a b:Str)(ha:a.length+b.length<549755813888):pureR IP G 77 [.i .i64 op,.s a,.s b]=some (.tu [.ag (Enc.cells (textsV op a b).1),.i .i64 (textsV op a b).2]):=by
 have m1:=t_amade hG (.mk 3 0 (a++b) [] []) (by rw[Val.bulk_eq];simp -implicitDefEqProofs [bulkL,bulkS];omega) false false
 simp at m1
 by_cases h9:op=9
 ·subst h9
  refine pure_run ip77 rfl ?_
  simp -implicitDefEqProofs [I77,hG,m1,textsV,bin_sadd (a:=a) (b:=b) (by omega)]
 by_cases h17:op=17
 ·subst h17
  by_cases hab:a=b
  ·subst hab
   have e1:(textsV 17 a a)=(yesV true,0):=by simp -implicitDefEqProofs [textsV,leS]
   rw[e1]
   have y2:=t_ayes hG true
   generalize yesV true=w at y2 ⊢
   simp at y2
   refine pure_run ip77 rfl ?_
   simp -implicitDefEqProofs [I77,hG,y2]
  ·have hbe:(a==b)=false:=by simpa using hab
   have e1:(textsV 17 a b)=(yesV (ltB a b),0):=by simp -implicitDefEqProofs [textsV,leS,hbe]
   rw[e1]
   have y2:=t_ayes hG (ltB a b)
   generalize yesV (ltB a b)=w at y2 ⊢
   simp at y2
   refine pure_run ip77 rfl ?_
   simp -implicitDefEqProofs [I77,hG,y2,hbe]
 by_cases h16:op=16
 ·subst h16
  have e1:(textsV 16 a b)=(yesV (ltB a b),0):=by simp -implicitDefEqProofs [textsV]
  rw[e1]
  have y2:=t_ayes hG (ltB a b)
  generalize yesV (ltB a b)=w at y2 ⊢
  simp at y2
  refine pure_run ip77 rfl ?_
  simp -implicitDefEqProofs [I77,hG,y2]
 refine pure_run ip77 rfl ?_
 simp -implicitDefEqProofs [I77,hG,textsV,h9,h17,h16,zeroVal]
end
end Go.Proofs.YtbfajkcmehaliacGreatDoor
namespace Go.Proofs.YtbfajkcmehaliacGreatDoor
open Go Go.RI
section
variable {G:AHeap} (hG:G.next=2)
include hG
set_option maxHeartbeats 1000000 in
theorem t_unary(op:Int)(a:Val)(ha:a.bulk<549755813888):pureR IP G 33 [.i .i64 op,.ag [.i .i64 a.kind,.i .i64 a.n,.s a.s,.fs false false a.l.length (encs a.l),.fs false false a.names.length (encs a.names)]]=some (.tu [.ag (Enc.cells (unaryV op a).1),.i .i64 (unaryV op a).2.1,.i .i64 (unaryV op a).2.2]):=by
 have n1:=fun n=>t_anum hG n
 have m1:=t_may hG [a] (by simp -implicitDefEqProofs [bulkL];omega) true false
 have hb:=ha
 rw[Val.bulk_eq] at hb
 have hbl:=bulkL_len a.l
 have w1:wrapI .i64 ((a.s.length:Int)+a.l.length)=(a.s.length:Int)+a.l.length:=wrap_ok (by omega) (by omega)
 simp at n1 m1
 unfold unaryV
 cases hm:mayV a
 ·simp -implicitDefEqProofs [hm] at m1
  refine pure_run ip33 rfl ?_
  simp -implicitDefEqProofs [I33,hG,zeroVal,m1]
 ·simp -implicitDefEqProofs [hm] at m1
  by_cases h6:op=6
  ·subst h6
   by_cases hk:a.kind=1
   ·simp only[hk] at m1
    refine pure_run ip33 rfl ?_
    simp -implicitDefEqProofs [I33,hG,n1,m1,hk]
   ·refine pure_run ip33 rfl ?_
    simp -implicitDefEqProofs [I33,hG,zeroVal,n1,m1,hk]
  by_cases h7:op=7
  ·subst h7
   have y2:=t_ayes hG (decide (a.n=0))
   obtain⟨w,hw⟩:∃ w,w=yesV (decide (a.n=0)):=⟨_,rfl⟩
   rw[←hw] at y2 ⊢
   clear hw
   simp at y2
   by_cases hk:a.kind=2
   ·simp only[hk] at m1
    refine pure_run ip33 rfl ?_
    simp -implicitDefEqProofs [I33,hG,y2,m1,hk]
   ·refine pure_run ip33 rfl ?_
    simp -implicitDefEqProofs [I33,hG,zeroVal,y2,m1,hk]
  by_cases h8:op=8
  ·subst h8
   by_cases hk:a.kind=3
   ·simp only[hk] at m1
    refine pure_run ip33 rfl ?_
    simp -implicitDefEqProofs [I33,hG,n1,m1,hk,w1]
   ·by_cases hk4:a.kind=4
    ·simp only[hk4] at m1
     refine pure_run ip33 rfl ?_
     simp -implicitDefEqProofs [I33,hG,n1,m1,hk,hk4,w1]
    ·refine pure_run ip33 rfl ?_
     simp -implicitDefEqProofs [I33,hG,zeroVal,n1,m1,hk,hk4,w1]
  ·refine pure_run ip33 rfl ?_
   simp -implicitDefEqProofs [I33,hG,zeroVal,m1,h6,h7,h8]
theorem t_longer(a:Val)(more:List Val)(ha:a.bulk<274877906944)(hm:bulkL more<274877906944)(t1 t2 t f:Bool):pureR IP G 78 [.ag [.i .i64 a.kind,.i .i64 a.n,.s a.s,.fs t1 false a.l.length (encs a.l),.fs t2 false a.names.length (encs a.names)],.fs t f more.length (encs more)]=some (.tu [.ag (Enc.cells (longerV a more).1),.i .i64 (longerV a more).2]):=by
 have hb:=ha
 rw[Val.bulk_eq] at hb
 have hbl:=bulkL_len a.l
 have hml:=bulkL_len more
 refine pure_run ip78 rfl ?_
 simp -implicitDefEqProofs [I78,hG]
 refine step_clone (lo':=4) (by simp) (by omega) (by omega) (by omega) (by simp -implicitDefEqProofs [hG]) ?_
 intro lv H1 hn1 hL hnew1 hf1
 simp -implicitDefEqProofs [hG] at hn1 hf1
 simp -implicitDefEqProofs [hf1]
 refine step_appA hL (by omega) (by omega) (by simp) (by omega) (by omega) (by omega) ?_
 intro v2 H2 hn2 hL2 hf2
 have g1:=hf2 3 (by omega) (fun id0 n0 c0 hv=>by have:=(hold_lt hL _ _ _ hv).1;omega)
 rw[hf1 _ (by omega)] at g1
 simp at g1
 obtain⟨o1,o2⟩:=hold_one hL2
 rw[←encs_append] at hL2
 obtain⟨fl,s1⟩:∃ fl,snapV H2 15 v2=some (.fs fl false (a.l.length+more.length) (encs (a.l++more))):=⟨_,hold_snap (k:=14) hL2 snap_encs⟩
 have m1:=t_amade hG (.mk 4 0 [] (a.l++more) []) (by rw[Val.bulk_eq];simp -implicitDefEqProofs [bulkL_app,bulkS];omega) fl false
 simp at m1 s1
 simp -implicitDefEqProofs [g1,o1,o2,s1,m1,longerV]
theorem t_alist(l:List Val)(hl:bulkL l<274877906944)(t:Bool):pureR IP G 55 [.fs t false l.length (encs l)]=some (.tu [.ag (Enc.cells (listV l).1),.i .i64 (listV l).2.1,.i .i64 (listV l).2.2]):=by
 have m1:=t_may hG l (by omega) t false
 have m2:=t_amade hG (.mk 4 0 [] l []) (by rw[Val.bulk_eq];simp -implicitDefEqProofs [bulkS];omega) t false
 simp at m2
 unfold listV
 cases hm:l.all mayV
 ·rw[hm] at m1
  refine pure_run ip55 rfl ?_
  simp -implicitDefEqProofs [I55,hG,m1,zeroVal]
 ·rw[hm] at m1
  refine pure_run ip55 rfl ?_
  simp -implicitDefEqProofs [I55,hG,m1,m2]
theorem t_anamed(ns:List Str)(hns:bulkS ns<549755813888)(t:Bool):pureR IP G 91 [.fs t false ns.length (encs ns)]=some (.b (recordS ns)):=by
  have hl:=bulkS_len ns
  by_cases h:(ns.length:Int)≤8
  · have c1:=fun t1=>t_check hG (.mk 5 0 [] (List.replicate ns.length zeroVal) ns) (by rw[Val.bulk_eq];simp -implicitDefEqProofs [bulk_rep];omega) t1 t
    simp only[Val.kind_mk,Val.n_mk,Val.s_mk,Val.l_mk,Val.names_mk,List.length_replicate] at c1
    have e:recordS ns=mayV (.mk 5 0 [] (List.replicate ns.length zeroVal) ns):=by unfold recordS;rw[decide_eq_true h];rfl
    rw[e]
    obtain⟨b,hb⟩:∃ b,b=mayV (.mk 5 0 [] (List.replicate ns.length zeroVal) ns):=⟨_,rfl⟩
    rw[←hb] at c1 ⊢
    clear hb e
    have h1:ns.length≤8:=by omega
    have h2:(80:Int)*ns.length≤281474976710656:=by omega
    have h3:(0:Int)≤ns.length:=by omega
    cases hn:ns with
    | nil =>
      subst hn
      have c1:=c1 false
      simp at c1
      refine pure_run ip91 rfl ?_
      cases b<;>simp at c1<;>simp -implicitDefEqProofs [I91,hG,c1,repCells]
    | cons a l =>
      rw[←hn]
      have h0:ns≠[]:=by rw[hn];simp
      have c1:=c1 true
      refine pure_run ip91 rfl ?_
      cases b<;>simp at c1<;>simp -implicitDefEqProofs [I91,hG,h,h1,h2,h0,rep_len,snap_rep,c1]
  · have h2:(80:Int)*ns.length≤281474976710656:=by omega
    refine pure_run ip91 rfl ?_
    simp -implicitDefEqProofs [I91,hG,h,h2,recordS]
theorem t_arec(ns:List Str)(l:List Val)(hns:bulkS ns<549755813888)(hl:bulkL l<274877906944)(t1 t2:Bool):pureR IP G 57 [.fs t1 false ns.length (encs ns),.fs t2 false l.length (encs l)]=some (.tu [.ag (Enc.cells (recV ns l).1),.i .i64 (recV ns l).2.1,.i .i64 (recV ns l).2.2]):=by
 have c1:=t_anamed hG ns (by omega)
 have m1:=t_may hG l (by omega) t2 false
 have m2:=t_amade hG (.mk 5 0 [] l ns) (by rw[Val.bulk_eq];simp;omega) t2 t1
 have hll:=bulkL_len l
 have hnl:=bulkS_len ns
 simp at m2
 unfold recV
 cases hr:recordS ns
 ·rw[hr] at c1
  refine pure_run ip57 rfl ?_
  simp -implicitDefEqProofs [I57,hG,c1,zeroVal]
 ·rw[hr] at c1
  by_cases hlen:l.length=ns.length
  ·cases hm:l.all mayV
   ·rw[hm] at m1
    rw[hlen] at m1
    refine pure_run ip57 rfl ?_
    simp -implicitDefEqProofs [I57,hG,c1,m1,hlen,zeroVal]
   ·rw[hm] at m1
    rw[hlen] at m1 m2
    refine pure_run ip57 rfl ?_
    simp -implicitDefEqProofs [I57,hG,c1,m1,m2,hlen]
  ·have hle:¬(l.length:Int)=ns.length:=by omega
   refine pure_run ip57 rfl ?_
   simp -implicitDefEqProofs [I57,hG,c1,hlen,hle,zeroVal]
end
end Go.Proofs.YtbfajkcmehaliacGreatDoor
namespace Go.Proofs.YtbfajkcmehaliacGreatDoor
open Go Go.RI
section
variable {G:AHeap} (hG:G.next=2)
include hG
set_option maxHeartbeats 4000000 in
theorem t_binary(op:Int)(a b:Val)(ha:a.bulk<137438953472)(hb:b.bulk<137438953472):pureR IP G 32 [.i .i64 op,.ag [.i .i64 a.kind,.i .i64 a.n,.s a.s,.fs false false a.l.length (encs a.l),.fs false false a.names.length (encs a.names)],.ag [.i .i64 b.kind,.i .i64 b.n,.s b.s,.fs false false b.l.length (encs b.l),.fs false false b.names.length (encs b.names)]] =
  some (.tu [.ag (Enc.cells (binaryV op a b).1),.i .i64 (binaryV op a b).2.1,.i .i64 (binaryV op a b).2.2]):=by
 have hba:=ha
 have hbb:=hb
 rw[Val.bulk_eq] at hba hbb
 have m1:=t_may hG [a,b] (by simp -implicitDefEqProofs [bulkL];omega) true false
 have s1:=t_same hG a b (by omega) false false false false
 simp at m1
 unfold binaryV
 by_cases hlow:op<9
 ·refine pure_run ip32 rfl ?_
  simp -implicitDefEqProofs [I32,hG,hlow,zeroVal]
 by_cases hhigh:19<op
 ·refine pure_run ip32 rfl ?_
  simp -implicitDefEqProofs [I32,hG,hlow,hhigh,zeroVal]
 cases hmay:(mayV a&&mayV b)
 ·have hno:mayV a=false∨mayV b=false:=by cases h1:mayV a<;>cases h2:mayV b<;>simp_all
  rw[if_pos (.inr (.inr hno))]
  rw[hmay] at m1
  refine pure_run ip32 rfl ?_
  simp -implicitDefEqProofs [I32,hG,hlow,hhigh,m1,zeroVal]
 rw[hmay] at m1
 simp only[Bool.and_eq_true] at hmay
 rw[if_neg (by simp -implicitDefEqProofs [hlow,hhigh,hmay.1,hmay.2])]
 have hno:¬(op<9):=hlow
 unfold binV2
 by_cases h14:op=14
 ·subst h14
  obtain⟨w,hw⟩:∃ w,w=sameV a b:=⟨_,rfl⟩
  rw[←hw] at s1 ⊢
  have y2:=t_ayes hG w
  obtain⟨y,hy⟩:∃ y,y=yesV w:=⟨_,rfl⟩
  rw[←hy] at y2 ⊢
  clear hy hw
  simp at y2
  refine pure_run ip32 rfl ?_
  simp -implicitDefEqProofs [I32,hG,m1,s1,y2]
 by_cases h15:op=15
 ·subst h15
  obtain⟨w,hw⟩:∃ w,w=sameV a b:=⟨_,rfl⟩
  rw[←hw] at s1 ⊢
  have y2:=t_ayes hG (!w)
  obtain⟨y,hy⟩:∃ y,y=yesV (!w):=⟨_,rfl⟩
  rw[←hy] at y2 ⊢
  clear hy hw
  simp at y2
  refine pure_run ip32 rfl ?_
  simp -implicitDefEqProofs [I32,hG,m1,s1,y2]
 rw[if_neg h14,if_neg h15]
 by_cases k11:a.kind=1∧b.kind=1
 ·have i1:=t_aints hG op a.n b.n
  rw[if_pos k11]
  simp only[k11.1,k11.2] at m1
  simp at i1
  refine pure_run ip32 rfl ?_
  simp -implicitDefEqProofs [I32,hG,hlow,hhigh,m1,i1,h14,h15,k11]
 by_cases k33:a.kind=3∧b.kind=3
 ·have i1:=t_atexts hG op a.s b.s (by omega)
  rw[if_neg k11,if_pos k33]
  simp only[k33.1,k33.2] at m1
  simp at i1
  refine pure_run ip32 rfl ?_
  simp -implicitDefEqProofs [I32,hG,hlow,hhigh,m1,i1,h14,h15,k33]
 rw[if_neg k11,if_neg k33]
 have d11:(decide (a.kind=1)&&decide (b.kind=1))=false:=by rw[←Bool.decide_and];exact decide_eq_false k11
 have d33:(decide (a.kind=3)&&decide (b.kind=3))=false:=by rw[←Bool.decide_and];exact decide_eq_false k33
 by_cases k18:op=18∧a.kind=4
 ·obtain⟨rfl,k4⟩:=k18
  have l1:=t_longer hG a [b] (by omega) (by simp -implicitDefEqProofs [bulkL];omega) false false true false
  rw[if_pos ⟨rfl,k4⟩]
  simp only[k4] at m1 l1
  simp at l1
  have d1:¬ a.kind=1:=by omega
  have d3:¬ a.kind=3:=by omega
  refine pure_run ip32 rfl ?_
  simp -implicitDefEqProofs [I32,hG,m1,l1,k4]
 rw[if_neg k18]
 by_cases k9:op=9∧a.kind=4∧b.kind=4
 ·obtain⟨rfl,k4,k5⟩:=k9
  have l1:=t_longer hG a b.l (by omega) (by omega) false false false false
  rw[if_pos ⟨rfl,k4,k5⟩]
  simp only[k4,k5] at m1 l1
  simp at l1
  refine pure_run ip32 rfl ?_
  simp -implicitDefEqProofs [I32,hG,m1,l1,k4,k5]
 rw[if_neg k9]
 by_cases k19:op=19∧a.kind=4∧b.kind=1
 ·obtain⟨rfl,k4,k5⟩:=k19
  rw[if_pos ⟨rfl,k4,k5⟩]
  simp only[k4,k5] at m1
  by_cases hi:0≤b.n∧b.n<a.l.length
  ·obtain⟨x,hx⟩:=get_of_lt (l:=a.l) (i:=b.n.toNat) (by omega)
   have o1:=t_aown hG x (by have:=bulkL_mem (List.mem_of_getElem? hx);omega) false false
   have h1:¬ b.n<0:=by omega
   have h2:¬(a.l.length:Int)≤b.n:=by omega
   rw[if_pos hi,hx]
   have hx2:a.l[b.n.toNat]'(by omega)=x:=by rw[List.getElem?_eq_getElem (by omega)] at hx;exact Option.some.inj hx
   simp at o1
   refine pure_run ip32 rfl ?_
   simp -implicitDefEqProofs [I32,hG,m1,o1,k4,k5,h1,h2,hi.1,hi.2,hx,hx2]
  ·rw[if_neg hi]
   by_cases h1:b.n<0
   ·refine pure_run ip32 rfl ?_
    simp -implicitDefEqProofs [I32,hG,m1,k4,k5,h1,zeroVal]
   ·have h2:(a.l.length:Int)≤b.n:=by omega
    refine pure_run ip32 rfl ?_
    simp -implicitDefEqProofs [I32,hG,m1,k4,k5,h1,h2,zeroVal]
 rw[if_neg k19]
 by_cases o18:op=18
 ·subst o18
  have d4:¬ a.kind=4:=fun h=>k18 ⟨rfl,h⟩
  refine pure_run ip32 rfl ?_
  simp -implicitDefEqProofs [I32,hG,m1,d11,d33,d4,zeroVal]
 by_cases o9:op=9
 ·subst o9
  have d44:(decide (a.kind=4)&&decide (b.kind=4))=false:=by rw[←Bool.decide_and];exact decide_eq_false fun h=>k9 ⟨rfl,h.1,h.2⟩
  refine pure_run ip32 rfl ?_
  simp -implicitDefEqProofs [I32,hG,m1,d11,d33,d44,zeroVal]
 by_cases o19:op=19
 ·subst o19
  have d41:(decide (a.kind=4)&&decide (b.kind=1))=false:=by rw[←Bool.decide_and];exact decide_eq_false fun h=>k19 ⟨rfl,h.1,h.2⟩
  refine pure_run ip32 rfl ?_
  simp -implicitDefEqProofs [I32,hG,m1,d11,d33,d41,zeroVal]
 refine pure_run ip32 rfl ?_
 simp -implicitDefEqProofs [I32,hG,hlow,hhigh,m1,h14,h15,o18,o9,o19,d11,d33,zeroVal]
end
end Go.Proofs.YtbfajkcmehaliacGreatDoor
namespace Go.RI
open Go
theorem ltB_irrefl(a:Str):ltB a a=false:=by
 cases h:ltB a a with
 | false=>rfl
 | true=>have:=ltB_asym a a h;rw[h] at this;cases this
theorem ltB_trans:∀ a b c:Str,ltB a b=true→ltB b c=true→ltB a c=true
  | _,[],_,h,_=>by simp[ltB] at h
  | _,_::_,[],_,h=>by simp[ltB] at h
  | [],_::_,_::_,_,_=>by simp[ltB]
  | a::x,b::y,c::z,h1,h2=>by
    simp only[ltB,Bool.or_eq_true,Bool.and_eq_true,decide_eq_true_eq,beq_iff_eq] at h1 h2 ⊢
    rcases h1 with h1|⟨rfl,h1⟩
    · rcases h2 with h2|⟨rfl,h2⟩
      · left;exact Nat.lt_trans h1 h2
      · left;exact h1
    · rcases h2 with h2|⟨rfl,h2⟩
      · left;exact h2
      · right;exact⟨rfl,ltB_trans x y z h1 h2⟩
def Rises(ns:List Str):Prop:=∀(i j:Nat) (x y:Str),i<j→ns[i]?=some x→ns[j]?=some y→ltB x y=true
theorem rising_above:∀(l:List Str) (last:Str),rising last l=true→∀ s∈l,ltB last s=true
  | [],_,_,s,h=>by cases h
  | a::l,last,h,s,hs=>by
    simp only[rising,Bool.and_eq_true,Bool.not_eq_true',Bool.or_eq_false_iff,leS] at h
    obtain⟨⟨⟨h1,h2⟩,_⟩,h3⟩:=h
    have hne:¬ a=last:=by intro e;subst e;simp at h2
    have hlt:ltB last a=true:=by
      rcases ltB_total a last hne with h|h
      · rw[h1] at h;cases h
      · exact h
    rcases List.mem_cons.1 hs with rfl|hs
    · exact hlt
    · exact ltB_trans _ _ _ hlt (rising_above l a h3 s hs)
theorem rises_of:∀(l:List Str) (last:Str),rising last l=true→Rises l
  | [],_,_=>by intro i j x y _ h;simp at h
  | a::l,last,h=>by
    have h3:rising a l=true:=by simp only[rising,Bool.and_eq_true] at h;exact h.2
    intro i j x y hij hx hy
    cases j with
    | zero=>omega
    | succ j =>
      simp at hy
      cases i with
      | zero=>simp at hx;subst hx;exact rising_above l a h3 y (List.mem_of_getElem? hy)
      | succ i=>simp at hx;exact rises_of l a h3 i j x y (by omega) hx hy
theorem find_some:∀ {ns:List Str} {s:Str} {i:Nat},ns[i]?=some s→(∀ k x,k<i→ns[k]?=some x→ltB x s=true)→ns.findIdx? (·==s)=some i
  | [],_,i,h,_=>by simp at h
  | a::ns,s,0,h,_=>by simp at h;subst h;simp[List.findIdx?_cons]
  | a::ns,s,i+1,h,hl=>by
    simp at h
    have ha:(a==s)=false:=by
      have:=hl 0 a (by omega) rfl
      cases he:(a==s) with
      | false=>rfl
      | true=>rw[beq_iff_eq] at he;subst he;rw[ltB_irrefl] at this;cases this
    rw[List.findIdx?_cons,find_some h fun k x hk hx=>hl (k+1) x (by omega) (by simpa using hx)]
    simp[ha]
theorem find_none{ns:List Str}{s:Str}{i:Nat}(hr:Rises ns)(hlo:∀ k x,k<i→ns[k]?=some x→ltB x s=true)(hhi:∀ k x,i≤k→ns[k]?=some x→ltB x s=false)(hne:∀ x,ns[i]?=some x→x≠s):ns.findIdx? (·==s)=none:=by
  rw[List.findIdx?_eq_none_iff]
  intro x hx
  obtain⟨k,hk⟩:=List.mem_iff_getElem?.1 hx
  cases he:(x==s) with
  | false=>rfl
  | true =>
    rw[beq_iff_eq] at he
    subst he
    exfalso
    rcases Nat.lt_trichotomy k i with h|h|h
    · have:=hlo k x h hk;rw[ltB_irrefl] at this;cases this
    · subst h;exact hne x hk rfl
    · have hi:i<ns.length:=by
        have:k<ns.length:=by
          rcases Nat.lt_or_ge k ns.length with h1|h1
          · exact h1
          · rw[List.getElem?_eq_none h1] at hk;cases hk
        omega
      obtain⟨y,hy⟩:=get_of_lt hi
      have h1:=hr i k y x h hy hk
      have h2:=hhi i y (Nat.le_refl _) hy
      rw[h1] at h2;cases h2
theorem may_rec{v:Val}(h:mayV v=true)(hk:v.kind=5):v.l.length=v.names.length∧v.names.length≤8∧Rises v.names:=by
 unfold mayV at h
 rw[fitsV_eq] at h
 split at h
 ·cases h
 ·rename_i hc
  have ho:ownV v=true:=by
   cases ho:ownV v with
   | true=>rfl
   | false=>exact absurd (.inr (.inr ho)) hc
  unfold ownV at ho
  simp[hk] at ho
  obtain⟨⟨⟨⟨h1,h2⟩,h3⟩,_⟩,h4⟩:=ho
  exact⟨by omega,by omega,rises_of _ _ h4⟩
theorem wrap_nu{m:Nat}(h:m<4611686018427387904):wrapI .u64 (m:Int)=(m:Int):=by
 obtain⟨I,hI⟩:∃ I:Int,I=m:=⟨_,rfl⟩
 rw[←hI]
 exact wrapI_u64 (by omega) (by omega)
theorem wrap_ni{m:Nat}(h:m<4611686018427387904):wrapI .i64 (m:Int)=(m:Int):=by
 obtain⟨I,hI⟩:∃ I:Int,I=m:=⟨_,rfl⟩
 rw[←hI]
 exact wrap_ok (by omega) (by omega)
theorem half_nat(n:Nat):binV .shr (.i .u64 (n:Int)) (.i .u64 1)=some (.i .u64 ((n / 2:Nat):Int)):=by
 show some (AVal.i IntKind.u64 (Int.fdiv (n:Int) (2 ^ 1)))=_
 rw[Int.fdiv_eq_ediv_of_nonneg _ (by decide)]
 rfl
def shpOk:Shp→Prop:=fun s=>(s.kind=4→s.l.length=1)∧(s.kind=5→s.l.length=s.names.length)
mutual
def deepOk:Shp→Prop
 | .mk k ns l=>((k=4→l.length=1)∧(k=5→l.length=ns.length))∧deepOkL l
def deepOkL:List Shp→Prop
 | []=>True
 | s::l=>deepOk s∧deepOkL l
end
theorem deepL_iff:∀ l:List Shp,deepOkL l↔∀ s∈l,deepOk s
 | []=>by simp[deepOkL]
 | s::l=>by simp[deepOkL,deepL_iff l]
theorem deep_eq(s:Shp):deepOk s↔shpOk s∧∀ x∈s.l,deepOk x:=by
 cases s
 simp only[deepOk,shpOk,deepL_iff,Shp.kind_mk,Shp.l_mk,Shp.names_mk]
theorem kindOf_le(w:Str):kindOf w≠4∧kindOf w≠5:=by
 unfold kindOf
 repeat' split
 all_goals omega
theorem read_deep:∀ f,(∀ t:Str,deepOk (readF f t).1)∧(∀(ns:List Str) (l:List Shp) (t:Str),l.length=ns.length→(∀ x∈l,deepOk x)→deepOk (recF f ns l t).1):=by
  intro f
  induction f with
  | zero =>
    have hz:deepOk ⟨0,[],[]⟩:=by simp[deepOk,deepOkL]
    exact⟨fun t=>by rw[readF];exact hz,fun ns l t _ _=>by rw[recF];exact hz⟩
  | succ f ih =>
    obtain⟨ih1,ih2⟩:=ih
    constructor
    · intro t
      rw[readF]
      split
      · rw[deep_eq]
        simp only[shpOk,Shp.kind_mk,Shp.l_mk,Shp.names_mk]
        exact⟨⟨fun _=>rfl,fun h=>by simp at h⟩,fun x hx=>by simp at hx;subst hx;exact ih1 _⟩
      · split
        · simp[deepOk,deepOkL]
        · split
          · exact ih2 [] [] _ rfl (fun x hx=>by cases hx)
          · have:=kindOf_le (t.take (wordN t))
            simp only[deepOk,deepOkL]
            exact⟨⟨fun h=>absurd h this.1,fun h=>absurd h this.2⟩,trivial⟩
    · intro ns l t hl hd
      have hz:deepOk ⟨0,[],[]⟩:=by simp[deepOk,deepOkL]
      have hadd:∀ x∈l++[(readF f (cutC t 58).2.1).1],deepOk x:=by
        intro x hx
        rcases List.mem_append.1 hx with h|h
        · exact hd x h
        · simp at h;subst h;exact ih1 _
      rw[recF]
      split
      · exact hz
      · split
        · rw[deep_eq]
          simp only[shpOk,Shp.kind_mk,Shp.l_mk,Shp.names_mk]
          exact⟨⟨fun h=>by simp at h,fun _=>by simp[hl]⟩,hadd⟩
        · split
          · exact ih2 _ _ _ (by simp[hl]) hadd
          · exact hz
theorem typed_deep(t:Str):deepOk (typedS t).1:=by
 unfold typedS
 split
 ·simp[deepOk,deepOkL]
 ·exact(read_deep _).1 t
end Go.RI
namespace Go.Proofs.YtbfajkcmehaliacGreatDoor
open Go Go.RI
section
variable {G:AHeap} (hG:G.next=2)
include hG
theorem t_nan1(a:Str):pureR IP G 112 [.s a]=some (.b false):=by
 refine pure_run ip112 rfl ?_
 simp -implicitDefEqProofs [I112,hG]
theorem t_nan2(a:Str):pureR IP G 103 [.s a]=some (.b false):=by
 refine pure_run ip103 rfl ?_
 simp -implicitDefEqProofs [I103,hG]
theorem t_less(a b:Str):pureR IP G 102 [.s a,.s b]=some (.b (ltB a b)):=by
 have c1:=fun a=>t_nan1 hG a
 refine pure_run ip102 rfl ?_
 simp -implicitDefEqProofs [I102,hG,c1]
theorem t_bsearch(ns:List Str)(hr:Rises ns)(hl:ns.length≤1000)(s:Str)(t:Bool):∃(i:Nat) (b:Bool),pureR IP G 92 [.fs t false ns.length (encs ns),.s s]=some (.tu [.i .i64 i,.b b])∧(b=true→ns.findIdx? (·==s)=some i∧i<ns.length)∧(b=false→ns.findIdx? (·==s)=none):=by
  have key:∃ u H,(∃ n,bodyI (exec IP G n) I92 G.next [.fs t false ns.length (encs ns),.s s] G=some (u,H))∧∃(i:Nat) (b:Bool),frzV H G.next 16 u=some (.tu [.i .i64 i,.b b])∧((b=true→ns.findIdx? (·==s)=some i∧i<ns.length)∧(b=false→ns.findIdx? (·==s)=none)):=by
    obtain⟨n,u,H1,hb,hv⟩:=body_wp (fn:=I92) (R:=fun u H=>∃(i:Nat) (b:Bool),frzV H G.next 16 u=some (.tu [.i .i64 i,.b b])∧((b=true→ns.findIdx? (·==s)=some i∧i<ns.length)∧(b=false→ns.findIdx? (·==s)=none))) (theCalls_knows (IP:=IP) (G:=G) G.next) (args:=[.fs t false ns.length (encs ns),.s s]) (H:=G) rfl (by
      rw[ends_fin]
      have c1:=fun a b=>t_less hG a b
      have c2:=fun a=>t_nan2 hG a
      simp -implicitDefEqProofs [I92,hG]
      refine wp_loop_inv (fun k e H=>∃ i j:Nat,i≤j∧j≤ns.length∧k=j-i∧H=G∧(∀ q x,q<i→ns[q]?=some x→ltB x s=true)∧(∀ q x,j≤q→ns[q]?=some x→ltB x s=false)∧e=[(0,.fs t false ns.length (encs ns)),(1,.s s),(6,.i .i64 ns.length),(7,.i .i64 i),(8,.i .i64 j)]) ?_ ns.length _ _ ?_
      · rintro k e H ⟨i,j,hij,hjn,hk,rfl,hlo,hhi,rfl⟩
        by_cases hlt:i<j
        · have h1:(i:Int)<(j:Int):=by omega
          obtain⟨h,hh⟩:∃ h,h=(i+j) / 2:=⟨_,rfl⟩
          have hi2:i≤h∧h<j:=by omega
          have hhn:h<ns.length:=by omega
          obtain⟨x,hx⟩:=get_of_lt (l:=ns) (i:=h) hhn
          have e1:(i:Int)+(j:Int)=((i+j:Nat):Int):=by omega
          have w1:wrapI .i64 ((i+j:Nat):Int)=((i+j:Nat):Int):=wrap_ni (by omega)
          have w2:wrapI .u64 (((i+j:Nat):Int))=((i+j:Nat):Int):=wrap_nu (by omega)
          have w3:=half_nat (i+j)
          have w4:wrapI .i64 (h:Int)=(h:Int):=wrap_ni (by omega)
          have w5:wrapI .i64 ((h:Int)+1)=(h:Int)+1:=wrap_succ (by omega)
          have h2:(h:Int)<(ns.length:Int):=Int.ofNat_lt.2 hhn
          have pair:∀ q y,q<h→ns[q]?=some y→ltB y x=true:=fun q y hq hy=>hr q h y x hq hy hx
          have pair2:∀ q y,h<q→ns[q]?=some y→ltB x y=true:=fun q y hq hy=>hr h q x y hq hx hy
          rw[←hh] at w3
          clear hhn hh
          obtain⟨m,hm⟩:∃ m,m=i+j:=⟨_,rfl⟩
          rw[←hm] at e1 w1 w2 w3
          clear hm
          cases hb:ltB x s
          · simp -implicitDefEqProofs [L92a,h1,e1,w1,w2,w3,w4,h2,hx,c1,hb]
            refine⟨h-i,by omega,i,h,by omega,by omega,by omega,hlo,fun q y hq hy=>?_,rfl,rfl⟩
            rcases Nat.lt_or_ge h q with h3|h3
            · cases hc:ltB y s with
              | false=>rfl
              | true=>have:=ltB_trans _ _ _ (pair2 q y h3 hy) hc;rw[hb] at this;cases this
            · have:q=h:=by omega
              subst this;rw[hx] at hy;cases hy;exact hb
          · simp -implicitDefEqProofs [L92a,h1,e1,w1,w2,w3,w4,w5,h2,hx,c1,hb]
            refine⟨j-(h+1),by omega,h+1,j,by omega,by omega,by omega,fun q y hq hy=>?_,hhi,by simp,rfl⟩
            rcases Nat.lt_or_ge q h with h3|h3
            · exact ltB_trans _ _ _ (pair q y h3 hy) hb
            · have:q=h:=by omega
              subst this;rw[hx] at hy;cases hy;exact hb
        · have h1:¬(i:Int)<(j:Int):=by omega
          have hij2:j=i:=by omega
          subst hij2
          by_cases hjl:j<ns.length
          · obtain⟨x,hx⟩:=get_of_lt (l:=ns) (i:=j) hjl
            have h2:(j:Int)<(ns.length:Int):=by omega
            have fs:=fun e:x=s=>find_some (ns:=ns) (s:=s) (i:=j) (by rw[←e];exact hx) hlo
            have fn:=fun e:x≠s=>find_none (ns:=ns) (s:=s) (i:=j) hr hlo hhi fun y hy=>by rw[hx] at hy;cases hy;exact e
            have hjl2:=hjl
            clear hjl
            by_cases hxs:x=s
            · subst hxs
              have fs:=fs rfl
              clear fn
              simp -implicitDefEqProofs [L92a,h2,hx,c2]
              exact⟨j,rfl,fs,hjl2⟩
            · have fn:=fn hxs
              have hbe:(x==s)=false:=by simpa using hxs
              clear fs
              simp -implicitDefEqProofs [L92a,h2,hx,c2,hbe]
              exact⟨⟨j,rfl⟩,by simpa using fn⟩
          · have h2:¬(j:Int)<(ns.length:Int):=by omega
            have fn:=find_none (ns:=ns) (s:=s) (i:=j) hr hlo hhi fun y hy=>by rw[List.getElem?_eq_none (by omega)] at hy;cases hy
            simp -implicitDefEqProofs [L92a,h2]
            exact⟨⟨j,rfl⟩,by simpa using fn⟩
      · exact⟨0,ns.length,by omega,by omega,by omega,rfl,fun q x h=>by omega,fun q x h hx=>(by rw[List.getElem?_eq_none h] at hx;cases hx),by simp⟩)
    exact⟨u,H1,⟨n,hb⟩,hv⟩
  obtain⟨u,H1,⟨n,hb⟩,i,b,hz,h1,h2⟩:=key
  exact⟨i,b,pureR_some ⟨_,n,u,H1,ip92,hb,hz⟩,h1,h2⟩
theorem t_afield(a:Val)(s:Str)(ha:a.bulk<549755813888)(hs:s.length<549755813887):pureR IP G 59 [.ag [.i .i64 a.kind,.i .i64 a.n,.s a.s,.fs false false a.l.length (encs a.l),.fs false false a.names.length (encs a.names)],.s s]=some (.tu [.ag (Enc.cells (fieldV a s).1),.i .i64 (fieldV a s).2.1,.i .i64 (fieldV a s).2.2]):=by
 have m1:=t_may hG [a] (by simp -implicitDefEqProofs [bulkL];omega) true false
 have c1:=t_anamed hG [s] (by simp -implicitDefEqProofs [bulkS];omega) true
 simp at m1 c1
 unfold fieldV
 cases hm:mayV a
 ·simp -implicitDefEqProofs [hm] at m1
  refine pure_run ip59 rfl ?_
  simp -implicitDefEqProofs [I59,hG,m1,zeroVal]
 simp -implicitDefEqProofs [hm] at m1
 cases hr:recordS [s]
 ·rw[hr] at c1
  refine pure_run ip59 rfl ?_
  simp -implicitDefEqProofs [I59,hG,m1,c1,zeroVal]
 rw[hr] at c1
 rw[if_neg (by simp)]
 by_cases hk:a.kind=5
 ·rw[if_pos hk]
  obtain⟨e1,e2,e3⟩:=may_rec hm hk
  obtain⟨i,b,d1,d2,d3⟩:=t_bsearch hG a.names e3 (by omega) s false
  simp only[hk] at m1
  cases b
  ·rw[d3 rfl]
   refine pure_run ip59 rfl ?_
   simp -implicitDefEqProofs [I59,hG,m1,c1,hk,d1,zeroVal]
  ·obtain⟨d4,d5⟩:=d2 rfl
   rw[d4]
   obtain⟨x,hx⟩:=get_of_lt (l:=a.l) (i:=i) (by omega)
   have o1:=t_aown hG x (by have:=bulkL_mem (List.mem_of_getElem? hx);have:=Val.bulk_eq a;omega) false false
   have h1:(i:Int)<(a.l.length:Int):=by omega
   simp at o1
   simp only[hx]
   clear d5 d2 d3
   refine pure_run ip59 rfl ?_
   simp -implicitDefEqProofs [I59,hG,m1,c1,hk,d1,o1,h1,hx]
 ·rw[if_neg hk]
  refine pure_run ip59 rfl ?_
  simp -implicitDefEqProofs [I59,hG,m1,c1,hk,zeroVal]
end
end Go.Proofs.YtbfajkcmehaliacGreatDoor
namespace Go.Proofs.YtbfajkcmehaliacGreatDoor
open Go Go.RI
def lensOk(v:Val):Prop:=(v.kind=5→v.l.length=v.names.length)∧(v.kind≠4→v.kind≠5→v.l=[])
mutual
def fineV:Val→Prop
 | .mk k n s l ns=>lensOk (.mk k n s l ns)∧fineL l
def fineL:List Val→Prop
 | []=>True
 | v::l=>fineV v∧fineL l
end
theorem fine_eq(v:Val):fineV v↔lensOk v∧fineL v.l:=by cases v;simp -implicitDefEqProofs [fineV]
theorem fineL_iff:∀ l:List Val,fineL l↔∀ v∈l,fineV v
 | []=>by simp -implicitDefEqProofs [fineL]
 | v::l=>by simp -implicitDefEqProofs [fineL,fineL_iff l]
theorem own_lens{v:Val}(h:ownV v=true):lensOk v:=by
 unfold ownV at h
 unfold lensOk
 split at h
 ·rename_i hk;simp -implicitDefEqProofs [bareV,hk] at h ⊢;exact h.2.1.2
 split at h
 ·rename_i hk;simp -implicitDefEqProofs [bareV,hk] at h ⊢;exact h.1.2
 split at h
 ·rename_i hk;simp -implicitDefEqProofs [bareV,hk] at h ⊢;exact h.2.1.2
 split at h
 ·rename_i hk;simp -implicitDefEqProofs [bareV,hk] at h ⊢;exact h.2.1.2
 split at h
 ·rename_i hk;simp -implicitDefEqProofs [bareV,hk] at h ⊢;exact h.2.1
 split at h
 ·rename_i hk;simp -implicitDefEqProofs [hk]
 split at h
 ·rename_i hk;simp -implicitDefEqProofs [bareV,hk] at h ⊢;omega
 ·cases h
mutual
theorem fits_fine:∀(v:Val) (w left:Int),(fitsV v w left).2=true→fineV v
  | .mk k n s l ns,w,left,h=>by
    simp only[fitsV] at h
    split at h
    · cases h
    · rename_i hc
      have ho:ownV (.mk k n s l ns)=true:=by
        cases ho:ownV (.mk k n s l ns) with
        | true=>rfl
        | false=>exact absurd (.inr (.inr ho)) hc
      exact⟨own_lens ho,fitsL_fine l _ _ h⟩
theorem fitsL_fine:∀(l:List Val) (w left:Int),(fitsL l w left).2=true→fineL l
  | [],_,_,_=>trivial
  | v::l,w,left,h=>by
    simp only[fitsL] at h
    split at h
    · rename_i hv;exact⟨fits_fine v w left hv,fitsL_fine l _ _ h⟩
    · cases h
end
section
variable {G:AHeap} (hG:G.next=2)
include hG
theorem t_has:∀ b,b<1099511627776→∀(v:Val) (s:Shp),v.bulk≤b→fineV v→deepOk s→∀ t1 t2 t3 t4:Bool,pureR IP G 93 [.ag [.i .i64 s.kind,.fs t1 false s.names.length (encs s.names),.fs t2 false s.l.length (encs s.l)],.ag [.i .i64 v.kind,.i .i64 v.n,.s v.s,.fs t3 false v.l.length (encs v.l),.fs t4 false v.names.length (encs v.names)]]=some (.b (hasTV s v)):=by
  intro b
  induction b with
  | zero=>intro _ v s h;have:=v.bulk_pos;omega
  | succ b ih =>
    intro hb v s hv hf hd t1 t2 t3 t4
    rw[Val.bulk_eq] at hv
    have hl1:=bulkL_len v.l
    have hl2:=bulkS_len v.names
    rw[hasTV_eq]
    have c1:=t_equalS hG v.names s.names (by omega) t4 false t1 false
    by_cases hk:v.kind=s.kind
    · by_cases hn:v.names=s.names
      · rw[decide_eq_true hk,decide_eq_true hn]
        rw[decide_eq_true hn] at c1
        simp only[Bool.true_and]
        rw[fine_eq] at hf
        rw[deep_eq] at hd
        have hlen:∀ i:Nat,i<v.l.length→(if s.kind=4 then 0 else i)<s.l.length:=by
          intro i hi
          split
          · rename_i h4;have:=hd.1.1 h4;omega
          · rename_i h4
            by_cases h5:s.kind=5
            · have e1:=hd.1.2 h5
              have e2:=hf.1.1 (hk.trans h5)
              rw[e1,←hn];omega
            · have:=hf.1.2 (by rw[hk];exact h4) (by rw[hk];exact h5)
              rw[this] at hi;simp at hi
        refine pure_run ip93 rfl ?_
        simp -implicitDefEqProofs [I93,hG,hk,c1]
        refine wp_loop_list (l:=v.l) (by omega) (fun i todo e H=>e=[(2,.p 2 0),(21,.fs t3 false v.l.length (encs v.l)),(22,.i .i64 v.l.length),(23,.i .i64 i)]∧H.get 2=some (.cells [.i .i64 s.kind,.fs t1 false s.names.length (encs s.names),.fs t2 false s.l.length (encs s.l)] 1 false)∧3≤H.next∧hasL s v.l 0=hasL s todo i) ?_ ?_ ?_
        · rintro i x todo e H hx hdr hlt hlt2 hlt3 ⟨rfl,hg,hn1,he⟩
          have hxm:=List.mem_of_getElem? hx
          have hfx:=(fineL_iff _).1 hf.2 x hxm
          have hi:=hlen i hlt
          obtain⟨d,hd2⟩:∃ d,H.next=d+3:=⟨H.next-3,by omega⟩
          rw[hasL] at he
          by_cases h4:s.kind=4
          · rw[if_pos h4] at hi he
            obtain⟨y,hy⟩:=get_of_lt (l:=s.l) (i:=0) hi
            have hy0:(0:Int)<(s.l.length:Int):=by omega
            have hyn:0<s.l.length:=hi
            have c2:=ih (by omega) x y (by have:=bulkL_mem hxm;omega) hfx (hd.2 y (List.mem_of_getElem? hy)) false false false false
            rw[hy] at he
            simp only[Option.getD_some] at he
            have hsl:∃ r,encs s.l=Enc.cells y++r:=by
              have:=drop_encs s.l 0
              rw[hy] at this
              simp only[Nat.zero_mul,List.drop_zero,cellsO_some] at this
              exact⟨_,this⟩
            obtain⟨r,hr⟩:=hsl
            simp at hr
            clear hlt hi hlen
            rw[h4] at hg
            cases hv2:hasTV y x
            · rw[hv2] at c2 he
              simp only[Bool.false_and] at he
              simp -implicitDefEqProofs [L93a,hlt2,hlt3,hx,hg,hd2,hyn,c2,hr]
              exact he
            · rw[hv2] at c2 he
              simp only[Bool.true_and] at he
              simp -implicitDefEqProofs [L93a,hlt2,hlt3,hx,hg,hd2,hyn,c2,hr,h4]
              exact he
          · rw[if_neg h4] at hi he
            obtain⟨y,hy⟩:=get_of_lt (l:=s.l) (i:=i) hi
            have hy0:(i:Int)<(s.l.length:Int):=by omega
            have c2:=ih (by omega) x y (by have:=bulkL_mem hxm;omega) hfx (hd.2 y (List.mem_of_getElem? hy)) false false false false
            rw[hy] at he
            simp only[Option.getD_some] at he
            have hsl:(encs s.l).drop (i*3)=Enc.cells y++restE s.l (i+1):=by
              have:=drop_encs s.l i
              rw[hy] at this
              exact this
            simp at hsl
            clear hlt hi hlen
            cases hv2:hasTV y x
            · rw[hv2] at c2 he
              simp only[Bool.false_and] at he
              simp -implicitDefEqProofs [L93a,hlt2,hlt3,hx,hg,hd2,hy0,c2,hsl,h4]
              exact he
            · rw[hv2] at c2 he
              simp only[Bool.true_and] at he
              simp -implicitDefEqProofs [L93a,hlt2,hlt3,hx,hg,hd2,hy0,c2,hsl,h4]
              exact he
        · rintro e H ⟨rfl,hg,hn1,he⟩
          simp -implicitDefEqProofs [L93a,hG]
          rw[he];rfl
        · exact⟨by simp -implicitDefEqProofs [hG],by simp -implicitDefEqProofs [hG],by simp -implicitDefEqProofs [hG],rfl⟩
      · rw[decide_eq_true hk,decide_eq_false hn]
        rw[decide_eq_false hn] at c1
        refine pure_run ip93 rfl ?_
        simp -implicitDefEqProofs [I93,hG,hk,c1]
    · rw[decide_eq_false hk]
      refine pure_run ip93 rfl ?_
      simp -implicitDefEqProofs [I93,hG,hk]
theorem t_is(v:Val)(hv:v.bulk<549755813888)(t:Str)(ht:t.length<1099511627776):pureR IP G 61 [.ag [.i .i64 v.kind,.i .i64 v.n,.s v.s,.fs false false v.l.length (encs v.l),.fs false false v.names.length (encs v.names)],.s t]=some (.b (isTV v t)):=by
 have c1:=t_typed hG t ht
 have c2:=t_check hG v (by omega) false false
 have hd:=typed_deep t
 unfold isTV
 obtain⟨s,hs⟩:∃ s,s=(typedS t).1:=⟨_,rfl⟩
 obtain⟨ok,hok⟩:∃ ok,ok=(typedS t).2:=⟨_,rfl⟩
 rw[←hs,←hok] at c1
 rw[←hs] at hd ⊢
 rw[←hok]
 clear hs hok
 simp at c1
 cases ok
 ·refine pure_run ip61 rfl ?_
  simp -implicitDefEqProofs [I61,hG,c1]
 cases hm:mayV v
 ·rw[hm] at c2
  simp at c2
  refine pure_run ip61 rfl ?_
  simp -implicitDefEqProofs [I61,hG,c1,c2]
 ·rw[hm] at c2
  simp at c2
  have c3:=t_has hG v.bulk (by omega) v s (Nat.le_refl _) (fits_fine v _ _ hm) hd false false false false
  refine pure_run ip61 rfl ?_
  simp -implicitDefEqProofs [I61,hG,c1,c2,c3]
end
end Go.Proofs.YtbfajkcmehaliacGreatDoor
namespace Go.RI
open Go
section
variable {H:AHeap}
@[simp] theorem boxR_fs{t f:Bool}{n:Nat}{l:List AVal}:boxR H (.fs t f n l)=some (some (.p H.next 0),H.push (.cells [.fs t f n l] 1 false)):=rfl
def findN(k:Int):List (AVal×AVal)→Nat→Option (Option (Nat×AVal)):=findA false [1] [.i .i64 k]
@[simp] theorem findN_nil{k:Int}{i:Nat}:findN k [] i=some none:=rfl
@[simp] theorem findN_cons{k k':Int}{v:AVal}{es:List (AVal×AVal)}{i:Nat}:findN k ((.i .i64 k',v)::es) i=if k=k' then some (some (i,v)) else findN k es (i+1):=by
 unfold findN
 simp only[findA,keyC]
 by_cases h:k=k'
 ·subst h;simp
 ·simp[h]
noncomputable def lookN(z:AVal)(okf:Bool)(k:Int):Option AObj→Option AVal
  | some (.map es)=>match findN k es 0 with
    | some (some (_,v))=>some (if okf then .tu [v,.b true] else v)
    | some none=>some (if okf then .tu [z,.b false] else z)
    | none=>none
  | _=>none
@[simp] theorem look_num{z:AVal}{okf:Bool}{id:Nat}{k:Int}:lookV H false [1] z okf (.m id) (.i .i64 k)=lookN z okf k (H.get id):=by
 simp only[lookV,mapEs,lookN]
 rcases H.get id with _|⟨c,esz,ro⟩|es
 ·rfl
 ·rfl
 ·simp[keyC,findN]
  rcases findA false [1] [.i .i64 k] es 0 with _|_|⟨_,_⟩<;>rfl
def lookF(z:AVal)(okf:Bool):Option (Option (Nat×AVal))→Option AVal
 | some (some (_,v))=>some (if okf then .tu [v,.b true] else v)
 | some none=>some (if okf then .tu [z,.b false] else z)
 | none=>none
@[simp] theorem lookF_some{z v:AVal}{okf:Bool}{i:Nat}:lookF z okf (some (some (i,v)))=some (if okf then .tu [v,.b true] else v):=rfl
@[simp] theorem lookF_none{z:AVal}{okf:Bool}:lookF z okf (some none)=some (if okf then .tu [z,.b false] else z):=rfl
@[simp] theorem lookN_map{z:AVal}{okf:Bool}{k:Int}{es:List (AVal×AVal)}:lookN z okf k (some (.map es))=lookF z okf (findN k es 0):=by
 simp only[lookN]
 rcases findN k es 0 with _|_|⟨_,_⟩<;>rfl
noncomputable def upF(id:Nat)(H:AHeap)(k v:AVal)(es:List (AVal×AVal)):Option (Option (Nat×AVal))→Option AHeap
 | some none=>some (H.put id (some (.map (es++[(k,v)]))))
 | some (some (i,_))=>some (H.put id (some (.map (es.set i (k,v)))))
 | none=>none
@[simp] theorem upF_none{id:Nat}{k v:AVal}{es:List (AVal×AVal)}:upF id H k v es (some none)=some (H.put id (some (.map (es++[(k,v)])))):=rfl
noncomputable def upN(lo id:Nat)(H:AHeap)(k:Int)(v:AVal):Option AObj→Option AHeap
 | some (.map es)=>if lo≤id∧v.tup=false then upF id H (.i .i64 k) v es (findN k es 0) else none
 | _=>none
@[simp] theorem upN_map{lo id:Nat}{k:Int}{v:AVal}{es:List (AVal×AVal)}:upN lo id H k v (some (.map es))=if lo≤id∧v.tup=false then upF id H (.i .i64 k) v es (findN k es 0) else none:=rfl
@[simp] theorem up_num{lo id:Nat}{k:Int}{v:AVal}:mapupV lo H false [1] (.i .i64 k) v (.m id)=upN lo id H k v (H.get id):=by
 simp only[mapupV,upN]
 by_cases hc:lo≤id∧v.tup=false
 ·rw[if_pos hc]
  rcases H.get id with _|⟨c,esz,ro⟩|es
  ·rfl
  ·rfl
  ·simp only[if_pos hc]
   simp[keyC,findN]
   rcases findA false [1] [.i .i64 k] es 0 with _|_|⟨_,_⟩<;>rfl
 ·rw[if_neg hc]
  rcases H.get id with _|⟨c,esz,ro⟩|es
  ·rfl
  ·rfl
  ·simp only[if_neg hc]
end
@[simp] theorem num_bulk(n:Int):(numV n).bulk=1:=by simp[numV,Val.bulk,bulkL,bulkS]
@[simp] theorem yes_bulk(b:Bool):(yesV b).bulk=1:=by simp[yesV,Val.bulk,bulkL,bulkS]
@[simp] theorem zero_bulk:zeroVal.bulk=1:=by simp[zeroVal,Val.bulk,bulkL,bulkS]
theorem made_bulk(v:Val):(madeV v).1.bulk≤v.bulk:=by
 unfold madeV
 split
 ·exact Nat.le_refl _
 ·have:=v.bulk_pos;simp;omega
theorem unary_bulk(op:Int)(a:Val):(unaryV op a).1.bulk=1:=by
 unfold unaryV
 repeat' split
 all_goals simp
theorem ints_bulk(op a b:Int):(intsV op a b).1.bulk=1:=by
 unfold intsV
 repeat' split
 all_goals simp
theorem texts_bulk(op:Int)(a b:Str):(textsV op a b).1.bulk≤1+a.length+b.length:=by
 unfold textsV
 split
 ·refine Nat.le_trans (made_bulk _) ?_;simp[Val.bulk,bulkL,bulkS];omega
 ·repeat' split
  all_goals (simp;omega)
theorem longer_bulk(a:Val)(m:List Val):(longerV a m).1.bulk≤1+bulkL a.l+bulkL m:=by
 unfold longerV
 refine Nat.le_trans (made_bulk _) ?_
 simp[Val.bulk,bulkL_app,bulkS];omega
theorem get_bulk{l:List Val}(i:Nat):(l[i]?.getD zeroVal).bulk≤1+bulkL l:=by
 cases h:l[i]? with
 | none=>simp
 | some x=>have:=bulkL_mem (List.mem_of_getElem? h);simp;omega
theorem binV2_bulk(op:Int)(a b:Val):(binV2 op a b).1.bulk≤1+a.bulk+b.bulk:=by
 have h1:=Val.bulk_eq a
 have h2:=Val.bulk_eq b
 unfold binV2
 split
 ·simp;omega
 split
 ·simp;omega
 split
 ·rw[ints_bulk];omega
 split
 ·have:=texts_bulk op a.s b.s;omega
 split
 ·have:=longer_bulk a [b];simp[bulkL] at this;omega
 split
 ·have:=longer_bulk a b.l;omega
 split
 ·split
  ·have:=get_bulk (l:=a.l) b.n.toNat;simp only;omega
  ·simp;omega
 ·simp;omega
theorem binary_bulk(op:Int)(a b:Val):(binaryV op a b).1.bulk≤1+a.bulk+b.bulk:=by
 unfold binaryV
 split
 ·simp;omega
 ·exact binV2_bulk op a b
theorem list_bulk(l:List Val):(listV l).1.bulk≤1+bulkL l:=by
 unfold listV
 split
 ·refine Nat.le_trans (made_bulk _) ?_;simp[Val.bulk,bulkS]
 ·simp
theorem rec_bulk(ns:List Str)(l:List Val):(recV ns l).1.bulk≤1+bulkL l+bulkS ns:=by
 unfold recV
 split
 ·refine Nat.le_trans (made_bulk _) ?_;simp[Val.bulk]
 ·simp;omega
theorem field_bulk(a:Val)(s:Str):(fieldV a s).1.bulk≤1+a.bulk:=by
 have h1:=Val.bulk_eq a
 unfold fieldV
 split
 ·simp
 split
 ·split
  ·rename_i i _;have:=get_bulk (l:=a.l) i;simp only;omega
  ·simp
 ·simp
def Makes(r:Val×Bool)(o:Option Val):Prop:=(r.2=true→o=some r.1)∧(r.2=false→o=none)
def resR(r:Val×Int×Int):Val×Bool:=(r.1,decide (r.2.1=0)&&decide (r.2.2=0))
theorem makes_res(r:Val×Int×Int):Makes (resR r) (resV r):=by
 unfold Makes resR resV
 constructor
 ·intro h;simp at h;rw[if_pos h]
 ·intro h;simp at h;rw[if_neg];intro h2;exact h h2.1 h2.2
def intsR(op:Int)(a b:Val):Val×Bool:=if a.kind=1∧b.kind=1 then resR (binaryV op a b) else(zeroVal,false)
theorem makes_ints(op:Int)(a b:Val):Makes (intsR op a b) (intsS op a b):=by
 unfold intsR intsS
 split
 ·exact makes_res _
 ·exact⟨fun h=>(by cases h),fun _=>rfl⟩
theorem makes_if(a:Val)(b:Bool):Makes (a,b) (if b=true then some a else none):=by
 cases b
 ·exact⟨fun h=>(by cases h),fun _=>rfl⟩
 ·exact⟨fun _=>rfl,fun h=>(by cases h)⟩
theorem intsR_bulk(op:Int)(a b:Val):(intsR op a b).1.bulk≤1+a.bulk+b.bulk:=by
 unfold intsR
 split
 ·exact binary_bulk op a b
 ·simp;omega
end Go.RI
namespace Go.Proofs.YtbfajkcmehaliacGreatDoor
open Go Go.RI
section
variable {G:AHeap} (hG:G.next=2)
include hG
theorem t_lmade(v:Val)(f e:Int):pureR IP G 31 [.ag [.i .i64 v.kind,.i .i64 v.n,.s v.s,.fs false false v.l.length (encs v.l),.fs false false v.names.length (encs v.names)],.i .i64 f,.i .i64 e]=some (.tu [.ag (Enc.cells v),.b (decide (f=0)&&decide (e=0))]):=by
 by_cases hf:f=0
 ·refine pure_run ip31 rfl ?_
  simp -implicitDefEqProofs [I31,hG,hf]
 ·refine pure_run ip31 rfl ?_
  simp -implicitDefEqProofs [I31,hG,hf]
theorem t_notInt(v:Val):pureR IP G 94 [.ag (Enc.cells v)]=some (.b (!decide (v.kind=1))):=by
 refine pure_run ip94 rfl ?_
 simp -implicitDefEqProofs [I94,hG]
theorem t_lints(op:Int)(a b:Val)(ha:a.bulk<137438953472)(hb:b.bulk<137438953472)(t:Bool):pureR IP G 66 [.i .i64 op,.fs t false 2 (Enc.cells a++Enc.cells b)]=some (.tu [.ag (Enc.cells (intsR op a b).1),.b (intsR op a b).2]):=by
 have c1:=t_anyV hG 94 (fun v=>!decide (v.kind=1)) (fun lo l H=>pu94) [a,b] (by simp) (fun v _=>t_notInt hG v) t false
 have c2:=t_binary hG op a b ha hb
 have c3:=t_lmade hG (binaryV op a b).1 (binaryV op a b).2.1 (binaryV op a b).2.2
 have e:(([a,b]:List Val).any fun v=>!decide (v.kind=1))=!(decide (a.kind=1∧b.kind=1)):=by simp -implicitDefEqProofs [Bool.decide_and]
 rw[e] at c1
 obtain⟨r,hr⟩:∃ r,r=binaryV op a b:=⟨_,rfl⟩
 rw[←hr] at c2 c3
 unfold intsR resR
 rw[←hr]
 clear hr e
 by_cases hk:a.kind=1∧b.kind=1
 ·rw[if_pos hk]
  rw[decide_eq_true hk] at c1
  simp at c1 c2 c3
  refine pure_run ip66 rfl ?_
  simp -implicitDefEqProofs [I66,hG,c1,c2,c3]
 ·rw[if_neg hk]
  rw[decide_eq_false hk] at c1
  simp at c1
  refine pure_run ip66 rfl ?_
  simp -implicitDefEqProofs [I66,hG,c1,zeroVal]
theorem t_mk1(l:List Val)(hl:bulkL l<274877906944)(t:Bool):pureR IP G 54 [.fp [.fs t false l.length (encs l)]]=some (.tu [.ag (Enc.cells (resR (listV l)).1),.b (resR (listV l)).2]):=by
 have c1:=t_alist hG l hl t
 have c2:=t_lmade hG (listV l).1 (listV l).2.1 (listV l).2.2
 unfold resR
 generalize listV l=r at c1 c2 ⊢
 simp at c1 c2
 refine pure_run ip54 rfl ?_
 simp -implicitDefEqProofs [I54,hG,c1,c2]
theorem t_mk2(i:Stp)(hn:bulkS i.names<549755813888)(l:List Val)(hl:bulkL l<274877906944)(t t1 t2:Bool):pureR IP G 56 [.fp [.i .i64 i.op,.i .i64 i.n,.fs t1 false i.l.length (encs i.l),.s i.s,.fs t2 false i.names.length (encs i.names)],.fp [.fs t false l.length (encs l)]]=some (.tu [.ag (Enc.cells (resR (recV i.names l)).1),.b (resR (recV i.names l)).2]):=by
 have c1:=t_arec hG i.names l hn hl t2 t
 have c2:=t_lmade hG (recV i.names l).1 (recV i.names l).2.1 (recV i.names l).2.2
 unfold resR
 generalize recV i.names l=r at c1 c2 ⊢
 simp at c1 c2
 refine pure_run ip56 rfl ?_
 simp -implicitDefEqProofs [I56,hG,c1,c2]
theorem t_mk3(i:Stp)(hs:i.s.length<549755813887)(a:Val)(m:List Val)(hl:a.bulk<274877906944)(t t1 t2:Bool):pureR IP G 58 [.fp [.fs t false (m.length+1) (Enc.cells a++encs m)],.fp [.i .i64 i.op,.i .i64 i.n,.fs t1 false i.l.length (encs i.l),.s i.s,.fs t2 false i.names.length (encs i.names)]]=some (.tu [.ag (Enc.cells (resR (fieldV a i.s)).1),.b (resR (fieldV a i.s)).2]):=by
 have c1:=t_afield hG a i.s (by omega) hs
 have c2:=t_lmade hG (fieldV a i.s).1 (fieldV a i.s).2.1 (fieldV a i.s).2.2
 unfold resR
 generalize fieldV a i.s=r at c1 c2 ⊢
 simp at c1 c2
 refine pure_run ip58 rfl ?_
 simp -implicitDefEqProofs [I58,hG,c1,c2]
theorem t_mk4(i:Stp)(hs:i.s.length<549755813887)(a:Val)(m:List Val)(hl:a.bulk<274877906944)(t t1 t2:Bool):pureR IP G 60 [.fp [.fs t false (m.length+1) (Enc.cells a++encs m)],.fp [.i .i64 i.op,.i .i64 i.n,.fs t1 false i.l.length (encs i.l),.s i.s,.fs t2 false i.names.length (encs i.names)]]=some (.tu [.ag (Enc.cells a),.b (isTV a i.s)]):=by
 have c1:=t_is hG a (by omega) i.s (by omega)
 generalize isTV a i.s=r at c1 ⊢
 refine pure_run ip60 rfl ?_
 simp -implicitDefEqProofs [I60,hG,c1]
theorem t_mk5(i:Stp)(a:Val)(m:List Val)(t t1 t2:Bool):pureR IP G 62 [.fp [.fs t false (m.length+1) (Enc.cells a++encs m)],.fp [.i .i64 i.op,.i .i64 i.n,.fs t1 false i.l.length (encs i.l),.s i.s,.fs t2 false i.names.length (encs i.names)]]=some (.tu [.ag (Enc.cells a),.b (decide (a.kind=i.n))]):=by
 refine pure_run ip62 rfl ?_
 simp -implicitDefEqProofs [I62,hG]
theorem t_mk6(a:Val)(m:List Val)(hl:a.bulk<274877906944)(t:Bool):pureR IP G 63 [.fp [.fs t false (m.length+1) (Enc.cells a++encs m)]]=some (.tu [.ag (Enc.cells (resR (unaryV 6 a)).1),.b (resR (unaryV 6 a)).2]):=by
 have c1:=t_unary hG 6 a (by omega)
 have c2:=t_lmade hG (unaryV 6 a).1 (unaryV 6 a).2.1 (unaryV 6 a).2.2
 unfold resR
 generalize unaryV 6 a=r at c1 c2 ⊢
 simp at c1 c2
 refine pure_run ip63 rfl ?_
 simp -implicitDefEqProofs [I63,hG,c1,c2]
theorem t_mk7(a:Val)(m:List Val)(hl:a.bulk<274877906944)(t:Bool):pureR IP G 64 [.fp [.fs t false (m.length+1) (Enc.cells a++encs m)]]=some (.tu [.ag (Enc.cells (resR (unaryV 7 a)).1),.b (resR (unaryV 7 a)).2]):=by
 have c1:=t_unary hG 7 a (by omega)
 have c2:=t_lmade hG (unaryV 7 a).1 (unaryV 7 a).2.1 (unaryV 7 a).2.2
 unfold resR
 generalize unaryV 7 a=r at c1 c2 ⊢
 simp at c1 c2
 refine pure_run ip64 rfl ?_
 simp -implicitDefEqProofs [I64,hG,c1,c2]
theorem t_mk8(a b:Val)(ha:a.bulk<137438953472)(hb:b.bulk<137438953472)(t:Bool):pureR IP G 65 [.fp [.fs t false 2 (Enc.cells a++Enc.cells b)]]=some (.tu [.ag (Enc.cells (intsR 9 a b).1),.b (intsR 9 a b).2]):=by
 have c1:=t_lints hG 9 a b ha hb t
 generalize intsR 9 a b=r at c1 ⊢
 simp at c1
 refine pure_run ip65 rfl ?_
 simp -implicitDefEqProofs [I65,hG,c1]
theorem t_mk9(a b:Val)(ha:a.bulk<137438953472)(hb:b.bulk<137438953472)(t:Bool):pureR IP G 67 [.fp [.fs t false 2 (Enc.cells a++Enc.cells b)]]=some (.tu [.ag (Enc.cells (intsR 10 a b).1),.b (intsR 10 a b).2]):=by
 have c1:=t_lints hG 10 a b ha hb t
 generalize intsR 10 a b=r at c1 ⊢
 simp at c1
 refine pure_run ip67 rfl ?_
 simp -implicitDefEqProofs [I67,hG,c1]
theorem t_mk10(a b:Val)(ha:a.bulk<137438953472)(hb:b.bulk<137438953472)(t:Bool):pureR IP G 68 [.fp [.fs t false 2 (Enc.cells a++Enc.cells b)]]=some (.tu [.ag (Enc.cells (intsR 11 a b).1),.b (intsR 11 a b).2]):=by
 have c1:=t_lints hG 11 a b ha hb t
 generalize intsR 11 a b=r at c1 ⊢
 simp at c1
 refine pure_run ip68 rfl ?_
 simp -implicitDefEqProofs [I68,hG,c1]
theorem t_mk11(a b:Val)(ha:a.bulk<137438953472)(hb:b.bulk<137438953472)(t:Bool):pureR IP G 69 [.fp [.fs t false 2 (Enc.cells a++Enc.cells b)]]=some (.tu [.ag (Enc.cells (intsR 16 a b).1),.b (intsR 16 a b).2]):=by
 have c1:=t_lints hG 16 a b ha hb t
 generalize intsR 16 a b=r at c1 ⊢
 simp at c1
 refine pure_run ip69 rfl ?_
 simp -implicitDefEqProofs [I69,hG,c1]
theorem t_mk12(a b:Val)(ha:a.bulk<137438953472)(hb:b.bulk<137438953472)(t:Bool):pureR IP G 70 [.fp [.fs t false 2 (Enc.cells a++Enc.cells b)]]=some (.tu [.ag (Enc.cells (intsR 17 a b).1),.b (intsR 17 a b).2]):=by
 have c1:=t_lints hG 17 a b ha hb t
 generalize intsR 17 a b=r at c1 ⊢
 simp at c1
 refine pure_run ip70 rfl ?_
 simp -implicitDefEqProofs [I70,hG,c1]
theorem t_mk13(a:Val)(m:List Val)(n:Int)(ha:a.bulk<137438953472)(t:Bool):pureR IP G 71 [.fp [.fs t false (m.length+1) (Enc.cells a++encs m)],.fp (Enc.cells (numV n))]=some (.tu [.ag (Enc.cells (intsR 9 a (numV n)).1),.b (intsR 9 a (numV n)).2]):=by
 have c1:=t_lints hG 9 a (numV n) ha (by simp) true
 generalize intsR 9 a (numV n)=r at c1 ⊢
 generalize numV n=w at c1 ⊢
 simp at c1
 refine pure_run ip71 rfl ?_
 simp -implicitDefEqProofs [I71,hG,c1]
theorem t_mk14(a:Val)(m:List Val)(n:Int)(ha:a.bulk<137438953472)(t:Bool):pureR IP G 72 [.fp [.fs t false (m.length+1) (Enc.cells a++encs m)],.fp (Enc.cells (numV n))]=some (.tu [.ag (Enc.cells (intsR 16 a (numV n)).1),.b (intsR 16 a (numV n)).2]):=by
 have c1:=t_lints hG 16 a (numV n) ha (by simp) true
 generalize intsR 16 a (numV n)=r at c1 ⊢
 generalize numV n=w at c1 ⊢
 simp at c1
 refine pure_run ip72 rfl ?_
 simp -implicitDefEqProofs [I72,hG,c1]
end
end Go.Proofs.YtbfajkcmehaliacGreatDoor
namespace Go.Proofs.YtbfajkcmehaliacGreatDoor
open Go Go.RI
def mkEs(d:Nat):List (AVal×AVal) :=
  [(.i .i64 20,.fn (.func 54) [] [.p (d+1) 0]),(.i .i64 21,.fn (.func 56) [] [.p d 0,.p (d+1) 0]),(.i .i64 22,.fn (.func 58) [] [.p (d+1) 0,.p d 0]),
   (.i .i64 23,.fn (.func 60) [] [.p (d+1) 0,.p d 0]),(.i .i64 40,.fn (.func 62) [] [.p (d+1) 0,.p d 0]),(.i .i64 41,.fn (.func 63) [] [.p (d+1) 0]),
   (.i .i64 42,.fn (.func 64) [] [.p (d+1) 0]),(.i .i64 43,.fn (.func 65) [] [.p (d+1) 0]),(.i .i64 44,.fn (.func 67) [] [.p (d+1) 0]),
   (.i .i64 45,.fn (.func 68) [] [.p (d+1) 0]),(.i .i64 46,.fn (.func 69) [] [.p (d+1) 0]),(.i .i64 47,.fn (.func 70) [] [.p (d+1) 0]),
   (.i .i64 48,.fn (.func 71) [] [.p (d+1) 0,.p (d+2) 0]),(.i .i64 49,.fn (.func 72) [] [.p (d+1) 0,.p (d+2) 0])]
section
variable {G:AHeap} (hG:G.next=2)
include hG
theorem t_makers(i:Stp)(l:List Val)(t t1 t2 f:Bool)(H:AHeap):∃ v H',(∀ lo,theCalls IP G lo 30 [.ag [.i .i64 i.op,.i .i64 i.n,.fs t1 false i.l.length (encs i.l),.s i.s,.fs t2 false i.names.length (encs i.names)],.fs t f l.length (encs l)] H=some (v,H')) ∧
  (v=.m (H.next+3)∧H'.next=H.next+4∧(∀ id,id<H.next→H'.get id=H.get id)∧H'.get H.next=some (.cells [.i .i64 i.op,.i .i64 i.n,.fs t1 false i.l.length (encs i.l),.s i.s,.fs t2 false i.names.length (encs i.names)] 1 false)∧H'.get (H.next+1)=some (.cells [.fs t f l.length (encs l)] 1 false) ∧
   H'.get (H.next+2)=some (.cells [.i .i64 1,.i .i64 i.n,.s [],.ns,.ns] 1 false)∧H'.get (H.next+3)=some (.map (mkEs H.next))):=by
 obtain⟨d,hd⟩:∃ d,d=H.next:=⟨_,rfl⟩
 have a2:d+1+1=d+2:=rfl
 have a3:d+2+1=d+3:=rfl
 have a4:d+3+1=d+4:=rfl
 have k2:d≤d+2:=by omega
 have k3:d≤d+3:=by omega
 rw[←hd]
 refine calls_one_of ip30 rfl rfl ?_
 rw[ends_fin,←hd]
 simp -implicitDefEqProofs [I30,numV,mkEs,←hd,a2,a3,a4,k2,k3]
 intro id hid
 simp -implicitDefEqProofs [←hd,show ¬ id=d by omega,show ¬ id=d+1 by omega,show ¬ id=d+2 by omega,show ¬ id=d+3 by omega]
end
end Go.Proofs.YtbfajkcmehaliacGreatDoor
namespace Go.Proofs.YtbfajkcmehaliacGreatDoor
open Go Go.RI
section
variable {G:AHeap} (hG:G.next=2)
include hG
theorem t_stepNot(v:Val)(hv:v.bulk<1099511627776):pureR IP G 28 [.ag (Enc.cells v)]=some (.b (!mayV v)):=by
 have c1:=t_mayBe hG v hv false false
 refine pure_run ip28 rfl ?_
 simp -implicitDefEqProofs [I28,hG,c1]
theorem t_stepAny(l:List Val)(hl:bulkL l<68719476736)(t f:Bool):pureR IP G 27 [.fs t f l.length (encs l),.fn (.func 28) [] []]=some (.b (!l.all mayV)):=by
 have c1:=t_anyV hG 28 (fun v=>!mayV v) (fun lo l H=>pu28) l (by have:=bulkL_len l;omega) (fun v hv=>t_stepNot hG v (by have:=bulkL_mem hv;omega)) t f
 have e:(l.any fun v=>!mayV v)=!(l.all mayV):=by simp -implicitDefEqProofs [List.not_all_eq_any_not]
 rw[e] at c1
 exact c1
def NeedsOk(G:AHeap):Prop:=∀(i:Stp),bulkS i.names<549755813888→i.s.length<549755813887→∀ t1 t2:Bool,pureR IP G 26 [.ag [.i .i64 i.op,.i .i64 i.n,.fs t1 false i.l.length (encs i.l),.s i.s,.fs t2 false i.names.length (encs i.names)]]=some (.tu [.i .i64 (needs i).1,.i .i64 (needs i).2.1,.b (needs i).2.2])
def StepOk(G:AHeap)(i:Stp):Prop:=∀(l:List Val),bulkL l<68719476736→∀ t t1 t2 f:Bool,(needs i).2.2=true→(needs i).1≤l.length→(l.length:Int)≤(needs i).2.1→l.all mayV=true →
 pureR IP G 10 [.ag [.i .i64 i.op,.i .i64 i.n,.fs t1 false i.l.length (encs i.l),.s i.s,.fs t2 false i.names.length (encs i.names)],.fs t f l.length (encs l)]=some (.tu [.ag (Enc.cells ((opS i l).getD zeroVal)),.b (opS i l).isSome])
set_option maxHeartbeats 1000000 in
theorem t_stepRefuse(cN:NeedsOk G)(i:Stp)(hi:okStp i)(l:List Val)(hl:bulkL l<68719476736)(t t1 t2 f:Bool)(h:¬((needs i).2.2=true∧(needs i).1≤l.length∧(l.length:Int)≤(needs i).2.1∧l.all mayV=true)) :
  pureR IP G 10 [.ag [.i .i64 i.op,.i .i64 i.n,.fs t1 false i.l.length (encs i.l),.s i.s,.fs t2 false i.names.length (encs i.names)],.fs t f l.length (encs l)]=some (.tu [.ag (Enc.cells zeroVal),.b false]):=by
 obtain⟨hns,hs,hil,hio⟩:=hi
 have c0:=cN i hns hs t1 t2
 have c1:=t_stepAny hG l hl t false
 generalize (needs i).2.2=ok at h c0
 generalize (needs i).2.1=mo at h c0
 generalize (needs i).1=le at h c0
 generalize l.all mayV=al at h c1
 cases ok
 ·refine pure_run ip10 rfl ?_
  simp -implicitDefEqProofs [I10,hG,c0,zeroVal]
 by_cases h1:(l.length:Int)<le
 ·refine pure_run ip10 rfl ?_
  simp -implicitDefEqProofs [I10,hG,c0,h1,zeroVal]
 by_cases h2:mo<(l.length:Int)
 ·refine pure_run ip10 rfl ?_
  simp -implicitDefEqProofs [I10,hG,c0,h1,h2,zeroVal]
 cases al
 ·refine pure_run ip10 rfl ?_
  simp -implicitDefEqProofs [I10,hG,c0,c1,h1,h2,zeroVal]
 ·exact absurd ⟨rfl,by omega,by omega,rfl⟩ h
set_option maxHeartbeats 1000000 in
theorem t_stepMk(cN:NeedsOk G)(K n:Int)(il:List Opn)(s:Str)(ns:List Str)(hi:okStp ⟨K,n,il,s,ns⟩)(l:List Val)(hl:bulkL l<68719476736)(t t1 t2 f:Bool)(q1:(needs ⟨K,n,il,s,ns⟩).2.2=true)(q2:(needs ⟨K,n,il,s,ns⟩).1≤l.length)(q3:(l.length:Int)≤(needs ⟨K,n,il,s,ns⟩).2.1)(q4:l.all mayV=true)
  (j:Nat) (g:FuncId) (caps:List AVal) (hfind:findN K (mkEs 4) 0=some (some (j,.fn (.func g) [] caps))) (r:Val×Bool) (o:Option Val) (hm:Makes r o) (hb:r.1.bulk<1099511627776)
  (hcall:∀ H1:AHeap,H1.get 4=some (.cells [.i .i64 K,.i .i64 n,.fs t1 false il.length (encs il),.s s,.fs t2 false ns.length (encs ns)] 1 false)→H1.get 5=some (.cells [.fs t f l.length (encs l)] 1 false)→H1.get 6=some (.cells [.i .i64 1,.i .i64 n,.s [],.ns,.ns] 1 false) →
   theCalls IP G 2 g caps H1=some (.tu [.ag (Enc.cells r.1),.b r.2],H1)) :
  pureR IP G 10 [.ag [.i .i64 K,.i .i64 n,.fs t1 false il.length (encs il),.s s,.fs t2 false ns.length (encs ns)],.fs t f l.length (encs l)]=some (.tu [.ag (Enc.cells (o.getD zeroVal)),.b o.isSome]):=by
 obtain⟨hns,hs,hil,hio⟩:=hi
 have c0:=cN ⟨K,n,il,s,ns⟩ hns hs t1 t2
 have c1:=t_stepAny hG l hl t false
 rw[q4] at c1
 obtain⟨mv,H1,cm,rfl,hn1,hf1,r0,r1,r2,r3⟩:=t_makers hG ⟨K,n,il,s,ns⟩ l t t1 t2 f ((G.push (.cells [.i .i64 K,.i .i64 n,.fs t1 false il.length (encs il),.s s,.fs t2 false ns.length (encs ns)] 1 false)).push (.cells [.i .i64 0,.i .i64 0,.s [],.ns,.ns] 1 false))
 have g0:=hf1 2 (by simp -implicitDefEqProofs [hG])
 have g1:=hf1 3 (by simp -implicitDefEqProofs [hG])
 have c4:=t_lown hG r.1 hb false false
 have h1:¬(l.length:Int)<(needs ⟨K,n,il,s,ns⟩).1:=by omega
 have h2:¬(needs ⟨K,n,il,s,ns⟩).2.1<(l.length:Int):=by omega
 rw[q1] at c0
 generalize (needs ⟨K,n,il,s,ns⟩).1=le at c0 h1
 generalize (needs ⟨K,n,il,s,ns⟩).2.1=mo at c0 h2
 obtain⟨m1,m2⟩:=hm
 clear hb q1 q2 q3 q4 hl hns hs hil hio hf1
 obtain⟨v,ok⟩:=r
 simp -implicitDefEqProofs [hG] at c0 c1 cm hn1 r0 r1 r2 r3 g0 g1
 have c3:=hcall H1 r0 r1 r2
 simp only at c3
 cases ok
 ·rw[m2 rfl]
  simp at c3
  refine pure_run ip10 rfl ?_
  simp -implicitDefEqProofs [I10,hG,c0,c1,h1,h2,cm,g0,g1,r0,r1,r2,r3,hfind,c3,zeroVal]
 ·rw[m1 rfl]
  simp at c3 c4
  refine pure_run ip10 rfl ?_
  simp -implicitDefEqProofs [I10,hG,c0,c1,h1,h2,cm,g0,g1,r0,r1,r2,r3,hfind,c3,c4]
theorem one_val{l:List Val}{i:Stp}(h:(needs i).1=1)(q:(needs i).1≤l.length):∃ a m,l=a::m:=one_of (by omega)
theorem two_val{l:List Val}{i:Stp}(h:(needs i).1=2)(h2:(needs i).2.1=2)(q2:(needs i).1≤l.length)(q3:(l.length:Int)≤(needs i).2.1):∃ a b,l=[a,b]:=by
 match l,q2,q3 with
 | [],q2,_=>rw[h] at q2;simp at q2
 | [_],q2,_=>rw[h] at q2;simp at q2
 | [a,b],_,_=>exact⟨a,b,rfl⟩
 | _::_::_::_,_,q3=>rw[h2] at q3;simp at q3;omega
theorem t_stepOk20(cN:NeedsOk G)(n:Int)(il:List Opn)(s:Str)(ns:List Str)(hi:okStp ⟨20,n,il,s,ns⟩):StepOk G ⟨20,n,il,s,ns⟩:=by
 intro l hl t t1 t2 f q1 q2 q3 q4
 have hi':=hi
 obtain⟨hns,hs,hil,hio⟩:=hi'
 have eo:opS ⟨20,n,il,s,ns⟩ l=resV (listV l):=by simp -implicitDefEqProofs [opS]
 rw[eo]
 have c3:=t_mk1 hG l (by omega) t
 refine t_stepMk hG cN 20 n il s ns hi l hl t t1 t2 f q1 q2 q3 q4 0 54 [.p 5 0] (by simp -implicitDefEqProofs [mkEs]) (resR (listV l)) _ (makes_res (listV l)) (by have:=list_bulk l;simp only[resR];omega) fun H1 r0 r1 r2=>?_
 simp at r0 r1 r2 c3
 simp -implicitDefEqProofs [r0,r1,r2,c3]
theorem t_stepOk21(cN:NeedsOk G)(n:Int)(il:List Opn)(s:Str)(ns:List Str)(hi:okStp ⟨21,n,il,s,ns⟩):StepOk G ⟨21,n,il,s,ns⟩:=by
 intro l hl t t1 t2 f q1 q2 q3 q4
 have hi':=hi
 obtain⟨hns,hs,hil,hio⟩:=hi'
 have eo:opS ⟨21,n,il,s,ns⟩ l=resV (recV ns l):=by simp -implicitDefEqProofs [opS]
 rw[eo]
 have c3:=t_mk2 hG ⟨21,n,il,s,ns⟩ hns l (by omega) t t1 t2
 refine t_stepMk hG cN 21 n il s ns hi l hl t t1 t2 f q1 q2 q3 q4 1 56 [.p 4 0,.p 5 0] (by simp -implicitDefEqProofs [mkEs]) (resR (recV ns l)) _ (makes_res (recV ns l)) (by have:=rec_bulk ns l;simp only[resR];have:bulkS ns<549755813888:=hns;omega) fun H1 r0 r1 r2=>?_
 simp at r0 r1 r2 c3
 simp -implicitDefEqProofs [r0,r1,r2,c3]
theorem t_stepOk22(cN:NeedsOk G)(n:Int)(il:List Opn)(s:Str)(ns:List Str)(hi:okStp ⟨22,n,il,s,ns⟩):StepOk G ⟨22,n,il,s,ns⟩:=by
 intro l hl t t1 t2 f q1 q2 q3 q4
 have hi':=hi
 obtain⟨hns,hs,hil,hio⟩:=hi'
 obtain⟨a,m,rfl⟩:=one_val hG (i:=⟨22,n,il,s,ns⟩) (by simp -implicitDefEqProofs [needs]) q2
 have hba:a.bulk<68719476736:=by simp only[bulkL] at hl;omega
 have eo:opS ⟨22,n,il,s,ns⟩ (a::m)=resV (fieldV a s):=by simp -implicitDefEqProofs [opS]
 rw[eo]
 have c3:=t_mk3 hG ⟨22,n,il,s,ns⟩ hs a m (by omega) t t1 t2
 refine t_stepMk hG cN 22 n il s ns hi (a::m) hl t t1 t2 f q1 q2 q3 q4 2 58 [.p 5 0,.p 4 0] (by simp -implicitDefEqProofs [mkEs]) (resR (fieldV a s)) _ (makes_res (fieldV a s)) (by have:=field_bulk a s;simp only[resR];omega) fun H1 r0 r1 r2=>?_
 simp at r0 r1 r2 c3
 simp -implicitDefEqProofs [r0,r1,r2,c3]
theorem t_stepOk23(cN:NeedsOk G)(n:Int)(il:List Opn)(s:Str)(ns:List Str)(hi:okStp ⟨23,n,il,s,ns⟩):StepOk G ⟨23,n,il,s,ns⟩:=by
 intro l hl t t1 t2 f q1 q2 q3 q4
 have hi':=hi
 obtain⟨hns,hs,hil,hio⟩:=hi'
 obtain⟨a,m,rfl⟩:=one_val hG (i:=⟨23,n,il,s,ns⟩) (by simp -implicitDefEqProofs [needs]) q2
 have hba:a.bulk<68719476736:=by simp only[bulkL] at hl;omega
 have eo:opS ⟨23,n,il,s,ns⟩ (a::m)=(if isTV a s then some a else none):=by simp -implicitDefEqProofs [opS]
 rw[eo]
 have c3:=t_mk4 hG ⟨23,n,il,s,ns⟩ hs a m (by omega) t t1 t2
 refine t_stepMk hG cN 23 n il s ns hi (a::m) hl t t1 t2 f q1 q2 q3 q4 3 60 [.p 5 0,.p 4 0] (by simp -implicitDefEqProofs [mkEs]) (((a,isTV a s):Val×Bool)) _ ((makes_if a (isTV a s))) (by simp only;omega) fun H1 r0 r1 r2=>?_
 simp at r0 r1 r2 c3
 simp -implicitDefEqProofs [r0,r1,r2,c3]
theorem t_stepOk40(cN:NeedsOk G)(n:Int)(il:List Opn)(s:Str)(ns:List Str)(hi:okStp ⟨40,n,il,s,ns⟩):StepOk G ⟨40,n,il,s,ns⟩:=by
 intro l hl t t1 t2 f q1 q2 q3 q4
 have hi':=hi
 obtain⟨hns,hs,hil,hio⟩:=hi'
 obtain⟨a,m,rfl⟩:=one_val hG (i:=⟨40,n,il,s,ns⟩) (by simp -implicitDefEqProofs [needs]) q2
 have hba:a.bulk<68719476736:=by simp only[bulkL] at hl;omega
 have eo:opS ⟨40,n,il,s,ns⟩ (a::m)=(if decide (a.kind=n)=true then some a else none):=by simp -implicitDefEqProofs [opS]
 rw[eo]
 have c3:=t_mk5 hG ⟨40,n,il,s,ns⟩ a m t t1 t2
 refine t_stepMk hG cN 40 n il s ns hi (a::m) hl t t1 t2 f q1 q2 q3 q4 4 62 [.p 5 0,.p 4 0] (by simp -implicitDefEqProofs [mkEs]) (((a,decide (a.kind=n)):Val×Bool)) _ ((makes_if a (decide (a.kind=n)))) (by simp only;omega) fun H1 r0 r1 r2=>?_
 simp at r0 r1 r2 c3
 simp -implicitDefEqProofs [r0,r1,r2,c3]
theorem t_stepOk41(cN:NeedsOk G)(n:Int)(il:List Opn)(s:Str)(ns:List Str)(hi:okStp ⟨41,n,il,s,ns⟩):StepOk G ⟨41,n,il,s,ns⟩:=by
 intro l hl t t1 t2 f q1 q2 q3 q4
 have hi':=hi
 obtain⟨hns,hs,hil,hio⟩:=hi'
 obtain⟨a,m,rfl⟩:=one_val hG (i:=⟨41,n,il,s,ns⟩) (by simp -implicitDefEqProofs [needs]) q2
 have hba:a.bulk<68719476736:=by simp only[bulkL] at hl;omega
 have eo:opS ⟨41,n,il,s,ns⟩ (a::m)=resV (unaryV 6 a):=by simp -implicitDefEqProofs [opS]
 rw[eo]
 have c3:=t_mk6 hG a m (by omega) t
 refine t_stepMk hG cN 41 n il s ns hi (a::m) hl t t1 t2 f q1 q2 q3 q4 5 63 [.p 5 0] (by simp -implicitDefEqProofs [mkEs]) (resR (unaryV 6 a)) _ (makes_res (unaryV 6 a)) (by have:=unary_bulk 6 a;simp only[resR];omega) fun H1 r0 r1 r2=>?_
 simp at r0 r1 r2 c3
 simp -implicitDefEqProofs [r0,r1,r2,c3]
theorem t_stepOk42(cN:NeedsOk G)(n:Int)(il:List Opn)(s:Str)(ns:List Str)(hi:okStp ⟨42,n,il,s,ns⟩):StepOk G ⟨42,n,il,s,ns⟩:=by
 intro l hl t t1 t2 f q1 q2 q3 q4
 have hi':=hi
 obtain⟨hns,hs,hil,hio⟩:=hi'
 obtain⟨a,m,rfl⟩:=one_val hG (i:=⟨42,n,il,s,ns⟩) (by simp -implicitDefEqProofs [needs]) q2
 have hba:a.bulk<68719476736:=by simp only[bulkL] at hl;omega
 have eo:opS ⟨42,n,il,s,ns⟩ (a::m)=resV (unaryV 7 a):=by simp -implicitDefEqProofs [opS]
 rw[eo]
 have c3:=t_mk7 hG a m (by omega) t
 refine t_stepMk hG cN 42 n il s ns hi (a::m) hl t t1 t2 f q1 q2 q3 q4 6 64 [.p 5 0] (by simp -implicitDefEqProofs [mkEs]) (resR (unaryV 7 a)) _ (makes_res (unaryV 7 a)) (by have:=unary_bulk 7 a;simp only[resR];omega) fun H1 r0 r1 r2=>?_
 simp at r0 r1 r2 c3
 simp -implicitDefEqProofs [r0,r1,r2,c3]
theorem t_stepOk43(cN:NeedsOk G)(n:Int)(il:List Opn)(s:Str)(ns:List Str)(hi:okStp ⟨43,n,il,s,ns⟩):StepOk G ⟨43,n,il,s,ns⟩:=by
 intro l hl t t1 t2 f q1 q2 q3 q4
 have hi':=hi
 obtain⟨hns,hs,hil,hio⟩:=hi'
 obtain⟨a,b,rfl⟩:=two_val hG (i:=⟨43,n,il,s,ns⟩) (by simp -implicitDefEqProofs [needs]) (by simp -implicitDefEqProofs [needs]) q2 q3
 have hba:a.bulk<68719476736:=by simp only[bulkL] at hl;omega
 have hbb:b.bulk<68719476736:=by simp only[bulkL] at hl;omega
 have eo:opS ⟨43,n,il,s,ns⟩ [a,b]=intsS 9 a b:=by simp -implicitDefEqProofs [opS]
 rw[eo]
 have c3:=t_mk8 hG a b (by omega) (by omega) t
 refine t_stepMk hG cN 43 n il s ns hi [a,b] hl t t1 t2 f q1 q2 q3 q4 7 65 [.p 5 0] (by simp -implicitDefEqProofs [mkEs]) (intsR 9 a b) _ (makes_ints 9 a b) (by have:=intsR_bulk 9 a b;omega) fun H1 r0 r1 r2=>?_
 simp at r0 r1 r2 c3
 simp -implicitDefEqProofs [r0,r1,r2,c3]
theorem t_stepOk44(cN:NeedsOk G)(n:Int)(il:List Opn)(s:Str)(ns:List Str)(hi:okStp ⟨44,n,il,s,ns⟩):StepOk G ⟨44,n,il,s,ns⟩:=by
 intro l hl t t1 t2 f q1 q2 q3 q4
 have hi':=hi
 obtain⟨hns,hs,hil,hio⟩:=hi'
 obtain⟨a,b,rfl⟩:=two_val hG (i:=⟨44,n,il,s,ns⟩) (by simp -implicitDefEqProofs [needs]) (by simp -implicitDefEqProofs [needs]) q2 q3
 have hba:a.bulk<68719476736:=by simp only[bulkL] at hl;omega
 have hbb:b.bulk<68719476736:=by simp only[bulkL] at hl;omega
 have eo:opS ⟨44,n,il,s,ns⟩ [a,b]=intsS 10 a b:=by simp -implicitDefEqProofs [opS]
 rw[eo]
 have c3:=t_mk9 hG a b (by omega) (by omega) t
 refine t_stepMk hG cN 44 n il s ns hi [a,b] hl t t1 t2 f q1 q2 q3 q4 8 67 [.p 5 0] (by simp -implicitDefEqProofs [mkEs]) (intsR 10 a b) _ (makes_ints 10 a b) (by have:=intsR_bulk 10 a b;omega) fun H1 r0 r1 r2=>?_
 simp at r0 r1 r2 c3
 simp -implicitDefEqProofs [r0,r1,r2,c3]
theorem t_stepOk45(cN:NeedsOk G)(n:Int)(il:List Opn)(s:Str)(ns:List Str)(hi:okStp ⟨45,n,il,s,ns⟩):StepOk G ⟨45,n,il,s,ns⟩:=by
 intro l hl t t1 t2 f q1 q2 q3 q4
 have hi':=hi
 obtain⟨hns,hs,hil,hio⟩:=hi'
 obtain⟨a,b,rfl⟩:=two_val hG (i:=⟨45,n,il,s,ns⟩) (by simp -implicitDefEqProofs [needs]) (by simp -implicitDefEqProofs [needs]) q2 q3
 have hba:a.bulk<68719476736:=by simp only[bulkL] at hl;omega
 have hbb:b.bulk<68719476736:=by simp only[bulkL] at hl;omega
 have eo:opS ⟨45,n,il,s,ns⟩ [a,b]=intsS 11 a b:=by simp -implicitDefEqProofs [opS]
 rw[eo]
 have c3:=t_mk10 hG a b (by omega) (by omega) t
 refine t_stepMk hG cN 45 n il s ns hi [a,b] hl t t1 t2 f q1 q2 q3 q4 9 68 [.p 5 0] (by simp -implicitDefEqProofs [mkEs]) (intsR 11 a b) _ (makes_ints 11 a b) (by have:=intsR_bulk 11 a b;omega) fun H1 r0 r1 r2=>?_
 simp at r0 r1 r2 c3
 simp -implicitDefEqProofs [r0,r1,r2,c3]
theorem t_stepOk46(cN:NeedsOk G)(n:Int)(il:List Opn)(s:Str)(ns:List Str)(hi:okStp ⟨46,n,il,s,ns⟩):StepOk G ⟨46,n,il,s,ns⟩:=by
 intro l hl t t1 t2 f q1 q2 q3 q4
 have hi':=hi
 obtain⟨hns,hs,hil,hio⟩:=hi'
 obtain⟨a,b,rfl⟩:=two_val hG (i:=⟨46,n,il,s,ns⟩) (by simp -implicitDefEqProofs [needs]) (by simp -implicitDefEqProofs [needs]) q2 q3
 have hba:a.bulk<68719476736:=by simp only[bulkL] at hl;omega
 have hbb:b.bulk<68719476736:=by simp only[bulkL] at hl;omega
 have eo:opS ⟨46,n,il,s,ns⟩ [a,b]=intsS 16 a b:=by simp -implicitDefEqProofs [opS]
 rw[eo]
 have c3:=t_mk11 hG a b (by omega) (by omega) t
 refine t_stepMk hG cN 46 n il s ns hi [a,b] hl t t1 t2 f q1 q2 q3 q4 10 69 [.p 5 0] (by simp -implicitDefEqProofs [mkEs]) (intsR 16 a b) _ (makes_ints 16 a b) (by have:=intsR_bulk 16 a b;omega) fun H1 r0 r1 r2=>?_
 simp at r0 r1 r2 c3
 simp -implicitDefEqProofs [r0,r1,r2,c3]
theorem t_stepOk47(cN:NeedsOk G)(n:Int)(il:List Opn)(s:Str)(ns:List Str)(hi:okStp ⟨47,n,il,s,ns⟩):StepOk G ⟨47,n,il,s,ns⟩:=by
 intro l hl t t1 t2 f q1 q2 q3 q4
 have hi':=hi
 obtain⟨hns,hs,hil,hio⟩:=hi'
 obtain⟨a,b,rfl⟩:=two_val hG (i:=⟨47,n,il,s,ns⟩) (by simp -implicitDefEqProofs [needs]) (by simp -implicitDefEqProofs [needs]) q2 q3
 have hba:a.bulk<68719476736:=by simp only[bulkL] at hl;omega
 have hbb:b.bulk<68719476736:=by simp only[bulkL] at hl;omega
 have eo:opS ⟨47,n,il,s,ns⟩ [a,b]=intsS 17 a b:=by simp -implicitDefEqProofs [opS]
 rw[eo]
 have c3:=t_mk12 hG a b (by omega) (by omega) t
 refine t_stepMk hG cN 47 n il s ns hi [a,b] hl t t1 t2 f q1 q2 q3 q4 11 70 [.p 5 0] (by simp -implicitDefEqProofs [mkEs]) (intsR 17 a b) _ (makes_ints 17 a b) (by have:=intsR_bulk 17 a b;omega) fun H1 r0 r1 r2=>?_
 simp at r0 r1 r2 c3
 simp -implicitDefEqProofs [r0,r1,r2,c3]
theorem t_stepOk48(cN:NeedsOk G)(n:Int)(il:List Opn)(s:Str)(ns:List Str)(hi:okStp ⟨48,n,il,s,ns⟩):StepOk G ⟨48,n,il,s,ns⟩:=by
 intro l hl t t1 t2 f q1 q2 q3 q4
 have hi':=hi
 obtain⟨hns,hs,hil,hio⟩:=hi'
 obtain⟨a,m,rfl⟩:=one_val hG (i:=⟨48,n,il,s,ns⟩) (by simp -implicitDefEqProofs [needs]) q2
 have hba:a.bulk<68719476736:=by simp only[bulkL] at hl;omega
 have eo:opS ⟨48,n,il,s,ns⟩ (a::m)=intsS 9 a (numV n):=by simp -implicitDefEqProofs [opS]
 rw[eo]
 have c3:=t_mk13 hG a m n (by omega) t
 refine t_stepMk hG cN 48 n il s ns hi (a::m) hl t t1 t2 f q1 q2 q3 q4 12 71 [.p 5 0,.p 6 0] (by simp -implicitDefEqProofs [mkEs]) (intsR 9 a (numV n)) _ (makes_ints 9 a (numV n)) (by have:=intsR_bulk 9 a (numV n);simp at this;omega) fun H1 r0 r1 r2=>?_
 generalize intsR 9 a (numV n)=r at c3 ⊢
 simp -implicitDefEqProofs [numV] at c3
 simp at r0 r1 r2
 simp -implicitDefEqProofs [r0,r1,r2,c3]
theorem t_stepOk49(cN:NeedsOk G)(n:Int)(il:List Opn)(s:Str)(ns:List Str)(hi:okStp ⟨49,n,il,s,ns⟩):StepOk G ⟨49,n,il,s,ns⟩:=by
 intro l hl t t1 t2 f q1 q2 q3 q4
 have hi':=hi
 obtain⟨hns,hs,hil,hio⟩:=hi'
 obtain⟨a,m,rfl⟩:=one_val hG (i:=⟨49,n,il,s,ns⟩) (by simp -implicitDefEqProofs [needs]) q2
 have hba:a.bulk<68719476736:=by simp only[bulkL] at hl;omega
 have eo:opS ⟨49,n,il,s,ns⟩ (a::m)=intsS 16 a (numV n):=by simp -implicitDefEqProofs [opS]
 rw[eo]
 have c3:=t_mk14 hG a m n (by omega) t
 refine t_stepMk hG cN 49 n il s ns hi (a::m) hl t t1 t2 f q1 q2 q3 q4 13 72 [.p 5 0,.p 6 0] (by simp -implicitDefEqProofs [mkEs]) (intsR 16 a (numV n)) _ (makes_ints 16 a (numV n)) (by have:=intsR_bulk 16 a (numV n);simp at this;omega) fun H1 r0 r1 r2=>?_
 generalize intsR 16 a (numV n)=r at c3 ⊢
 simp -implicitDefEqProofs [numV] at c3
 simp at r0 r1 r2
 simp -implicitDefEqProofs [r0,r1,r2,c3]
end
end Go.Proofs.YtbfajkcmehaliacGreatDoor
namespace Go.Proofs.YtbfajkcmehaliacGreatDoor
open Go Go.RI
theorem needs_rest{i:Stp}(h20:i.op≠20)(h21:i.op≠21)(h22:i.op≠22)(h23:i.op≠23)(hlo:i.op<40∨49<i.op)(h:(needs i).2.2=true):((needs i).1=2∧(needs i).2.1=2)∨((needs i).1=1∧(needs i).2.1=1):=by
 unfold needs at h ⊢
 rw[if_neg h20,if_neg h21,if_neg h22,if_neg h23,if_neg (by omega),if_neg (by omega)] at h ⊢
 split
 ·left;simp
 ·rename_i h1
  rw[if_neg h1] at h
  split
  ·right;simp
  ·rename_i h2
   rw[if_neg h2] at h
   simp at h
section
variable {G:AHeap} (hG:G.next=2)
include hG
set_option maxHeartbeats 1000000 in
theorem t_stepOkRest(cN:NeedsOk G)(i:Stp)(hi:okStp i)(h20:i.op≠20)(h21:i.op≠21)(h22:i.op≠22)(h23:i.op≠23)(hlo:i.op<40∨49<i.op):StepOk G i:=by
 intro l hl t t1 t2 f q1 q2 q3 q4
 obtain⟨op,n,il,s,ns⟩:=i
 obtain⟨hns,hs,hil,hio⟩:=hi
 have c0:=cN ⟨op,n,il,s,ns⟩ hns hs t1 t2
 have c1:=t_stepAny hG l hl t false
 rw[q4] at c1
 simp only at h20 h21 h22 h23 hlo
 have k40:¬ op=40:=by omega
 have k41:¬ op=41:=by omega
 have k42:¬ op=42:=by omega
 have k43:¬ op=43:=by omega
 have k44:¬ op=44:=by omega
 have k45:¬ op=45:=by omega
 have k46:¬ op=46:=by omega
 have k47:¬ op=47:=by omega
 have k48:¬ op=48:=by omega
 have k49:¬ op=49:=by omega
 obtain⟨mv,H1,cm,rfl,hn1,hf1,r0,r1,r2,r3⟩:=t_makers hG ⟨op,n,il,s,ns⟩ l t t1 t2 f ((G.push (.cells [.i .i64 op,.i .i64 n,.fs t1 false il.length (encs il),.s s,.fs t2 false ns.length (encs ns)] 1 false)).push (.cells [.i .i64 0,.i .i64 0,.s [],.ns,.ns] 1 false))
 have g0:=hf1 2 (by simp -implicitDefEqProofs [hG])
 have g1:=hf1 3 (by simp -implicitDefEqProofs [hG])
 rw[q1] at c0
 rcases needs_rest (i:=⟨op,n,il,s,ns⟩) h20 h21 h22 h23 hlo q1 with⟨e1,e2⟩|⟨e1,e2⟩
 ·obtain⟨a,b,rfl⟩:∃ a b,l=[a,b]:=by
   match l,q2,q3 with
   | [],q2,_=>rw[e1] at q2;simp at q2
   | [_],q2,_=>rw[e1] at q2;simp at q2
   | [a,b],_,_=>exact⟨a,b,rfl⟩
   | _::_::_::_,_,q3=>rw[e2] at q3;simp at q3;omega
  have hba:a.bulk<68719476736:=by simp only[bulkL] at hl;omega
  have hbb:b.bulk<68719476736:=by simp only[bulkL] at hl;omega
  have eo:opS ⟨op,n,il,s,ns⟩ [a,b]=resV (binaryV op a b):=by simp -implicitDefEqProofs [opS,h20,h21,h22,h23,k40,k41,k42,k43,k44,k45,k46,k47,k48,k49,e1]
  rw[eo]
  have c2:=t_binary hG op a b (by omega) (by omega)
  have c3:=t_lmade hG (binaryV op a b).1 (binaryV op a b).2.1 (binaryV op a b).2.2
  have hb:(binaryV op a b).1.bulk<1099511627776:=by have:=binary_bulk op a b;omega
  have c4:=t_lown hG (binaryV op a b).1 hb false false
  rw[e1,e2] at c0
  generalize binaryV op a b=r at c2 c3 c4 ⊢
  obtain⟨v,fl,e⟩:=r
  clear eo hb q1 q2 q3 q4 hl hns hs hil hio hf1 e1 e2 hba hbb hlo
  simp -implicitDefEqProofs [hG] at c0 c1 cm hn1 r0 r1 r2 r3 g0 g1 c2 c3 c4
  unfold resV
  cases hok:(decide (fl=0)&&decide (e=0))
  ·rw[hok] at c3
   rw[if_neg (by simpa using hok)]
   refine pure_run ip10 rfl ?_
   simp -implicitDefEqProofs [I10,hG,c0,c1,cm,g0,g1,r0,r1,r2,r3,mkEs,c2,c3,h20,h21,h22,h23,k40,k41,k42,k43,k44,k45,k46,k47,k48,k49,zeroVal]
  ·rw[hok] at c3
   rw[if_pos (by simpa using hok)]
   refine pure_run ip10 rfl ?_
   simp -implicitDefEqProofs [I10,hG,c0,c1,cm,g0,g1,r0,r1,r2,r3,mkEs,c2,c3,c4,h20,h21,h22,h23,k40,k41,k42,k43,k44,k45,k46,k47,k48,k49]
 ·obtain⟨a,rfl⟩:∃ a,l=[a]:=by
   match l,q2,q3 with
   | [],q2,_=>rw[e1] at q2;simp at q2
   | [a],_,_=>exact⟨a,rfl⟩
   | _::_::_,_,q3=>rw[e2] at q3;simp at q3;omega
  have hba:a.bulk<68719476736:=by simp only[bulkL] at hl;omega
  have eo:opS ⟨op,n,il,s,ns⟩ [a]=resV (unaryV op a):=by simp -implicitDefEqProofs [opS,h20,h21,h22,h23,k40,k41,k42,k43,k44,k45,k46,k47,k48,k49,e1]
  rw[eo]
  have c2:=t_unary hG op a (by omega)
  have c3:=t_lmade hG (unaryV op a).1 (unaryV op a).2.1 (unaryV op a).2.2
  have hb:(unaryV op a).1.bulk<1099511627776:=by have:=unary_bulk op a;omega
  have c4:=t_lown hG (unaryV op a).1 hb false false
  rw[e1,e2] at c0
  generalize unaryV op a=r at c2 c3 c4 ⊢
  obtain⟨v,fl,e⟩:=r
  clear eo hb q1 q2 q3 q4 hl hns hs hil hio hf1 e1 e2 hba hlo
  simp -implicitDefEqProofs [hG] at c0 c1 cm hn1 r0 r1 r2 r3 g0 g1 c2 c3 c4
  unfold resV
  cases hok:(decide (fl=0)&&decide (e=0))
  ·rw[hok] at c3
   rw[if_neg (by simpa using hok)]
   refine pure_run ip10 rfl ?_
   simp -implicitDefEqProofs [I10,hG,c0,c1,cm,g0,g1,r0,r1,r2,r3,mkEs,c2,c3,h20,h21,h22,h23,k40,k41,k42,k43,k44,k45,k46,k47,k48,k49,zeroVal]
  ·rw[hok] at c3
   rw[if_pos (by simpa using hok)]
   refine pure_run ip10 rfl ?_
   simp -implicitDefEqProofs [I10,hG,c0,c1,cm,g0,g1,r0,r1,r2,r3,mkEs,c2,c3,c4,h20,h21,h22,h23,k40,k41,k42,k43,k44,k45,k46,k47,k48,k49]
theorem t_stepOk(cN:NeedsOk G)(i:Stp)(hi:okStp i):StepOk G i:=by
 by_cases hr:i.op≠20∧i.op≠21∧i.op≠22∧i.op≠23∧(i.op<40∨49<i.op)
 ·exact t_stepOkRest hG cN i hi hr.1 hr.2.1 hr.2.2.1 hr.2.2.2.1 hr.2.2.2.2
 ·obtain⟨op,n,il,s,ns⟩:=i
  simp only at hr
  have:op=20∨op=21∨op=22∨op=23∨op=40∨op=41∨op=42∨op=43∨op=44∨op=45∨op=46∨op=47∨op=48∨op=49:=by omega
  rcases this with rfl|rfl|rfl|rfl|rfl|rfl|rfl|rfl|rfl|rfl|rfl|rfl|rfl|rfl
  ·exact t_stepOk20 hG cN n il s ns hi
  ·exact t_stepOk21 hG cN n il s ns hi
  ·exact t_stepOk22 hG cN n il s ns hi
  ·exact t_stepOk23 hG cN n il s ns hi
  ·exact t_stepOk40 hG cN n il s ns hi
  ·exact t_stepOk41 hG cN n il s ns hi
  ·exact t_stepOk42 hG cN n il s ns hi
  ·exact t_stepOk43 hG cN n il s ns hi
  ·exact t_stepOk44 hG cN n il s ns hi
  ·exact t_stepOk45 hG cN n il s ns hi
  ·exact t_stepOk46 hG cN n il s ns hi
  ·exact t_stepOk47 hG cN n il s ns hi
  ·exact t_stepOk48 hG cN n il s ns hi
  ·exact t_stepOk49 hG cN n il s ns hi
theorem t_liftStep(cN:NeedsOk G)(i:Stp)(hi:okStp i)(l:List Val)(hl:bulkL l<68719476736)(t t1 t2 f:Bool):pureR IP G 10 [.ag [.i .i64 i.op,.i .i64 i.n,.fs t1 false i.l.length (encs i.l),.s i.s,.fs t2 false i.names.length (encs i.names)],.fs t f l.length (encs l)]=some (.tu [.ag (Enc.cells ((stepV i l).getD zeroVal)),.b (stepV i l).isSome]):=by
 unfold stepV
 by_cases h:(needs i).2.2=true∧(needs i).1≤l.length∧(l.length:Int)≤(needs i).2.1∧l.all mayV=true
 ·rw[if_pos h]
  exact t_stepOk hG cN i hi l hl t t1 t2 f h.1 h.2.1 h.2.2.1 h.2.2.2
 ·rw[if_neg h]
  exact t_stepRefuse hG cN i hi l hl t t1 t2 f h
end
end Go.Proofs.YtbfajkcmehaliacGreatDoor
namespace Go.RI
open Go
theorem own_names{v:Val}(h:ownV v=true):v.names.length≤8:=by
 unfold ownV at h
 split at h
 ·rename_i hk;simp[bareV] at h;simp[h.2.2]
 split at h
 ·rename_i hk;simp[bareV] at h;simp[h.2]
 split at h
 ·rename_i hk;simp[bareV] at h;simp[h.2.2]
 split at h
 ·rename_i hk;simp[bareV] at h;simp[h.2.2]
 split at h
 ·rename_i hk;simp[bareV] at h;simp[h.2.2]
 split at h
 ·rename_i hk;simp[bareV] at h;simp[h.2.2]
 split at h
 ·rename_i hk;simp[bareV] at h;omega
 ·cases h
mutual
theorem fits_bulk:∀(v:Val) (w left:Int),(fitsV v w left).2=true→(v.bulk:Int)≤9*(left-(fitsV v w left).1)
  | .mk k n s l ns,w,left,h=>by
    simp only[fitsV] at h ⊢
    split at h
    · cases h
    · rename_i hc
      rw[if_neg hc]
      have ho:ownV (.mk k n s l ns)=true:=by
        cases ho:ownV (.mk k n s l ns) with
        | true=>rfl
        | false=>exact absurd (.inr (.inr ho)) hc
      have h1:=own_names ho
      simp only[Val.names_mk] at h1
      have h2:=lens_bulk ns
      have h3:=fitsL_bulk l (w+1) _ h
      simp only[Val.bulk]
      omega
theorem fitsL_bulk:∀(l:List Val) (w left:Int),(fitsL l w left).2=true→(bulkL l:Int)≤9*(left-(fitsL l w left).1)
  | [],_,_,_=>by simp[bulkL,fitsL]
  | v::l,w,left,h=>by
    simp only[fitsL] at h ⊢
    split at h
    · rename_i hv
      rw[if_pos hv]
      have h1:=fits_bulk v w left hv
      have h2:=fitsL_bulk l w _ h
      simp only[bulkL]
      omega
    · cases h
end
theorem may_bulk{v:Val}(h:mayV v=true):v.bulk≤2304:=by
 have h1:=fits_bulk v 0 256 h
 have h2:=(fitsV_le v 0 256 h).1
 omega
theorem all_bulk{l:List Val}(h:l.all mayV=true){v:Val}(hv:v∈l):v.bulk≤2304:=may_bulk (List.all_eq_true.1 h v hv)
theorem bulkL_le{B:Nat}:∀ {l:List Val},(∀ v∈l,v.bulk≤B)→bulkL l≤l.length*B
  | [],_=>by simp[bulkL]
  | v::l,h=>by
    have h1:=h v (by simp)
    have h2:=bulkL_le (l:=l) fun x hx=>h x (by simp[hx])
    simp only[bulkL,List.length_cons,Nat.add_mul,Nat.one_mul]
    omega
theorem res_eq{r:Val×Int×Int}{v:Val}(h:resV r=some v):v=r.1∧r.2.1=0∧r.2.2=0:=by
 unfold resV at h
 split at h
 ·rename_i hc;exact⟨(Option.some.inj h).symm,hc⟩
 ·cases h
theorem made_ok{v:Val}(h:(madeV v).2=0):(madeV v).1.bulk≤2304:=by
 unfold madeV at h ⊢
 split
 ·rename_i hm;exact may_bulk hm
 ·simp
theorem texts_ok{op:Int}{a b:Str}(h:(textsV op a b).2=0):(textsV op a b).1.bulk≤2304:=by
 unfold textsV at h ⊢
 split
 ·rename_i h9;rw[if_pos h9] at h;exact made_ok h
 ·repeat' split
  all_goals simp
theorem binary_ok{op:Int}{a b:Val}(ha:mayV a=true){v:Val}(h:resV (binaryV op a b)=some v):v.bulk≤2304:=by
 obtain⟨rfl,h1,h2⟩:=res_eq h
 have hab:=may_bulk ha
 have hb:=Val.bulk_eq a
 unfold binaryV at h1 h2 ⊢
 split at h1
 ·rename_i hc;rw[if_pos hc];simp
 ·rename_i hc
  rw[if_neg hc]
  simp only at h1 ⊢
  unfold binV2 at h1 ⊢
  split
  ·simp
  rename_i k1
  rw[if_neg k1] at h1
  split
  ·simp
  rename_i k2
  rw[if_neg k2] at h1
  split
  ·rw[ints_bulk];omega
  rename_i k3
  rw[if_neg k3] at h1
  split
  ·rename_i k4;rw[if_pos k4] at h1;exact texts_ok h1
  rename_i k4
  rw[if_neg k4] at h1
  split
  ·rename_i k5;rw[if_pos k5] at h1;exact made_ok h1
  rename_i k5
  rw[if_neg k5] at h1
  split
  ·rename_i k6;rw[if_pos k6] at h1;exact made_ok h1
  split
  ·split
   ·simp only
    cases hx:a.l[b.n.toNat]? with
    | none=>simp
    | some x=>have:=bulkL_mem (List.mem_of_getElem? hx);simp;omega
   ·simp
  ·simp
theorem intsS_ok{op:Int}{a b:Val}(ha:mayV a=true){v:Val}(h:intsS op a b=some v):v.bulk≤2304:=by
 unfold intsS at h
 split at h
 ·exact binary_ok ha h
 ·cases h
theorem may_zero:mayV zeroVal=true:=by simp[mayV,fitsV,fitsL,zeroVal,ownV,bareV,lens]
theorem may_get{l:List Val}(h:l.all mayV=true)(i:Nat):mayV (l[i]?.getD zeroVal)=true:=by
 cases hx:l[i]? with
 | none=>exact may_zero
 | some x=>exact List.all_eq_true.1 h x (List.mem_of_getElem? hx)
theorem res_list{l:List Val}(hall:l.all mayV=true){v:Val}(h:resV (listV l)=some v):v.bulk≤2304:=by
 obtain⟨rfl,h1,_⟩:=res_eq h
 unfold listV at h1 ⊢
 rw[if_pos hall] at h1 ⊢
 exact made_ok h1
theorem res_rec{ns:List Str}{l:List Val}{v:Val}(h:resV (recV ns l)=some v):v.bulk≤2304:=by
 obtain⟨rfl,h1,h2⟩:=res_eq h
 unfold recV at h1 h2 ⊢
 split
 ·rename_i hr;rw[if_pos hr] at h1;exact made_ok h1
 ·simp
theorem res_field{a:Val}{s:Str}(ha:mayV a=true){v:Val}(h:resV (fieldV a s)=some v):v.bulk≤2304:=by
 obtain⟨rfl,h1,h2⟩:=res_eq h
 have hab:=may_bulk ha
 have hbe:=Val.bulk_eq a
 unfold fieldV
 split
 ·simp
 split
 ·split
  ·rename_i k _
   simp only
   cases hx:a.l[k]? with
   | none=>simp
   | some x=>have:=bulkL_mem (List.mem_of_getElem? hx);simp;omega
  ·simp
 ·simp
theorem res_unary{op:Int}{a:Val}{v:Val}(h:resV (unaryV op a)=some v):v.bulk≤2304:=by
 obtain⟨rfl,_⟩:=res_eq h
 rw[unary_bulk];omega
theorem res_if{a:Val}{b:Bool}(ha:mayV a=true){v:Val}(h:(if b=true then some a else none)=some v):v.bulk≤2304:=by
 cases b
 ·cases h
 ·cases h;exact may_bulk ha
theorem step_ok{i:Stp}{l:List Val}{v:Val}(h:stepV i l=some v):v.bulk≤2304:=by
 unfold stepV at h
 split at h
 ·rename_i hc
  have hall:=hc.2.2.2
  have ha:=may_get hall 0
  by_cases k20:i.op=20
  ·have e:opS i l=resV (listV l):=by simp[opS,k20]
   rw[e] at h
   exact res_list hall h
  by_cases k21:i.op=21
  ·have e:opS i l=resV (recV i.names l):=by simp[opS,k21]
   rw[e] at h
   exact res_rec h
  by_cases k22:i.op=22
  ·have e:opS i l=resV (fieldV (l[0]?.getD zeroVal) i.s):=by simp[opS,k22]
   rw[e] at h
   exact res_field ha h
  by_cases k23:i.op=23
  ·have e:opS i l=(if isTV (l[0]?.getD zeroVal) i.s=true then some (l[0]?.getD zeroVal) else none):=by simp[opS,k23]
   rw[e] at h
   exact res_if ha h
  by_cases k40:i.op=40
  ·have e:opS i l=(if decide ((l[0]?.getD zeroVal).kind=i.n)=true then some (l[0]?.getD zeroVal) else none):=by simp[opS,k40]
   rw[e] at h
   exact res_if ha h
  by_cases k41:i.op=41
  ·have e:opS i l=resV (unaryV 6 (l[0]?.getD zeroVal)):=by simp[opS,k41]
   rw[e] at h
   exact res_unary h
  by_cases k42:i.op=42
  ·have e:opS i l=resV (unaryV 7 (l[0]?.getD zeroVal)):=by simp[opS,k42]
   rw[e] at h
   exact res_unary h
  by_cases k43:i.op=43
  ·have e:opS i l=intsS 9 (l[0]?.getD zeroVal) (l[1]?.getD zeroVal):=by simp[opS,k43]
   rw[e] at h
   exact intsS_ok ha h
  by_cases k44:i.op=44
  ·have e:opS i l=intsS 10 (l[0]?.getD zeroVal) (l[1]?.getD zeroVal):=by simp[opS,k44]
   rw[e] at h
   exact intsS_ok ha h
  by_cases k45:i.op=45
  ·have e:opS i l=intsS 11 (l[0]?.getD zeroVal) (l[1]?.getD zeroVal):=by simp[opS,k45]
   rw[e] at h
   exact intsS_ok ha h
  by_cases k46:i.op=46
  ·have e:opS i l=intsS 16 (l[0]?.getD zeroVal) (l[1]?.getD zeroVal):=by simp[opS,k46]
   rw[e] at h
   exact intsS_ok ha h
  by_cases k47:i.op=47
  ·have e:opS i l=intsS 17 (l[0]?.getD zeroVal) (l[1]?.getD zeroVal):=by simp[opS,k47]
   rw[e] at h
   exact intsS_ok ha h
  by_cases k48:i.op=48
  ·have e:opS i l=intsS 9 (l[0]?.getD zeroVal) (numV i.n):=by simp[opS,k48]
   rw[e] at h
   exact intsS_ok ha h
  by_cases k49:i.op=49
  ·have e:opS i l=intsS 16 (l[0]?.getD zeroVal) (numV i.n):=by simp[opS,k49]
   rw[e] at h
   exact intsS_ok ha h
  by_cases n2:(needs i).1=2
  ·have e:opS i l=resV (binaryV i.op (l[0]?.getD zeroVal) (l[1]?.getD zeroVal)):=by simp[opS,k20,k21,k22,k23,k40,k41,k42,k43,k44,k45,k46,k47,k48,k49,n2]
   rw[e] at h
   exact binary_ok ha h
  ·have e:opS i l=resV (unaryV i.op (l[0]?.getD zeroVal)):=by simp[opS,k20,k21,k22,k23,k40,k41,k42,k43,k44,k45,k46,k47,k48,k49,n2]
   rw[e] at h
   exact res_unary h
 ·cases h
theorem record_len{ns:List Str}(h:recordS ns=true):ns.length≤8:=by
 simp only[recordS,Bool.and_eq_true,decide_eq_true_eq] at h;omega
theorem needs_most{i:Stp}(h:(needs i).2.2=true):(needs i).2.1≤8:=by
 unfold needs at h ⊢
 split
 ·simp
 rename_i h1
 rw[if_neg h1] at h
 split
 ·rename_i h2
  rw[if_pos h2] at h
  simp only[Bool.and_eq_true] at h
  have:=record_len h.2
  simp only;omega
 ·repeat' split
  all_goals simp
theorem fits_most{homes a:Int}{s:Stp}(h:stpFits homes a s=true):s.l.length≤8:=by
 unfold stpFits at h
 simp only[Bool.and_eq_true,decide_eq_true_eq] at h
 have:=needs_most h.1.1.1
 omega
theorem of_bulk{nh ns:Int}{homes made:List Val}{o:Opn}(h:opnFits nh ns o=true)(hh:∀ v∈homes,v.bulk≤2304)(hm:∀ v∈made,v.bulk≤2304):(ofO homes made o).bulk≤2304:=by
 unfold ofO
 split
 ·cases hx:homes[o.n.toNat]? with
  | none=>simp
  | some x=>exact hh x (List.mem_of_getElem? hx)
 split
 ·cases hx:made[o.n.toNat]? with
  | none=>simp
  | some x=>exact hm x (List.mem_of_getElem? hx)
 ·rename_i h1 h2
  unfold opnFits at h
  rw[if_neg h1,if_neg h2] at h
  split at h
  ·simp only[Bool.and_eq_true] at h;exact may_bulk h.2
  ·cases h
theorem opnFits_home{homes a:Int}{o:Opn}(h:opnFits homes a o=true)(hk:o.kind=1):0≤o.n∧o.n<homes:=by
 unfold opnFits at h
 rw[if_pos hk] at h
 simp only[Bool.and_eq_true,decide_eq_true_eq] at h
 exact h.1
theorem put_last(made:List Val)(v:Val):putCells (encs made++[.i .i64 0,.i .i64 0,.s [],.ns,.ns]) (made.length*5) (Enc.cells v)=encs (made++[v]):=by
 have h:=putCells_mid (Enc.cells v) (encs made) [] [.i .i64 0,.i .i64 0,.s [],.ns,.ns] 0 (by simp)
 rw[List.append_nil,Nat.add_zero,len_val] at h
 rw[h,encs_append]
 simp
end Go.RI
namespace Go.RI
open Go
def inR(n:Int):Prop:=-9223372036854775808≤n∧n≤9223372036854775807
theorem may_num(n:Int):mayV (numV n)=true:=by simp[mayV,fitsV,fitsL,numV,ownV,bareV,lens]
theorem of_app{homes made more:List Val}{o:Opn}(h:o.kind=2→0≤o.n∧o.n<made.length):ofO homes (made++more) o=ofO homes made o:=by
 unfold ofO
 split
 ·rfl
 ·split
  ·rename_i h2
   obtain⟨h3,h4⟩:=h h2
   rw[List.getElem?_append_left (by omega)]
  ·rfl
theorem one_len{l:List Opn}(h:l.length=1):∃ x,l=[x]:=by
 match l,h with
 | [x],_=>exact⟨x,rfl⟩
end Go.RI
