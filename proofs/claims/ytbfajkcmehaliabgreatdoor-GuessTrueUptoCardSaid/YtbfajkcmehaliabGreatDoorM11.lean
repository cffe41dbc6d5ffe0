import Derived.Test.YtbfajkcmehaliabGreatDoorM10
import Derived.Test.YtbfajkcmehaliabGreatDoorM08
import Derived.Test.YtbfajkcmehaliabGreatDoorM06
import Derived.Test.YtbfajkcmehaliabGreatDoorM09
import Derived.Test.YtbfajkcmehaliabGreatDoorM07
import Derived.Test.YtbfajkcmehaliabGreatDoorM04
import Derived.ProofKit
set_option linter.unusedVariables false
set_option linter.unusedSimpArgs false
set_option linter.unusedSectionVars false
/- What lift.Step brings, of all steps. Conditions: what Ins.needs brings. -/
namespace Go.Proofs.YtbfajkcmehaliabGreatDoor
open Go Go.RI
theorem needs_rest{i:Stp}(h20:i.op≠20)(h21:i.op≠21)(h22:i.op≠22)(h23:i.op≠23)(hlo:i.op<40∨49<i.op)(h:(needs i).2.2=true):((needs i).1=2∧(needs i).2.1=2)∨((needs i).1=1∧(needs i).2.1=1):=by
 unfold needs at h ⊢
 rw[if_neg h20,if_neg h21,if_neg h22,if_neg h23,if_neg (by omega),if_neg (by omega)] at h ⊢
 split
 ·left;simp
 ·rename_i h1
  rw[if_neg h1] at h
  split
  ·right;simp
  ·rename_i h2
   rw[if_neg h2] at h
   simp at h
section
variable {G:AHeap} (hG:G.next=2)
include hG
set_option maxHeartbeats 1000000 in
theorem t_stepOkRest(cN:NeedsOk G)(i:Stp)(hi:okStp i)(h20:i.op≠20)(h21:i.op≠21)(h22:i.op≠22)(h23:i.op≠23)(hlo:i.op<40∨49<i.op):StepOk G i:=by
 intro l hl t t1 t2 f q1 q2 q3 q4
 obtain⟨op,n,il,s,ns⟩:=i
 obtain⟨hns,hs,hil,hio⟩:=hi
 have c0:=cN ⟨op,n,il,s,ns⟩ hns hs t1 t2
 have c1:=t_stepAny hG l hl t false
 rw[q4] at c1
 simp only at h20 h21 h22 h23 hlo
 have k40:¬ op=40:=by omega
 have k41:¬ op=41:=by omega
 have k42:¬ op=42:=by omega
 have k43:¬ op=43:=by omega
 have k44:¬ op=44:=by omega
 have k45:¬ op=45:=by omega
 have k46:¬ op=46:=by omega
 have k47:¬ op=47:=by omega
 have k48:¬ op=48:=by omega
 have k49:¬ op=49:=by omega
 obtain⟨mv,H1,cm,rfl,hn1,hf1,r0,r1,r2,r3⟩:=t_makers hG ⟨op,n,il,s,ns⟩ l t t1 t2 f ((G.push (.cells [.i .i64 op,.i .i64 n,.fs t1 false il.length (encs il),.s s,.fs t2 false ns.length (encs ns)] 1 false)).push (.cells [.i .i64 0,.i .i64 0,.s [],.ns,.ns] 1 false))
 have g0:=hf1 2 (by simp -implicitDefEqProofs [hG])
 have g1:=hf1 3 (by simp -implicitDefEqProofs [hG])
 rw[q1] at c0
 rcases needs_rest (i:=⟨op,n,il,s,ns⟩) h20 h21 h22 h23 hlo q1 with⟨e1,e2⟩|⟨e1,e2⟩
 ·obtain⟨a,b,rfl⟩:∃ a b,l=[a,b]:=by
   match l,q2,q3 with
   | [],q2,_=>rw[e1] at q2;simp at q2
   | [_],q2,_=>rw[e1] at q2;simp at q2
   | [a,b],_,_=>exact⟨a,b,rfl⟩
   | _::_::_::_,_,q3=>rw[e2] at q3;simp at q3;omega
  have hba:a.bulk<68719476736:=by simp only[bulkL] at hl;omega
  have hbb:b.bulk<68719476736:=by simp only[bulkL] at hl;omega
  have eo:opS ⟨op,n,il,s,ns⟩ [a,b]=resV (binaryV op a b):=by simp -implicitDefEqProofs [opS,h20,h21,h22,h23,k40,k41,k42,k43,k44,k45,k46,k47,k48,k49,e1]
  rw[eo]
  have c2:=t_binary hG op a b (by omega) (by omega)
  have c3:=t_lmade hG (binaryV op a b).1 (binaryV op a b).2.1 (binaryV op a b).2.2
  have hb:(binaryV op a b).1.bulk<1099511627776:=by have:=binary_bulk op a b;omega
  have c4:=t_lown hG (binaryV op a b).1 hb false false
  rw[e1,e2] at c0
  generalize binaryV op a b=r at c2 c3 c4 ⊢
  obtain⟨v,fl,e⟩:=r
  clear eo hb q1 q2 q3 q4 hl hns hs hil hio hf1 e1 e2 hba hbb hlo
  simp -implicitDefEqProofs [hG] at c0 c1 cm hn1 r0 r1 r2 r3 g0 g1 c2 c3 c4
  unfold resV
  cases hok:(decide (fl=0)&&decide (e=0))
  ·rw[hok] at c3
   rw[if_neg (by simpa using hok)]
   refine pure_run ip35 rfl ?_
   simp -implicitDefEqProofs [I35,hG,c0,c1,cm,g0,g1,r0,r1,r2,r3,mkEs,c2,c3,h20,h21,h22,h23,k40,k41,k42,k43,k44,k45,k46,k47,k48,k49,zeroVal]
  ·rw[hok] at c3
   rw[if_pos (by simpa using hok)]
   refine pure_run ip35 rfl ?_
   simp -implicitDefEqProofs [I35,hG,c0,c1,cm,g0,g1,r0,r1,r2,r3,mkEs,c2,c3,c4,h20,h21,h22,h23,k40,k41,k42,k43,k44,k45,k46,k47,k48,k49]
 ·obtain⟨a,rfl⟩:∃ a,l=[a]:=by
   match l,q2,q3 with
   | [],q2,_=>rw[e1] at q2;simp at q2
   | [a],_,_=>exact⟨a,rfl⟩
   | _::_::_,_,q3=>rw[e2] at q3;simp at q3;omega
  have hba:a.bulk<68719476736:=by simp only[bulkL] at hl;omega
  have eo:opS ⟨op,n,il,s,ns⟩ [a]=resV (unaryV op a):=by simp -implicitDefEqProofs [opS,h20,h21,h22,h23,k40,k41,k42,k43,k44,k45,k46,k47,k48,k49,e1]
  rw[eo]
  have c2:=t_unary hG op a (by omega)
  have c3:=t_lmade hG (unaryV op a).1 (unaryV op a).2.1 (unaryV op a).2.2
  have hb:(unaryV op a).1.bulk<1099511627776:=by have:=unary_bulk op a;omega
  have c4:=t_lown hG (unaryV op a).1 hb false false
  rw[e1,e2] at c0
  generalize unaryV op a=r at c2 c3 c4 ⊢
  obtain⟨v,fl,e⟩:=r
  clear eo hb q1 q2 q3 q4 hl hns hs hil hio hf1 e1 e2 hba hlo
  simp -implicitDefEqProofs [hG] at c0 c1 cm hn1 r0 r1 r2 r3 g0 g1 c2 c3 c4
  unfold resV
  cases hok:(decide (fl=0)&&decide (e=0))
  ·rw[hok] at c3
   rw[if_neg (by simpa using hok)]
   refine pure_run ip35 rfl ?_
   simp -implicitDefEqProofs [I35,hG,c0,c1,cm,g0,g1,r0,r1,r2,r3,mkEs,c2,c3,h20,h21,h22,h23,k40,k41,k42,k43,k44,k45,k46,k47,k48,k49,zeroVal]
  ·rw[hok] at c3
   rw[if_pos (by simpa using hok)]
   refine pure_run ip35 rfl ?_
   simp -implicitDefEqProofs [I35,hG,c0,c1,cm,g0,g1,r0,r1,r2,r3,mkEs,c2,c3,c4,h20,h21,h22,h23,k40,k41,k42,k43,k44,k45,k46,k47,k48,k49]
theorem t_stepOk(cN:NeedsOk G)(i:Stp)(hi:okStp i):StepOk G i:=by
 by_cases hr:i.op≠20∧i.op≠21∧i.op≠22∧i.op≠23∧(i.op<40∨49<i.op)
 ·exact t_stepOkRest hG cN i hi hr.1 hr.2.1 hr.2.2.1 hr.2.2.2.1 hr.2.2.2.2
 ·obtain⟨op,n,il,s,ns⟩:=i
  simp only at hr
  have:op=20∨op=21∨op=22∨op=23∨op=40∨op=41∨op=42∨op=43∨op=44∨op=45∨op=46∨op=47∨op=48∨op=49:=by omega
  rcases this with rfl|rfl|rfl|rfl|rfl|rfl|rfl|rfl|rfl|rfl|rfl|rfl|rfl|rfl
  ·exact t_stepOk20 hG cN n il s ns hi
  ·exact t_stepOk21 hG cN n il s ns hi
  ·exact t_stepOk22 hG cN n il s ns hi
  ·exact t_stepOk23 hG cN n il s ns hi
  ·exact t_stepOk40 hG cN n il s ns hi
  ·exact t_stepOk41 hG cN n il s ns hi
  ·exact t_stepOk42 hG cN n il s ns hi
  ·exact t_stepOk43 hG cN n il s ns hi
  ·exact t_stepOk44 hG cN n il s ns hi
  ·exact t_stepOk45 hG cN n il s ns hi
  ·exact t_stepOk46 hG cN n il s ns hi
  ·exact t_stepOk47 hG cN n il s ns hi
  ·exact t_stepOk48 hG cN n il s ns hi
  ·exact t_stepOk49 hG cN n il s ns hi
theorem t_liftStep(cN:NeedsOk G)(i:Stp)(hi:okStp i)(l:List Val)(hl:bulkL l<68719476736)(t t1 t2 f:Bool):pureR IP G 35 [.ag [.i .i64 i.op,.i .i64 i.n,.fs t1 false i.l.length (encs i.l),.s i.s,.fs t2 false i.names.length (encs i.names)],.fs t f l.length (encs l)]=some (.tu [.ag (Enc.cells ((stepV i l).getD zeroVal)),.b (stepV i l).isSome]):=by
 unfold stepV
 by_cases h:(needs i).2.2=true∧(needs i).1≤l.length∧(l.length:Int)≤(needs i).2.1∧l.all mayV=true
 ·rw[if_pos h]
  exact t_stepOk hG cN i hi l hl t t1 t2 f h.1 h.2.1 h.2.2.1 h.2.2.2
 ·rw[if_neg h]
  exact t_stepRefuse hG cN i hi l hl t t1 t2 f h
end
end Go.Proofs.YtbfajkcmehaliabGreatDoor
namespace Go.Proofs.YtbfajkcmehaliabGreatDoor
open Go Go.RI
section
variable {G:AHeap} (hG:G.next=2)
include hG
theorem t_doNot(v:Val)(hv:v.bulk<1099511627776):pureR IP G 32 [.ag (Enc.cells v)]=some (.b (!mayV v)):=by
 have c1:=t_mayBe hG v hv false false
 refine pure_run ip32 rfl ?_
 simp -implicitDefEqProofs [I32,hG,c1]
theorem t_doAny(l:List Val)(hl:bulkL l<1099511627776)(t f:Bool):pureR IP G 31 [.fs t f l.length (encs l),.fn (.func 32) [] []]=some (.b (!l.all mayV)):=by
 have c1:=t_anyV hG 32 (fun v=>!mayV v) (fun lo l H=>pu32) l (by have:=bulkL_len l;omega) (fun v hv=>t_doNot hG v (by have:=bulkL_mem hv;omega)) t f
 have e:(l.any fun v=>!mayV v)=!(l.all mayV):=by simp -implicitDefEqProofs [List.not_all_eq_any_not]
 rw[e] at c1
 exact c1
theorem t_doOf(o:Opn)(homes made:List Val)(h1:o.kind=1→0≤o.n∧o.n<homes.length)(h2:o.kind=2→0≤o.n∧o.n<made.length)(ta tb:Bool) :
  pureR IP G 34 [.ag [.i .i64 o.kind,.i .i64 o.n,.i .i64 o.v.kind,.i .i64 o.v.n,.s o.v.s,.fs false false o.v.l.length (encs o.v.l),.fs false false o.v.names.length (encs o.v.names)],.fp [.fs ta false homes.length (encs homes)],.fp [.fs tb false made.length (encs made)]]=some (.ag (Enc.cells (ofO homes made o))):=by
 by_cases k1:o.kind=1
 ·obtain⟨a1,a2⟩:=h1 k1
  obtain⟨x,hx⟩:=get_of_lt (l:=homes) (i:=o.n.toNat) (by omega)
  have hx2:homes[o.n.toNat]'(by omega)=x:=by rw[List.getElem?_eq_getElem (by omega)] at hx;exact Option.some.inj hx
  have e:ofO homes made o=x:=by simp -implicitDefEqProofs [ofO,k1,hx]
  have hd:=drop_encs homes o.n.toNat
  rw[hx,show Enc.sz Val=5 from rfl] at hd
  rw[e]
  clear e h1 h2
  simp at hd
  refine pure_run ip34 rfl ?_
  simp -implicitDefEqProofs [I34,hG,k1,a1,a2,hd,hx2]
 by_cases k2:o.kind=2
 ·obtain⟨a1,a2⟩:=h2 k2
  obtain⟨x,hx⟩:=get_of_lt (l:=made) (i:=o.n.toNat) (by omega)
  have hx2:made[o.n.toNat]'(by omega)=x:=by rw[List.getElem?_eq_getElem (by omega)] at hx;exact Option.some.inj hx
  have e:ofO homes made o=x:=by simp -implicitDefEqProofs [ofO,k2,hx]
  have hd:=drop_encs made o.n.toNat
  rw[hx,show Enc.sz Val=5 from rfl] at hd
  rw[e]
  clear e h1 h2
  simp at hd
  refine pure_run ip34 rfl ?_
  simp -implicitDefEqProofs [I34,hG,k2,a1,a2,hd,hx2]
 ·have e:ofO homes made o=o.v:=by simp -implicitDefEqProofs [ofO,k1,k2]
  rw[e]
  refine pure_run ip34 rfl ?_
  simp -implicitDefEqProofs [I34,hG,k1,k2]
theorem do_snaps{H:AHeap}{homes made:List Val}{th:Bool}{sv:AVal}(g1:H.get 3=some (.cells [.fs th false homes.length (encs homes)] 1 false))(g2:H.get 4=some (.cells [sv] 1 false))(hA:Acc H 5 sv 5 made.length (encs made)) :
  ∃ tb,(snapV H 16 (.p 3 0)=some (.fp [.fs th false homes.length (encs homes)]))∧snapV H 16 (.p 4 0)=some (.fp [.fs tb false made.length (encs made)]):=by
 have s:=acc_snap (k:=14) hA snap_encs
 refine⟨decide (0<made.length),?_,?_⟩
 ·simp -implicitDefEqProofs [g1]
 ·simp -implicitDefEqProofs [g2,s]
theorem t_do_l(s:Stp)(homes made:List Val)(hlen:s.l.length<1000000)(ho:∀ o∈s.l,(o.kind=1→0≤o.n∧o.n<homes.length)∧(o.kind=2→0≤o.n∧o.n<made.length))(t1 th:Bool)(xn i m:Nat)(ins:AVal)(sv:AVal)(d:Nat)(Q:Post)(H:AHeap)
  (hd:5≤d) (hn:d≤H.next) (g1:H.get 3=some (.cells [.fs th false homes.length (encs homes)] 1 false)) (g2:H.get 4=some (.cells [sv] 1 false)) (hA:Acc H 5 sv 5 made.length (encs made)) (hsv:∀ id n c,sv=.sl id 0 n c→id<d)
  (hQ:∀ lv w H',H.next≤H'.next→(∀ id,id<d→H'.get id=H.get id)→Acc H' d lv 5 s.l.length (encs (s.l.map (ofO homes made)))→Q (.exit 2) [(2,.p 2 0),(4,.ns),(7,.p 4 0),(8,.fn (.func 34) [] [.p 3 0,.p 4 0]),(10,.p xn 0),(11,lv),(35,ins),(36,.i .i64 m),(37,.i .i64 i),(42,.fs t1 false s.l.length (encs s.l)),(43,.i .i64 s.l.length),(44,.i .i64 s.l.length),(45,w)] H') :
  wp (theCalls IP G 2) 2 (.loop L9a) Q [(2,.p 2 0),(4,.ns),(7,.p 4 0),(8,.fn (.func 34) [] [.p 3 0,.p 4 0]),(10,.p xn 0),(11,.ns),(35,ins),(36,.i .i64 m),(37,.i .i64 i),(42,.fs t1 false s.l.length (encs s.l)),(43,.i .i64 s.l.length),(44,.i .i64 0)] H:=by
 refine wp_loop_list (l:=s.l) (by omega) (fun k todo e H'=>∃ lv,e=[(2,.p 2 0),(4,.ns),(7,.p 4 0),(8,.fn (.func 34) [] [.p 3 0,.p 4 0]),(10,.p xn 0),(11,lv),(35,ins),(36,.i .i64 m),(37,.i .i64 i),(42,.fs t1 false s.l.length (encs s.l)),(43,.i .i64 s.l.length),(44,.i .i64 k)]∧H.next≤H'.next∧(∀ id,id<d→H'.get id=H.get id)∧Acc H' d lv 5 k (encs ((s.l.take k).map (ofO homes made)))) ?_ ?_ ?_
 ·rintro k o todo e H' hx hdr hlt hlt2 hlt3 ⟨lv,rfl,hn1,hf,hL⟩
  obtain⟨b1,b2⟩:=ho o (List.mem_of_getElem? hx)
  have k1:=(hf 3 (by omega)).trans g1
  have k2:=(hf 4 (by omega)).trans g2
  have hA1:Acc H' 5 sv 5 made.length (encs made):=acc_keep hA hn1 fun id n c hv=>hf id (hsv id n c hv)
  have n1:¬ 3=H'.next:=by omega
  have n2:¬ 4=H'.next:=by omega
  have n3:2≤H'.next:=by omega
  obtain⟨H1,hH1⟩:∃ H1,H1=(H'.push (.cells [.i .i64 0,.i .i64 0,.i .i64 0,.i .i64 0,.s [],.ns,.ns] 1 false)).put H'.next (some (.cells (Enc.cells o) 1 false)):=⟨_,rfl⟩
  have hk1:∀ id,id<H'.next→H1.get id=H'.get id:=fun id h=>by rw[hH1];simp -implicitDefEqProofs [show ¬ id=H'.next by omega]
  have q1:=(hk1 3 (by omega)).trans k1
  have q2:=(hk1 4 (by omega)).trans k2
  have q3:H1.get H'.next=some (.cells (Enc.cells o) 1 false):=by rw[hH1];simp
  have q4:H1.next=H'.next+1:=by rw[hH1];simp
  obtain⟨tb,s1,s2⟩:=do_snaps hG q1 q2 (acc_keep hA1 (by omega) fun id n c hv=>hk1 id (by have:=hsv id n c hv;omega))
  have c1:=t_doOf hG o homes made b1 b2 th tb
  simp at hH1 q3 s1 s2 c1
  clear hlt
  simp -implicitDefEqProofs [L9a,hlt2,hlt3,hx,n3,←hH1,q3,s1,s2,c1,q4]
  refine step_app (lo':=d) (acc_keep hL (by simp -implicitDefEqProofs [q4];omega) ?_) (m:=1) (ys:=Enc.cells (ofO homes made o)) (by omega) (by simp -implicitDefEqProofs [q4];omega) (more_lit (cs:=Enc.cells (ofO homes made o)) (e:=5) (ro:=false) (by simp -implicitDefEqProofs [q4]) (by simp) (by omega)) (by simp) (by omega) (by omega) (by omega) (by omega) ?_
  ·intro id a b hv
   have:=acc_lt hL id a b hv
   rw[get_push_lt (by omega)]
   exact hk1 id this.2
  intro H2 hn2 hL2 hf2
  simp -implicitDefEqProofs [q4] at hn2 hL2 hf2
  simp -implicitDefEqProofs [hlt3]
  refine⟨by omega,fun id hid=>?_,by simpa[List.take_add_one,hx,q4] using hL2⟩
  rw[hf2 id (by omega) fun id0 n0 c0 hv=>by have:=(acc_lt hL _ _ _ hv).1;omega]
  simp -implicitDefEqProofs [show ¬ id=H'.next+1 by omega,hk1 id (by omega),hf id hid]
 ·rintro e H' ⟨lv,rfl,hn1,hf,hL⟩
  rw[List.take_length] at hL
  simp -implicitDefEqProofs [L9a]
  exact hQ lv _ H' hn1 hf hL
 ·exact⟨.ns,by simp,Nat.le_refl _,fun _ _=>rfl,acc_none⟩
end
end Go.Proofs.YtbfajkcmehaliabGreatDoor
namespace Go.Proofs.YtbfajkcmehaliabGreatDoor
open Go Go.RI
section
variable {G:AHeap} (hG:G.next=2)
include hG
theorem t_do_steps(cN:NeedsOk G)(x:Pce)(hc:checkP x=true)(hx:okPce x)(homes:List Val)(hh:(homes.length:Int)=x.homes)(hm:homes.all mayV=true)(t1 t2 th:Bool)(Q:Post)(H:AHeap)
    (g0:H.get 2=some (.cells (pceC x t1 t2 false false) 1 false)) (g1:H.get 3=some (.cells [.fs th false homes.length (encs homes)] 1 false)) (g2:H.get 4=some (.cells [.ns] 1 false)) (hn:5≤H.next)
    (hQ1:∀ made,stepsV homes x.ins []=some made→made.length=x.ins.length→(∀ v∈made,v.bulk≤2304)→∀ sv w H',5≤H'.next→H'.get 2=some (.cells (pceC x t1 t2 false false) 1 false)→H'.get 3=some (.cells [.fs th false homes.length (encs homes)] 1 false)→H'.get 4=some (.cells [sv] 1 false)→Acc H' 5 sv 5 made.length (encs made) →
      Q (.exit 0) [(2,.p 2 0),(4,.ns),(7,.p 4 0),(8,.fn (.func 34) [] [.p 3 0,.p 4 0]),(35,.fs t1 false x.ins.length (encs x.ins)),(36,.i .i64 x.ins.length),(37,.i .i64 x.ins.length),(38,w)] H')
    (hQ2:stepsV homes x.ins []=none→∀ H',Q .ret [(4,.ns),(5,.i .i64 0),(6,.b false)] H') :
    wp (theCalls IP G 2) 2 (.loop L9b) Q [(2,.p 2 0),(4,.ns),(7,.p 4 0),(8,.fn (.func 34) [] [.p 3 0,.p 4 0]),(35,.fs t1 false x.ins.length (encs x.ins)),(36,.i .i64 x.ins.length),(37,.i .i64 0)] H:=by
  have hfits:=check_fits hc
  have hins:x.ins.length≤4096:=by have:=(checkP_iff.1 hc).1;unfold numsP at this;omega
  have hhb:∀ v∈homes,v.bulk≤2304:=fun v hv=>all_bulk hm hv
  refine wp_loop_list (l:=x.ins) (by omega) (fun i todo e H'=>∃ made sv,e=[(2,.p 2 0),(4,.ns),(7,.p 4 0),(8,.fn (.func 34) [] [.p 3 0,.p 4 0]),(35,.fs t1 false x.ins.length (encs x.ins)),(36,.i .i64 x.ins.length),(37,.i .i64 i)] ∧
    5≤H'.next∧H'.get 2=some (.cells (pceC x t1 t2 false false) 1 false)∧H'.get 3=some (.cells [.fs th false homes.length (encs homes)] 1 false)∧H'.get 4=some (.cells [sv] 1 false)∧Acc H' 5 sv 5 made.length (encs made)∧made.length=i∧(∀ v∈made,v.bulk≤2304)∧stepsV homes x.ins []=stepsV homes todo made) ?_ ?_ ?_
  · rintro i s todo e H' hs hdr hlt hlt2 hlt3 ⟨made,sv,rfl,n1,k0,k1,k2,hA,hml,hmb,he⟩
    subst hml
    have hfs:=hfits _ s hs
    have hok:=hx.1 s (List.mem_of_getElem? hs)
    have hsl:=fits_most hfs
    have hof:=fits_all hfs
    have hops:∀ o∈s.l,(o.kind=1→0≤o.n∧o.n<homes.length)∧(o.kind=2→0≤o.n∧o.n<made.length):=fun o ho=>⟨fun h=>by have:=opnFits_home (hof o ho) h;omega,fun h=>by have:=opnFits_step (hof o ho) h;omega⟩
    have hlb:bulkL (s.l.map (ofO homes made))≤s.l.length*2304:=by
      have:=bulkL_le (B:=2304) (l:=s.l.map (ofO homes made)) (fun v hv=>by
        obtain⟨o,ho,rfl⟩:=List.mem_map.1 hv
        exact of_bulk (hof o ho) hhb hmb)
      simpa using this
    have hlb2:bulkL (s.l.map (ofO homes made))<68719476736:=by omega
    obtain⟨H1,hH1⟩:∃ H1,H1=(H'.push (.cells [.i .i64 0,.i .i64 0,.ns,.s [],.ns] 1 false)).put H'.next (some (.cells (Enc.cells s) 1 false)):=⟨_,rfl⟩
    have hk1:∀ id,id<H'.next→H1.get id=H'.get id:=fun id h=>by rw[hH1];simp -implicitDefEqProofs [show ¬ id=H'.next by omega]
    have q0:=(hk1 2 (by omega)).trans k0
    have q1:=(hk1 3 (by omega)).trans k1
    have q2:=(hk1 4 (by omega)).trans k2
    have q3:H1.get H'.next=some (.cells (Enc.cells s) 1 false):=by rw[hH1];simp
    have q4:H1.next=H'.next+1:=by rw[hH1];simp
    have hA1:Acc H1 5 sv 5 made.length (encs made):=acc_keep hA (by omega) fun id n c hv=>hk1 id (acc_lt hA _ _ _ hv).2
    have n3:2≤H'.next:=by omega
    have hlt4:=hlt
    clear hlt
    simp at hH1 q3
    simp -implicitDefEqProofs [L9b,hlt2,hlt3,hs,n3,←hH1,q3]
    refine t_do_l hG s homes made (by omega) hops false th H'.next made.length x.ins.length _ sv (H'.next+1) _ H1 (by omega) (by omega) q1 q2 hA1 (fun id n c hv=>by have:=(acc_lt hA _ _ _ hv).2;omega) ?_
    intro lv w H2 hn2 hf2 hL
    have c4:=t_liftStep hG cN s hok (s.l.map (ofO homes made)) hlb2 (decide (0<s.l.length)) false false false
    have sl:=acc_snap (k:=15) hL snap_encs
    have r3:=(hf2 H'.next (by omega)).trans q3
    simp only[List.length_map] at c4
    rw[stepsV] at he
    obtain⟨v,hv⟩:∃ v,v=stepV s (s.l.map (ofO homes made)):=⟨_,rfl⟩
    rw[←hv] at c4 he
    have n4:2≤H2.next:=by omega
    simp at sl c4 r3
    cases v with
    | none =>
      simp at c4
      simp -implicitDefEqProofs [hlt3,r3,sl,c4,n4]
      exact hQ2 he _
    | some v =>
      have hvb:=step_ok hv.symm
      simp at c4
      obtain⟨H3,hH3⟩:∃ H3,H3=(H2.push (.cells [.i .i64 0,.i .i64 0,.s [],.ns,.ns] 1 false)).put H2.next (some (.cells (Enc.cells v) 1 false)):=⟨_,rfl⟩
      have hk3:∀ id,id<H2.next→H3.get id=H2.get id:=fun id h=>by rw[hH3];simp -implicitDefEqProofs [show ¬ id=H2.next by omega]
      have u2:=((hk3 4 (by omega)).trans (hf2 4 (by omega))).trans q2
      have u3:H3.get H2.next=some (.cells (Enc.cells v) 1 false):=by rw[hH3];simp
      have u4:H3.next=H2.next+1:=by rw[hH3];simp
      have hA3:Acc H3 5 sv 5 made.length (encs made):=acc_keep hA1 (by omega) fun id n c hv=>by
        have:=(acc_lt hA _ _ _ hv).2
        exact(hk3 id (by omega)).trans (hf2 id (by omega))
      simp at hH3 u3
      simp -implicitDefEqProofs [hlt3,r3,sl,c4,n4,←hH3,u2,u3,u4,hold_len hA3.hold]
      refine step_app (lo':=5) (acc_keep hA3 (by simp) ?_) (m:=1) (ys:=[.i .i64 0,.i .i64 0,.s [],.ns,.ns]) (by omega) (by simp -implicitDefEqProofs [u4];omega) (more_lit (cs:=[.i .i64 0,.i .i64 0,.s [],.ns,.ns]) (e:=5) (ro:=false) (by simp -implicitDefEqProofs [u4]) (by simp) (by omega)) (by simp) (by omega) (by omega) (by omega) (by omega) ?_
      · intro id a b hw
        have:=acc_lt hA3 id a b hw
        exact get_push_lt this.2
      intro H4 hn4 hA4 hf4
      have r4:=acc_row hA4
      have hn5:H4.next=H2.next+3:=by rw[hn4];simp -implicitDefEqProofs [u4]
      have hid:(H3.push (.cells [.i .i64 0,.i .i64 0,.s [],.ns,.ns] 5 false)).next=H2.next+2:=by simp -implicitDefEqProofs [u4]
      rw[hid] at hA4 r4
      have hk4:∀ id,id<5→H4.get id=H3.get id:=fun id h=>by
        rw[hf4 id (by rw[hid];omega) fun id0 n0 c0 hw=>by have:=(acc_lt hA3 _ _ _ hw).1;omega]
        exact get_push_lt (by omega)
      have v0:=(((hk4 2 (by omega)).trans (hk3 2 (by omega))).trans (hf2 2 (by omega))).trans q0
      have v1:=(((hk4 3 (by omega)).trans (hk3 3 (by omega))).trans (hf2 3 (by omega))).trans q1
      have v2:=(hk4 4 (by omega)).trans u2
      have pc:=put_last made v
      have m1:(made.length:Int)<(made.length:Int)+1:=by omega
      have m2:made.length*5+5≤(made.length+1)*5:=by omega
      have m3:2≤H2.next+2:=by omega
      have m4:¬ H2.next+2=4:=by omega
      have m5:¬ 4=H2.next+2:=by omega
      have m6:¬ 3=H2.next+2:=by omega
      have m7:¬ 2=H2.next+2:=by omega
      simp at pc
      have hid2:H3.next+1=H2.next+2:=by omega
      simp -implicitDefEqProofs [hid2,r4,v0,v1,v2,hlt3,pc,m1,m2,m3,m4,m5,m6,m7]
      refine⟨by omega,by omega,made++[v],.inr ⟨H2.next+2,by simp,by omega,by simp;omega,by simp -implicitDefEqProofs [m4,m5],by simp;omega⟩,by simp,fun w hw=>?_,by simpa using he⟩
      rcases List.mem_append.1 hw with h|h
      · exact hmb w h
      · simp at h;subst h;exact hvb
  · rintro e H' ⟨made,sv,rfl,n1,k0,k1,k2,hA,hml,hmb,he⟩
    simp -implicitDefEqProofs [L9b]
    exact hQ1 made he hml hmb sv _ H' n1 k0 k1 k2 hA
  · exact⟨[],.ns,by simp,hn,g0,g1,g2,acc_none,rfl,fun v hv=>(by cases hv),rfl⟩
theorem t_do_sets(x:Pce)(hc:checkP x=true)(homes made:List Val)(hh:(homes.length:Int)=x.homes)(hml:made.length=x.ins.length)(hhb:∀ v∈homes,v.bulk≤2304)(hmb:∀ v∈made,v.bulk≤2304)(t2 th:Bool)(to:Int)(sv:AVal)(d:Nat)(Q:Post)(H:AHeap)
  (hd:5≤d) (hn:d≤H.next) (g1:H.get 3=some (.cells [.fs th false homes.length (encs homes)] 1 false)) (g2:H.get 4=some (.cells [sv] 1 false)) (hA:Acc H 5 sv 5 made.length (encs made)) (hsv:∀ id n c,sv=.sl id 0 n c→id<d)
  (hQ:∀ lv w H',Acc H' d lv 5 x.sets.length (encs (x.sets.map (ofO homes made)))→Q (.exit 4) [(4,lv),(5,.i .i64 to),(8,.fn (.func 34) [] [.p 3 0,.p 4 0]),(91,.fs t2 false x.sets.length (encs x.sets)),(92,.i .i64 x.sets.length),(93,.i .i64 x.sets.length),(94,w)] H') :
  wp (theCalls IP G 2) 2 (.loop L9c) Q [(4,.ns),(5,.i .i64 to),(8,.fn (.func 34) [] [.p 3 0,.p 4 0]),(91,.fs t2 false x.sets.length (encs x.sets)),(92,.i .i64 x.sets.length),(93,.i .i64 0)] H:=by
 have hcp:=checkP_iff.1 hc
 have hset:x.sets.length≤64:=by have:=hcp.1;unfold numsP at this;omega
 have hof:=List.all_eq_true.1 hcp.2.2.2
 refine wp_loop_list (l:=x.sets) (by omega) (fun k todo e H'=>∃ lv,e=[(4,lv),(5,.i .i64 to),(8,.fn (.func 34) [] [.p 3 0,.p 4 0]),(91,.fs t2 false x.sets.length (encs x.sets)),(92,.i .i64 x.sets.length),(93,.i .i64 k)]∧H.next≤H'.next∧(∀ id,id<d→H'.get id=H.get id)∧Acc H' d lv 5 k (encs ((x.sets.take k).map (ofO homes made)))) ?_ ?_ ?_
 ·rintro k o todo e H' hx hdr hlt hlt2 hlt3 ⟨lv,rfl,hn1,hf,hL⟩
  have hoo:=hof o (List.mem_of_getElem? hx)
  have b1:o.kind=1→0≤o.n∧o.n<homes.length:=fun h=>by have:=opnFits_home hoo h;omega
  have b2:o.kind=2→0≤o.n∧o.n<made.length:=fun h=>by have:=opnFits_step hoo h;omega
  have hvb:=of_bulk (homes:=homes) (made:=made) hoo hhb hmb
  have k1:=(hf 3 (by omega)).trans g1
  have k2:=(hf 4 (by omega)).trans g2
  have hA1:Acc H' 5 sv 5 made.length (encs made):=acc_keep hA hn1 fun id n c hv=>hf id (hsv id n c hv)
  have n3:2≤H'.next:=by omega
  obtain⟨H1,hH1⟩:∃ H1,H1=(H'.push (.cells [.i .i64 0,.i .i64 0,.i .i64 0,.i .i64 0,.s [],.ns,.ns] 1 false)).put H'.next (some (.cells (Enc.cells o) 1 false)):=⟨_,rfl⟩
  have hk1:∀ id,id<H'.next→H1.get id=H'.get id:=fun id h=>by rw[hH1];simp -implicitDefEqProofs [show ¬ id=H'.next by omega]
  have q1:=(hk1 3 (by omega)).trans k1
  have q2:=(hk1 4 (by omega)).trans k2
  have q3:H1.get H'.next=some (.cells (Enc.cells o) 1 false):=by rw[hH1];simp
  have q4:H1.next=H'.next+1:=by rw[hH1];simp
  obtain⟨tb,s1,s2⟩:=do_snaps hG q1 q2 (acc_keep hA1 (by omega) fun id n c hv=>hk1 id (by have:=hsv id n c hv;omega))
  have c1:=t_doOf hG o homes made b1 b2 th tb
  have c2:=t_lown hG (ofO homes made o) (by omega) false false
  simp at hH1 q3 s1 s2 c1 c2
  clear hlt
  simp -implicitDefEqProofs [L9c,hlt2,hlt3,hx,n3,←hH1,q3,s1,s2,c1,c2,q4]
  refine step_app (lo':=d) (acc_keep hL (by simp -implicitDefEqProofs [q4];omega) ?_) (m:=1) (ys:=Enc.cells (ofO homes made o)) (by omega) (by simp -implicitDefEqProofs [q4];omega) (more_lit (cs:=Enc.cells (ofO homes made o)) (e:=5) (ro:=false) (by simp -implicitDefEqProofs [q4]) (by simp) (by omega)) (by simp) (by omega) (by omega) (by omega) (by omega) ?_
  ·intro id a b hv
   have:=acc_lt hL id a b hv
   rw[get_push_lt (by omega)]
   exact hk1 id this.2
  intro H2 hn2 hL2 hf2
  simp -implicitDefEqProofs [q4] at hn2 hL2 hf2
  simp -implicitDefEqProofs [hlt3]
  refine⟨by omega,fun id hid=>?_,by simpa[List.take_add_one,hx,q4] using hL2⟩
  rw[hf2 id (by omega) fun id0 n0 c0 hv=>by have:=(acc_lt hL _ _ _ hv).1;omega]
  simp -implicitDefEqProofs [show ¬ id=H'.next+1 by omega,hk1 id (by omega),hf id hid]
 ·rintro e H' ⟨lv,rfl,hn1,hf,hL⟩
  rw[List.take_length] at hL
  simp -implicitDefEqProofs [L9c]
  exact hQ lv _ H' hL
 ·exact⟨.ns,by simp,Nat.le_refl _,fun _ _=>rfl,acc_none⟩
end
end Go.Proofs.YtbfajkcmehaliabGreatDoor
namespace Go.Proofs.YtbfajkcmehaliabGreatDoor
open Go Go.RI
def CheckOk(G:AHeap):Prop:=∀ x:Pce,okPce x→∀ t1 t2 t3 t4:Bool,pureR IP G 8 [.ag (pceC x t1 t2 t3 t4)]=some (.i .i64 (if checkP x then 0 else 2))
def doR(x:Pce)(homes:List Val):List Val×Int×Bool:=match doP x homes with
 | some (l,to)=>(l,to,true)
 | none=>([],0,false)
section
variable {G:AHeap} (hG:G.next=2)
include hG
set_option maxHeartbeats 1000000 in
theorem t_do(c17:CheckOk G)(cN:NeedsOk G)(x:Pce)(hx:okPce x)(homes:List Val)(hb:bulkL homes<1099511627776)(t1 t2 th:Bool):pureR IP G 9 [.ag (pceC x t1 t2 false false),.fs th false homes.length (encs homes)] =
    some (.tu [.fs false false (doR x homes).1.length (encs (doR x homes).1),.i .i64 (doR x homes).2.1,.b (doR x homes).2.2]):=by
  have c1:=c17 x hx t1 t2 false false
  have c2:=t_doAny hG homes hb th false
  unfold doR doP
  cases hc:checkP x
  · rw[hc] at c1
    simp -implicitDefEqProofs [pceC] at c1
    rw[if_neg (by simp)]
    refine pure_run ip9 rfl ?_
    simp -implicitDefEqProofs [I9,hG,c1,pceC]
  rw[hc] at c1
  by_cases hh:(homes.length:Int)=x.homes
  · cases hm:homes.all mayV
    · rw[hm] at c2
      rw[if_neg (by simp)]
      simp -implicitDefEqProofs [pceC] at c1
      refine pure_run ip9 rfl ?_
      simp -implicitDefEqProofs [I9,hG,c1,c2,hh,pceC]
    · rw[hm] at c2
      rw[if_pos ⟨rfl,hh,rfl⟩]
      have hhb:∀ v∈homes,v.bulk≤2304:=fun v hv=>all_bulk hm hv
      simp -implicitDefEqProofs [pceC] at c1
      refine pure_run ip9 rfl ?_
      simp -implicitDefEqProofs [I9,hG,c1,c2,hh,pceC]
      refine t_do_steps hG cN x hc hx homes hh hm t1 t2 th _ _ (by simp -implicitDefEqProofs [hG,pceC]) (by simp -implicitDefEqProofs [hG]) (by simp -implicitDefEqProofs [hG]) (by simp -implicitDefEqProofs [hG]) ?_ ?_
      · intro made hs hml hmb sv w H' hn g0 g1 g2 hA
        simp only[hs]
        have gg0:=g0
        simp only[pceC] at g0
        have fin:∀(lv:AVal) (d:Nat) (H2:AHeap),5≤d→Acc H2 d lv 5 x.sets.length (encs (x.sets.map (ofO homes made)))→frzV H2 2 15 lv=some (.fs false false x.sets.length (encs (x.sets.map (ofO homes made)))):=fun lv d H2 h1 h2=>hold_frz (k:=14) (hold_mono h2.hold (by omega)) frz_encs
        by_cases he:x.exit=2
        · have hcf:opnFits x.homes x.ins.length x.cond=true:=by
            have:=(checkP_iff.1 hc).2.2.1
            unfold condP at this
            rw[if_pos he] at this
            exact this
          have b1:x.cond.kind=1→0≤x.cond.n∧x.cond.n<homes.length:=fun h=>by have:=opnFits_home hcf h;omega
          have b2:x.cond.kind=2→0≤x.cond.n∧x.cond.n<made.length:=fun h=>by have:=opnFits_step hcf h;omega
          obtain⟨tb,s1,s2⟩:=do_snaps hG g1 g2 hA
          have c3:=t_doOf hG x.cond homes made b1 b2 th tb
          unfold toP
          rw[if_pos he]
          obtain⟨v,hv⟩:∃ v,v=ofO homes made x.cond:=⟨_,rfl⟩
          rw[←hv] at c3 ⊢
          simp at s1 s2 c3
          have n1:2≤H'.next:=by omega
          have n2:¬ 2=H'.next:=by omega
          by_cases hk:v.kind=2
          · rw[if_pos hk]
            by_cases hv1:v.n=1
            · rw[if_pos hv1]
              simp -implicitDefEqProofs [g0,he,s1,s2,c3,hk,hv1,n1,n2]
              refine t_do_sets hG x hc homes made hh hml hhb hmb t2 th _ sv (H'.next+1) _ _ (by omega) (by simp) (by simp -implicitDefEqProofs [show ¬ 3=H'.next by omega,g1]) (by simp -implicitDefEqProofs [show ¬ 4=H'.next by omega,g2]) (acc_keep hA (by simp) fun id n c hv=>by have:=(acc_lt hA _ _ _ hv).2;simp -implicitDefEqProofs [show ¬ id=H'.next by omega]) (fun id n c hv=>by have:=(acc_lt hA _ _ _ hv).2;omega) ?_
              intro lv w H2 hL
              have:=fin lv _ H2 (by omega) hL
              simp -implicitDefEqProofs [this]
            · rw[if_neg hv1]
              simp -implicitDefEqProofs [g0,he,s1,s2,c3,hk,hv1,n1,n2]
              refine t_do_sets hG x hc homes made hh hml hhb hmb t2 th _ sv (H'.next+1) _ _ (by omega) (by simp) (by simp -implicitDefEqProofs [show ¬ 3=H'.next by omega,g1]) (by simp -implicitDefEqProofs [show ¬ 4=H'.next by omega,g2]) (acc_keep hA (by simp) fun id n c hv=>by have:=(acc_lt hA _ _ _ hv).2;simp -implicitDefEqProofs [show ¬ id=H'.next by omega]) (fun id n c hv=>by have:=(acc_lt hA _ _ _ hv).2;omega) ?_
              intro lv w H2 hL
              have:=fin lv _ H2 (by omega) hL
              simp -implicitDefEqProofs [this]
          · rw[if_neg hk]
            simp -implicitDefEqProofs [g0,he,s1,s2,c3,hk,n1,n2]
        · unfold toP
          rw[if_neg he]
          simp -implicitDefEqProofs [g0,he]
          refine t_do_sets hG x hc homes made hh hml hhb hmb t2 th _ sv H'.next _ _ hn (Nat.le_refl _) g1 g2 hA (fun id n c hv=>(acc_lt hA _ _ _ hv).2) ?_
          intro lv w H2 hL
          have:=fin lv _ H2 hn hL
          simp -implicitDefEqProofs [this]
      · intro hs H'
        simp -implicitDefEqProofs [hs]
  · rw[if_neg (fun h=>hh h.2.1)]
    simp -implicitDefEqProofs [pceC] at c1
    refine pure_run ip9 rfl ?_
    simp -implicitDefEqProofs [I9,hG,c1,hh,pceC]
end
end Go.Proofs.YtbfajkcmehaliabGreatDoor
namespace Go.Proofs.YtbfajkcmehaliabGreatDoor
open Go Go.RI
def guessE(K:List Int)(x:Pce):Int:=if checkP x=true then(if(gsP K x).out.length≤4096 then 0 else 5) else 2
def guessR(K:List Int)(x:Pce):Pce:=if guessE K x=0 then guessP K x else⟨0,0,0,0,[],[],0,0,⟨0,0,zeroVal⟩,0⟩
section
variable {G:AHeap} (hG:G.next=2)
include hG
set_option maxHeartbeats 2000000 in
theorem t_guessOf(c17:CheckOk G)(K:List Int)(hK:K.length<1099511627776)(x:Pce)(hx:okPce x)(t1 t2 tk:Bool):pureR IP G 6 [.ag (pceC x t1 t2 false false),.fs tk false K.length (encs K)]=some (.tu [.ag (Enc.cells (guessR K x)),.i .i64 (guessE K x)]):=by
 have c1:=c17 x hx t1 t2 false false
 have hx0:=hx
 obtain⟨ho1,ho2,ho3,ho4,ho5⟩:=hx
 simp only[pceC] at c1
 refine pure_run ip6 rfl ?_
 cases hc:checkP x
 ·rw[hc] at c1
  have e1:guessE K x=2:=by unfold guessE;rw[hc];rfl
  have e2:guessR K x=⟨0,0,0,0,[],[],0,0,⟨0,0,zeroVal⟩,0⟩:=by unfold guessR;rw[e1];rfl
  rw[e1,e2]
  simp at c1
  simp -implicitDefEqProofs [I6,hG,pceC,c1,zeroVal]
 ·rw[hc] at c1
  simp at c1
  have hck:=checkP_iff.1 hc
  have hnum:=hck.1
  unfold numsP at hnum
  obtain⟨hn,hhn⟩:∃ n:Nat,x.homes=n:=⟨x.homes.toNat,by omega⟩
  have hmk:(8:Int)*(hn:Int)≤281474976710656:=by omega
  rw[hhn] at c1
  simp -implicitDefEqProofs [I6,hG,pceC,c1,hhn,hmk,rep_kinds]
  refine t_gof_a hG hn (by omega) .ns (.fs tk false K.length (encs K)) .ns .ns (.p 2 0) (.p 3 0) _ _ (by simp -implicitDefEqProofs [hG]) (by simp -implicitDefEqProofs [hG]) (by simp -implicitDefEqProofs [hG]) ?_
  intro w H1 g2 gf gn
  have k0:=gf 2 (by omega)
  have k1:=gf 3 (by omega)
  have k3:=gf 5 (by omega)
  simp -implicitDefEqProofs [hG] at k0 k1 k3 gn
  simp -implicitDefEqProofs [k0]
  refine t_gof_b hG (K:=K) (tk:=tk) x hx0 hc [] t1 (.p 2 0) (.p 3 0) _ H1 ⟨.ns,.ns,[],?_⟩ ?_
  ·have hh:x.homes.toNat=hn:=by omega
   exact{ gM:=by simpa[gs0,hh] using k3,gH:=by simpa[gs0,hh] using g2,nx:=by omega,acc:=acc_none,pl:=acc_none,dis:=fun i m c h=>(by cases h),out:=rfl }
  ·intro w2 H2 ov pv cs hM hf
   have y0:=(hf 2 (by omega)).trans k0
   have y1:=(hf 3 (by omega)).trans k1
   have yM:=hM.gM
   have nx:=hM.nx
   have hlen:=guess_len (K:=K) hc
   have n3:2≤H2.next:=by omega
   by_cases hl:(gsP K x).out.length≤4096
   ·have e1:guessE K x=0:=by unfold guessE;rw[hc,if_pos rfl,if_pos hl]
    have e2:guessR K x=guessP K x:=by unfold guessR;rw[if_pos e1]
    rw[e1,e2]
    have hg:=gsP_good (K:=K) hc
    have hset:=List.all_eq_true.1 hck.2.2.2
    have hl2:¬(4096:Int)<((gsP K x).out.length:Int):=by omega
    have hl3:¬ 4096<(gsP K x).out.length:=by omega
    have hsl:x.sets.length≤64:=by omega
    obtain⟨Hp,hHp⟩:∃ Hp,Hp=H2.push (.cells (Enc.cells x.cond) 7 false):=⟨_,rfl⟩
    have hpn:Hp.next=H2.next+1:=by rw[hHp];rfl
    have hpk:∀ id,id<H2.next→Hp.get id=H2.get id:=fun id h=>by rw[hHp];exact get_push_lt h
    have hpr:Hp.get H2.next=some (.cells (Enc.cells x.cond) 7 false):=by rw[hHp];simp
    have hMp:=mk_box hG hM (H':=Hp) (by omega) hpk
    obtain⟨ta,tb,tp,cs2,hT,sm⟩:=mk_snap hG hMp 11
    have c2:=t_gmoved hG x.sets (by omega) (gsP K x).pl (fun o ho hk=>by have:=opnFits_step (hset o ho) hk;rw[hg.pl];omega) (fun o ho=>ho4 o ho) t2 false tp (.fs ta false (gsP K x).out.length cs2) (.fs tb false (gsP K x).hs.length (encs (gsP K x).hs)) (.fs tk false K.length (encs K))
    have hcd:x.cond.kind=2→0≤x.cond.n∧x.cond.n<(gsP K x).pl.length:=fun hk=>by
     have hcond:=hck.2.2.1
     unfold condP at hcond
     split at hcond
     ·have:=opnFits_step hcond hk;rw[hg.pl];omega
     ·simp only[Bool.and_eq_true,decide_eq_true_eq] at hcond;omega
    have c3:=t_gmoved hG [x.cond] (by simp) (gsP K x).pl (fun o ho hk=>by simp at ho;subst ho;exact hcd hk) (fun o ho=>by simp at ho;subst ho;exact ho5) true false tp (.fs ta false (gsP K x).out.length cs2) (.fs tb false (gsP K x).hs.length (encs (gsP K x).hs)) (.fs tk false K.length (encs K))
    have s2:=snap_lit (H:=Hp) (id:=H2.next) (esz:=7) (n:=1) (k:=15) (cap:=some 1) (cells:=Enc.cells x.cond) (cells':=Enc.cells x.cond) (by omega) hpr (by simp) (by simp) (by simp)
    have z0:=(hpk 2 (by omega)).trans y0
    have z1:=(hpk 3 (by omega)).trans y1
    have fz:∀ Kp:AHeap,Kp.next=Hp.next→(∀ id,6≤id→Kp.get id=Hp.get id)→frzV Kp 2 14 ov=some (.fs false false (gsP K x).out.length (encs (gsP K x).out)):=fun Kp h1 h2=>by
     refine hold_frz (k:=13) (hold_mono (acc_keep hMp.acc (by omega) fun id a b hv=>h2 id (acc_lt hMp.acc _ _ _ hv).1).hold (by omega)) ?_
     exact out_frz (P:=Aq N0 ov pv) (k:=11) (fun id h=>by have:=h.1.1;omega) _ _ (out_keep (by omega) (fun id h3 h4=>⟨h2 id h3.1.1,h3⟩) _ _ hMp.out)
    obtain⟨d1,d2⟩:=hold_one hM.acc.hold
    simp at sm c2 c3 s2 hHp
    have gi:(guessP K x).ins=(gsP K x).out:=rfl
    have gse:(guessP K x).sets=x.sets.map (movedO (gsP K x).pl):=rfl
    have gco:(guessP K x).cond=movedO (gsP K x).pl x.cond:=rfl
    have gr:(guessP K x).func=x.func∧(guessP K x).at_=x.at_∧(guessP K x).many=x.many∧(guessP K x).homes=x.homes∧(guessP K x).exit=x.exit∧(guessP K x).to=x.to∧(guessP K x).deep=x.deep:=⟨rfl,rfl,rfl,rfl,rfl,rfl,rfl⟩
    simp -implicitDefEqProofs [y0,yM,hold_len hM.acc.hold,hl2,hl3,←hHp]
    simp -implicitDefEqProofs [sm,c2,c3,s2,z0,z1,d1,d2,gi,gse,gco,gr,hhn]
    rw[fz _ (by simp) (fun id h=>by simp -implicitDefEqProofs [show ¬ id=2 by omega,show ¬ id=3 by omega])]
    simp
   ·have e1:guessE K x=5:=by unfold guessE;rw[hc,if_pos rfl,if_neg hl]
    have e2:guessR K x=⟨0,0,0,0,[],[],0,0,⟨0,0,zeroVal⟩,0⟩:=by unfold guessR;rw[e1];rfl
    rw[e1,e2]
    have hl2:(4096:Int)<((gsP K x).out.length:Int):=by omega
    have hl3:4096<(gsP K x).out.length:=by omega
    simp -implicitDefEqProofs [y0,y1,yM,hold_len hM.acc.hold,hl2,hl3,zeroVal]
end
end Go.Proofs.YtbfajkcmehaliabGreatDoor
namespace Go.Proofs.YtbfajkcmehaliabGreatDoor
open Go Go.RI
section
variable {G:AHeap} (hG:G.next=2)
include hG
theorem t_number(a b:Int):pureR IP G 113 [.i .i64 a,.i .i64 b]=some (.i .i64 (numI a b)):=by
 refine pure_run ip113 rfl ?_
 simp -implicitDefEqProofs [I113,hG]
 repeat' ((first|refine guard_intro ?_ ?_|refine test_intro ?_ ?_)<;>intro h<;>(try simp -implicitDefEqProofs [h,hG]))
 all_goals simp only[decide_eq_true_eq,decide_eq_false_iff_not] at *
 all_goals simp -implicitDefEqProofs [numI, *]
theorem t_text(a b:Str):pureR IP G 114 [.s a,.s b]=some (.i .i64 (txtI a b)):=by
 have e:∀ a b:Str,leS a b=(ltB a b||a==b):=fun _ _=>rfl
 have hgt:∀ a b:Str,(!leS a b)=true→ltB b a=true:=fun a b h=>by
  have hne:a≠b:=fun he=>by subst he;simp -implicitDefEqProofs [leS] at h
  rcases ltB_total a b hne with h1|h1
  ·simp -implicitDefEqProofs [leS,h1] at h
  ·exact h1
 refine pure_run ip114 rfl ?_
 simp -implicitDefEqProofs [I114,hG]
 refine test_intro ?_ ?_<;>intro h<;>simp -implicitDefEqProofs [hG]
 ·simp -implicitDefEqProofs [txtI,h]
 ·refine test_intro ?_ ?_<;>intro h2<;>simp -implicitDefEqProofs [hG]
  ·have h3:ltB b a=false:=by
    cases h4:ltB b a with
    | false=>rfl
    | true=>exact absurd (ltB_not_le b a h4) (by rw[h2];simp)
   simp -implicitDefEqProofs [txtI,h,h3]
  ·simp -implicitDefEqProofs [txtI,h,hgt a b (by rw[h2];rfl)]
def valC(v:Val)(t1 t2:Bool):List AVal:=[.i .i64 v.kind,.i .i64 v.n,.s v.s,.fs t1 false v.l.length (encs v.l),.fs t2 false v.names.length (encs v.names)]
theorem t_cmp_loop1(v w:Val)(hv:v.names.length<1099511627776)(t1 t2 t3 t4:Bool)(Q:Post)(H:AHeap)(g1:H.get 2=some (.cells (valC v t1 t2) 1 false))(g2:H.get 3=some (.cells (valC w t3 t4) 1 false))
  (h1:(v.names=w.names∨cmpS v.names w.names=numI v.names.length w.names.length∧v.names.length≠w.names.length)→∀ b i,Q (.exit 0) [(2,.p 2 0),(3,.p 3 0),(5,.i .i64 i),(49,b)] H)
  (h2:v.names≠w.names→Q .ret [(4,.i .i64 (cmpS v.names w.names))] H) :
  wp (theCalls IP G 2) 2 (.loop L103a) Q [(2,.p 2 0),(3,.p 3 0),(5,.i .i64 0)] H:=by
 simp only[valC] at g1 g2
 refine wp_loop_inv (fun k e H'=>∃ i:Nat,k=v.names.length-i∧i≤v.names.length∧i≤w.names.length∧v.names.take i=w.names.take i∧e=[(2,.p 2 0),(3,.p 3 0),(5,.i .i64 i)]∧H'=H) ?_ _ _ _ ⟨0,rfl,by omega,by omega,by simp,rfl,rfl⟩
 rintro k e H' ⟨i,hk,hi1,hi2,ht,rfl,rfl⟩
 have done:(i=v.names.length∨i=w.names.length)→(v.names=w.names∨cmpS v.names w.names=numI v.names.length w.names.length∧v.names.length≠w.names.length):=fun he=>by
  by_cases hl:v.names.length=w.names.length
  ·left
   have e1:i=v.names.length:=by omega
   rw[e1] at ht
   rw[List.take_of_length_le (Nat.le_refl _),List.take_of_length_le (by omega)] at ht
   exact ht
  ·exact .inr ⟨cmpS_end ht ⟨hi1,hi2⟩ he,hl⟩
 rcases Nat.lt_or_ge i v.names.length with hlt1|hge1
 ·have hlt2:(i:Int)<(v.names.length:Int):=by omega
  rcases Nat.lt_or_ge i w.names.length with hlt3|hge3
  ·have hlt4:(i:Int)<(w.names.length:Int):=by omega
   obtain⟨x,hx⟩:=get_of_lt hlt1
   obtain⟨y,hy⟩:=get_of_lt hlt3
   have hlt5:i<4611686018427387904:=by omega
   clear hlt1 hlt3
   have c1:=t_text hG x y
   simp -implicitDefEqProofs [L103a,g1,g2,hlt2,hlt4,hx,hy]
   refine test_intro ?_ ?_<;>intro h<;>simp -implicitDefEqProofs [g1,g2,hlt2,hlt4,hx,hy,hlt5,c1]
   ·have hxy:x=y:=by simpa using h
    subst hxy
    exact⟨v.names.length-(i+1),by omega,i+1,rfl,by omega,by omega,take_succ_eq ht hx hy,rfl⟩
   ·have hxy:x≠y:=by simpa using h
    rw[←cmpS_at ht hx hy hxy]
    refine h2 fun he=>?_
    rw[he,hy] at hx
    cases hx
    exact hxy rfl
  ·have hlt4:¬(i:Int)<(w.names.length:Int):=by omega
   simp -implicitDefEqProofs [L103a,g1,g2,hlt2,hlt4]
   exact h1 (done (by omega)) _ _
 ·have hlt2:¬(i:Int)<(v.names.length:Int):=by omega
  simp -implicitDefEqProofs [L103a,g1,g2,hlt2]
  exact h1 (done (by omega)) _ _
theorem t_cmp_loop2(v w:Val)(hv:v.l.length<1099511627776)(t1 t2 t3 t4:Bool)
  (ih:∀ x∈v.l,∀ y:Val,∀ t1 t2 t3 t4:Bool,pureR IP G 103 [.ag (valC x t1 t2),.ag (valC y t3 t4)]=some (.i .i64 (cmpV x y)))
  (Q:Post) (H:AHeap) (g1:H.get 2=some (.cells (valC v t1 t2) 1 false)) (g2:H.get 3=some (.cells (valC w t3 t4) 1 false))
  (h1:cmpVL v.l w.l=numI v.l.length w.l.length→∀ b i,Q (.exit 2) [(2,.p 2 0),(3,.p 3 0),(6,.i .i64 i),(99,b)] H)
  (h2:Q .ret [(4,.i .i64 (cmpVL v.l w.l))] H) :
  wp (theCalls IP G 2) 2 (.loop L103b) Q [(2,.p 2 0),(3,.p 3 0),(6,.i .i64 0)] H:=by
 simp only[valC] at g1 g2
 refine wp_loop_inv (fun k e H'=>∃ i:Nat,k=v.l.length-i∧i≤v.l.length∧i≤w.l.length∧v.l.take i=w.l.take i∧e=[(2,.p 2 0),(3,.p 3 0),(6,.i .i64 i)]∧H'=H) ?_ _ _ _ ⟨0,rfl,by omega,by omega,by simp,rfl,rfl⟩
 rintro k e H' ⟨i,hk,hi1,hi2,ht,rfl,rfl⟩
 rcases Nat.lt_or_ge i v.l.length with hlt1|hge1
 ·have hlt2:(i:Int)<(v.l.length:Int):=by omega
  rcases Nat.lt_or_ge i w.l.length with hlt3|hge3
  ·have hlt4:(i:Int)<(w.l.length:Int):=by omega
   obtain⟨x,hx⟩:=get_of_lt hlt1
   obtain⟨y,hy⟩:=get_of_lt hlt3
   have hlt5:i<4611686018427387904:=by omega
   clear hlt1 hlt3
   have c1:=ih x (List.mem_of_getElem? hx) y false false false false
   simp only[valC] at c1
   simp -implicitDefEqProofs [L103b,g1,g2,hlt2,hlt4,hx,hy,c1]
   refine test_intro ?_ ?_<;>intro h<;>simp -implicitDefEqProofs [g1,g2,hlt5]
   ·have hxy:cmpV x y=0:=by simpa using h
    have:=(cmpV_iff x y).1 hxy
    subst this
    exact⟨v.l.length-(i+1),by omega,i+1,rfl,by omega,by omega,take_succ_eq ht hx hy,rfl⟩
   ·have hxy:cmpV x y≠0:=by simpa using h
    rw[←cmpVL_at ht hx hy hxy]
    exact h2
  ·have hlt4:¬(i:Int)<(w.l.length:Int):=by omega
   simp -implicitDefEqProofs [L103b,g1,g2,hlt2,hlt4]
   exact h1 (cmpVL_end ht ⟨hi1,hi2⟩ (by omega)) _ _
 ·have hlt2:¬(i:Int)<(v.l.length:Int):=by omega
  simp -implicitDefEqProofs [L103b,g1,g2,hlt2]
  exact h1 (cmpVL_end ht ⟨hi1,hi2⟩ (by omega)) _ _
theorem t_cmp1:∀ b,b<1099511627776→∀ v w:Val,v.bulk≤b→∀ t1 t2 t3 t4:Bool,pureR IP G 103 [.ag (valC v t1 t2),.ag (valC w t3 t4)]=some (.i .i64 (cmpV v w)):=by
  intro b
  induction b with
  | zero=>intro _ v w h;have:=v.bulk_pos;omega
  | succ b ih =>
    intro hb v w hv t1 t2 t3 t4
    rw[Val.bulk_eq] at hv
    have hl1:=bulkL_len v.l
    have hl2:=bulkS_len v.names
    have c1:=t_number hG
    have c2:=t_text hG
    rw[cmpV_eq]
    refine pure_run ip103 rfl ?_
    simp -implicitDefEqProofs [I103,hG,valC]
    refine test_intro ?_ ?_<;>intro h<;>simp -implicitDefEqProofs [hG,c1]
    · have h := of_decide_eq_true h
      rw[if_pos h]
      refine test_intro ?_ ?_<;>intro h2<;>simp -implicitDefEqProofs [hG,c1]
      · have h2:=of_decide_eq_true h2
        rw[if_pos h2]
        refine test_intro ?_ ?_<;>intro h3<;>simp -implicitDefEqProofs [hG,c2]
        · have h3:v.s=w.s:=by simpa using h3
          rw[if_pos h3]
          refine t_cmp_loop1 hG v w (by omega) t1 t2 t3 t4 _ _ (by simp -implicitDefEqProofs [hG,valC]) (by simp -implicitDefEqProofs [hG,valC]) ?_ ?_
          · intro hc b i
            simp -implicitDefEqProofs [hG]
            refine test_intro ?_ ?_<;>intro h4<;>simp -implicitDefEqProofs [hG,c1]
            · have h4:=of_decide_eq_true h4
              have hnm:v.names=w.names:=by
                rcases hc with hc|hc
                · exact hc
                · omega
              rw[if_pos hnm]
              refine t_cmp_loop2 hG v w (by omega) t1 t2 t3 t4 (fun x hx y=>ih (by omega) x y (by have:=bulkL_mem hx;omega)) _ _ (by simp -implicitDefEqProofs [hG,valC]) (by simp -implicitDefEqProofs [hG,valC]) ?_ ?_
              · intro he b i
                simp -implicitDefEqProofs [hG,c1,he]
              · simp
            · have h4:=of_decide_eq_false h4
              rcases hc with hc|hc
              · rw[hc] at h4;exact absurd rfl h4
              · rw[if_neg (fun e=>by rw[e] at h4;exact h4 rfl),hc.1]
          · intro hne
            rw[if_neg hne]
            simp
        · intro e;rw[e] at h3;simp at h3
      · intro e;exact absurd e (of_decide_eq_false h2)
    · intro e;exact absurd e (of_decide_eq_false h)
theorem t_sameR(v w:Val)(hv:v.bulk<1099511627776)(t1 t2 t3 t4:Bool):pureR IP G 64 [.ag (valC v t1 t2),.ag (valC w t3 t4)]=some (.b (decide (v=w))):=by
 have c1:=t_cmp1 hG v.bulk hv v w (Nat.le_refl _) t1 t2 t3 t4
 simp only[valC] at c1 ⊢
 refine pure_run ip64 rfl ?_
 simp -implicitDefEqProofs [I64,hG,c1]
 exact cmpV_iff v w
end
end Go.Proofs.YtbfajkcmehaliabGreatDoor
namespace Go.RI
open Go
def TyM(P:Program):Nat→TypeId→List AVal→Nat→Prop
  | 0,_,_,_=>False
  | n+1,t,l,m=>match P.underlying t with
    | some .bool=>∃ b,l=[.b b]
    | some (.int k)=>∃ i,l=[.i k i]∧(Lit.int k i).wf=true∧1≤m
    | some .string=>∃ s,l=[.s s]∧s.length+1≤m
    | some (.slice e)=>∃ es:List (List AVal×Nat),l=[.fs false false es.length (es.map (·.1)).flatten]∧(es.map (·.2)).sum+1≤m∧∀ x∈es,TyM P n e x.1 x.2∧x.1.length=P.cellsOf e
    | some (.struct fs)=>∃ xs:List (List AVal×Nat),l=(xs.map (·.1)).flatten∧xs.length=fs.toList.length∧(xs.map (·.2)).sum+1≤m∧∀(i:Nat) f x,fs.toList[i]?=some f→xs[i]?=some x→TyM P n f.type x.1 x.2∧x.1.length=P.cellsOf f.type
    | _=>False
structure Meas {H:Type} (μ:DataW H→Nat):Prop where
 one:∀ d,0+1≤μ d
 str:∀ s,s.length+1≤μ (.lit (.string s))
 sl:∀ l r,(l.map μ).sum+1≤μ (.slice l r)
 ag:∀ l,(l.map μ).sum+1≤μ (.agg l)
section
variable {w:World}
variable {H:Type} {enc:TypeId×Value→H} {P:Program} {base:Nat} {spare:Nat→Bool} {held:Bool}
variable {r:TypeId→List Value→Option (DataW H×List MemPlace)} {t:TypeId} {cs:List Value} {d:DataW H} {ps:List MemPlace}
theorem tile_rdM{n:Nat}{ts:List TypeId}{μ:DataW H→Nat}{cs:List Value}
    (ih:∀ t cs d ps,t∈ts→DataW.trod enc P w base spare held n t cs=some (d,ps)→∃ l,RdL w l cs∧TyM P n t l (μ d)) :
    ∀(fs:List Field) (o N:Nat) (ys:List (DataW H×List MemPlace)),tile P fs o N=true→(∀ f∈fs,f.type∈ts)→cs.length=N→fs.mapM (fun f=>DataW.trod enc P w base spare held n f.type ((cs.drop f.offset).take (P.cellsOf f.type)))=some ys→(∀ f∈fs,f.offset+P.cellsOf f.type≤N) →
      ∃ xs:List (List AVal×Nat),RdL w (xs.map (·.1)).flatten (cs.drop o)∧xs.length=fs.length∧(xs.map (·.2)).sum=((ys.map (·.1)).map μ).sum∧∀(i:Nat) f x,fs[i]?=some f→xs[i]?=some x→TyM P n f.type x.1 x.2∧x.1.length=P.cellsOf f.type:=by
  intro fs
  induction fs with
  | nil =>
    intro o N ys ht _ hl hm _
    simp only[tile,beq_iff_eq] at ht
    subst ht
    rw[List.mapM_nil] at hm
    cases hm
    refine⟨[],?_,rfl,rfl,fun i f x h=>by simp at h⟩
    rw[List.drop_of_length_le (by omega)]
    simp[RdL]
  | cons f fs ihf =>
    intro o N ys ht hts hl hm hb
    simp only[tile,Bool.and_eq_true,beq_iff_eq] at ht
    obtain⟨rfl,ht⟩:=ht
    rw[List.mapM_cons] at hm
    simp only[bind,Option.bind_eq_some_iff,pure] at hm
    obtain⟨⟨d,p⟩,h1,ys',h2,h3⟩:=hm
    cases h3
    obtain⟨x,hx,hty⟩:=ih f.type _ d p (hts f (by simp)) h1
    obtain⟨xs,hxs,hlen,hsum,hall⟩:=ihf (f.offset+P.cellsOf f.type) N ys' ht (fun g hg=>hts g (by simp[hg])) hl h2 (fun g hg=>hb g (by simp[hg]))
    have hxl:x.length=P.cellsOf f.type:=by
      rw[RdL_len hx,List.length_take,List.length_drop]
      have:=hb f (by simp)
      omega
    refine⟨(x,μ d)::xs,?_,by simp[hlen],by simp only[List.map_cons,List.sum_cons];rw[hsum],fun i g y hg hy=>?_⟩
    · have:cs.drop f.offset=(cs.drop f.offset).take (P.cellsOf f.type)++cs.drop (f.offset+P.cellsOf f.type):=by
        conv=>lhs;rw[←List.take_append_drop (P.cellsOf f.type) (cs.drop f.offset)]
        rw[List.drop_drop]
      rw[this,List.map_cons,List.flatten_cons]
      exact RdL_append hx hxs
    · cases i with
      | zero=>simp at hg hy;subst hg hy;exact⟨hty,hxl⟩
      | succ i=>exact hall i g y (by simpa using hg) (by simpa using hy)
theorem trod_rdM{ts:List TypeId}(hts:ts.all (okTy P ts)=true){μ:DataW H→Nat}(hsm:Meas μ)(hsp:∀ b,spare b=true) :
    ∀(n:Nat) (t:TypeId) (cs:List Value) (d:DataW H) (ps:List MemPlace),t∈ts→DataW.trod enc P w base spare held n t cs=some (d,ps)→∃ l,RdL w l cs∧TyM P n t l (μ d):=by
  intro n
  induction n with
  | zero=>intro t cs d ps _ h;simp[DataW.trod] at h
  | succ n ih =>
    intro t cs d ps ht h
    have hok:=List.all_eq_true.1 hts t ht
    unfold okTy at hok
    rw[DataW.trod_step] at h
    unfold TyM
    cases hu:P.underlying t with
    | none=>rw[hu] at hok;cases hok
    | some T =>
      rw[hu] at hok
      cases T<;>simp only at hok<;>try (cases hok;done)
      case bool =>
        obtain⟨b,rfl,rfl⟩:=step_bool hu h
        exact⟨[.b b],RdL_one (by simp[Rd,noId,one,ren]),b,rfl⟩
      case int k =>
        obtain⟨m,rfl,rfl,hw⟩:=step_int hu h
        exact⟨[.i k m],RdL_one (by simp[Rd,noId,one,ren]),m,rfl,hw,hsm.one _⟩
      case string =>
        obtain⟨s,rfl,rfl⟩:=step_string hu h
        exact⟨[.s s.data.toList],RdL_one (by simp[Rd,noId,one,ren]),_,rfl,hsm.str _⟩
      case slice e =>
        simp only[Bool.and_eq_true,decide_eq_true_eq,List.contains_iff_mem] at hok
        obtain⟨he,hc⟩:=hok
        rcases step_slice hu h with rfl|⟨a,len,cap,elems,rest,rfl,hlc,hel,hrest,rfl⟩
        · exact⟨[.fs false false 0 []],RdL_one (by simp[Rd]),[],rfl,hsm.one _,fun x hx=>by simp at hx⟩
        · have hB:=fun r=>hsm.sl (elems.map (·.1)) r
          have hlen:elems.length=len:=by simpa using mapM_some_length hel
          by_cases h0:len=0
          · subst h0
            refine⟨[.fs false false 0 []],RdL_one ?_,[],rfl,hsm.one _,fun x hx=>by simp at hx⟩
            simp only[Rd]
            refine⟨trivial,trivial,.inl ⟨trivial,trivial,.inr ?_⟩⟩
            by_cases hc0:cap=0
            · subst hc0;exact .inl ⟨a,rfl⟩
            · rw[hsp,if_pos rfl] at hrest
              obtain⟨b,hb,hfb⟩:=Go.Lib.mapM_at hrest 0 0 (by rw[List.getElem?_range (by omega)])
              simp only[Option.bind_eq_some_iff] at hfb
              obtain⟨c0,hc1,_⟩:=hfb
              have:=(cells_at hc1 hc).1
              have ha:a.add ((0+0)*P.cellsOf e)=a:=by simp[Addr.add]
              rw[ha] at this
              obtain⟨ab,ao,asp⟩:=a
              cases this
              exact .inr ⟨ab,ao,cap,rfl⟩
          · have el:∀ i,i<len→∃ csi x bd,(elems.map (·.1))[i]?=some bd∧w.cells? base (a.add (i*P.cellsOf e)) (P.cellsOf e)=some csi∧RdL w x csi∧TyM P n e x (μ bd):=fun i hi=>by
              obtain⟨b,hb,hfb⟩:=Go.Lib.mapM_at hel i i (by simp[hi])
              simp only[Option.bind_eq_some_iff] at hfb
              obtain⟨csi,h1,h2⟩:=hfb
              obtain⟨bd,bp⟩:=b
              obtain⟨x,h3,h4⟩:=ih e csi bd bp he h2
              exact⟨csi,x,bd,by rw[List.getElem?_map,hb];rfl,h1,h3,h4⟩
            obtain⟨cs0,_,_,_,hc0,_,_⟩:=el 0 (by omega)
            have ha0:a.add (0*P.cellsOf e)=a:=by simp[Addr.add]
            rw[ha0] at hc0
            obtain⟨hspot,C,ty,fz,hC,_,_⟩:=cells_at hc0 hc
            have row:∀ i,i<len→∃ x bd,(elems.map (·.1))[i]?=some bd∧RdL w x ((C.toList.drop (a.off+i*P.cellsOf e)).take (P.cellsOf e))∧TyM P n e x (μ bd)∧x.length=P.cellsOf e∧a.off+i*P.cellsOf e+P.cellsOf e≤C.size:=fun i hi=>by
              obtain⟨csi,x,bd,h0,h1,h2,h3⟩:=el i hi
              obtain⟨_,C',ty',fz',hC',hsz,hcs⟩:=cells_at h1 hc
              have hb:(a.add (i*P.cellsOf e)).block=a.block:=by unfold Addr.add;split<;>rfl
              have ho:(a.add (i*P.cellsOf e)).off=a.off+i*P.cellsOf e:=by unfold Addr.add;split<;>simp_all
              rw[hb,hC] at hC'
              cases hC'
              rw[ho] at hcs hsz
              subst hcs
              refine⟨x,bd,h0,h2,h3,?_,hsz⟩
              rw[RdL_len h2]
              simp only[List.length_take,List.length_drop,Array.length_toList]
              omega
            have:∃ es:List (List AVal×Nat),es.length=len∧∀(i:Nat) x,es[i]?=some x→RdL w x.1 ((C.toList.drop (a.off+i*P.cellsOf e)).take (P.cellsOf e))∧TyM P n e x.1 x.2∧x.1.length=P.cellsOf e∧∃ bd,(elems.map (·.1))[i]?=some bd∧x.2=μ bd:=by
              clear hlen hel hB hlc hrest h
              clear el
              have key:∀ m,m≤len→∃ es:List (List AVal×Nat),es.length=m∧∀(i:Nat) x,es[i]?=some x→RdL w x.1 ((C.toList.drop (a.off+i*P.cellsOf e)).take (P.cellsOf e))∧TyM P n e x.1 x.2∧x.1.length=P.cellsOf e∧∃ bd,(elems.map (·.1))[i]?=some bd∧x.2=μ bd:=by
                intro m
                induction m with
                | zero=>intro _;exact⟨[],rfl,fun i x hx=>by simp at hx⟩
                | succ m ihm =>
                  intro hm
                  obtain⟨es,h1,h2⟩:=ihm (by omega)
                  obtain⟨x,bd,g0,g1,g2,g3,_⟩:=row m (by omega)
                  refine⟨es++[(x,μ bd)],by simp[h1],fun i y hy=>?_⟩
                  by_cases hi:i<es.length
                  · rw[List.getElem?_append_left hi] at hy;exact h2 i y hy
                  · rw[List.getElem?_append_right (by omega)] at hy
                    have hi0:i-es.length=0:=by
                      rcases Nat.eq_zero_or_pos (i-es.length) with h|h
                      · exact h
                      · rw[List.getElem?_eq_none (by simp;omega)] at hy;cases hy
                    rw[hi0] at hy
                    simp at hy
                    subst hy
                    have:i=m:=by omega
                    subst this
                    exact⟨g1,g2,g3,bd,g0,rfl⟩
              exact key len (Nat.le_refl _)
            obtain⟨es,hes,hall2⟩:=this
            refine⟨[.fs false false len (es.map (·.1)).flatten],RdL_one ?_,es,by rw[hes],?_,?_⟩
            · simp only[Rd]
              have hfl:=flat_rd (w:=w) (c:=P.cellsOf e) C.toList (es.map (·.1)) a.off (fun i x hx=>by
                rw[List.getElem?_map] at hx
                obtain⟨y,hy,rfl⟩:=Option.map_eq_some_iff.1 hx
                exact⟨(hall2 i y hy).1,(hall2 i y hy).2.2.1⟩)
              rw[List.length_map] at hfl
              obtain⟨xl,_,_,_,_,_,hsz⟩:=row (len-1) (by omega)
              have hsz2:a.off+len*P.cellsOf e≤C.size:=by
                have:len*P.cellsOf e=(len-1)*P.cellsOf e+P.cellsOf e:=by
                  conv=>lhs;rw[show len=(len-1)+1 by omega,Nat.add_mul,Nat.one_mul]
                omega
              refine⟨trivial,trivial,.inr ⟨by omega,a.block,a.off,cap,P.cellsOf e,C,ty,fz,?_,hlc,hC,?_,hsz2,?_⟩⟩
              · obtain⟨ab,ao,asp⟩:=a;cases hspot;rfl
              · rw[RdL_len hfl,hes,List.length_take,List.length_drop];have:C.toList.length=C.size:=rfl;omega
              · rw[hes] at hfl;exact hfl
            · have hs:es.map (·.2)=(elems.map (·.1)).map μ:=by
                apply List.ext_getElem?
                intro i
                rw[List.getElem?_map,List.getElem?_map]
                rcases Nat.lt_or_ge i len with hi|hi
                · obtain⟨x,hx⟩:=List.getElem?_eq_some_iff.2 ⟨by omega,rfl⟩ |> fun h=>(⟨es[i]'(by omega),h⟩:∃ x,es[i]?=some x)
                  obtain⟨bd,h1,h2⟩:=(hall2 i x hx).2.2.2
                  rw[hx,h1]
                  simp[h2]
                · rw[List.getElem?_eq_none (by omega),List.getElem?_eq_none (by simp;omega)];rfl
              rw[hs]
              exact hB _
            · intro x hx
              obtain⟨i,hi⟩:=List.getElem?_of_mem hx
              exact⟨(hall2 i x hi).2.1,(hall2 i x hi).2.2.1⟩
      case struct fs =>
        simp only[Bool.and_eq_true,List.all_eq_true,List.contains_iff_mem] at hok
        obtain⟨hl,ys,hm,rfl⟩:=step_struct hu h
        obtain⟨xs,h1,h2,h3,h4⟩:=tile_rdM ih fs.toList 0 (P.cellsOf t) ys hok.1 hok.2 hl hm (tile_le _ _ _ hok.1).2
        exact⟨(xs.map (·.1)).flatten,by simpa using h1,xs,rfl,h2,by rw[h3];exact hsm.ag _,h4⟩
end
def TyVM(P:Program)(n:Nat)(t:TypeId)(x:AVal)(m:Nat):Prop:=∃ l,TyM P n t l m∧(match P.underlying t with
 | some (.struct _)=>x=.ag l
 | _=>l=[x])
section
variable {H:Type} {enc:TypeId×Value→H} {P:Program} {W W':World}
theorem arg_rdM{ts:List TypeId}(hts:ts.all (okTy P ts)=true){μ:DataW H→Nat}(hsm:Meas μ){t:TypeId}(ht:t∈ts){base:Nat}{v:Value}(hv:Value.okWide P W .any base t v){d:DataW H}{p:List MemPlace}
    (h:DataW.Trod enc P W 0 (fun _=>true) true t v d p):∃ n x,RdV W x v∧TyVM P n t x (μ d):=by
  obtain⟨n,hn⟩:=h
  obtain⟨l,h1,h2⟩:=trod_rdM hts hsm (fun _=>rfl) n t _ d p ht hn
  have hok:=List.all_eq_true.1 hts t ht
  unfold okTy at hok
  cases n with
  | zero=>simp[TyM] at h2
  | succ n =>
    have h2':=h2
    unfold TyM at h2
    unfold Value.okWide at hv
    cases hu:P.underlying t with
    | none=>rw[hu] at hok;cases hok
    | some T =>
      rw[hu] at hok h2 hv
      have leaf:∀ x,l=[x]→(∀ cs,v≠.agg cs)→(∀ l,x≠.ag l)→(match some T with|some (.struct _)=>x=.ag l|_=>l=[x])→∃ n x,RdV W x v∧TyVM P n t x (μ d):=by
        intro x hx hna hxa hm
        subst hx
        have:v.cells.toList=[v]:=by cases v<;>first|rfl|exact(hna _ rfl).elim
        rw[this] at h1
        simp only[RdL] at h1
        obtain⟨v',r,he,hr,_⟩:=h1
        cases he
        refine⟨n+1,x,?_,[x],h2',by rw[hu];exact hm⟩
        cases x<;>first|exact hr|exact(hxa _ rfl).elim
      cases T<;>simp only at hok<;>try (cases hok;done)
      case bool =>
        obtain⟨b,rfl⟩:=h2
        refine leaf _ rfl (fun cs e=>?_) (fun l e=>by cases e) rfl
        subst e
        simp[Cell.okWide,Cell.ok,hu] at hv
      case int k =>
        obtain⟨i,rfl,_⟩:=h2
        refine leaf _ rfl (fun cs e=>?_) (fun l e=>by cases e) rfl
        subst e
        simp[Cell.okWide,Cell.ok,hu] at hv
      case string =>
        obtain⟨s,rfl,_⟩:=h2
        refine leaf _ rfl (fun cs e=>?_) (fun l e=>by cases e) rfl
        subst e
        simp[Cell.okWide,Cell.ok,hu] at hv
      case slice e =>
        obtain⟨es,rfl,_⟩:=h2
        refine leaf _ rfl (fun cs e=>?_) (fun l e=>by cases e) rfl
        subst e
        simp[Cell.okWide,Cell.ok,hu] at hv
      case struct fs =>
        obtain⟨cs,rfl,_⟩:=hv
        exact⟨n+1,.ag l,⟨cs,rfl,h1⟩,l,h2',by rw[hu]⟩
end
end Go.RI
namespace Go.RI
open Go
structure PceTys (P:Program) (tI tS tV tLV tLS tO tLO tSt tLSt tP:TypeId):Prop where
 i:P.underlying tI=some (.int .i64)
 s:P.underlying tS=some .string
 v:∃ fs,P.underlying tV=some (.struct fs)∧fs.toList.map (·.type)=[tI,tI,tS,tLV,tLS]
 lv:P.underlying tLV=some (.slice tV)
 ls:P.underlying tLS=some (.slice tS)
 o:∃ fs,P.underlying tO=some (.struct fs)∧fs.toList.map (·.type)=[tI,tI,tV]
 lo:P.underlying tLO=some (.slice tO)
 st:∃ fs,P.underlying tSt=some (.struct fs)∧fs.toList.map (·.type)=[tI,tI,tLO,tS,tLS]
 lst:P.underlying tLSt=some (.slice tSt)
 p:∃ fs,P.underlying tP=some (.struct fs)∧fs.toList.map (·.type)=[tI,tI,tI,tI,tLSt,tLO,tI,tI,tO,tI]
section
variable {P:Program}
theorem tyM_int{t:TypeId}{n m:Nat}{l:List AVal}(hu:P.underlying t=some (.int .i64))(h:TyM P n t l m):∃ i,l=[.i .i64 i]:=by
 cases n with
 | zero=>cases h
 | succ n=>unfold TyM at h;rw[hu] at h;obtain⟨i,h1,_⟩:=h;exact⟨i,h1⟩
theorem tyM_pos{t:TypeId}{n m:Nat}{l:List AVal}(hu:P.underlying t=some (.int .i64))(h:TyM P n t l m):1≤m:=by
 cases n with
 | zero=>cases h
 | succ n=>unfold TyM at h;rw[hu] at h;obtain⟨i,_,_,h1⟩:=h;exact h1
theorem tyM_str{t:TypeId}{n m:Nat}{l:List AVal}(hu:P.underlying t=some .string)(h:TyM P n t l m):∃ s:Str,l=Enc.cells s∧1+s.length≤m:=by
 cases n with
 | zero=>cases h
 | succ n=>unfold TyM at h;rw[hu] at h;obtain⟨s,h1,h2⟩:=h;exact⟨s,h1,by omega⟩
theorem tyM_slice{t e:TypeId}{n m:Nat}{l:List AVal}(hu:P.underlying t=some (.slice e)){α:Type}[Enc α](μ:α→Nat)(hx:∀ n x m,TyM P n e x m→∃ a:α,x=Enc.cells a∧μ a≤m)(h:TyM P n t l m):∃ bs:List α,l=[.fs false false bs.length (encs bs)]∧(bs.map μ).sum+1≤m:=by
  cases n with
  | zero=>cases h
  | succ n =>
    unfold TyM at h
    rw[hu] at h
    obtain⟨es,rfl,h1,h2⟩:=h
    have:∃ bs:List α,bs.length=es.length∧(es.map (·.1)).flatten=encs bs∧(bs.map μ).sum≤(es.map (·.2)).sum:=by
      clear h1
      induction es with
      | nil=>exact⟨[],rfl,rfl,Nat.le_refl _⟩
      | cons x es ih =>
        obtain⟨bs,g1,g2,g3⟩:=ih fun y hy=>h2 y (List.mem_cons_of_mem _ hy)
        obtain⟨a,g4,g5⟩:=hx _ _ _ (h2 x (List.mem_cons_self ..)).1
        exact⟨a::bs,by simp[g1],by simp[g2,g4],by simp only[List.map_cons,List.sum_cons];omega⟩
    obtain⟨bs,g1,g2,g3⟩:=this
    exact⟨bs,by rw[g1,g2],by omega⟩
theorem tyM_struct{t:TypeId}{n m:Nat}{l:List AVal}{ts:List TypeId}(hu:∃ fs,P.underlying t=some (.struct fs)∧fs.toList.map (·.type)=ts)(h:TyM P (n+1) t l m) :
  ∃ xs:List (List AVal×Nat),l=(xs.map (·.1)).flatten∧xs.length=ts.length∧(xs.map (·.2)).sum+1≤m∧∀(i:Nat) t x,ts[i]?=some t→xs[i]?=some x→TyM P n t x.1 x.2:=by
 obtain⟨fs,hu,rfl⟩:=hu
 unfold TyM at h
 rw[hu] at h
 obtain⟨xs,h1,h2,h3,h4⟩:=h
 refine⟨xs,h1,by simpa using h2,h3,fun i t x ht hx=>?_⟩
 rw[List.getElem?_map] at ht
 obtain⟨f,hf,rfl⟩:=Option.map_eq_some_iff.1 ht
 exact(h4 i f x hf hx).1
theorem sum_bulkS:∀ l:List Str,(l.map fun s=>1+s.length).sum=bulkS l
 | []=>rfl
 | s::l=>by simp only[List.map_cons,List.sum_cons,bulkS];rw[sum_bulkS l]
theorem sum_bulkL:∀ l:List Val,(l.map Val.bulk).sum=bulkL l
 | []=>rfl
 | v::l=>by simp only[List.map_cons,List.sum_cons,bulkL];rw[sum_bulkL l]
theorem list3{α:Type}{l:List α}(h:l.length=3):∃ a b c,l=[a,b,c]:=by
 match l,h with
 | [a,b,c],_=>exact⟨a,b,c,rfl⟩
theorem list5{α:Type}{l:List α}(h:l.length=5):∃ a b c d e,l=[a,b,c,d,e]:=by
 match l,h with
 | [a,b,c,d,e],_=>exact⟨a,b,c,d,e,rfl⟩
theorem list10{α:Type}{l:List α}(h:l.length=10):∃ a b c d e f g i j k,l=[a,b,c,d,e,f,g,i,j,k]:=by
 match l,h with
 | [a,b,c,d,e,f,g,i,j,k],_=>exact⟨a,b,c,d,e,f,g,i,j,k,rfl⟩
variable {tI tS tV tLV tLS tO tLO tSt tLSt tP:TypeId}
theorem tyM_strs(K:PceTys P tI tS tV tLV tLS tO tLO tSt tLSt tP){n m:Nat}{l:List AVal}(h:TyM P n tLS l m):∃ ns:List Str,l=[.fs false false ns.length (encs ns)]∧bulkS ns+1≤m:=by
 obtain⟨ns,h1,h2⟩:=tyM_slice K.ls (fun s:Str=>1+s.length) (fun n x m hx=>tyM_str K.s hx) h
 exact⟨ns,h1,by rw[←sum_bulkS];exact h2⟩
theorem tyM_val(K:PceTys P tI tS tV tLV tLS tO tLO tSt tLSt tP):∀(n m:Nat) (l:List AVal),TyM P n tV l m→∃ v:Val,l=Enc.cells v∧v.bulk≤m:=by
  intro n
  induction n using Nat.strongRecOn with
  | _ n ih =>
    intro m l h
    cases n with
    | zero=>cases h
    | succ n =>
      obtain⟨xs,rfl,h1,h2,h3⟩:=tyM_struct K.v h
      obtain⟨x0,x1,x2,x3,x4,rfl⟩:=list5 h1
      obtain⟨k,e0⟩:=tyM_int K.i (h3 0 tI x0 rfl rfl)
      obtain⟨i,e1⟩:=tyM_int K.i (h3 1 tI x1 rfl rfl)
      obtain⟨s,e2,b2⟩:=tyM_str K.s (h3 2 tS x2 rfl rfl)
      have h4:=h3 3 tLV x3 rfl rfl
      obtain⟨ns,e4,b4⟩:=tyM_strs K (h3 4 tLS x4 rfl rfl)
      have:∃ vs:List Val,x3.1=[.fs false false vs.length (encs vs)]∧(vs.map Val.bulk).sum+1≤x3.2:=by
        cases n with
        | zero=>cases h4
        | succ n =>
          unfold TyM at h4
          rw[K.lv] at h4
          obtain⟨es,g0,g1,g2⟩:=h4
          have:∃ bs:List Val,bs.length=es.length∧(es.map (·.1)).flatten=encs bs∧(bs.map Val.bulk).sum≤(es.map (·.2)).sum:=by
            clear g0 g1
            induction es with
            | nil=>exact⟨[],rfl,rfl,Nat.le_refl _⟩
            | cons x es ihe =>
              obtain⟨bs,f1,f2,f3⟩:=ihe fun y hy=>g2 y (List.mem_cons_of_mem _ hy)
              obtain⟨a,f4,f5⟩:=ih n (by omega) _ _ (g2 x (List.mem_cons_self ..)).1
              exact⟨a::bs,by simp[f1],by rw[List.map_cons,List.flatten_cons,f2,f4,encs_cons],by simp only[List.map_cons,List.sum_cons];omega⟩
          obtain⟨bs,f1,f2,f3⟩:=this
          exact⟨bs,by rw[g0,f1,f2],by omega⟩
      obtain⟨vs,e3,b3⟩:=this
      refine⟨.mk k i s vs ns,?_,?_⟩
      · simp only[List.map_cons,List.map_nil,List.flatten_cons,List.flatten_nil,e0,e1,e2,e3,e4,cells_val,cells_str]
        rfl
      · rw[sum_bulkL] at b3
        simp only[List.map_cons,List.map_nil,List.sum_cons,List.sum_nil] at h2
        simp only[Val.bulk]
        omega
def opnB(o:Opn):Nat:=1+o.v.bulk
def stpB(i:Stp):Nat:=(i.l.map opnB).sum+i.s.length+bulkS i.names+1
theorem tyM_opn(K:PceTys P tI tS tV tLV tLS tO tLO tSt tLSt tP)(n:Nat)(l:List AVal)(m:Nat)(h:TyM P n tO l m):∃ o:Opn,l=Enc.cells o∧1+o.v.bulk≤m:=by
  cases n with
  | zero=>cases h
  | succ n =>
    obtain⟨xs,rfl,h1,h2,h3⟩:=tyM_struct K.o h
    obtain⟨x0,x1,x2,rfl⟩:=list3 h1
    obtain⟨k,e0⟩:=tyM_int K.i (h3 0 tI x0 rfl rfl)
    obtain⟨i,e1⟩:=tyM_int K.i (h3 1 tI x1 rfl rfl)
    obtain⟨v,e2,b2⟩:=tyM_val K _ _ _ (h3 2 tV x2 rfl rfl)
    refine⟨⟨k,i,v⟩,?_,?_⟩
    · simp only[List.map_cons,List.map_nil,List.flatten_cons,List.flatten_nil,e0,e1,e2,cells_opn,cells_val]
      rfl
    · simp only[List.map_cons,List.map_nil,List.sum_cons,List.sum_nil] at h2
      show 1+v.bulk≤m
      omega
theorem sum_len{α:Type}(μ:α→Nat)(hp:∀ a,1≤μ a):∀ l:List α,l.length≤(l.map μ).sum
 | []=>Nat.le_refl _
 | a::l=>by have:=sum_len μ hp l;have:=hp a;simp only[List.map_cons,List.sum_cons,List.length_cons];omega
theorem sum_mem{α:Type}(μ:α→Nat):∀ {l:List α} {a:α},a∈l→μ a≤(l.map μ).sum
  | b::l,a,h=>by
    simp only[List.map_cons,List.sum_cons]
    rcases List.mem_cons.1 h with rfl|h
    · omega
    · have:=sum_mem μ h;omega
theorem tyM_opns(K:PceTys P tI tS tV tLV tLS tO tLO tSt tLSt tP){n m:Nat}{l:List AVal}(h:TyM P n tLO l m):∃ os:List Opn,l=[.fs false false os.length (encs os)]∧(os.map opnB).sum+1≤m :=
 tyM_slice K.lo opnB (fun n x m hx=>tyM_opn K n x m hx) h
theorem opns_ok{os:List Opn}(h:(os.map opnB).sum<549755813887):os.length<1099511627776∧∀ o∈os,okO o:=by
 refine⟨?_,fun o ho=>?_⟩
 ·have:=sum_len opnB (fun a=>by unfold opnB;omega) os
  omega
 ·have:=sum_mem opnB ho
  unfold okO
  unfold opnB at this h
  omega
theorem tyM_stp(K:PceTys P tI tS tV tLV tLS tO tLO tSt tLSt tP)(n:Nat)(l:List AVal)(m:Nat)(h:TyM P n tSt l m):∃ i:Stp,l=Enc.cells i∧stpB i≤m:=by
  cases n with
  | zero=>cases h
  | succ n =>
    obtain⟨xs,rfl,h1,h2,h3⟩:=tyM_struct K.st h
    obtain⟨x0,x1,x2,x3,x4,rfl⟩:=list5 h1
    simp only[List.map_cons,List.map_nil,List.sum_cons,List.sum_nil] at h2
    obtain⟨k,e0⟩:=tyM_int K.i (h3 0 tI x0 rfl rfl)
    obtain⟨i,e1⟩:=tyM_int K.i (h3 1 tI x1 rfl rfl)
    obtain⟨os,e2,b2⟩:=tyM_opns K (h3 2 tLO x2 rfl rfl)
    obtain⟨s,e3,b3⟩:=tyM_str K.s (h3 3 tS x3 rfl rfl)
    obtain⟨ns,e4,b4⟩:=tyM_strs K (h3 4 tLS x4 rfl rfl)
    refine⟨⟨k,i,os,s,ns⟩,?_,by show(os.map opnB).sum+s.length+bulkS ns+1≤m;omega⟩
    simp only[List.map_cons,List.map_nil,List.flatten_cons,List.flatten_nil,e0,e1,e2,e3,e4,cells_stp,cells_str]
    rfl
theorem stp_ok{i:Stp}(h:stpB i<549755813887):okStp i:=by
 unfold stpB at h
 have:=opns_ok (os:=i.l) (by omega)
 exact⟨by omega,by omega,this.1,this.2⟩
theorem tyM_pce(K:PceTys P tI tS tV tLV tLS tO tLO tSt tLSt tP)(n:Nat)(l:List AVal)(m:Nat)(h:TyM P n tP l m)(hm:m<549755813887):∃ x:Pce,l=Enc.cells x∧okPce x:=by
  cases n with
  | zero=>cases h
  | succ n =>
    obtain⟨xs,rfl,h1,h2,h3⟩:=tyM_struct K.p h
    obtain⟨x0,x1,x2,x3,x4,x5,x6,x7,x8,x9,rfl⟩:=list10 h1
    simp only[List.map_cons,List.map_nil,List.sum_cons,List.sum_nil] at h2
    obtain⟨a0,e0⟩:=tyM_int K.i (h3 0 tI x0 rfl rfl)
    obtain⟨a1,e1⟩:=tyM_int K.i (h3 1 tI x1 rfl rfl)
    obtain⟨a2,e2⟩:=tyM_int K.i (h3 2 tI x2 rfl rfl)
    obtain⟨a3,e3⟩:=tyM_int K.i (h3 3 tI x3 rfl rfl)
    obtain⟨ss,e4,b4⟩:=tyM_slice K.lst stpB (fun n x m hx=>tyM_stp K n x m hx) (h3 4 tLSt x4 rfl rfl)
    obtain⟨os,e5,b5⟩:=tyM_opns K (h3 5 tLO x5 rfl rfl)
    obtain⟨a6,e6⟩:=tyM_int K.i (h3 6 tI x6 rfl rfl)
    obtain⟨a7,e7⟩:=tyM_int K.i (h3 7 tI x7 rfl rfl)
    obtain⟨o,e8,b8⟩:=tyM_opn K _ _ _ (h3 8 tO x8 rfl rfl)
    obtain⟨a9,e9⟩:=tyM_int K.i (h3 9 tI x9 rfl rfl)
    have hs:=opns_ok (os:=os) (by omega)
    refine⟨⟨a0,a1,a2,a3,ss,os,a6,a7,o,a9⟩,?_,fun i hi=>stp_ok ?_,?_,hs.1,hs.2,?_⟩
    · simp only[List.map_cons,List.map_nil,List.flatten_cons,List.flatten_nil,e0,e1,e2,e3,e4,e5,e6,e7,e8,e9,cells_pce,cells_opn]
      rfl
    · have:=sum_mem stpB hi
      simp only at this
      omega
    · have:=sum_len stpB (fun a=>by unfold stpB;omega) ss
      show ss.length<_
      omega
    · show o.v.bulk<_
      omega
end
end Go.RI
namespace Go.RI
open Go
mutual
def rngV:AVal→Prop
 | .i .i64 n=>inR n
 | .fs _ _ _ l=>rngL l
 | .ag l=>rngL l
 | _=>True
def rngL:List AVal→Prop
 | []=>True
 | v::l=>rngV v∧rngL l
end
end Go.RI
namespace Go.Proofs.YtbfajkcmehaliabGreatDoor
open Go Go.RI
section
variable {G:AHeap} (hG:G.next=2)
include hG
theorem t_sameAll(a b:List Val)(ha:bulkL a<1099511627776)(t1 f1 t2 f2:Bool):pureR IP G 37 [.fs t1 f1 a.length (encs a),.fs t2 f2 b.length (encs b)]=some (.b (decide (a=b))):=by
 have hal:=bulkL_len a
 refine pure_run ip37 rfl ?_
 simp -implicitDefEqProofs [I37,hG]
 refine test_intro ?_ ?_<;>intro h<;>simp -implicitDefEqProofs [hG]
 ·have hl:a.length=b.length:=by have:=of_decide_eq_true h;omega
  refine wp_loop_list (l:=a) (by omega) (fun i todo e H=>e=[(0,.fs t1 f1 a.length (encs a)),(1,.fs t2 f2 b.length (encs b)),(5,.i .i64 i)]∧H=G∧a.take i=b.take i) ?_ ?_ ?_
  ·rintro i x todo e H hx hd hlt hlt2 hlt3 ⟨rfl,rfl,hn⟩
   obtain⟨y,hy⟩:=get_of_lt (l:=b) (i:=i) (by omega)
   have hlt4:(i:Int)<(b.length:Int):=by omega
   clear hlt
   have c1:=t_sameR hG x y (by have:=bulkL_mem (List.mem_of_getElem? hx);omega) false false false false
   simp only[valC] at c1
   simp -implicitDefEqProofs [L37a,hlt2,hlt3,hlt4,hx,hy,hG,c1]
   refine test_intro ?_ ?_<;>intro h2<;>simp -implicitDefEqProofs [hlt3,hG]
   ·have:x=y:=by simpa using h2
    subst this
    exact take_succ_eq hn hx hy
   ·intro he
    subst he
    rw[hx] at hy;cases hy
    simp at h2
  ·rintro e H ⟨rfl,rfl,hn⟩
   simp -implicitDefEqProofs [L37a,hG]
   exact eq_of_take hl hn
  ·simp
 ·intro he
  subst he
  simp at h
theorem do_bulk(x:Pce)(homes:List Val):bulkL (doR x homes).1<1099511627776:=by
  unfold doR
  cases hd:doP x homes with
  | none=>simp -implicitDefEqProofs [bulkL]
  | some r =>
    obtain⟨l,to⟩:=r
    unfold doP at hd
    split at hd
    · rename_i hc
      have hcp:=checkP_iff.1 hc.1
      have hset:x.sets.length≤64:=by have:=hcp.1;unfold numsP at this;omega
      have hof:=List.all_eq_true.1 hcp.2.2.2
      have hhb:∀ v∈homes,v.bulk≤2304:=fun v hv=>all_bulk hc.2.2 hv
      split at hd
      · rename_i made hm
        have key:∀(l:List Stp) (m made:List Val),stepsV homes l m=some made→(∀ v∈m,v.bulk≤2304)→∀ v∈made,v.bulk≤2304:=by
          intro l
          induction l with
          | nil=>intro m made h hb;cases h;exact hb
          | cons s l ih =>
            intro m made h hb
            rw[stepsV] at h
            split at h
            · rename_i v hv
              refine ih _ _ h fun w hw=>?_
              rcases List.mem_append.1 hw with h1|h1
              · exact hb w h1
              · simp at h1;subst h1;exact step_ok hv
            · cases h
        have hmb:=key _ _ _ hm (fun v hv=>by cases hv)
        rw[Option.map_eq_some_iff] at hd
        obtain⟨t,_,ht⟩:=hd
        cases ht
        have:=bulkL_le (B:=2304) (l:=x.sets.map (ofO homes made)) (fun v hv=>by
          obtain⟨o,ho,rfl⟩:=List.mem_map.1 hv
          exact of_bulk (hof o ho) hhb hmb)
        simp at this
        simp only
        omega
      · cases hd
    · cases hd
end
end Go.Proofs.YtbfajkcmehaliabGreatDoor
namespace Go.Proofs.YtbfajkcmehaliabGreatDoor
open Go Go.RI
section
variable {G:AHeap} (hG:G.next=2)
include hG
def bringsB(a b:List Val×Int×Bool):Bool:=(a.2.2==b.2.2)&&(decide (a.2.1=b.2.1)&&decide (a.1=b.1))
theorem t_brings(c17:CheckOk G)(cN:NeedsOk G)(x y:Pce)(hx:okPce x)(hy:okPce y)(homes:List Val)(hb:bulkL homes<1099511627776)(t1 t2 t3 t4 th:Bool) :
  pureR IP G 10 [.ag (pceC x t1 t2 false false),.ag (pceC y t3 t4 false false),.fs th false homes.length (encs homes)]=some (.b (bringsB (doR x homes) (doR y homes))):=by
 have c1:=t_do hG c17 cN x hx homes hb t1 t2 th
 have c2:=t_do hG c17 cN y hy homes hb t3 t4 th
 have c3:=t_sameAll hG (doR x homes).1 (doR y homes).1 (do_bulk hG x homes) false false false false
 generalize doR x homes=a at c1 c3 ⊢
 generalize doR y homes=b at c2 c3 ⊢
 obtain⟨l,to,is⟩:=a
 obtain⟨m,at_,so⟩:=b
 simp only[pceC] at c1 c2 ⊢
 unfold bringsB
 simp only at c1 c2 c3 ⊢
 cases hbb:(is==so)
 ·refine pure_run ip10 rfl ?_
  simp -implicitDefEqProofs [I10,hG,c1,c2,hbb]
 ·by_cases hto:to=at_
  ·refine pure_run ip10 rfl ?_
   simp -implicitDefEqProofs [I10,hG,c1,c2,c3,hbb,hto]
  ·refine pure_run ip10 rfl ?_
   simp -implicitDefEqProofs [I10,hG,c1,c2,hbb,hto]
theorem brings_self(a:List Val×Int×Bool):bringsB a a=true:=by simp -implicitDefEqProofs [bringsB]
end
end Go.Proofs.YtbfajkcmehaliabGreatDoor
namespace Go.Proofs.YtbfajkcmehaliabGreatDoor
open Go Go.RI
section
variable {G:AHeap} (hG:G.next=2)
include hG
theorem t_copyTexts(ns:List Str)(hn:ns.length<1099511627776)(t f:Bool):pureR IP G 72 [.fs t f ns.length (encs ns)]=some (.fs false false ns.length (encs ns)):=by
 refine pure_run ip72 rfl ?_
 simp -implicitDefEqProofs [I72,hG]
 refine step_app0 (lo':=2) (by simp) (by omega) (by omega) (by omega) (by omega) ?_
 intro v H1 hn1 hA hf1
 simp -implicitDefEqProofs [hG]
 exact hold_frz (k:=15) hA.hold frz_encs
theorem t_copyV1:∀ b,b<1099511627776→∀ v:Val,v.bulk≤b→∀ t1 t2:Bool,pureR IP G 53 [.ag [.i .i64 v.kind,.i .i64 v.n,.s v.s,.fs t1 false v.l.length (encs v.l),.fs t2 false v.names.length (encs v.names)]]=some (.ag (Enc.cells v)):=by
  intro b
  induction b with
  | zero=>intro _ v h;have:=v.bulk_pos;omega
  | succ b ih =>
    intro hb v hv t1 t2
    rw[Val.bulk_eq] at hv
    have hl1:=bulkL_len v.l
    have hl2:=bulkS_len v.names
    have c1:=t_copyTexts hG v.names (by omega)
    refine pure_run ip53 rfl ?_
    simp -implicitDefEqProofs [I53,hG,c1]
    refine wp_loop_list (l:=v.l) (by omega) (fun i todo e H=>∃ lv,e=[(1,.p 2 0),(2,.p 3 0),(3,.p 4 0),(4,.i .i64 i)]∧H.get 2=some (.cells [.i .i64 v.kind,.i .i64 v.n,.s v.s,.fs t1 false v.l.length (encs v.l),.fs t2 false v.names.length (encs v.names)] 1 false) ∧
      H.get 3=some (.cells [.i .i64 0,.i .i64 0,.s [],.ns,.ns] 1 false)∧H.get 4=some (.cells [.i .i64 v.kind,.i .i64 v.n,.s v.s,lv,.fs false false v.names.length (encs v.names)] 1 false)∧4<H.next∧Acc H 5 lv 5 i (encs (v.l.take i))) ?_ ?_ ?_
    · rintro i x todo e H hx hd hlt hlt2 hlt3 ⟨lv,rfl,g1,g2,g3,hn,hA⟩
      have c2:=ih (by omega) x (by have:=bulkL_mem (List.mem_of_getElem? hx);omega) false false
      simp at c2
      obtain⟨d,hd2⟩:∃ d,H.next=d+5:=⟨H.next-5,by omega⟩
      clear hlt
      simp -implicitDefEqProofs [L53a,hlt2,hlt3,hx,g1,g2,g3,c2,hd2]
      refine step_app (acc_keep hA (by simp) ?_) (lo':=5) (m:=1) (ys:=Enc.cells x) (by omega) (by simp<;>omega) (more_lit (cs:=Enc.cells x) (e:=5) (ro:=false) (by simp -implicitDefEqProofs [hd2]) (by simp) (by omega)) (by simp) (by omega) (by omega) (by omega) (by omega) ?_
      · intro id a b hv
        have:=acc_lt hA id a b hv
        simp (disch:=(simp -implicitDefEqProofs [hd2];omega)) only[get_push_lt]
      intro H1 hn1 hA1 hf1
      have f1:∀ id,id<5→H1.get id=H.get id:=fun id h=>by
        rw[hf1 id (by simp;omega) (fun id2 a b hv=>by have:=acc_lt hA id2 a b hv;omega)]
        exact get_push_lt (by omega)
      simp -implicitDefEqProofs [hd2] at hn1 hA1
      clear hf1
      have e1:=(f1 2 (by omega)).trans g1
      have e2:=(f1 3 (by omega)).trans g2
      have e3:=(f1 4 (by omega)).trans g3
      simp -implicitDefEqProofs [hd2,hlt3,e1,e2,e3]
      refine⟨by omega,acc_keep (by simpa[List.take_add_one,hx] using hA1) (by simp) fun id a b h=>?_⟩
      cases h
      simp
    · rintro e H ⟨lv,rfl,g1,g2,g3,hn,hA⟩
      simp -implicitDefEqProofs [L53a,g1]
      simp -implicitDefEqProofs [hG,g1,g2,g3]
      rw[List.take_length] at hA
      have f1:=fun o=>hold_frz (k:=14) (hold_in hA.hold (H':=H.put 3 o) (lo':=2) (by omega) (by simp) fun id h1 h2=>by simp -implicitDefEqProofs [show ¬ id=3 by omega]) frz_encs
      simp -implicitDefEqProofs [f1]
    · exact⟨.ns,rfl,by simp -implicitDefEqProofs [hG],by simp -implicitDefEqProofs [hG],by simp -implicitDefEqProofs [hG],by simp -implicitDefEqProofs [hG],acc_none⟩
theorem t_copyV(v:Val)(hv:v.bulk<1099511627776)(t1 t2:Bool):pureR IP G 53 [.ag [.i .i64 v.kind,.i .i64 v.n,.s v.s,.fs t1 false v.l.length (encs v.l),.fs t2 false v.names.length (encs v.names)]]=some (.ag (Enc.cells v)) :=
 t_copyV1 hG v.bulk hv v (Nat.le_refl _) t1 t2
end
end Go.Proofs.YtbfajkcmehaliabGreatDoor
namespace Go.Proofs.YtbfajkcmehaliabGreatDoor
open Go Go.RI
section
variable {G:AHeap} (hG:G.next=2)
include hG
theorem t_copied(l:List Opn)(hl:l.length<1099511627776)(ho:∀ o∈l,okO o)(t f:Bool):pureR IP G 52 [.fs t f l.length (encs l)]=some (.fs false false l.length (encs l)):=by
  refine pure_run ip52 rfl ?_
  simp -implicitDefEqProofs [I52,hG]
  refine wp_loop_list (l:=l) (by omega) (fun i todo e H=>∃ lv,e=[(0,.fs t f l.length (encs l)),(3,lv),(4,.i .i64 i)]∧2≤H.next∧Acc H 2 lv 7 i (encs (l.take i))) ?_ ?_ ?_
  ·rintro i x todo e H hx hd hlt hlt2 hlt3 ⟨lv,rfl,hn,hA⟩
   have c2:=t_copyV hG x.v (ho x (List.mem_of_getElem? hx)) false false
   simp at c2
   obtain⟨d,hd2⟩:∃ d,H.next=d+2:=⟨H.next-2,by omega⟩
   clear hlt
   simp -implicitDefEqProofs [L52a,hlt2,hlt3,hx,hd2,c2]
   refine step_app (acc_keep hA (by simp) ?_) (lo':=2) (m:=1) (ys:=Enc.cells x) (by omega) (by simp<;>omega) (more_lit (cs:=Enc.cells x) (e:=7) (ro:=false) (by simp -implicitDefEqProofs [hd2]) (by simp) (by omega)) (by simp) (by omega) (by omega) (by omega) (by omega) ?_
   ·intro id a b hv
    have:=acc_lt hA id a b hv
    simp (disch:=(simp -implicitDefEqProofs [hd2];omega)) only[get_push_lt]
   intro H1 hn1 hA1 hf1
   simp -implicitDefEqProofs [hd2] at hn1 hA1
   clear hf1
   simp -implicitDefEqProofs [hd2,hlt3]
   exact⟨by omega,by simpa[List.take_add_one,hx] using hA1⟩
  ·rintro e H ⟨lv,rfl,hn,hA⟩
   simp -implicitDefEqProofs [L52a,hG]
   rw[List.take_length] at hA
   exact hold_frz (k:=15) hA.hold frz_encs
  ·exact⟨.ns,rfl,by omega,acc_none⟩
theorem t_back(l:List Opn)(hl:l.length<1099511627776)(ho:∀ o∈l,okO o)(t f:Bool):pureR IP G 26 [.fs t f l.length (encs l)]=some (.fs false false l.length (encs l)):=by
  refine pure_run ip26 rfl ?_
  simp -implicitDefEqProofs [I26,hG]
  refine wp_loop_list (l:=l) (by omega) (fun i todo e H=>∃ lv,e=[(0,.fs t f l.length (encs l)),(3,lv),(4,.i .i64 i)]∧2≤H.next∧Acc H 2 lv 7 i (encs (l.take i))) ?_ ?_ ?_
  ·rintro i x todo e H hx hd hlt hlt2 hlt3 ⟨lv,rfl,hn,hA⟩
   obtain⟨d,hd2⟩:∃ d,H.next=d+2:=⟨H.next-2,by omega⟩
   clear hlt
   simp -implicitDefEqProofs [L26a,hlt2,hlt3,hx,hd2]
   refine step_app (acc_keep hA (by simp) ?_) (lo':=2) (m:=1) (ys:=Enc.cells x) (by omega) (by simp<;>omega) (more_lit (cs:=Enc.cells x) (e:=7) (ro:=false) (by simp -implicitDefEqProofs [hd2]) (by simp) (by omega)) (by simp) (by omega) (by omega) (by omega) (by omega) ?_
   ·intro id a b hv
    have:=acc_lt hA id a b hv
    simp (disch:=(simp -implicitDefEqProofs [hd2];omega)) only[get_push_lt]
   intro H1 hn1 hA1 hf1
   simp -implicitDefEqProofs [hd2] at hn1 hA1
   clear hf1
   simp -implicitDefEqProofs [hd2,hlt3]
   exact⟨by omega,by simpa[List.take_add_one,hx] using hA1⟩
  ·rintro e H ⟨lv,rfl,hn,hA⟩
   simp -implicitDefEqProofs [L26a,hG]
   rw[List.take_length] at hA
   exact hold_frz (k:=15) hA.hold frz_encs
  ·exact⟨.ns,rfl,by omega,acc_none⟩
theorem t_copyIns(s:Stp)(hs:okStp s)(t1 t2:Bool):pureR IP G 51 [.ag [.i .i64 s.op,.i .i64 s.n,.fs t1 false s.l.length (encs s.l),.s s.s,.fs t2 false s.names.length (encs s.names)]]=some (.ag (Enc.cells s)):=by
 obtain⟨a1,a2,a3,a4⟩:=hs
 have hl2:=bulkS_len s.names
 have c1:=t_copied hG s.l a3 a4 t1 false
 have c2:=t_copyTexts hG s.names (by omega) t2 false
 refine pure_run ip51 rfl ?_
 simp -implicitDefEqProofs [I51,hG,c1,c2]
end
end Go.Proofs.YtbfajkcmehaliabGreatDoor
namespace Go.Proofs.YtbfajkcmehaliabGreatDoor
open Go Go.RI
section
variable {G:AHeap} (hG:G.next=2)
include hG
set_option maxHeartbeats 1000000 in
theorem t_copyPce(x:Pce)(hx:okPce x)(t1 t2 t3 t4:Bool):pureR IP G 25 [.ag (pceC x t1 t2 t3 t4)]=some (.ag (Enc.cells x)):=by
 obtain⟨ho1,ho2,ho3,ho4,ho5⟩:=hx
 have c1:=t_copied hG x.sets ho3 ho4 t2 false
 have c2:=t_copyV hG x.cond.v ho5 t3 t4
 simp at c2
 refine pure_run ip25 rfl ?_
 simp -implicitDefEqProofs [I25,hG,pceC]
 refine wp_loop_list (l:=x.ins) (by omega) (fun i todo e H=>∃ lv,e=[(1,.p 2 0),(2,.p 3 0),(3,.p 4 0),(4,.i .i64 i)]∧H.get 2=some (.cells (pceC x t1 t2 t3 t4) 1 false) ∧
  (∃ z,H.get 3=some (.cells z 1 false)∧z.length=16)∧H.get 4=some (.cells ((pceC x t1 t2 t3 t4).set 4 lv) 1 false)∧4<H.next∧Acc H 5 lv 5 i (encs (x.ins.take i))) ?_ ?_ ?_
 ·rintro i s todo e H hs hd hlt hlt2 hlt3 ⟨lv,rfl,g1,⟨z,g2,hz⟩,g3,hn,hA⟩
  have c3:=t_copyIns hG s (ho1 s (List.mem_of_getElem? hs)) false false
  simp at c3
  obtain⟨d,hd2⟩:∃ d,H.next=d+5:=⟨H.next-5,by omega⟩
  simp only[pceC,List.set_cons_succ,List.set_cons_zero] at g1 g3
  clear hlt
  simp -implicitDefEqProofs [L25a,hlt2,hlt3,hs,g1,g3,c3,hd2]
  refine step_app (acc_keep hA (by simp) ?_) (lo':=5) (m:=1) (ys:=Enc.cells s) (by omega) (by simp<;>omega) (more_lit (cs:=Enc.cells s) (e:=5) (ro:=false) (by simp -implicitDefEqProofs [hd2]) (by simp) (by omega)) (by simp) (by omega) (by omega) (by omega) (by omega) ?_
  ·intro id a b hv
   have:=acc_lt hA id a b hv
   simp (disch:=(simp -implicitDefEqProofs [hd2];omega)) only[get_push_lt]
  intro H1 hn1 hA1 hf1
  have f1:∀ id,id<5→H1.get id=H.get id:=fun id h=>by
   rw[hf1 id (by simp;omega) (fun id2 a b hv=>by have:=acc_lt hA id2 a b hv;omega)]
   exact get_push_lt (by omega)
  simp -implicitDefEqProofs [hd2] at hn1 hA1
  clear hf1
  have e1:=(f1 2 (by omega)).trans g1
  have e2:=(f1 3 (by omega)).trans g2
  have e3:=(f1 4 (by omega)).trans g3
  simp -implicitDefEqProofs [hd2,hlt3,e1,e2,e3]
  refine⟨rfl,hz,_,rfl,by omega,acc_keep (by simpa[List.take_add_one,hs] using hA1) (by simp) fun id a b h=>?_⟩
  cases h
  simp
 ·rintro e H ⟨lv,rfl,g1,⟨z,g2,hz⟩,g3,hn,hA⟩
  simp only[pceC,List.set_cons_succ,List.set_cons_zero] at g1 g3
  obtain⟨z0,z1,z2,z3,z4,z5,z6,z7,z8,z9,z10,z11,z12,z13,z14,z15,rfl⟩:=list16 hz
  simp -implicitDefEqProofs [L25a,g1]
  simp -implicitDefEqProofs [hG,g1,g2,g3,c1,c2]
  rw[List.take_length] at hA
  have f1:=fun o p q=>hold_frz (k:=14) (hold_in hA.hold (H':=((H.put 4 p).put 4 q).put 3 o) (lo':=2) (by omega) (by simp) fun id h1 h2=>by simp -implicitDefEqProofs [show ¬ id=3 by omega,show ¬ id=4 by omega]) frz_encs
  simp -implicitDefEqProofs [f1]
 ·exact⟨.ns,rfl,by simp -implicitDefEqProofs [hG,pceC],⟨_,by simp -implicitDefEqProofs [hG];rfl,rfl⟩,by simp -implicitDefEqProofs [hG,pceC],by simp -implicitDefEqProofs [hG],acc_none⟩
end
end Go.Proofs.YtbfajkcmehaliabGreatDoor
namespace Go.Proofs.YtbfajkcmehaliabGreatDoor
open Go Go.RI
section
variable {G:AHeap} (hG:G.next=2)
include hG
def outC(x:Pce)(lv:AVal):List AVal:=[.i .i64 x.func,.i .i64 x.at_,.i .i64 x.many,.i .i64 x.homes,lv,.ns,.i .i64 x.exit,.i .i64 x.to,.i .i64 0,.i .i64 0,.i .i64 0,.i .i64 0,.s [],.ns,.ns,.i .i64 x.deep]
set_option maxHeartbeats 1000000 in
theorem t_meant(x:Pce)(hx:okPce x)(t1 t2 t3 t4:Bool):pureR IP G 7 [.ag (pceC x t1 t2 t3 t4)]=some (.ag (Enc.cells x)):=by
 have c0:=t_copyPce hG x hx t1 t2 t3 t4
 simp -implicitDefEqProofs [pceC] at c0
 obtain⟨ho1,ho2,ho3,ho4,ho5⟩:=hx
 have c1:=t_back hG x.sets ho3 ho4 false false
 refine pure_run ip7 rfl ?_
 simp -implicitDefEqProofs [I7,hG,pceC,c0]
 refine wp_loop_list (l:=x.ins) (by omega) (fun i todo e H=>∃ lv,e=[(2,.p 3 0),(3,.p 4 0),(4,.p 5 0),(5,.i .i64 i)]∧H.get 4=some (.cells (Enc.cells x) 1 false) ∧
  (∃ z,H.get 3=some (.cells z 1 false)∧z.length=16)∧H.get 5=some (.cells (outC x lv) 1 false)∧5<H.next∧Acc H 6 lv 5 i (encs (x.ins.take i))) ?_ ?_ ?_
 ·rintro i s todo e H hs hd hlt hlt2 hlt3 ⟨lv,rfl,g1,⟨z,g2,hz⟩,g3,hn,hA⟩
  obtain⟨a1,a2,a3,a4⟩:=ho1 s (List.mem_of_getElem? hs)
  have c3:=t_back hG s.l a3 a4 false false
  obtain⟨d,hd2⟩:∃ d,H.next=d+6:=⟨H.next-6,by omega⟩
  simp only[pceC,outC,cells_pce] at g1 g3
  clear hlt
  simp -implicitDefEqProofs [L7a,hlt2,hlt3,hs,g1,g3,c3,hd2]
  refine step_app (acc_keep hA (by simp) ?_) (lo':=6) (m:=1) (ys:=Enc.cells s) (by omega) (by simp<;>omega) (more_lit (cs:=Enc.cells s) (e:=5) (ro:=false) (by simp -implicitDefEqProofs [hd2]) (by simp) (by omega)) (by simp) (by omega) (by omega) (by omega) (by omega) ?_
  ·intro id a b hv
   have:=acc_lt hA id a b hv
   simp (disch:=(simp -implicitDefEqProofs [hd2];omega)) only[get_push_lt]
  intro H1 hn1 hA1 hf1
  have f1:∀ id,id<6→H1.get id=H.get id:=fun id h=>by
   rw[hf1 id (by simp;omega) (fun id2 a b hv=>by have:=acc_lt hA id2 a b hv;omega)]
   exact get_push_lt (by omega)
  simp -implicitDefEqProofs [hd2] at hn1 hA1
  clear hf1
  have e1:=(f1 4 (by omega)).trans g1
  have e2:=(f1 3 (by omega)).trans g2
  have e3:=(f1 5 (by omega)).trans g3
  simp -implicitDefEqProofs [hd2,hlt3,e1,e2,e3]
  refine⟨hz,_,rfl,by omega,acc_keep (by simpa[List.take_add_one,hs] using hA1) (by simp) fun id a b h=>?_⟩
  cases h
  simp
 ·rintro e H ⟨lv,rfl,g1,⟨z,g2,hz⟩,g3,hn,hA⟩
  simp only[pceC,outC,cells_pce] at g1 g3
  obtain⟨z0,z1,z2,z3,z4,z5,z6,z7,z8,z9,z10,z11,z12,z13,z14,z15,rfl⟩:=list16 hz
  simp -implicitDefEqProofs [L7a,g1]
  simp -implicitDefEqProofs [hG,g1,g2,g3,c1]
  rw[List.take_length] at hA
  have f1:=fun o p q=>hold_frz (k:=14) (hold_in hA.hold (H':=((H.put 5 p).put 5 q).put 3 o) (lo':=2) (by omega) (by simp) fun id h1 h2=>by simp -implicitDefEqProofs [show ¬ id=3 by omega,show ¬ id=5 by omega]) frz_encs
  simp -implicitDefEqProofs [f1]
 ·exact⟨.ns,rfl,by simp -implicitDefEqProofs [hG,pceC],⟨_,by simp -implicitDefEqProofs [hG];rfl,rfl⟩,by simp -implicitDefEqProofs [hG,outC],by simp -implicitDefEqProofs [hG],acc_none⟩
end
end Go.Proofs.YtbfajkcmehaliabGreatDoor
namespace Go.RI
open Go
def bareT(t:Stp):Prop:=t.names=[]∧t.s=[]
theorem checkI_from{K:List Int}{g:GS}{o:Opn}{k:Int}{t:Stp}(h:t∈(checkI K g o k).out):t∈g.out∨bareT t:=by
 unfold checkI at h
 split at h
 ·rcases List.mem_append.1 h with h|h
  ·exact .inl h
  ·simp at h;subst h;exact .inr ⟨rfl,rfl⟩
 ·exact .inl h
theorem chkL_from{K:List Int}{k:Int}{t:Stp}:∀(l:List Opn) (g:GS),t∈(chkL K k g l).out→t∈g.out∨bareT t
  | [],g,h=>.inl h
  | o::l,g,h=>by
    rcases chkL_from l _ h with h|h
    · exact checkI_from h
    · exact .inr h
theorem stepG_from{K:List Int}{g:GS}{i t:Stp}(h:t∈(stepG K g i).out):t∈g.out∨bareT t∨(t.names=i.names∧t.s=i.s):=by
 simp only[stepG] at h
 rcases List.mem_append.1 h with h|h
 ·unfold chkG at h
  split at h
  ·rcases chkL_from _ _ h with h|h
   ·exact .inl h
   ·exact .inr (.inl h)
  ·exact .inl h
 ·simp at h;subst h;exact .inr (.inr ⟨rfl,rfl⟩)
theorem gsOf_from{K:List Int}{t:Stp}:∀(l:List Stp) (g:GS),t∈(gsOf K g l).out→t∈g.out∨bareT t∨∃ i∈l,t.names=i.names∧t.s=i.s
  | [],g,h=>.inl h
  | i::l,g,h=>by
    rcases gsOf_from l _ h with h|h|⟨j,h1,h2⟩
    · rcases stepG_from h with h|h|h
      · exact .inl h
      · exact .inr (.inl h)
      · exact .inr (.inr ⟨i,by simp,h⟩)
    · exact .inr (.inl h)
    · exact .inr (.inr ⟨j,by simp[h1],h2⟩)
theorem guessP_ok{K:List Int}{x:Pce}(hc:checkP x=true)(hl:(gsP K x).out.length≤4096)(ho:okPce x):okPce (guessP K x):=by
 have hg:=gsP_good (K:=K) hc
 have hcy:=checkP_iff.1 (guessP_check hc hl)
 have hn:=hcy.1
 unfold numsP at hn
 refine⟨fun t ht=>?_,by omega,by omega,fun o hm=>?_,?_⟩
 ·have ht:t∈(gsP K x).out:=ht
  obtain⟨n,hn⟩:=get_of_mem ht
  rcases gsOf_from x.ins (gs0 x) ht with h|h|⟨s,h1,h2,h3⟩
  ·cases h
  ·exact(stp_fok (hg.fits n t hn) (by rw[h.1];decide) (by rw[h.2];decide)).1
  ·have:=ho.1 s h1
   exact(stp_fok (hg.fits n t hn) (by rw[h2];exact this.1) (by rw[h3];exact this.2.1)).1
 ·have:=opn_bulk (List.all_eq_true.1 hcy.2.2.2 o hm)
  unfold okO;omega
 ·have hcd:=hcy.2.2.1
  unfold condP at hcd
  split at hcd
  ·have:=opn_bulk hcd;unfold okO;omega
  ·simp only[Bool.and_eq_true] at hcd
   have:=(sameV_iff _ _).1 hcd.2
   unfold okO;rw[this];decide
def and1(a:Int):Int:=IntKind.i64.wrap ((BitVec.ofInt IntKind.i64.bits a &&& BitVec.ofInt IntKind.i64.bits 1).toNat:Nat)
def shrN(say:Int)(m:Nat):Int:=say.fdiv (2 ^ (min m IntKind.i64.bits))
def bitI(say:Int)(i:Nat):Int:=and1 (shrN say (i % 60))
theorem bin_rem60{i:Nat}(h:i<4611686018427387904):binV .rem (.i .i64 (i:Int)) (.i .i64 60)=some (.i .i64 ((i % 60:Nat):Int)):=by
 show(if IntKind.i64=IntKind.i64 then binI .rem .i64 (i:Int) 60 else none)=_
 rw[if_pos rfl]
 have e:((i:Int).tmod 60)=((i % 60:Nat):Int):=by
  rw[Int.tmod_eq_emod_of_nonneg (by omega)];omega
 simp[binI,e]
theorem bin_shrN{say:Int}{m:Nat}:binV .shr (.i .i64 say) (.i .i64 (m:Int))=some (.i .i64 (shrN say m)):=by
 unfold shrN
 show(if((m:Nat):Int)<0 then none else some (AVal.i .i64 (say.fdiv (2 ^ (min ((m:Nat):Int).toNat IntKind.i64.bits)))))=_
 rw[if_neg (by omega)];simp
theorem bin_and1{a:Int}:binV .and (.i .i64 a) (.i .i64 1)=some (.i .i64 (and1 a)):=rfl
def saidK(say:Int)(homes:List Val):List Int:=(List.range homes.length).map fun i=>if bitI say i=0 then -1 else(homes[i]?.getD zeroVal).kind
theorem said_right{say:Int}{homes:List Val}:¬ Wrong (saidK say homes) homes:=by
 rintro⟨h,k,v,h1,h2,h3,h4⟩
 have hlt:=lt_of_get h3
 unfold saidK at h1
 rw[List.getElem?_map,List.getElem?_range hlt] at h1
 simp only[Option.map_some,Option.some.injEq,h3,Option.getD_some] at h1
 split at h1
 ·omega
 ·exact h4 h1
where
 lt_of_get {l:List Val} {n:Nat} {x:Val} (h:l[n]?=some x):n<l.length:=by
  rcases Nat.lt_or_ge n l.length with h1|h1
  ·exact h1
  ·rw[List.getElem?_eq_none h1] at h;cases h
theorem said_take{say:Int}{homes:List Val}{i:Nat}{v:Val}(h:homes[i]?=some v):(saidK say homes).take (i+1)=(saidK say homes).take i++[if bitI say i=0 then -1 else v.kind]:=by
 have hlt:i<homes.length:=by
  rcases Nat.lt_or_ge i homes.length with h1|h1
  ·exact h1
  ·rw[List.getElem?_eq_none h1] at h;cases h
 rw[List.take_add_one]
 congr 1
 unfold saidK
 rw[List.getElem?_map,List.getElem?_range hlt]
 simp[h]
theorem said_len{say:Int}{homes:List Val}:(saidK say homes).length=homes.length:=by simp[saidK]
end Go.RI
namespace Go.Proofs.YtbfajkcmehaliabGreatDoor
open Go Go.RI
section
variable {G:AHeap} (hG:G.next=2)
include hG
theorem guess_ok{K:List Int}{x:Pce}(hx:okPce x)(h:guessE K x=0):okPce (guessR K x):=by
 have hc:checkP x=true:=by
  unfold guessE at h
  split at h
  ·assumption
  ·cases h
 have hl:(gsP K x).out.length≤4096:=by
  unfold guessE at h
  rw[if_pos hc] at h
  split at h
  ·assumption
  ·cases h
 unfold guessR
 rw[if_pos h]
 exact guessP_ok hc hl hx
set_option maxHeartbeats 1000000 in
theorem t_guessTrue(cw:pureR IP G 5 []=some (.b true))(c17:CheckOk G)(cN:NeedsOk G)(x:Pce)(hx:okPce x)(K:List Int)(hK:K.length<1099511627776)(homes:List Val)(hb:bulkL homes<1099511627776) :
  ∃ H',Brings IP G G.next 3 [.ag (Enc.cells x),.fs false false K.length (encs K),.fs false false homes.length (encs homes)] G (.b true) H':=by
 have c1:=t_meant hG x hx false false false false
 have c2:=t_guessOf hG c17 K hK x hx false false false
 have c3:=c17 x hx false false false false
 simp only[pceC] at c1 c2 c3
 refine law_brings ip3 rfl rfl ?_
 by_cases he:guessE K x=0
 ·rw[he] at c2
  have hy:=guess_ok hG hx he
  have c4:=t_do hG c17 cN (guessR K x) hy homes hb false false false
  have c5:=c17 (guessR K x) hy false false false false
  have c6:=t_brings hG c17 cN x (guessR K x) hx hy homes hb false false false false false
  have hcy:checkP (guessR K x)=true:=by
   unfold guessR
   rw[if_pos he]
   unfold guessE at he
   split at he
   ·rename_i hc
    split at he
    ·rename_i hl;exact guessP_check hc hl
    ·cases he
   ·cases he
  have hd:(doR (guessR K x) homes).2.2=false∨bringsB (doR x homes) (doR (guessR K x) homes)=true:=by
   have hgd:doP (guessR K x) homes=doP x homes∨doP (guessR K x) homes=none:=by
    unfold guessR
    rw[if_pos he]
    unfold guessE at he
    split at he
    ·rename_i hc
     split at he
     ·rename_i hl;exact(guess_do hc hl homes).imp id fun h=>h.1
     ·cases he
    ·cases he
   rcases hgd with h|h
   ·right
    have:doR (guessR K x) homes=doR x homes:=by unfold doR;rw[h]
    rw[this];exact brings_self hG _
   ·left;unfold doR;rw[h]
  rw[hcy] at c5
  generalize guessR K x=y at c2 c4 c5 c6 hd
  simp only[pceC] at c4 c5 c6
  simp at c1 c2 c3 c4 c5 c6
  rcases hd with hd|hd
  ·rw[hd] at c4
   simp -implicitDefEqProofs [I3,hG,cw,c1,c2,c4,c5]
  ·rw[hd] at c6
   cases hz:(doR y homes).2.2
   ·rw[hz] at c4
    simp -implicitDefEqProofs [I3,hG,cw,c1,c2,c4,c5]
   ·rw[hz] at c4
    simp -implicitDefEqProofs [I3,hG,cw,c1,c2,c4,c5,c6]
 ·cases hc:checkP x
  ·rw[hc] at c3
   simp at c1 c2 c3
   simp -implicitDefEqProofs [I3,hG,cw,c1,c2,c3,he]
  ·rw[hc] at c3
   have hl:=(guess_len (K:=K) hc).2
   have hnum:=(checkP_iff.1 hc).1
   unfold numsP at hnum
   have h5:¬(gsP K x).out.length≤4096:=fun h=>he (by unfold guessE;rw[if_pos hc,if_pos h])
   have hi:(4032:Int)<(x.ins.length:Int):=by omega
   have hi2:4032<x.ins.length:=by omega
   simp at c1 c2 c3
   simp -implicitDefEqProofs [I3,hG,cw,c1,c2,c3,he,hi,hi2]
end
end Go.Proofs.YtbfajkcmehaliabGreatDoor
namespace Go.Proofs.YtbfajkcmehaliabGreatDoor
open Go Go.RI
section
variable {G:AHeap} (hG:G.next=2)
include hG
set_option maxHeartbeats 1000000 in
theorem t_guessRight(cw:pureR IP G 5 []=some (.b true))(c17:CheckOk G)(cN:NeedsOk G)(x:Pce)(hx:okPce x)(homes:List Val)(hb:bulkL homes<1099511627776)(say:Int) :
  ∃ H',Brings IP G G.next 4 [.ag (Enc.cells x),.fs false false homes.length (encs homes),.i .i64 say] G (.b true) H':=by
 have hhl:=bulkL_len homes
 obtain⟨K,hKd⟩:∃ K,K=saidK say homes:=⟨_,rfl⟩
 have hKl:K.length=homes.length:=by rw[hKd];exact said_len
 have c1:=t_meant hG x hx false false false false
 have c2:=fun tk=>t_guessOf hG c17 K (by omega) x hx false false tk
 simp only[pceC] at c1 c2
 refine law_brings ip4 rfl rfl ?_
 simp -implicitDefEqProofs [I4,hG,cw]
 refine wp_loop_list (l:=homes) (by omega) (fun i todo e H'=>∃ lv,e=[(1,.fs false false homes.length (encs homes)),(2,.i .i64 say),(3,.p 2 0),(7,lv),(8,.i .i64 i)]∧H'.get 2=some (.cells (Enc.cells x) 1 false)∧3≤H'.next∧Acc H' 3 lv 1 i (encs (K.take i))) ?_ ?_ ?_
 ·rintro i v todo e H' hv hd hlt hlt2 hlt3 ⟨lv,rfl,k0,nx,hL⟩
  have htk:=said_take (say:=say) hv
  rw[←hKd] at htk
  have b1:=bin_rem60 (i:=i) (by omega)
  have b2:binV .shr (.i .i64 say) (.i .i64 ((i:Int) % 60))=some (.i .i64 (shrN say (i % 60))):=by
   rw[show((i:Int) % 60)=((i % 60:Nat):Int) by omega];exact bin_shrN
  have b3:∀ a,binV .and (.i .i64 a) (.i .i64 1)=_:=fun a=>bin_and1
  have n3:2≤H'.next:=by omega
  have app:∀ k:Int,k=(if bitI say i=0 then -1 else v.kind)→∀(call:CallI) (xs:List RI.Item) (kill:List Nat) (Q:Post) (op:IOp) (re:List (Nat×IOp×Option (Nat×Bool))) (e:Env),
    (∀ H2:AHeap,H2.get 2=some (.cells (Enc.cells x) 1 false)→3≤H2.next→Acc H2 3 (.sl (H'.next+1) 0 (i+1) none) 1 (i+1) (encs (K.take (i+1)))→stepP call 2 xs kill Q (some 34) op re e (some (some (.sl (H'.next+1) 0 (i+1) none),H2))) →
    stepP call 2 xs kill Q (some 34) op re e (appR 2 (H'.push (.cells [.i .i64 k] 1 false)) 1 8 (some lv) (some (.sl H'.next 0 1 (some 1)))):=fun k hk call xs kill Q op re e kk=>by
   refine step_app (lo':=3) (acc_keep hL (by simp<;>omega) ?_) (m:=1) (ys:=[.i .i64 k]) (by omega) (by simp<;>omega) (more_lit (cs:=[.i .i64 k]) (e:=1) (ro:=false) (by simp) (by simp) (by omega)) (by simp) (by omega) (by omega) (by omega) (by omega) ?_
   ·intro id a b hv
    have:=acc_lt hL id a b hv
    simp -implicitDefEqProofs [show ¬ id=H'.next by omega]
   intro H2 hn2 hL2 hf2
   simp at hn2 hL2
   refine kk H2 ?_ (by omega) ?_
   ·rw[hf2 2 (by simp;omega) fun id0 n0 c0 hv=>by have:=acc_lt hL _ _ _ hv;omega,get_push_lt (by omega)]
    exact k0
   ·rw[htk,←hk];simpa using hL2
  clear hlt
  have hbit:and1 (shrN say (i % 60))=bitI say i:=rfl
  by_cases hz:bitI say i=0
  ·have dz:decide (bitI say i=0)=true:=decide_eq_true hz
   simp -implicitDefEqProofs [L4a,hlt2,hlt3,hv,b1,b2,b3,hbit,hz]
   refine app (-1) (by rw[if_pos hz]) _ _ _ _ _ _ _ fun H2 k2 n2 hA=>?_
   simp -implicitDefEqProofs [hlt3]
   exact⟨by simpa using k2,n2,hA⟩
  ·simp -implicitDefEqProofs [L4a,hlt2,hlt3,hv,b1,b2,b3,hbit,hz]
   refine app v.kind (by rw[if_neg hz]) _ _ _ _ _ _ _ fun H2 k2 n2 hA=>?_
   simp -implicitDefEqProofs [hlt3]
   exact⟨by simpa using k2,n2,hA⟩
 ·rintro e H' ⟨lv,rfl,k0,nx,hL⟩
  rw[List.take_of_length_le (by omega)] at hL
  have sl:=acc_snap (k:=15) hL snap_encs
  have c2':=c2 (decide (0<homes.length))
  rw[←hKl] at sl c2'
  have n3:2≤H'.next:=by omega
  have n4:¬ 2=H'.next:=by omega
  simp at k0
  by_cases he:guessE K x=0
  ·have hy:=guess_ok hG hx he
   have c6:=t_brings hG c17 cN x (guessR K x) hx hy homes hb false false false false false
   have hd:doR (guessR K x) homes=doR x homes:=by
    have:doP (guessR K x) homes=doP x homes:=by
     unfold guessR
     rw[if_pos he]
     unfold guessE at he
     split at he
     ·rename_i hc
      split at he
      ·rename_i hl
       rcases guess_do (K:=K) hc hl homes with h|h
       ·exact h
       ·exact absurd h.2 (by rw[hKd];exact said_right)
      ·cases he
     ·cases he
    unfold doR;rw[this]
   rw[hd,brings_self hG] at c6
   rw[he] at c2'
   generalize guessR K x=y at c2' c6
   simp only[pceC] at c6
   simp at c1 c2' c6 sl
   simp -implicitDefEqProofs [L4a,k0,c1,c2',c6,sl,n3,n4]
  ·simp at c1 c2' sl
   simp -implicitDefEqProofs [L4a,k0,c1,c2',sl,n3,n4,he]
 ·exact⟨.ns,by simp,by simp -implicitDefEqProofs [hG],by simp -implicitDefEqProofs [hG],acc_none⟩
end
end Go.Proofs.YtbfajkcmehaliabGreatDoor
namespace Go.Proofs.YtbfajkcmehaliabGreatDoor
open Go
noncomputable def G1:RI.AHeap:=(RI.G0 2).put 0 (some (.cells [.i .i64 0,.s [],.b false] 1 true))
end Go.Proofs.YtbfajkcmehaliabGreatDoor
namespace Go.RI
open Go
theorem pure_closed{tab:List (Nat×IFunc)}{G:AHeap}{f k:Nat}{fn:IFunc}(hf:tabIP tab f=some fn)(hm:fn.mode=2)(h:isTrueP (callK (buildT tab) G k G.next f [] G)=true):pureR (tabIP tab) G f []=some (.b true):=by
 obtain⟨n,hn⟩:=closed_pure hf hm h G.next G
 simp only[acall,callI,callB,hf,hm] at hn
 simp only[mapO] at hn
 split at hn
 ·rename_i u H1 hb
  split at hn
  ·rename_i v' hv
   cases hn
   exact pureR_some ⟨fn,n,u,H1,hf,hb,hv⟩
  ·cases hn
 ·cases hn
end Go.RI
namespace Go.Proofs.YtbfajkcmehaliabGreatDoor
open Go
theorem works_run:RI.isTrueP (RI.callK (RI.buildT tab) G1 100000 2 5 [] G1)=true:=by kernel_rfl
theorem works_pure:RI.pureR IP G1 5 []=some (.b true):=RI.pure_closed ip5 rfl works_run
end Go.Proofs.YtbfajkcmehaliabGreatDoor
