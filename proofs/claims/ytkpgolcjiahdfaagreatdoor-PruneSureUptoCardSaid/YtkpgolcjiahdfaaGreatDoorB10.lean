import Derived.Test.YtkpgolcjiahdfaaGreatDoorB09
import Derived.Test.YtkpgolcjiahdfaaGreatDoorB08
set_option linter.unusedVariables false
set_option linter.unusedSimpArgs false
set_option linter.unusedSectionVars false
/- What lift.Check brings. Conditions: none. -/
namespace Go.Proofs.YtkpgolcjiahdfaaGreatDoor
open Go Go.RI
section
variable {G:AHeap} (hG:G.next=2) (hB:G.get 0=some (.cells [.i .i64 0,.s [],.b false] 1 true))
include hG hB
theorem t_check_loop1(l:List Int)(hl:l.length<100)(Q:Post)(H:AHeap)(hr:H.get 3=some (.cells (encs l) 1 false))
  (h1:(l.all fun n=>decide (0≤n))=true→∀ b,Q (.exit 0) [(1,.p 2 0),(23,.sl 3 0 l.length (some l.length)),(24,.i .i64 l.length),(25,.i .i64 l.length),(26,b)] H)
  (h2:(l.all fun n=>decide (0≤n))=false→Q .ret [(2,.i .i64 2)] H) :
  wp (theCalls IP G 2) 2 (.loop L8a) Q [(1,.p 2 0),(23,.sl 3 0 l.length (some l.length)),(24,.i .i64 l.length),(25,.i .i64 0)] H:=by
 refine wp_loop_list (l:=l) (by omega) (fun i todo e H'=>e=[(1,.p 2 0),(23,.sl 3 0 l.length (some l.length)),(24,.i .i64 l.length),(25,.i .i64 i)]∧H'=H∧(l.all fun n=>decide (0≤n))=todo.all fun n=>decide (0≤n)) ?_ ?_ ?_
 ·rintro i x todo e H' hx hd hlt hlt2 hlt3 ⟨rfl,rfl,hn⟩
  clear hlt
  simp -implicitDefEqProofs [L8a,hlt2,hlt3,hx,hr]
  refine test_intro ?_ ?_<;>intro h<;>simp -implicitDefEqProofs [hlt3]
  ·refine h2 ?_
   have:¬ 0≤x:=by have:=of_decide_eq_true h;omega
   rw[hn];simp -implicitDefEqProofs [this]
  ·have:0≤x:=by have:=of_decide_eq_false h;omega
   simpa[this] using hn
 ·rintro e H' ⟨rfl,rfl,hn⟩
  simp -implicitDefEqProofs [L8a]
  exact h1 (by rw[hn];rfl) _
 ·simp
theorem t_check_loop2(x:Pce)(hx:okPce x)(t1 t2 t3 t4:Bool)(Q:Post)(H:AHeap)(hr:H.get 2=some (.cells (pceC x t1 t2 t3 t4) 1 false))(hn:2<H.next)
  (h1:stepsFit x.homes x.ins 0=true→∀ b H',H'.get 2=some (.cells (pceC x t1 t2 t3 t4) 1 false)→2<H'.next→Q (.exit 2) [(1,.p 2 0),(66,.fs t1 false x.ins.length (encs x.ins)),(67,.i .i64 x.ins.length),(68,.i .i64 x.ins.length),(69,b)] H')
  (h2:stepsFit x.homes x.ins 0=false→∀ H',Q .ret [(2,.i .i64 2)] H') :
  wp (theCalls IP G 2) 2 (.loop L8b) Q [(1,.p 2 0),(66,.fs t1 false x.ins.length (encs x.ins)),(67,.i .i64 x.ins.length),(68,.i .i64 0)] H:=by
 refine wp_loop_list (l:=x.ins) (by have:=hx.2.1;omega) (fun i todo e H'=>e=[(1,.p 2 0),(66,.fs t1 false x.ins.length (encs x.ins)),(67,.i .i64 x.ins.length),(68,.i .i64 i)]∧H'.get 2=some (.cells (pceC x t1 t2 t3 t4) 1 false)∧2<H'.next∧stepsFit x.homes x.ins 0=stepsFit x.homes todo i) ?_ ?_ ?_
 ·rintro i s todo e H' hs hd hlt hlt2 hlt3 ⟨rfl,hg,hn,he⟩
  clear hlt
  obtain⟨a1,a2,a3,a4⟩:=hx.1 s (List.mem_of_getElem? hs)
  have c1:=t_stpFits hG hB s x.homes i a1 a2 a3 a4 false false
  obtain⟨d,hd2⟩:∃ d,H'.next=d+3:=⟨H'.next-3,by omega⟩
  rw[stepsFit] at he
  simp -implicitDefEqProofs [L8b,hlt2,hlt3,hs,hg,hd2,c1,pceC]
  refine test_intro ?_ ?_<;>intro h<;>simp -implicitDefEqProofs [hlt3]
  ·rw[h] at he
   simp only[Bool.true_and] at he
   simpa[hg,hd2,pceC] using he
  ·rw[h] at he
   exact h2 (by rw[he];rfl) _
 ·rintro e H' ⟨rfl,hg,hn,he⟩
  simp -implicitDefEqProofs [L8b]
  exact h1 (by rw[he];rfl) _ _ hg hn
 ·exact⟨by simp,hr,hn,rfl⟩
set_option maxHeartbeats 4000000 in
theorem t_liftCheck(x:Pce)(hx:okPce x)(t1 t2 t3 t4:Bool):pureR IP G 8 [.ag (pceC x t1 t2 t3 t4)]=some (.i .i64 (if checkP x then 0 else 2)):=by
 obtain⟨ho1,ho2,ho3,ho4,ho5⟩:=hx
 have c1:=t_opn hG x.cond x.homes x.ins.length ho5 t3 t4
 have c2:=t_none hG x.cond.v ho5 t3 t4
 have c3:=t_fit hG x.sets x.homes x.ins.length ho3 ho4 t2 false
 refine pure_run ip8 rfl ?_
 simp -implicitDefEqProofs [I8,hG,pceC]
 refine t_check_loop1 hG hB [x.func,x.at_,x.many,x.homes,x.deep,x.exit,x.to] (by simp) _ _ (by simp -implicitDefEqProofs [hG]) ?_ ?_
 ·intro h0 b
  simp at h0
  obtain⟨h01,h02,h03,h04,h05,h06,h07⟩:=h0
  have no:∀ {P:Prop},(numsP x→¬ P)→P→checkP x=false:=fun h1 h2=>checkP_not fun h=>h1 h.1 h2
  simp -implicitDefEqProofs [hG]
  refine test_intro ?_ ?_<;>intro h1<;>simp -implicitDefEqProofs [hG]
  ·exact no (fun h=>by unfold numsP at h;omega) (of_decide_eq_true h1)
  refine guard_intro ?_ ?_<;>intro h2<;>simp -implicitDefEqProofs [hG,h2]
  ·exact no (fun h=>by unfold numsP at h;omega) (of_decide_eq_true h2)
  refine guard_intro ?_ ?_<;>intro h3<;>simp -implicitDefEqProofs [hG,h3]
  ·exact no (fun h=>by unfold numsP at h;omega) (of_decide_eq_true h3)
  refine guard_intro ?_ ?_<;>intro h4<;>simp -implicitDefEqProofs [hG,h4]
  ·exact no (fun h=>by unfold numsP at h;omega) (of_decide_eq_true h4)
  refine guard_intro ?_ ?_<;>intro h5<;>simp -implicitDefEqProofs [hG,h5]
  ·exact no (fun h=>by unfold numsP at h;omega) (of_decide_eq_true h5)
  refine test_intro ?_ ?_<;>intro h6<;>simp -implicitDefEqProofs [hG]
  ·exact no (fun h=>by unfold numsP at h;omega) (of_decide_eq_true h6)
  have hnum:numsP x:=by
   have h1:=of_decide_eq_false h1;have h2:=of_decide_eq_false h2;have h3:=of_decide_eq_false h3
   have h4:=of_decide_eq_false h4;have h5:=of_decide_eq_false h5;have h6:=of_decide_eq_false h6
   unfold numsP;omega
  refine t_check_loop2 hG hB x ⟨ho1,ho2,ho3,ho4,ho5⟩ t1 t2 t3 t4 _ _ (by simp -implicitDefEqProofs [hG,pceC]) (by simp -implicitDefEqProofs [hG]) ?_ ?_
  ·intro hs b H' hg hn
   simp only[pceC] at hg
   have e:checkP x=(condP x&&x.sets.all (opnFits x.homes x.ins.length)):=by
    rw[Bool.eq_iff_iff,checkP_iff,Bool.and_eq_true]
    exact⟨fun h=>h.2.2,fun h=>⟨hnum,hs,h⟩⟩
   rw[e]
   clear hnum no hs e h1 h2 h3 h4 h5 h6 h01 h02 h03 h04 h05 h06 h07 ho1 ho2 ho3 ho4 ho5
   simp -implicitDefEqProofs [hg]
   repeat' ((first|refine guard_intro ?_ ?_|refine test_intro ?_ ?_)<;>intro h<;>(try simp -implicitDefEqProofs [h,hG,hg,c1,c2,c3]))
   all_goals clear c1 c2 c3 hg
   all_goals ((try simp only[decide_eq_true_eq,decide_eq_false_iff_not] at *)<;>(try simp_all [condP])<;>(try (intros;omega)))
  ·intro hs H'
   have:checkP x=false:=checkP_not fun h=>by rw[hs] at h;exact absurd h.2.1 (by simp)
   simp -implicitDefEqProofs [this]
 ·intro h0
  have:checkP x=false:=checkP_not fun h=>by
   obtain⟨⟨⟨h1,h2,h3,h4,h5,h6,h7⟩,_⟩,_⟩:=h
   simp at h0
   omega
  simp -implicitDefEqProofs [hG,this]
end
end Go.Proofs.YtkpgolcjiahdfaaGreatDoor
namespace Go.Proofs.YtkpgolcjiahdfaaGreatDoor
open Go Go.RI
section
variable {G:AHeap} (hG:G.next=2)
include hG
theorem t_aown_loop(v:Val)(hv:v.l.length<1099511627776)(lv nv:AVal)(H:AHeap)(hr:H.get 2=some (.cells [.i .i64 v.kind,.i .i64 v.n,.s v.s,lv,nv] 1 false))(hL:Hold H 4 lv 5 v.l.length (encs v.l))
  (ih:∀ x∈v.l,∀ t1 t2:Bool,pureR IP G 109 [.ag [.i .i64 x.kind,.i .i64 x.n,.s x.s,.fs t1 false x.l.length (encs x.l),.fs t2 false x.names.length (encs x.names)]]=some (.ag (Enc.cells x)))
  (Q:Post) (hQ:∀ b H',(∀ id,H'.get id=H.get id)→H'.next=H.next→Q (.exit 0) [(1,.p 2 0),(2,.p 3 0),(14,.i .i64 v.l.length),(15,.i .i64 v.l.length),(16,b)] H') :
  wp (theCalls IP G 2) 2 (.loop L109a) Q [(1,.p 2 0),(2,.p 3 0),(14,.i .i64 v.l.length),(15,.i .i64 0)] H:=by
 refine wp_loop_list (l:=v.l) (by omega) (fun i todo e H'=>e=[(1,.p 2 0),(2,.p 3 0),(14,.i .i64 v.l.length),(15,.i .i64 i)]∧(∀ id,H'.get id=H.get id)∧H'.next=H.next) ?_ ?_ ?_
 ·rintro i x todo e H' hx hd hlt hlt2 hlt3 ⟨rfl,hs,hn⟩
  have c1:=ih x (List.mem_of_getElem? hx) false false
  simp at c1
  rcases hL with⟨_,h0,_⟩|⟨id,c,rfl,hc,h1,h2,h3,h4⟩
  ·omega
  have hr':=(hs 2).trans hr
  have h3':=(hs id).trans h3
  have h5:i*5+5≤v.l.length*5:=by omega
  have hne:¬ id=2:=by omega
  have hp:=put_val hx
  simp at hp
  have hlo:2≤id:=by omega
  clear hlt
  simp -implicitDefEqProofs [L109a,hlt2,hlt3,hx,hr',h3',h5,c1,hne,hlo,hp]
  refine⟨fun j=>?_,hn⟩
  by_cases hj:j=id
  ·subst hj;simp -implicitDefEqProofs [h3]
  ·simp -implicitDefEqProofs [hj,hs]
 ·rintro e H' ⟨rfl,hs,hn⟩
  simp -implicitDefEqProofs [L109a]
  exact hQ _ _ hs hn
 ·simp
theorem t_aown1:∀ b,b<1099511627776→∀ v:Val,v.bulk≤b→∀ t1 t2:Bool,pureR IP G 109 [.ag [.i .i64 v.kind,.i .i64 v.n,.s v.s,.fs t1 false v.l.length (encs v.l),.fs t2 false v.names.length (encs v.names)]]=some (.ag (Enc.cells v)):=by
  intro b
  induction b with
  | zero=>intro _ v h;have:=v.bulk_pos;omega
  | succ b ih =>
    intro hb v hv t1 t2
    rw[Val.bulk_eq] at hv
    have hl1:=bulkL_len v.l
    have hl2:=bulkS_len v.names
    refine pure_run ip109 rfl ?_
    simp -implicitDefEqProofs [I109,hG]
    refine step_clone (lo':=4) (by simp) (by omega) (by omega) (by omega) (by simp -implicitDefEqProofs [hG]) ?_
    intro nv H1 hn1 hN hnew1 hf1
    have hg1:H1.get 2=_:=hf1 2 (by simp -implicitDefEqProofs [hG])
    have hg2:H1.get 3=_:=hf1 3 (by simp -implicitDefEqProofs [hG])
    simp -implicitDefEqProofs [hG] at hg1 hg2 hn1
    simp -implicitDefEqProofs [hg1]
    refine step_clone (lo':=4) (by simp) (by omega) (by omega) (by omega) (by omega) ?_
    intro lv H2 hn2 hL hnew2 hf2
    have hg3:H2.get 2=_:=(hf2 2 (by omega)).trans hg1
    have hg4:H2.get 3=_:=(hf2 3 (by omega)).trans hg2
    obtain⟨o1,o2⟩:=hold_one hN
    obtain⟨o3,o4⟩:=hold_one hL
    simp -implicitDefEqProofs [hg3,o1,o2,o3,o4,hold_len hL]
    have hN2:Hold H2 4 nv 1 v.names.length (encs v.names):=hold_keep hN hn2 fun id c h=>hf2 id (hold_lt hN _ _ _ h).2
    refine t_aown_loop hG v (by omega) lv nv _ (by simp) (hold_keep hL (by simp) fun id c h=>?_) (fun x hx t1 t2=>ih (by omega) x (by have:=bulkL_mem hx;omega) t1 t2) _ ?_
    · have:=hold_lt hL _ _ _ h
      simp -implicitDefEqProofs [show ¬ id=2 by omega]
    · intro b H3 hs hn3
      have e1:H3.get 2=_:=hs 2
      have e2:H3.get 3=_:=hs 3
      simp -implicitDefEqProofs [hg4] at e1 e2
      simp -implicitDefEqProofs [e1,e2]
      simp at hn3
      have f1:=fun o=>hold_frz (k:=14) (hold_in hL (H':=H3.put 3 o) (lo':=2) (by omega) (by simp;omega) fun id h1 h2=>by simp -implicitDefEqProofs [hs,show ¬ id=3 by omega,show ¬ id=2 by omega]) frz_encs
      have f2:=fun o=>hold_frz (k:=14) (hold_in hN2 (H':=H3.put 3 o) (lo':=2) (by omega) (by simp;omega) fun id h1 h2=>by simp -implicitDefEqProofs [hs,show ¬ id=3 by omega,show ¬ id=2 by omega]) frz_encs
      simp -implicitDefEqProofs [f1,f2]
theorem t_aown(v:Val)(hv:v.bulk<1099511627776)(t1 t2:Bool):pureR IP G 109 [.ag [.i .i64 v.kind,.i .i64 v.n,.s v.s,.fs t1 false v.l.length (encs v.l),.fs t2 false v.names.length (encs v.names)]]=some (.ag (Enc.cells v)) :=
 t_aown1 hG v.bulk hv v (Nat.le_refl _) t1 t2
theorem t_lown_loop(v:Val)(hv:v.l.length<1099511627776)(lv nv:AVal)(H:AHeap)(hr:H.get 2=some (.cells [.i .i64 v.kind,.i .i64 v.n,.s v.s,lv,nv] 1 false))(hL:Hold H 4 lv 5 v.l.length (encs v.l))
  (ih:∀ x∈v.l,∀ t1 t2:Bool,pureR IP G 37 [.ag [.i .i64 x.kind,.i .i64 x.n,.s x.s,.fs t1 false x.l.length (encs x.l),.fs t2 false x.names.length (encs x.names)]]=some (.ag (Enc.cells x)))
  (Q:Post) (hQ:∀ b H',(∀ id,H'.get id=H.get id)→H'.next=H.next→Q (.exit 0) [(1,.p 2 0),(2,.p 3 0),(14,.i .i64 v.l.length),(15,.i .i64 v.l.length),(16,b)] H') :
  wp (theCalls IP G 2) 2 (.loop L37a) Q [(1,.p 2 0),(2,.p 3 0),(14,.i .i64 v.l.length),(15,.i .i64 0)] H:=by
 refine wp_loop_list (l:=v.l) (by omega) (fun i todo e H'=>e=[(1,.p 2 0),(2,.p 3 0),(14,.i .i64 v.l.length),(15,.i .i64 i)]∧(∀ id,H'.get id=H.get id)∧H'.next=H.next) ?_ ?_ ?_
 ·rintro i x todo e H' hx hd hlt hlt2 hlt3 ⟨rfl,hs,hn⟩
  have c1:=ih x (List.mem_of_getElem? hx) false false
  simp at c1
  rcases hL with⟨_,h0,_⟩|⟨id,c,rfl,hc,h1,h2,h3,h4⟩
  ·omega
  have hr':=(hs 2).trans hr
  have h3':=(hs id).trans h3
  have h5:i*5+5≤v.l.length*5:=by omega
  have hne:¬ id=2:=by omega
  have hp:=put_val hx
  simp at hp
  have hlo:2≤id:=by omega
  clear hlt
  simp -implicitDefEqProofs [L37a,hlt2,hlt3,hx,hr',h3',h5,c1,hne,hlo,hp]
  refine⟨fun j=>?_,hn⟩
  by_cases hj:j=id
  ·subst hj;simp -implicitDefEqProofs [h3]
  ·simp -implicitDefEqProofs [hj,hs]
 ·rintro e H' ⟨rfl,hs,hn⟩
  simp -implicitDefEqProofs [L37a]
  exact hQ _ _ hs hn
 ·simp
theorem t_lown1:∀ b,b<1099511627776→∀ v:Val,v.bulk≤b→∀ t1 t2:Bool,pureR IP G 37 [.ag [.i .i64 v.kind,.i .i64 v.n,.s v.s,.fs t1 false v.l.length (encs v.l),.fs t2 false v.names.length (encs v.names)]]=some (.ag (Enc.cells v)):=by
  intro b
  induction b with
  | zero=>intro _ v h;have:=v.bulk_pos;omega
  | succ b ih =>
    intro hb v hv t1 t2
    rw[Val.bulk_eq] at hv
    have hl1:=bulkL_len v.l
    have hl2:=bulkS_len v.names
    refine pure_run ip37 rfl ?_
    simp -implicitDefEqProofs [I37,hG]
    refine step_clone (lo':=4) (by simp) (by omega) (by omega) (by omega) (by simp -implicitDefEqProofs [hG]) ?_
    intro nv H1 hn1 hN hnew1 hf1
    have hg1:H1.get 2=_:=hf1 2 (by simp -implicitDefEqProofs [hG])
    have hg2:H1.get 3=_:=hf1 3 (by simp -implicitDefEqProofs [hG])
    simp -implicitDefEqProofs [hG] at hg1 hg2 hn1
    simp -implicitDefEqProofs [hg1]
    refine step_clone (lo':=4) (by simp) (by omega) (by omega) (by omega) (by omega) ?_
    intro lv H2 hn2 hL hnew2 hf2
    have hg3:H2.get 2=_:=(hf2 2 (by omega)).trans hg1
    have hg4:H2.get 3=_:=(hf2 3 (by omega)).trans hg2
    obtain⟨o1,o2⟩:=hold_one hN
    obtain⟨o3,o4⟩:=hold_one hL
    simp -implicitDefEqProofs [hg3,o1,o2,o3,o4,hold_len hL]
    have hN2:Hold H2 4 nv 1 v.names.length (encs v.names):=hold_keep hN hn2 fun id c h=>hf2 id (hold_lt hN _ _ _ h).2
    refine t_lown_loop hG v (by omega) lv nv _ (by simp) (hold_keep hL (by simp) fun id c h=>?_) (fun x hx t1 t2=>ih (by omega) x (by have:=bulkL_mem hx;omega) t1 t2) _ ?_
    · have:=hold_lt hL _ _ _ h
      simp -implicitDefEqProofs [show ¬ id=2 by omega]
    · intro b H3 hs hn3
      have e1:H3.get 2=_:=hs 2
      have e2:H3.get 3=_:=hs 3
      simp -implicitDefEqProofs [hg4] at e1 e2
      simp -implicitDefEqProofs [e1,e2]
      simp at hn3
      have f1:=fun o=>hold_frz (k:=14) (hold_in hL (H':=H3.put 3 o) (lo':=2) (by omega) (by simp;omega) fun id h1 h2=>by simp -implicitDefEqProofs [hs,show ¬ id=3 by omega,show ¬ id=2 by omega]) frz_encs
      have f2:=fun o=>hold_frz (k:=14) (hold_in hN2 (H':=H3.put 3 o) (lo':=2) (by omega) (by simp;omega) fun id h1 h2=>by simp -implicitDefEqProofs [hs,show ¬ id=3 by omega,show ¬ id=2 by omega]) frz_encs
      simp -implicitDefEqProofs [f1,f2]
theorem t_lown(v:Val)(hv:v.bulk<1099511627776)(t1 t2:Bool):pureR IP G 37 [.ag [.i .i64 v.kind,.i .i64 v.n,.s v.s,.fs t1 false v.l.length (encs v.l),.fs t2 false v.names.length (encs v.names)]]=some (.ag (Enc.cells v)) :=
 t_lown1 hG v.bulk hv v (Nat.le_refl _) t1 t2
end
end Go.Proofs.YtkpgolcjiahdfaaGreatDoor
namespace Go.Proofs.YtkpgolcjiahdfaaGreatDoor
open Go Go.RI
section
variable {G:AHeap} (hG:G.next=2)
include hG
theorem t_idxV(g:Nat)(p:Val→Bool)(hg:∀ lo l H,theCalls IP G lo g l H=given H ((snaps H l).bind (pureR IP G g)))(l:List Val)(hl:l.length<1099511627776)(hp:∀ v∈l,pureR IP G g [.ag (Enc.cells v)]=some (.b (p v)))(t:Bool):pureR IP G 58 [.fs t false l.length (encs l),.fn (.func g) [] []]=some (.i .i64 (idxF p l 0)):=by
 simp only[snaps_eq] at hg
 refine pure_run ip58 rfl ?_
 simp -implicitDefEqProofs [I58,hG]
 refine wp_loop_list (l:=l) (by omega) (fun i todo e H=>e=[(0,.fs t false l.length (encs l)),(1,.fn (.func g) [] []),(7,.i .i64 l.length),(8,.i .i64 i)]∧H=G∧idxF p l 0=idxF p todo i) ?_ ?_ ?_
 ·rintro i x todo e H hx hd hlt hlt2 hlt3 ⟨rfl,rfl,hn⟩
  have c1:=hp x (List.mem_of_getElem? hx)
  simp at c1
  rw[idxF] at hn
  clear hlt
  simp -implicitDefEqProofs [L58a,hlt2,hlt3,hx,hg,c1,hG]
  refine test_intro ?_ ?_<;>intro h2<;>simp -implicitDefEqProofs [hlt3,hG]
  ·rw[hn,h2];simp
  ·rw[hn,h2];simp
 ·rintro e H ⟨rfl,rfl,hn⟩
  simp -implicitDefEqProofs [L58a,hG]
  rw[hn];rfl
 ·simp -implicitDefEqProofs [hG]
theorem t_anyV(g:Nat)(p:Val→Bool)(hg:∀ lo l H,theCalls IP G lo g l H=given H ((snaps H l).bind (pureR IP G g)))(l:List Val)(hl:l.length<1099511627776)(hp:∀ v∈l,pureR IP G g [.ag (Enc.cells v)]=some (.b (p v)))(t f:Bool):pureR IP G 32 [.fs t f l.length (encs l),.fn (.func g) [] []]=some (.b (l.any p)):=by
 have c1:=t_idxV hG g p hg l hl hp
 refine pure_run ip32 rfl ?_
 simp -implicitDefEqProofs [I32,hG,c1]
 rw[←idxF_any _ l 0 (by omega)]
theorem t_mayNot(v:Val)(hv:v.bulk<1099511627776):pureR IP G 126 [.ag (Enc.cells v)]=some (.b (!mayV v)):=by
 have c1:=t_check hG v hv
 refine pure_run ip126 rfl ?_
 simp -implicitDefEqProofs [I126,hG,c1]
theorem t_may(l:List Val)(hl:bulkL l<1099511627776)(t f:Bool):pureR IP G 104 [.fs t f l.length (encs l)]=some (.b (l.all mayV)):=by
 have c1:=t_anyV hG 126 (fun v=>!mayV v) (fun lo l H=>pu126) l (by have:=bulkL_len l;omega) (fun v hv=>t_mayNot hG v (by have:=bulkL_mem hv;omega))
 have e:(l.any fun v=>!mayV v)=!(l.all mayV):=by simp -implicitDefEqProofs [List.not_all_eq_any_not]
 rw[e] at c1
 refine pure_run ip104 rfl ?_
 simp -implicitDefEqProofs [I104,hG,c1]
end
end Go.Proofs.YtkpgolcjiahdfaaGreatDoor
namespace Go.Proofs.YtkpgolcjiahdfaaGreatDoor
open Go Go.RI
section
variable {G:AHeap} (hG:G.next=2)
include hG
theorem t_anum(n:Int):pureR IP G 110 [.i .i64 n]=some (.ag (Enc.cells (numV n))):=by
 refine pure_run ip110 rfl ?_
 simp -implicitDefEqProofs [I110,hG,numV]
theorem t_ayes(b:Bool):pureR IP G 105 [.b b]=some (.ag (Enc.cells (yesV b))):=by
 refine pure_run ip105 rfl ?_
 cases b<;>simp -implicitDefEqProofs [I105,hG,yesV]
theorem t_amade(v:Val)(hv:v.bulk<1099511627776)(t1 t2:Bool):pureR IP G 121 [.ag [.i .i64 v.kind,.i .i64 v.n,.s v.s,.fs t1 false v.l.length (encs v.l),.fs t2 false v.names.length (encs v.names)]]=some (.tu [.ag (Enc.cells (madeV v).1),.i .i64 (madeV v).2]):=by
 have c1:=t_check hG v hv t1 t2
 have c2:=t_aown hG v hv t1 t2
 refine pure_run ip121 rfl ?_
 cases hm:mayV v
 ·simp -implicitDefEqProofs [hm] at c1
  simp -implicitDefEqProofs [I121,hG,c1,madeV,hm,zeroVal]
 ·simp -implicitDefEqProofs [hm] at c1 c2
  simp -implicitDefEqProofs [I121,hG,c1,c2,madeV,hm]
set_option maxHeartbeats 1000000 in
theorem t_aints(op a b:Int):pureR IP G 106 [.i .i64 op,.i .i64 a,.i .i64 b]=some (.tu [.ag (Enc.cells (intsV op a b).1),.i .i64 (intsV op a b).2]):=by
 have n1:=fun n=>t_anum hG n
 simp at n1
 by_cases h9:op=9
 ·subst h9
  refine pure_run ip106 rfl ?_
  simp -implicitDefEqProofs [I106,hG,n1,intsV]
 by_cases h10:op=10
 ·subst h10
  refine pure_run ip106 rfl ?_
  simp -implicitDefEqProofs [I106,hG,n1,intsV]
 by_cases h11:op=11
 ·subst h11
  refine pure_run ip106 rfl ?_
  simp -implicitDefEqProofs [I106,hG,n1,intsV]
 by_cases h17:op=17
 ·subst h17
  by_cases hab:a=b
  ·subst hab
   have e1:(intsV 17 a a)=(yesV true,0):=by simp -implicitDefEqProofs [intsV]
   rw[e1]
   have y2:=t_ayes hG true
   generalize yesV true=w at y2 ⊢
   simp at y2
   refine pure_run ip106 rfl ?_
   simp -implicitDefEqProofs [I106,hG,y2]
  ·have e:decide (a≤b)=decide (a<b):=by rw[Bool.eq_iff_iff];simp;omega
   have e1:(intsV 17 a b)=(yesV (decide (a<b)),0):=by rw[←e];simp -implicitDefEqProofs [intsV]
   rw[e1]
   have y2:=t_ayes hG (decide (a<b))
   clear e e1
   generalize yesV (decide (a<b))=w at y2 ⊢
   simp at y2
   refine pure_run ip106 rfl ?_
   simp -implicitDefEqProofs [I106,hG,y2,hab]
 by_cases h16:op=16
 ·subst h16
  have e1:(intsV 16 a b)=(yesV (decide (a<b)),0):=by simp -implicitDefEqProofs [intsV]
  rw[e1]
  have y2:=t_ayes hG (decide (a<b))
  generalize yesV (decide (a<b))=w at y2 ⊢
  simp at y2
  refine pure_run ip106 rfl ?_
  simp -implicitDefEqProofs [I106,hG,y2]
 by_cases h12:op=12
 ·subst h12
  by_cases hb:b=0
  ·subst hb
   refine pure_run ip106 rfl ?_
   simp -implicitDefEqProofs [I106,hG,intsV,zeroVal]
  ·refine pure_run ip106 rfl ?_
   simp -implicitDefEqProofs [I106,hG,n1,intsV,hb]
 by_cases h13:op=13
 ·subst h13
  by_cases hb:b=0
  ·subst hb
   refine pure_run ip106 rfl ?_
   simp -implicitDefEqProofs [I106,hG,intsV,zeroVal]
  ·refine pure_run ip106 rfl ?_
   simp -implicitDefEqProofs [I106,hG,n1,intsV,hb]
 refine pure_run ip106 rfl ?_
 simp -implicitDefEqProofs [I106,hG,intsV,h9,h10,h11,h17,h16,h12,h13,zeroVal]
set_option maxHeartbeats 1000000 in
theorem t_atexts(op:Int)(a b:Str)(ha:a.length+b.length<549755813888):pureR IP G 107 [.i .i64 op,.s a,.s b]=some (.tu [.ag (Enc.cells (textsV op a b).1),.i .i64 (textsV op a b).2]):=by
 have m1:=t_amade hG (.mk 3 0 (a++b) [] []) (by rw[Val.bulk_eq];simp -implicitDefEqProofs [bulkL,bulkS];omega) false false
 simp at m1
 by_cases h9:op=9
 ·subst h9
  refine pure_run ip107 rfl ?_
  simp -implicitDefEqProofs [I107,hG,m1,textsV,bin_sadd (a:=a) (b:=b) (by omega)]
 by_cases h17:op=17
 ·subst h17
  by_cases hab:a=b
  ·subst hab
   have e1:(textsV 17 a a)=(yesV true,0):=by simp -implicitDefEqProofs [textsV,leS]
   rw[e1]
   have y2:=t_ayes hG true
   generalize yesV true=w at y2 ⊢
   simp at y2
   refine pure_run ip107 rfl ?_
   simp -implicitDefEqProofs [I107,hG,y2]
  ·have hbe:(a==b)=false:=by simpa using hab
   have e1:(textsV 17 a b)=(yesV (ltB a b),0):=by simp -implicitDefEqProofs [textsV,leS,hbe]
   rw[e1]
   have y2:=t_ayes hG (ltB a b)
   generalize yesV (ltB a b)=w at y2 ⊢
   simp at y2
   refine pure_run ip107 rfl ?_
   simp -implicitDefEqProofs [I107,hG,y2,hbe]
 by_cases h16:op=16
 ·subst h16
  have e1:(textsV 16 a b)=(yesV (ltB a b),0):=by simp -implicitDefEqProofs [textsV]
  rw[e1]
  have y2:=t_ayes hG (ltB a b)
  generalize yesV (ltB a b)=w at y2 ⊢
  simp at y2
  refine pure_run ip107 rfl ?_
  simp -implicitDefEqProofs [I107,hG,y2]
 refine pure_run ip107 rfl ?_
 simp -implicitDefEqProofs [I107,hG,textsV,h9,h17,h16,zeroVal]
end
end Go.Proofs.YtkpgolcjiahdfaaGreatDoor
namespace Go.Proofs.YtkpgolcjiahdfaaGreatDoor
open Go Go.RI
section
variable {G:AHeap} (hG:G.next=2)
include hG
set_option maxHeartbeats 1000000 in
theorem t_unary(op:Int)(a:Val)(ha:a.bulk<549755813888):pureR IP G 64 [.i .i64 op,.ag [.i .i64 a.kind,.i .i64 a.n,.s a.s,.fs false false a.l.length (encs a.l),.fs false false a.names.length (encs a.names)]]=some (.tu [.ag (Enc.cells (unaryV op a).1),.i .i64 (unaryV op a).2.1,.i .i64 (unaryV op a).2.2]):=by
 have n1:=fun n=>t_anum hG n
 have m1:=t_may hG [a] (by simp -implicitDefEqProofs [bulkL];omega) true false
 have hb:=ha
 rw[Val.bulk_eq] at hb
 have hbl:=bulkL_len a.l
 have w1:wrapI .i64 ((a.s.length:Int)+a.l.length)=(a.s.length:Int)+a.l.length:=wrap_ok (by omega) (by omega)
 simp at n1 m1
 unfold unaryV
 cases hm:mayV a
 ·simp -implicitDefEqProofs [hm] at m1
  refine pure_run ip64 rfl ?_
  simp -implicitDefEqProofs [I64,hG,zeroVal,m1]
 ·simp -implicitDefEqProofs [hm] at m1
  by_cases h6:op=6
  ·subst h6
   by_cases hk:a.kind=1
   ·simp only[hk] at m1
    refine pure_run ip64 rfl ?_
    simp -implicitDefEqProofs [I64,hG,n1,m1,hk]
   ·refine pure_run ip64 rfl ?_
    simp -implicitDefEqProofs [I64,hG,zeroVal,n1,m1,hk]
  by_cases h7:op=7
  ·subst h7
   have y2:=t_ayes hG (decide (a.n=0))
   obtain⟨w,hw⟩:∃ w,w=yesV (decide (a.n=0)):=⟨_,rfl⟩
   rw[←hw] at y2 ⊢
   clear hw
   simp at y2
   by_cases hk:a.kind=2
   ·simp only[hk] at m1
    refine pure_run ip64 rfl ?_
    simp -implicitDefEqProofs [I64,hG,y2,m1,hk]
   ·refine pure_run ip64 rfl ?_
    simp -implicitDefEqProofs [I64,hG,zeroVal,y2,m1,hk]
  by_cases h8:op=8
  ·subst h8
   by_cases hk:a.kind=3
   ·simp only[hk] at m1
    refine pure_run ip64 rfl ?_
    simp -implicitDefEqProofs [I64,hG,n1,m1,hk,w1]
   ·by_cases hk4:a.kind=4
    ·simp only[hk4] at m1
     refine pure_run ip64 rfl ?_
     simp -implicitDefEqProofs [I64,hG,n1,m1,hk,hk4,w1]
    ·refine pure_run ip64 rfl ?_
     simp -implicitDefEqProofs [I64,hG,zeroVal,n1,m1,hk,hk4,w1]
  ·refine pure_run ip64 rfl ?_
   simp -implicitDefEqProofs [I64,hG,zeroVal,m1,h6,h7,h8]
theorem t_longer(a:Val)(more:List Val)(ha:a.bulk<274877906944)(hm:bulkL more<274877906944)(t1 t2 t f:Bool):pureR IP G 108 [.ag [.i .i64 a.kind,.i .i64 a.n,.s a.s,.fs t1 false a.l.length (encs a.l),.fs t2 false a.names.length (encs a.names)],.fs t f more.length (encs more)]=some (.tu [.ag (Enc.cells (longerV a more).1),.i .i64 (longerV a more).2]):=by
 have hb:=ha
 rw[Val.bulk_eq] at hb
 have hbl:=bulkL_len a.l
 have hml:=bulkL_len more
 refine pure_run ip108 rfl ?_
 simp -implicitDefEqProofs [I108,hG]
 refine step_clone (lo':=4) (by simp) (by omega) (by omega) (by omega) (by simp -implicitDefEqProofs [hG]) ?_
 intro lv H1 hn1 hL hnew1 hf1
 simp -implicitDefEqProofs [hG] at hn1 hf1
 simp -implicitDefEqProofs [hf1]
 refine step_appA hL (by omega) (by omega) (by simp) (by omega) (by omega) (by omega) ?_
 intro v2 H2 hn2 hL2 hf2
 have g1:=hf2 3 (by omega) (fun id0 n0 c0 hv=>by have:=(hold_lt hL _ _ _ hv).1;omega)
 rw[hf1 _ (by omega)] at g1
 simp at g1
 obtain⟨o1,o2⟩:=hold_one hL2
 rw[←encs_append] at hL2
 obtain⟨fl,s1⟩:∃ fl,snapV H2 15 v2=some (.fs fl false (a.l.length+more.length) (encs (a.l++more))):=⟨_,hold_snap (k:=14) hL2 snap_encs⟩
 have m1:=t_amade hG (.mk 4 0 [] (a.l++more) []) (by rw[Val.bulk_eq];simp -implicitDefEqProofs [bulkL_app,bulkS];omega) fl false
 simp at m1 s1
 simp -implicitDefEqProofs [g1,o1,o2,s1,m1,longerV]
theorem t_alist(l:List Val)(hl:bulkL l<274877906944)(t:Bool):pureR IP G 86 [.fs t false l.length (encs l)]=some (.tu [.ag (Enc.cells (listV l).1),.i .i64 (listV l).2.1,.i .i64 (listV l).2.2]):=by
 have m1:=t_may hG l (by omega) t false
 have m2:=t_amade hG (.mk 4 0 [] l []) (by rw[Val.bulk_eq];simp -implicitDefEqProofs [bulkS];omega) t false
 simp at m2
 unfold listV
 cases hm:l.all mayV
 ·rw[hm] at m1
  refine pure_run ip86 rfl ?_
  simp -implicitDefEqProofs [I86,hG,m1,zeroVal]
 ·rw[hm] at m1
  refine pure_run ip86 rfl ?_
  simp -implicitDefEqProofs [I86,hG,m1,m2]
theorem t_anamed(ns:List Str)(hns:bulkS ns<549755813888)(t:Bool):pureR IP G 122 [.fs t false ns.length (encs ns)]=some (.b (recordS ns)):=by
  have hl:=bulkS_len ns
  by_cases h:(ns.length:Int)≤8
  · have c1:=fun t1=>t_check hG (.mk 5 0 [] (List.replicate ns.length zeroVal) ns) (by rw[Val.bulk_eq];simp -implicitDefEqProofs [bulk_rep];omega) t1 t
    simp only[Val.kind_mk,Val.n_mk,Val.s_mk,Val.l_mk,Val.names_mk,List.length_replicate] at c1
    have e:recordS ns=mayV (.mk 5 0 [] (List.replicate ns.length zeroVal) ns):=by unfold recordS;rw[decide_eq_true h];rfl
    rw[e]
    obtain⟨b,hb⟩:∃ b,b=mayV (.mk 5 0 [] (List.replicate ns.length zeroVal) ns):=⟨_,rfl⟩
    rw[←hb] at c1 ⊢
    clear hb e
    have h1:ns.length≤8:=by omega
    have h2:(80:Int)*ns.length≤281474976710656:=by omega
    have h3:(0:Int)≤ns.length:=by omega
    cases hn:ns with
    | nil =>
      subst hn
      have c1:=c1 false
      simp at c1
      refine pure_run ip122 rfl ?_
      cases b<;>simp at c1<;>simp -implicitDefEqProofs [I122,hG,c1,repCells]
    | cons a l =>
      rw[←hn]
      have h0:ns≠[]:=by rw[hn];simp
      have c1:=c1 true
      refine pure_run ip122 rfl ?_
      cases b<;>simp at c1<;>simp -implicitDefEqProofs [I122,hG,h,h1,h2,h0,rep_len,snap_rep,c1]
  · have h2:(80:Int)*ns.length≤281474976710656:=by omega
    refine pure_run ip122 rfl ?_
    simp -implicitDefEqProofs [I122,hG,h,h2,recordS]
theorem t_arec(ns:List Str)(l:List Val)(hns:bulkS ns<549755813888)(hl:bulkL l<274877906944)(t1 t2:Bool):pureR IP G 88 [.fs t1 false ns.length (encs ns),.fs t2 false l.length (encs l)]=some (.tu [.ag (Enc.cells (recV ns l).1),.i .i64 (recV ns l).2.1,.i .i64 (recV ns l).2.2]):=by
 have c1:=t_anamed hG ns (by omega)
 have m1:=t_may hG l (by omega) t2 false
 have m2:=t_amade hG (.mk 5 0 [] l ns) (by rw[Val.bulk_eq];simp;omega) t2 t1
 have hll:=bulkL_len l
 have hnl:=bulkS_len ns
 simp at m2
 unfold recV
 cases hr:recordS ns
 ·rw[hr] at c1
  refine pure_run ip88 rfl ?_
  simp -implicitDefEqProofs [I88,hG,c1,zeroVal]
 ·rw[hr] at c1
  by_cases hlen:l.length=ns.length
  ·cases hm:l.all mayV
   ·rw[hm] at m1
    rw[hlen] at m1
    refine pure_run ip88 rfl ?_
    simp -implicitDefEqProofs [I88,hG,c1,m1,hlen,zeroVal]
   ·rw[hm] at m1
    rw[hlen] at m1 m2
    refine pure_run ip88 rfl ?_
    simp -implicitDefEqProofs [I88,hG,c1,m1,m2,hlen]
  ·have hle:¬(l.length:Int)=ns.length:=by omega
   refine pure_run ip88 rfl ?_
   simp -implicitDefEqProofs [I88,hG,c1,hlen,hle,zeroVal]
end
end Go.Proofs.YtkpgolcjiahdfaaGreatDoor
namespace Go.Proofs.YtkpgolcjiahdfaaGreatDoor
open Go Go.RI
section
variable {G:AHeap} (hG:G.next=2)
include hG
set_option maxHeartbeats 4000000 in
theorem t_binary(op:Int)(a b:Val)(ha:a.bulk<137438953472)(hb:b.bulk<137438953472):pureR IP G 63 [.i .i64 op,.ag [.i .i64 a.kind,.i .i64 a.n,.s a.s,.fs false false a.l.length (encs a.l),.fs false false a.names.length (encs a.names)],.ag [.i .i64 b.kind,.i .i64 b.n,.s b.s,.fs false false b.l.length (encs b.l),.fs false false b.names.length (encs b.names)]] =
  some (.tu [.ag (Enc.cells (binaryV op a b).1),.i .i64 (binaryV op a b).2.1,.i .i64 (binaryV op a b).2.2]):=by
 have hba:=ha
 have hbb:=hb
 rw[Val.bulk_eq] at hba hbb
 have m1:=t_may hG [a,b] (by simp -implicitDefEqProofs [bulkL];omega) true false
 have s1:=t_same hG a b (by omega) false false false false
 simp at m1
 unfold binaryV
 by_cases hlow:op<9
 ·refine pure_run ip63 rfl ?_
  simp -implicitDefEqProofs [I63,hG,hlow,zeroVal]
 by_cases hhigh:19<op
 ·refine pure_run ip63 rfl ?_
  simp -implicitDefEqProofs [I63,hG,hlow,hhigh,zeroVal]
 cases hmay:(mayV a&&mayV b)
 ·have hno:mayV a=false∨mayV b=false:=by cases h1:mayV a<;>cases h2:mayV b<;>simp_all
  rw[if_pos (.inr (.inr hno))]
  rw[hmay] at m1
  refine pure_run ip63 rfl ?_
  simp -implicitDefEqProofs [I63,hG,hlow,hhigh,m1,zeroVal]
 rw[hmay] at m1
 simp only[Bool.and_eq_true] at hmay
 rw[if_neg (by simp -implicitDefEqProofs [hlow,hhigh,hmay.1,hmay.2])]
 have hno:¬(op<9):=hlow
 unfold binV2
 by_cases h14:op=14
 ·subst h14
  obtain⟨w,hw⟩:∃ w,w=sameV a b:=⟨_,rfl⟩
  rw[←hw] at s1 ⊢
  have y2:=t_ayes hG w
  obtain⟨y,hy⟩:∃ y,y=yesV w:=⟨_,rfl⟩
  rw[←hy] at y2 ⊢
  clear hy hw
  simp at y2
  refine pure_run ip63 rfl ?_
  simp -implicitDefEqProofs [I63,hG,m1,s1,y2]
 by_cases h15:op=15
 ·subst h15
  obtain⟨w,hw⟩:∃ w,w=sameV a b:=⟨_,rfl⟩
  rw[←hw] at s1 ⊢
  have y2:=t_ayes hG (!w)
  obtain⟨y,hy⟩:∃ y,y=yesV (!w):=⟨_,rfl⟩
  rw[←hy] at y2 ⊢
  clear hy hw
  simp at y2
  refine pure_run ip63 rfl ?_
  simp -implicitDefEqProofs [I63,hG,m1,s1,y2]
 rw[if_neg h14,if_neg h15]
 by_cases k11:a.kind=1∧b.kind=1
 ·have i1:=t_aints hG op a.n b.n
  rw[if_pos k11]
  simp only[k11.1,k11.2] at m1
  simp at i1
  refine pure_run ip63 rfl ?_
  simp -implicitDefEqProofs [I63,hG,hlow,hhigh,m1,i1,h14,h15,k11]
 by_cases k33:a.kind=3∧b.kind=3
 ·have i1:=t_atexts hG op a.s b.s (by omega)
  rw[if_neg k11,if_pos k33]
  simp only[k33.1,k33.2] at m1
  simp at i1
  refine pure_run ip63 rfl ?_
  simp -implicitDefEqProofs [I63,hG,hlow,hhigh,m1,i1,h14,h15,k33]
 rw[if_neg k11,if_neg k33]
 have d11:(decide (a.kind=1)&&decide (b.kind=1))=false:=by rw[←Bool.decide_and];exact decide_eq_false k11
 have d33:(decide (a.kind=3)&&decide (b.kind=3))=false:=by rw[←Bool.decide_and];exact decide_eq_false k33
 by_cases k18:op=18∧a.kind=4
 ·obtain⟨rfl,k4⟩:=k18
  have l1:=t_longer hG a [b] (by omega) (by simp -implicitDefEqProofs [bulkL];omega) false false true false
  rw[if_pos ⟨rfl,k4⟩]
  simp only[k4] at m1 l1
  simp at l1
  have d1:¬ a.kind=1:=by omega
  have d3:¬ a.kind=3:=by omega
  refine pure_run ip63 rfl ?_
  simp -implicitDefEqProofs [I63,hG,m1,l1,k4]
 rw[if_neg k18]
 by_cases k9:op=9∧a.kind=4∧b.kind=4
 ·obtain⟨rfl,k4,k5⟩:=k9
  have l1:=t_longer hG a b.l (by omega) (by omega) false false false false
  rw[if_pos ⟨rfl,k4,k5⟩]
  simp only[k4,k5] at m1 l1
  simp at l1
  refine pure_run ip63 rfl ?_
  simp -implicitDefEqProofs [I63,hG,m1,l1,k4,k5]
 rw[if_neg k9]
 by_cases k19:op=19∧a.kind=4∧b.kind=1
 ·obtain⟨rfl,k4,k5⟩:=k19
  rw[if_pos ⟨rfl,k4,k5⟩]
  simp only[k4,k5] at m1
  by_cases hi:0≤b.n∧b.n<a.l.length
  ·obtain⟨x,hx⟩:=get_of_lt (l:=a.l) (i:=b.n.toNat) (by omega)
   have o1:=t_aown hG x (by have:=bulkL_mem (List.mem_of_getElem? hx);omega) false false
   have h1:¬ b.n<0:=by omega
   have h2:¬(a.l.length:Int)≤b.n:=by omega
   rw[if_pos hi,hx]
   have hx2:a.l[b.n.toNat]'(by omega)=x:=by rw[List.getElem?_eq_getElem (by omega)] at hx;exact Option.some.inj hx
   simp at o1
   refine pure_run ip63 rfl ?_
   simp -implicitDefEqProofs [I63,hG,m1,o1,k4,k5,h1,h2,hi.1,hi.2,hx,hx2]
  ·rw[if_neg hi]
   by_cases h1:b.n<0
   ·refine pure_run ip63 rfl ?_
    simp -implicitDefEqProofs [I63,hG,m1,k4,k5,h1,zeroVal]
   ·have h2:(a.l.length:Int)≤b.n:=by omega
    refine pure_run ip63 rfl ?_
    simp -implicitDefEqProofs [I63,hG,m1,k4,k5,h1,h2,zeroVal]
 rw[if_neg k19]
 by_cases o18:op=18
 ·subst o18
  have d4:¬ a.kind=4:=fun h=>k18 ⟨rfl,h⟩
  refine pure_run ip63 rfl ?_
  simp -implicitDefEqProofs [I63,hG,m1,d11,d33,d4,zeroVal]
 by_cases o9:op=9
 ·subst o9
  have d44:(decide (a.kind=4)&&decide (b.kind=4))=false:=by rw[←Bool.decide_and];exact decide_eq_false fun h=>k9 ⟨rfl,h.1,h.2⟩
  refine pure_run ip63 rfl ?_
  simp -implicitDefEqProofs [I63,hG,m1,d11,d33,d44,zeroVal]
 by_cases o19:op=19
 ·subst o19
  have d41:(decide (a.kind=4)&&decide (b.kind=1))=false:=by rw[←Bool.decide_and];exact decide_eq_false fun h=>k19 ⟨rfl,h.1,h.2⟩
  refine pure_run ip63 rfl ?_
  simp -implicitDefEqProofs [I63,hG,m1,d11,d33,d41,zeroVal]
 refine pure_run ip63 rfl ?_
 simp -implicitDefEqProofs [I63,hG,hlow,hhigh,m1,h14,h15,o18,o9,o19,d11,d33,zeroVal]
end
end Go.Proofs.YtkpgolcjiahdfaaGreatDoor
namespace Go.Proofs.YtkpgolcjiahdfaaGreatDoor
open Go Go.RI
section
variable {G:AHeap} (hG:G.next=2)
include hG
theorem t_nan1(a:Str):pureR IP G 137 [.s a]=some (.b false):=by
 refine pure_run ip137 rfl ?_
 simp -implicitDefEqProofs [I137,hG]
theorem t_nan2(a:Str):pureR IP G 131 [.s a]=some (.b false):=by
 refine pure_run ip131 rfl ?_
 simp -implicitDefEqProofs [I131,hG]
theorem t_less(a b:Str):pureR IP G 130 [.s a,.s b]=some (.b (ltB a b)):=by
 have c1:=fun a=>t_nan1 hG a
 refine pure_run ip130 rfl ?_
 simp -implicitDefEqProofs [I130,hG,c1]
theorem t_bsearch(ns:List Str)(hr:Rises ns)(hl:ns.length≤1000)(s:Str)(t:Bool):∃(i:Nat) (b:Bool),pureR IP G 123 [.fs t false ns.length (encs ns),.s s]=some (.tu [.i .i64 i,.b b])∧(b=true→ns.findIdx? (·==s)=some i∧i<ns.length)∧(b=false→ns.findIdx? (·==s)=none):=by
  have key:∃ u H,(∃ n,bodyI (exec IP G n) I123 G.next [.fs t false ns.length (encs ns),.s s] G=some (u,H))∧∃(i:Nat) (b:Bool),frzV H G.next 16 u=some (.tu [.i .i64 i,.b b])∧((b=true→ns.findIdx? (·==s)=some i∧i<ns.length)∧(b=false→ns.findIdx? (·==s)=none)):=by
    obtain⟨n,u,H1,hb,hv⟩:=body_wp (fn:=I123) (R:=fun u H=>∃(i:Nat) (b:Bool),frzV H G.next 16 u=some (.tu [.i .i64 i,.b b])∧((b=true→ns.findIdx? (·==s)=some i∧i<ns.length)∧(b=false→ns.findIdx? (·==s)=none))) (theCalls_knows (IP:=IP) (G:=G) G.next) (args:=[.fs t false ns.length (encs ns),.s s]) (H:=G) rfl (by
      rw[ends_fin]
      have c1:=fun a b=>t_less hG a b
      have c2:=fun a=>t_nan2 hG a
      simp -implicitDefEqProofs [I123,hG]
      refine wp_loop_inv (fun k e H=>∃ i j:Nat,i≤j∧j≤ns.length∧k=j-i∧H=G∧(∀ q x,q<i→ns[q]?=some x→ltB x s=true)∧(∀ q x,j≤q→ns[q]?=some x→ltB x s=false)∧e=[(0,.fs t false ns.length (encs ns)),(1,.s s),(6,.i .i64 ns.length),(7,.i .i64 i),(8,.i .i64 j)]) ?_ ns.length _ _ ?_
      · rintro k e H ⟨i,j,hij,hjn,hk,rfl,hlo,hhi,rfl⟩
        by_cases hlt:i<j
        · have h1:(i:Int)<(j:Int):=by omega
          obtain⟨h,hh⟩:∃ h,h=(i+j) / 2:=⟨_,rfl⟩
          have hi2:i≤h∧h<j:=by omega
          have hhn:h<ns.length:=by omega
          obtain⟨x,hx⟩:=get_of_lt (l:=ns) (i:=h) hhn
          have e1:(i:Int)+(j:Int)=((i+j:Nat):Int):=by omega
          have w1:wrapI .i64 ((i+j:Nat):Int)=((i+j:Nat):Int):=wrap_ni (by omega)
          have w2:wrapI .u64 (((i+j:Nat):Int))=((i+j:Nat):Int):=wrap_nu (by omega)
          have w3:=half_nat (i+j)
          have w4:wrapI .i64 (h:Int)=(h:Int):=wrap_ni (by omega)
          have w5:wrapI .i64 ((h:Int)+1)=(h:Int)+1:=wrap_succ (by omega)
          have h2:(h:Int)<(ns.length:Int):=Int.ofNat_lt.2 hhn
          have pair:∀ q y,q<h→ns[q]?=some y→ltB y x=true:=fun q y hq hy=>hr q h y x hq hy hx
          have pair2:∀ q y,h<q→ns[q]?=some y→ltB x y=true:=fun q y hq hy=>hr h q x y hq hx hy
          rw[←hh] at w3
          clear hhn hh
          obtain⟨m,hm⟩:∃ m,m=i+j:=⟨_,rfl⟩
          rw[←hm] at e1 w1 w2 w3
          clear hm
          cases hb:ltB x s
          · simp -implicitDefEqProofs [L123a,h1,e1,w1,w2,w3,w4,h2,hx,c1,hb]
            refine⟨h-i,by omega,i,h,by omega,by omega,by omega,hlo,fun q y hq hy=>?_,rfl,rfl⟩
            rcases Nat.lt_or_ge h q with h3|h3
            · cases hc:ltB y s with
              | false=>rfl
              | true=>have:=ltB_trans _ _ _ (pair2 q y h3 hy) hc;rw[hb] at this;cases this
            · have:q=h:=by omega
              subst this;rw[hx] at hy;cases hy;exact hb
          · simp -implicitDefEqProofs [L123a,h1,e1,w1,w2,w3,w4,w5,h2,hx,c1,hb]
            refine⟨j-(h+1),by omega,h+1,j,by omega,by omega,by omega,fun q y hq hy=>?_,hhi,by simp,rfl⟩
            rcases Nat.lt_or_ge q h with h3|h3
            · exact ltB_trans _ _ _ (pair q y h3 hy) hb
            · have:q=h:=by omega
              subst this;rw[hx] at hy;cases hy;exact hb
        · have h1:¬(i:Int)<(j:Int):=by omega
          have hij2:j=i:=by omega
          subst hij2
          by_cases hjl:j<ns.length
          · obtain⟨x,hx⟩:=get_of_lt (l:=ns) (i:=j) hjl
            have h2:(j:Int)<(ns.length:Int):=by omega
            have fs:=fun e:x=s=>find_some (ns:=ns) (s:=s) (i:=j) (by rw[←e];exact hx) hlo
            have fn:=fun e:x≠s=>find_none (ns:=ns) (s:=s) (i:=j) hr hlo hhi fun y hy=>by rw[hx] at hy;cases hy;exact e
            have hjl2:=hjl
            clear hjl
            by_cases hxs:x=s
            · subst hxs
              have fs:=fs rfl
              clear fn
              simp -implicitDefEqProofs [L123a,h2,hx,c2]
              exact⟨j,rfl,fs,hjl2⟩
            · have fn:=fn hxs
              have hbe:(x==s)=false:=by simpa using hxs
              clear fs
              simp -implicitDefEqProofs [L123a,h2,hx,c2,hbe]
              exact⟨⟨j,rfl⟩,by simpa using fn⟩
          · have h2:¬(j:Int)<(ns.length:Int):=by omega
            have fn:=find_none (ns:=ns) (s:=s) (i:=j) hr hlo hhi fun y hy=>by rw[List.getElem?_eq_none (by omega)] at hy;cases hy
            simp -implicitDefEqProofs [L123a,h2]
            exact⟨⟨j,rfl⟩,by simpa using fn⟩
      · exact⟨0,ns.length,by omega,by omega,by omega,rfl,fun q x h=>by omega,fun q x h hx=>(by rw[List.getElem?_eq_none h] at hx;cases hx),by simp⟩)
    exact⟨u,H1,⟨n,hb⟩,hv⟩
  obtain⟨u,H1,⟨n,hb⟩,i,b,hz,h1,h2⟩:=key
  exact⟨i,b,pureR_some ⟨_,n,u,H1,ip123,hb,hz⟩,h1,h2⟩
theorem t_afield(a:Val)(s:Str)(ha:a.bulk<549755813888)(hs:s.length<549755813887):pureR IP G 90 [.ag [.i .i64 a.kind,.i .i64 a.n,.s a.s,.fs false false a.l.length (encs a.l),.fs false false a.names.length (encs a.names)],.s s]=some (.tu [.ag (Enc.cells (fieldV a s).1),.i .i64 (fieldV a s).2.1,.i .i64 (fieldV a s).2.2]):=by
 have m1:=t_may hG [a] (by simp -implicitDefEqProofs [bulkL];omega) true false
 have c1:=t_anamed hG [s] (by simp -implicitDefEqProofs [bulkS];omega) true
 simp at m1 c1
 unfold fieldV
 cases hm:mayV a
 ·simp -implicitDefEqProofs [hm] at m1
  refine pure_run ip90 rfl ?_
  simp -implicitDefEqProofs [I90,hG,m1,zeroVal]
 simp -implicitDefEqProofs [hm] at m1
 cases hr:recordS [s]
 ·rw[hr] at c1
  refine pure_run ip90 rfl ?_
  simp -implicitDefEqProofs [I90,hG,m1,c1,zeroVal]
 rw[hr] at c1
 rw[if_neg (by simp)]
 by_cases hk:a.kind=5
 ·rw[if_pos hk]
  obtain⟨e1,e2,e3⟩:=may_rec hm hk
  obtain⟨i,b,d1,d2,d3⟩:=t_bsearch hG a.names e3 (by omega) s false
  simp only[hk] at m1
  cases b
  ·rw[d3 rfl]
   refine pure_run ip90 rfl ?_
   simp -implicitDefEqProofs [I90,hG,m1,c1,hk,d1,zeroVal]
  ·obtain⟨d4,d5⟩:=d2 rfl
   rw[d4]
   obtain⟨x,hx⟩:=get_of_lt (l:=a.l) (i:=i) (by omega)
   have o1:=t_aown hG x (by have:=bulkL_mem (List.mem_of_getElem? hx);have:=Val.bulk_eq a;omega) false false
   have h1:(i:Int)<(a.l.length:Int):=by omega
   simp at o1
   simp only[hx]
   clear d5 d2 d3
   refine pure_run ip90 rfl ?_
   simp -implicitDefEqProofs [I90,hG,m1,c1,hk,d1,o1,h1,hx]
 ·rw[if_neg hk]
  refine pure_run ip90 rfl ?_
  simp -implicitDefEqProofs [I90,hG,m1,c1,hk,zeroVal]
end
end Go.Proofs.YtkpgolcjiahdfaaGreatDoor
namespace Go.Proofs.YtkpgolcjiahdfaaGreatDoor
open Go Go.RI
def lensOk(v:Val):Prop:=(v.kind=5→v.l.length=v.names.length)∧(v.kind≠4→v.kind≠5→v.l=[])
mutual
def fineV:Val→Prop
 | .mk k n s l ns=>lensOk (.mk k n s l ns)∧fineL l
def fineL:List Val→Prop
 | []=>True
 | v::l=>fineV v∧fineL l
end
theorem fine_eq(v:Val):fineV v↔lensOk v∧fineL v.l:=by cases v;simp -implicitDefEqProofs [fineV]
theorem fineL_iff:∀ l:List Val,fineL l↔∀ v∈l,fineV v
 | []=>by simp -implicitDefEqProofs [fineL]
 | v::l=>by simp -implicitDefEqProofs [fineL,fineL_iff l]
theorem own_lens{v:Val}(h:ownV v=true):lensOk v:=by
 unfold ownV at h
 unfold lensOk
 split at h
 ·rename_i hk;simp -implicitDefEqProofs [bareV,hk] at h ⊢;exact h.2.1.2
 split at h
 ·rename_i hk;simp -implicitDefEqProofs [bareV,hk] at h ⊢;exact h.1.2
 split at h
 ·rename_i hk;simp -implicitDefEqProofs [bareV,hk] at h ⊢;exact h.2.1.2
 split at h
 ·rename_i hk;simp -implicitDefEqProofs [bareV,hk] at h ⊢;exact h.2.1.2
 split at h
 ·rename_i hk;simp -implicitDefEqProofs [bareV,hk] at h ⊢;exact h.2.1
 split at h
 ·rename_i hk;simp -implicitDefEqProofs [hk]
 split at h
 ·rename_i hk;simp -implicitDefEqProofs [bareV,hk] at h ⊢;omega
 ·cases h
mutual
theorem fits_fine:∀(v:Val) (w left:Int),(fitsV v w left).2=true→fineV v
  | .mk k n s l ns,w,left,h=>by
    simp only[fitsV] at h
    split at h
    · cases h
    · rename_i hc
      have ho:ownV (.mk k n s l ns)=true:=by
        cases ho:ownV (.mk k n s l ns) with
        | true=>rfl
        | false=>exact absurd (.inr (.inr ho)) hc
      exact⟨own_lens ho,fitsL_fine l _ _ h⟩
theorem fitsL_fine:∀(l:List Val) (w left:Int),(fitsL l w left).2=true→fineL l
  | [],_,_,_=>trivial
  | v::l,w,left,h=>by
    simp only[fitsL] at h
    split at h
    · rename_i hv;exact⟨fits_fine v w left hv,fitsL_fine l _ _ h⟩
    · cases h
end
section
variable {G:AHeap} (hG:G.next=2)
include hG
theorem t_has:∀ b,b<1099511627776→∀(v:Val) (s:Shp),v.bulk≤b→fineV v→deepOk s→∀ t1 t2 t3 t4:Bool,pureR IP G 124 [.ag [.i .i64 s.kind,.fs t1 false s.names.length (encs s.names),.fs t2 false s.l.length (encs s.l)],.ag [.i .i64 v.kind,.i .i64 v.n,.s v.s,.fs t3 false v.l.length (encs v.l),.fs t4 false v.names.length (encs v.names)]]=some (.b (hasTV s v)):=by
  intro b
  induction b with
  | zero=>intro _ v s h;have:=v.bulk_pos;omega
  | succ b ih =>
    intro hb v s hv hf hd t1 t2 t3 t4
    rw[Val.bulk_eq] at hv
    have hl1:=bulkL_len v.l
    have hl2:=bulkS_len v.names
    rw[hasTV_eq]
    have c1:=t_equalS hG v.names s.names (by omega) t4 false t1 false
    by_cases hk:v.kind=s.kind
    · by_cases hn:v.names=s.names
      · rw[decide_eq_true hk,decide_eq_true hn]
        rw[decide_eq_true hn] at c1
        simp only[Bool.true_and]
        rw[fine_eq] at hf
        rw[deep_eq] at hd
        have hlen:∀ i:Nat,i<v.l.length→(if s.kind=4 then 0 else i)<s.l.length:=by
          intro i hi
          split
          · rename_i h4;have:=hd.1.1 h4;omega
          · rename_i h4
            by_cases h5:s.kind=5
            · have e1:=hd.1.2 h5
              have e2:=hf.1.1 (hk.trans h5)
              rw[e1,←hn];omega
            · have:=hf.1.2 (by rw[hk];exact h4) (by rw[hk];exact h5)
              rw[this] at hi;simp at hi
        refine pure_run ip124 rfl ?_
        simp -implicitDefEqProofs [I124,hG,hk,c1]
        refine wp_loop_list (l:=v.l) (by omega) (fun i todo e H=>e=[(2,.p 2 0),(21,.fs t3 false v.l.length (encs v.l)),(22,.i .i64 v.l.length),(23,.i .i64 i)]∧H.get 2=some (.cells [.i .i64 s.kind,.fs t1 false s.names.length (encs s.names),.fs t2 false s.l.length (encs s.l)] 1 false)∧3≤H.next∧hasL s v.l 0=hasL s todo i) ?_ ?_ ?_
        · rintro i x todo e H hx hdr hlt hlt2 hlt3 ⟨rfl,hg,hn1,he⟩
          have hxm:=List.mem_of_getElem? hx
          have hfx:=(fineL_iff _).1 hf.2 x hxm
          have hi:=hlen i hlt
          obtain⟨d,hd2⟩:∃ d,H.next=d+3:=⟨H.next-3,by omega⟩
          rw[hasL] at he
          by_cases h4:s.kind=4
          · rw[if_pos h4] at hi he
            obtain⟨y,hy⟩:=get_of_lt (l:=s.l) (i:=0) hi
            have hy0:(0:Int)<(s.l.length:Int):=by omega
            have hyn:0<s.l.length:=hi
            have c2:=ih (by omega) x y (by have:=bulkL_mem hxm;omega) hfx (hd.2 y (List.mem_of_getElem? hy)) false false false false
            rw[hy] at he
            simp only[Option.getD_some] at he
            have hsl:∃ r,encs s.l=Enc.cells y++r:=by
              have:=drop_encs s.l 0
              rw[hy] at this
              simp only[Nat.zero_mul,List.drop_zero,cellsO_some] at this
              exact⟨_,this⟩
            obtain⟨r,hr⟩:=hsl
            simp at hr
            clear hlt hi hlen
            rw[h4] at hg
            cases hv2:hasTV y x
            · rw[hv2] at c2 he
              simp only[Bool.false_and] at he
              simp -implicitDefEqProofs [L124a,hlt2,hlt3,hx,hg,hd2,hyn,c2,hr]
              exact he
            · rw[hv2] at c2 he
              simp only[Bool.true_and] at he
              simp -implicitDefEqProofs [L124a,hlt2,hlt3,hx,hg,hd2,hyn,c2,hr,h4]
              exact he
          · rw[if_neg h4] at hi he
            obtain⟨y,hy⟩:=get_of_lt (l:=s.l) (i:=i) hi
            have hy0:(i:Int)<(s.l.length:Int):=by omega
            have c2:=ih (by omega) x y (by have:=bulkL_mem hxm;omega) hfx (hd.2 y (List.mem_of_getElem? hy)) false false false false
            rw[hy] at he
            simp only[Option.getD_some] at he
            have hsl:(encs s.l).drop (i*3)=Enc.cells y++restE s.l (i+1):=by
              have:=drop_encs s.l i
              rw[hy] at this
              exact this
            simp at hsl
            clear hlt hi hlen
            cases hv2:hasTV y x
            · rw[hv2] at c2 he
              simp only[Bool.false_and] at he
              simp -implicitDefEqProofs [L124a,hlt2,hlt3,hx,hg,hd2,hy0,c2,hsl,h4]
              exact he
            · rw[hv2] at c2 he
              simp only[Bool.true_and] at he
              simp -implicitDefEqProofs [L124a,hlt2,hlt3,hx,hg,hd2,hy0,c2,hsl,h4]
              exact he
        · rintro e H ⟨rfl,hg,hn1,he⟩
          simp -implicitDefEqProofs [L124a,hG]
          rw[he];rfl
        · exact⟨by simp -implicitDefEqProofs [hG],by simp -implicitDefEqProofs [hG],by simp -implicitDefEqProofs [hG],rfl⟩
      · rw[decide_eq_true hk,decide_eq_false hn]
        rw[decide_eq_false hn] at c1
        refine pure_run ip124 rfl ?_
        simp -implicitDefEqProofs [I124,hG,hk,c1]
    · rw[decide_eq_false hk]
      refine pure_run ip124 rfl ?_
      simp -implicitDefEqProofs [I124,hG,hk]
theorem t_is(v:Val)(hv:v.bulk<549755813888)(t:Str)(ht:t.length<1099511627776):pureR IP G 92 [.ag [.i .i64 v.kind,.i .i64 v.n,.s v.s,.fs false false v.l.length (encs v.l),.fs false false v.names.length (encs v.names)],.s t]=some (.b (isTV v t)):=by
 have c1:=t_typed hG t ht
 have c2:=t_check hG v (by omega) false false
 have hd:=typed_deep t
 unfold isTV
 obtain⟨s,hs⟩:∃ s,s=(typedS t).1:=⟨_,rfl⟩
 obtain⟨ok,hok⟩:∃ ok,ok=(typedS t).2:=⟨_,rfl⟩
 rw[←hs,←hok] at c1
 rw[←hs] at hd ⊢
 rw[←hok]
 clear hs hok
 simp at c1
 cases ok
 ·refine pure_run ip92 rfl ?_
  simp -implicitDefEqProofs [I92,hG,c1]
 cases hm:mayV v
 ·rw[hm] at c2
  simp at c2
  refine pure_run ip92 rfl ?_
  simp -implicitDefEqProofs [I92,hG,c1,c2]
 ·rw[hm] at c2
  simp at c2
  have c3:=t_has hG v.bulk (by omega) v s (Nat.le_refl _) (fits_fine v _ _ hm) hd false false false false
  refine pure_run ip92 rfl ?_
  simp -implicitDefEqProofs [I92,hG,c1,c2,c3]
end
end Go.Proofs.YtkpgolcjiahdfaaGreatDoor
namespace Go.Proofs.YtkpgolcjiahdfaaGreatDoor
open Go Go.RI
section
variable {G:AHeap} (hG:G.next=2)
include hG
theorem t_lmade(v:Val)(f e:Int):pureR IP G 62 [.ag [.i .i64 v.kind,.i .i64 v.n,.s v.s,.fs false false v.l.length (encs v.l),.fs false false v.names.length (encs v.names)],.i .i64 f,.i .i64 e]=some (.tu [.ag (Enc.cells v),.b (decide (f=0)&&decide (e=0))]):=by
 by_cases hf:f=0
 ·refine pure_run ip62 rfl ?_
  simp -implicitDefEqProofs [I62,hG,hf]
 ·refine pure_run ip62 rfl ?_
  simp -implicitDefEqProofs [I62,hG,hf]
theorem t_notInt(v:Val):pureR IP G 125 [.ag (Enc.cells v)]=some (.b (!decide (v.kind=1))):=by
 refine pure_run ip125 rfl ?_
 simp -implicitDefEqProofs [I125,hG]
theorem t_lints(op:Int)(a b:Val)(ha:a.bulk<137438953472)(hb:b.bulk<137438953472)(t:Bool):pureR IP G 97 [.i .i64 op,.fs t false 2 (Enc.cells a++Enc.cells b)]=some (.tu [.ag (Enc.cells (intsR op a b).1),.b (intsR op a b).2]):=by
 have c1:=t_anyV hG 125 (fun v=>!decide (v.kind=1)) (fun lo l H=>pu125) [a,b] (by simp) (fun v _=>t_notInt hG v) t false
 have c2:=t_binary hG op a b ha hb
 have c3:=t_lmade hG (binaryV op a b).1 (binaryV op a b).2.1 (binaryV op a b).2.2
 have e:(([a,b]:List Val).any fun v=>!decide (v.kind=1))=!(decide (a.kind=1∧b.kind=1)):=by simp -implicitDefEqProofs [Bool.decide_and]
 rw[e] at c1
 obtain⟨r,hr⟩:∃ r,r=binaryV op a b:=⟨_,rfl⟩
 rw[←hr] at c2 c3
 unfold intsR resR
 rw[←hr]
 clear hr e
 by_cases hk:a.kind=1∧b.kind=1
 ·rw[if_pos hk]
  rw[decide_eq_true hk] at c1
  simp at c1 c2 c3
  refine pure_run ip97 rfl ?_
  simp -implicitDefEqProofs [I97,hG,c1,c2,c3]
 ·rw[if_neg hk]
  rw[decide_eq_false hk] at c1
  simp at c1
  refine pure_run ip97 rfl ?_
  simp -implicitDefEqProofs [I97,hG,c1,zeroVal]
theorem t_mk1(l:List Val)(hl:bulkL l<274877906944)(t:Bool):pureR IP G 85 [.fp [.fs t false l.length (encs l)]]=some (.tu [.ag (Enc.cells (resR (listV l)).1),.b (resR (listV l)).2]):=by
 have c1:=t_alist hG l hl t
 have c2:=t_lmade hG (listV l).1 (listV l).2.1 (listV l).2.2
 unfold resR
 generalize listV l=r at c1 c2 ⊢
 simp at c1 c2
 refine pure_run ip85 rfl ?_
 simp -implicitDefEqProofs [I85,hG,c1,c2]
theorem t_mk2(i:Stp)(hn:bulkS i.names<549755813888)(l:List Val)(hl:bulkL l<274877906944)(t t1 t2:Bool):pureR IP G 87 [.fp [.i .i64 i.op,.i .i64 i.n,.fs t1 false i.l.length (encs i.l),.s i.s,.fs t2 false i.names.length (encs i.names)],.fp [.fs t false l.length (encs l)]]=some (.tu [.ag (Enc.cells (resR (recV i.names l)).1),.b (resR (recV i.names l)).2]):=by
 have c1:=t_arec hG i.names l hn hl t2 t
 have c2:=t_lmade hG (recV i.names l).1 (recV i.names l).2.1 (recV i.names l).2.2
 unfold resR
 generalize recV i.names l=r at c1 c2 ⊢
 simp at c1 c2
 refine pure_run ip87 rfl ?_
 simp -implicitDefEqProofs [I87,hG,c1,c2]
theorem t_mk3(i:Stp)(hs:i.s.length<549755813887)(a:Val)(m:List Val)(hl:a.bulk<274877906944)(t t1 t2:Bool):pureR IP G 89 [.fp [.fs t false (m.length+1) (Enc.cells a++encs m)],.fp [.i .i64 i.op,.i .i64 i.n,.fs t1 false i.l.length (encs i.l),.s i.s,.fs t2 false i.names.length (encs i.names)]]=some (.tu [.ag (Enc.cells (resR (fieldV a i.s)).1),.b (resR (fieldV a i.s)).2]):=by
 have c1:=t_afield hG a i.s (by omega) hs
 have c2:=t_lmade hG (fieldV a i.s).1 (fieldV a i.s).2.1 (fieldV a i.s).2.2
 unfold resR
 generalize fieldV a i.s=r at c1 c2 ⊢
 simp at c1 c2
 refine pure_run ip89 rfl ?_
 simp -implicitDefEqProofs [I89,hG,c1,c2]
theorem t_mk4(i:Stp)(hs:i.s.length<549755813887)(a:Val)(m:List Val)(hl:a.bulk<274877906944)(t t1 t2:Bool):pureR IP G 91 [.fp [.fs t false (m.length+1) (Enc.cells a++encs m)],.fp [.i .i64 i.op,.i .i64 i.n,.fs t1 false i.l.length (encs i.l),.s i.s,.fs t2 false i.names.length (encs i.names)]]=some (.tu [.ag (Enc.cells a),.b (isTV a i.s)]):=by
 have c1:=t_is hG a (by omega) i.s (by omega)
 generalize isTV a i.s=r at c1 ⊢
 refine pure_run ip91 rfl ?_
 simp -implicitDefEqProofs [I91,hG,c1]
theorem t_mk5(i:Stp)(a:Val)(m:List Val)(t t1 t2:Bool):pureR IP G 93 [.fp [.fs t false (m.length+1) (Enc.cells a++encs m)],.fp [.i .i64 i.op,.i .i64 i.n,.fs t1 false i.l.length (encs i.l),.s i.s,.fs t2 false i.names.length (encs i.names)]]=some (.tu [.ag (Enc.cells a),.b (decide (a.kind=i.n))]):=by
 refine pure_run ip93 rfl ?_
 simp -implicitDefEqProofs [I93,hG]
theorem t_mk6(a:Val)(m:List Val)(hl:a.bulk<274877906944)(t:Bool):pureR IP G 94 [.fp [.fs t false (m.length+1) (Enc.cells a++encs m)]]=some (.tu [.ag (Enc.cells (resR (unaryV 6 a)).1),.b (resR (unaryV 6 a)).2]):=by
 have c1:=t_unary hG 6 a (by omega)
 have c2:=t_lmade hG (unaryV 6 a).1 (unaryV 6 a).2.1 (unaryV 6 a).2.2
 unfold resR
 generalize unaryV 6 a=r at c1 c2 ⊢
 simp at c1 c2
 refine pure_run ip94 rfl ?_
 simp -implicitDefEqProofs [I94,hG,c1,c2]
theorem t_mk7(a:Val)(m:List Val)(hl:a.bulk<274877906944)(t:Bool):pureR IP G 95 [.fp [.fs t false (m.length+1) (Enc.cells a++encs m)]]=some (.tu [.ag (Enc.cells (resR (unaryV 7 a)).1),.b (resR (unaryV 7 a)).2]):=by
 have c1:=t_unary hG 7 a (by omega)
 have c2:=t_lmade hG (unaryV 7 a).1 (unaryV 7 a).2.1 (unaryV 7 a).2.2
 unfold resR
 generalize unaryV 7 a=r at c1 c2 ⊢
 simp at c1 c2
 refine pure_run ip95 rfl ?_
 simp -implicitDefEqProofs [I95,hG,c1,c2]
theorem t_mk8(a b:Val)(ha:a.bulk<137438953472)(hb:b.bulk<137438953472)(t:Bool):pureR IP G 96 [.fp [.fs t false 2 (Enc.cells a++Enc.cells b)]]=some (.tu [.ag (Enc.cells (intsR 9 a b).1),.b (intsR 9 a b).2]):=by
 have c1:=t_lints hG 9 a b ha hb t
 generalize intsR 9 a b=r at c1 ⊢
 simp at c1
 refine pure_run ip96 rfl ?_
 simp -implicitDefEqProofs [I96,hG,c1]
theorem t_mk9(a b:Val)(ha:a.bulk<137438953472)(hb:b.bulk<137438953472)(t:Bool):pureR IP G 98 [.fp [.fs t false 2 (Enc.cells a++Enc.cells b)]]=some (.tu [.ag (Enc.cells (intsR 10 a b).1),.b (intsR 10 a b).2]):=by
 have c1:=t_lints hG 10 a b ha hb t
 generalize intsR 10 a b=r at c1 ⊢
 simp at c1
 refine pure_run ip98 rfl ?_
 simp -implicitDefEqProofs [I98,hG,c1]
theorem t_mk10(a b:Val)(ha:a.bulk<137438953472)(hb:b.bulk<137438953472)(t:Bool):pureR IP G 99 [.fp [.fs t false 2 (Enc.cells a++Enc.cells b)]]=some (.tu [.ag (Enc.cells (intsR 11 a b).1),.b (intsR 11 a b).2]):=by
 have c1:=t_lints hG 11 a b ha hb t
 generalize intsR 11 a b=r at c1 ⊢
 simp at c1
 refine pure_run ip99 rfl ?_
 simp -implicitDefEqProofs [I99,hG,c1]
theorem t_mk11(a b:Val)(ha:a.bulk<137438953472)(hb:b.bulk<137438953472)(t:Bool):pureR IP G 100 [.fp [.fs t false 2 (Enc.cells a++Enc.cells b)]]=some (.tu [.ag (Enc.cells (intsR 16 a b).1),.b (intsR 16 a b).2]):=by
 have c1:=t_lints hG 16 a b ha hb t
 generalize intsR 16 a b=r at c1 ⊢
 simp at c1
 refine pure_run ip100 rfl ?_
 simp -implicitDefEqProofs [I100,hG,c1]
theorem t_mk12(a b:Val)(ha:a.bulk<137438953472)(hb:b.bulk<137438953472)(t:Bool):pureR IP G 101 [.fp [.fs t false 2 (Enc.cells a++Enc.cells b)]]=some (.tu [.ag (Enc.cells (intsR 17 a b).1),.b (intsR 17 a b).2]):=by
 have c1:=t_lints hG 17 a b ha hb t
 generalize intsR 17 a b=r at c1 ⊢
 simp at c1
 refine pure_run ip101 rfl ?_
 simp -implicitDefEqProofs [I101,hG,c1]
theorem t_mk13(a:Val)(m:List Val)(n:Int)(ha:a.bulk<137438953472)(t:Bool):pureR IP G 102 [.fp [.fs t false (m.length+1) (Enc.cells a++encs m)],.fp (Enc.cells (numV n))]=some (.tu [.ag (Enc.cells (intsR 9 a (numV n)).1),.b (intsR 9 a (numV n)).2]):=by
 have c1:=t_lints hG 9 a (numV n) ha (by simp) true
 generalize intsR 9 a (numV n)=r at c1 ⊢
 generalize numV n=w at c1 ⊢
 simp at c1
 refine pure_run ip102 rfl ?_
 simp -implicitDefEqProofs [I102,hG,c1]
theorem t_mk14(a:Val)(m:List Val)(n:Int)(ha:a.bulk<137438953472)(t:Bool):pureR IP G 103 [.fp [.fs t false (m.length+1) (Enc.cells a++encs m)],.fp (Enc.cells (numV n))]=some (.tu [.ag (Enc.cells (intsR 16 a (numV n)).1),.b (intsR 16 a (numV n)).2]):=by
 have c1:=t_lints hG 16 a (numV n) ha (by simp) true
 generalize intsR 16 a (numV n)=r at c1 ⊢
 generalize numV n=w at c1 ⊢
 simp at c1
 refine pure_run ip103 rfl ?_
 simp -implicitDefEqProofs [I103,hG,c1]
end
end Go.Proofs.YtkpgolcjiahdfaaGreatDoor
namespace Go.Proofs.YtkpgolcjiahdfaaGreatDoor
open Go Go.RI
def mkEs(d:Nat):List (AVal×AVal) :=
 [(.i .i64 20,.fn (.func 85) [] [.p (d+1) 0]),(.i .i64 21,.fn (.func 87) [] [.p d 0,.p (d+1) 0]),(.i .i64 22,.fn (.func 89) [] [.p (d+1) 0,.p d 0]),(.i .i64 23,.fn (.func 91) [] [.p (d+1) 0,.p d 0]),(.i .i64 40,.fn (.func 93) [] [.p (d+1) 0,.p d 0]),(.i .i64 41,.fn (.func 94) [] [.p (d+1) 0]),(.i .i64 42,.fn (.func 95) [] [.p (d+1) 0]),(.i .i64 43,.fn (.func 96) [] [.p (d+1) 0]),(.i .i64 44,.fn (.func 98) [] [.p (d+1) 0]),(.i .i64 45,.fn (.func 99) [] [.p (d+1) 0]),(.i .i64 46,.fn (.func 100) [] [.p (d+1) 0]),(.i .i64 47,.fn (.func 101) [] [.p (d+1) 0]),(.i .i64 48,.fn (.func 102) [] [.p (d+1) 0,.p (d+2) 0]),(.i .i64 49,.fn (.func 103) [] [.p (d+1) 0,.p (d+2) 0])]
section
variable {G:AHeap} (hG:G.next=2)
include hG
theorem t_makers(i:Stp)(l:List Val)(t t1 t2 f:Bool)(H:AHeap):∃ v H',(∀ lo,theCalls IP G lo 61 [.ag [.i .i64 i.op,.i .i64 i.n,.fs t1 false i.l.length (encs i.l),.s i.s,.fs t2 false i.names.length (encs i.names)],.fs t f l.length (encs l)] H=some (v,H')) ∧
  (v=.m (H.next+3)∧H'.next=H.next+4∧(∀ id,id<H.next→H'.get id=H.get id)∧H'.get H.next=some (.cells [.i .i64 i.op,.i .i64 i.n,.fs t1 false i.l.length (encs i.l),.s i.s,.fs t2 false i.names.length (encs i.names)] 1 false)∧H'.get (H.next+1)=some (.cells [.fs t f l.length (encs l)] 1 false) ∧
   H'.get (H.next+2)=some (.cells [.i .i64 1,.i .i64 i.n,.s [],.ns,.ns] 1 false)∧H'.get (H.next+3)=some (.map (mkEs H.next))):=by
 obtain⟨d,hd⟩:∃ d,d=H.next:=⟨_,rfl⟩
 have a2:d+1+1=d+2:=rfl
 have a3:d+2+1=d+3:=rfl
 have a4:d+3+1=d+4:=rfl
 have k2:d≤d+2:=by omega
 have k3:d≤d+3:=by omega
 rw[←hd]
 refine calls_one_of ip61 rfl rfl ?_
 rw[ends_fin,←hd]
 simp -implicitDefEqProofs [I61,numV,mkEs,←hd,a2,a3,a4,k2,k3]
 intro id hid
 simp -implicitDefEqProofs [←hd,show ¬ id=d by omega,show ¬ id=d+1 by omega,show ¬ id=d+2 by omega,show ¬ id=d+3 by omega]
end
end Go.Proofs.YtkpgolcjiahdfaaGreatDoor
namespace Go.Proofs.YtkpgolcjiahdfaaGreatDoor
open Go Go.RI
section
variable {G:AHeap} (hG:G.next=2)
include hG
theorem t_stepNot(v:Val)(hv:v.bulk<1099511627776):pureR IP G 60 [.ag (Enc.cells v)]=some (.b (!mayV v)):=by
 have c1:=t_mayBe hG v hv false false
 refine pure_run ip60 rfl ?_
 simp -implicitDefEqProofs [I60,hG,c1]
theorem t_stepAny(l:List Val)(hl:bulkL l<68719476736)(t f:Bool):pureR IP G 32 [.fs t f l.length (encs l),.fn (.func 60) [] []]=some (.b (!l.all mayV)):=by
 have c1:=t_anyV hG 60 (fun v=>!mayV v) (fun lo l H=>pu60) l (by have:=bulkL_len l;omega) (fun v hv=>t_stepNot hG v (by have:=bulkL_mem hv;omega)) t f
 have e:(l.any fun v=>!mayV v)=!(l.all mayV):=by simp -implicitDefEqProofs [List.not_all_eq_any_not]
 rw[e] at c1
 exact c1
def NeedsOk(G:AHeap):Prop:=∀(i:Stp),bulkS i.names<549755813888→i.s.length<549755813887→∀ t1 t2:Bool,pureR IP G 51 [.ag [.i .i64 i.op,.i .i64 i.n,.fs t1 false i.l.length (encs i.l),.s i.s,.fs t2 false i.names.length (encs i.names)]]=some (.tu [.i .i64 (needs i).1,.i .i64 (needs i).2.1,.b (needs i).2.2])
def StepOk(G:AHeap)(i:Stp):Prop:=∀(l:List Val),bulkL l<68719476736→∀ t t1 t2 f:Bool,(needs i).2.2=true→(needs i).1≤l.length→(l.length:Int)≤(needs i).2.1→l.all mayV=true →
 pureR IP G 36 [.ag [.i .i64 i.op,.i .i64 i.n,.fs t1 false i.l.length (encs i.l),.s i.s,.fs t2 false i.names.length (encs i.names)],.fs t f l.length (encs l)]=some (.tu [.ag (Enc.cells ((opS i l).getD zeroVal)),.b (opS i l).isSome])
set_option maxHeartbeats 1000000 in
theorem t_stepRefuse(cN:NeedsOk G)(i:Stp)(hi:okStp i)(l:List Val)(hl:bulkL l<68719476736)(t t1 t2 f:Bool)(h:¬((needs i).2.2=true∧(needs i).1≤l.length∧(l.length:Int)≤(needs i).2.1∧l.all mayV=true)) :
  pureR IP G 36 [.ag [.i .i64 i.op,.i .i64 i.n,.fs t1 false i.l.length (encs i.l),.s i.s,.fs t2 false i.names.length (encs i.names)],.fs t f l.length (encs l)]=some (.tu [.ag (Enc.cells zeroVal),.b false]):=by
 obtain⟨hns,hs,hil,hio⟩:=hi
 have c0:=cN i hns hs t1 t2
 have c1:=t_stepAny hG l hl t false
 generalize (needs i).2.2=ok at h c0
 generalize (needs i).2.1=mo at h c0
 generalize (needs i).1=le at h c0
 generalize l.all mayV=al at h c1
 cases ok
 ·refine pure_run ip36 rfl ?_
  simp -implicitDefEqProofs [I36,hG,c0,zeroVal]
 by_cases h1:(l.length:Int)<le
 ·refine pure_run ip36 rfl ?_
  simp -implicitDefEqProofs [I36,hG,c0,h1,zeroVal]
 by_cases h2:mo<(l.length:Int)
 ·refine pure_run ip36 rfl ?_
  simp -implicitDefEqProofs [I36,hG,c0,h1,h2,zeroVal]
 cases al
 ·refine pure_run ip36 rfl ?_
  simp -implicitDefEqProofs [I36,hG,c0,c1,h1,h2,zeroVal]
 ·exact absurd ⟨rfl,by omega,by omega,rfl⟩ h
set_option maxHeartbeats 1000000 in
theorem t_stepMk(cN:NeedsOk G)(K n:Int)(il:List Opn)(s:Str)(ns:List Str)(hi:okStp ⟨K,n,il,s,ns⟩)(l:List Val)(hl:bulkL l<68719476736)(t t1 t2 f:Bool)(q1:(needs ⟨K,n,il,s,ns⟩).2.2=true)(q2:(needs ⟨K,n,il,s,ns⟩).1≤l.length)(q3:(l.length:Int)≤(needs ⟨K,n,il,s,ns⟩).2.1)(q4:l.all mayV=true)
  (j:Nat) (g:FuncId) (caps:List AVal) (hfind:findN K (mkEs 4) 0=some (some (j,.fn (.func g) [] caps))) (r:Val×Bool) (o:Option Val) (hm:Makes r o) (hb:r.1.bulk<1099511627776)
  (hcall:∀ H1:AHeap,H1.get 4=some (.cells [.i .i64 K,.i .i64 n,.fs t1 false il.length (encs il),.s s,.fs t2 false ns.length (encs ns)] 1 false)→H1.get 5=some (.cells [.fs t f l.length (encs l)] 1 false)→H1.get 6=some (.cells [.i .i64 1,.i .i64 n,.s [],.ns,.ns] 1 false) →
   theCalls IP G 2 g caps H1=some (.tu [.ag (Enc.cells r.1),.b r.2],H1)) :
  pureR IP G 36 [.ag [.i .i64 K,.i .i64 n,.fs t1 false il.length (encs il),.s s,.fs t2 false ns.length (encs ns)],.fs t f l.length (encs l)]=some (.tu [.ag (Enc.cells (o.getD zeroVal)),.b o.isSome]):=by
 obtain⟨hns,hs,hil,hio⟩:=hi
 have c0:=cN ⟨K,n,il,s,ns⟩ hns hs t1 t2
 have c1:=t_stepAny hG l hl t false
 rw[q4] at c1
 obtain⟨mv,H1,cm,rfl,hn1,hf1,r0,r1,r2,r3⟩:=t_makers hG ⟨K,n,il,s,ns⟩ l t t1 t2 f ((G.push (.cells [.i .i64 K,.i .i64 n,.fs t1 false il.length (encs il),.s s,.fs t2 false ns.length (encs ns)] 1 false)).push (.cells [.i .i64 0,.i .i64 0,.s [],.ns,.ns] 1 false))
 have g0:=hf1 2 (by simp -implicitDefEqProofs [hG])
 have g1:=hf1 3 (by simp -implicitDefEqProofs [hG])
 have c4:=t_lown hG r.1 hb false false
 have h1:¬(l.length:Int)<(needs ⟨K,n,il,s,ns⟩).1:=by omega
 have h2:¬(needs ⟨K,n,il,s,ns⟩).2.1<(l.length:Int):=by omega
 rw[q1] at c0
 generalize (needs ⟨K,n,il,s,ns⟩).1=le at c0 h1
 generalize (needs ⟨K,n,il,s,ns⟩).2.1=mo at c0 h2
 obtain⟨m1,m2⟩:=hm
 clear hb q1 q2 q3 q4 hl hns hs hil hio hf1
 obtain⟨v,ok⟩:=r
 simp -implicitDefEqProofs [hG] at c0 c1 cm hn1 r0 r1 r2 r3 g0 g1
 have c3:=hcall H1 r0 r1 r2
 simp only at c3
 cases ok
 ·rw[m2 rfl]
  simp at c3
  refine pure_run ip36 rfl ?_
  simp -implicitDefEqProofs [I36,hG,c0,c1,h1,h2,cm,g0,g1,r0,r1,r2,r3,hfind,c3,zeroVal]
 ·rw[m1 rfl]
  simp at c3 c4
  refine pure_run ip36 rfl ?_
  simp -implicitDefEqProofs [I36,hG,c0,c1,h1,h2,cm,g0,g1,r0,r1,r2,r3,hfind,c3,c4]
theorem one_val{l:List Val}{i:Stp}(h:(needs i).1=1)(q:(needs i).1≤l.length):∃ a m,l=a::m:=one_of (by omega)
theorem two_val{l:List Val}{i:Stp}(h:(needs i).1=2)(h2:(needs i).2.1=2)(q2:(needs i).1≤l.length)(q3:(l.length:Int)≤(needs i).2.1):∃ a b,l=[a,b]:=by
 match l,q2,q3 with
 | [],q2,_=>rw[h] at q2;simp at q2
 | [_],q2,_=>rw[h] at q2;simp at q2
 | [a,b],_,_=>exact⟨a,b,rfl⟩
 | _::_::_::_,_,q3=>rw[h2] at q3;simp at q3;omega
theorem t_stepOk20(cN:NeedsOk G)(n:Int)(il:List Opn)(s:Str)(ns:List Str)(hi:okStp ⟨20,n,il,s,ns⟩):StepOk G ⟨20,n,il,s,ns⟩:=by
 intro l hl t t1 t2 f q1 q2 q3 q4
 have hi':=hi
 obtain⟨hns,hs,hil,hio⟩:=hi'
 have eo:opS ⟨20,n,il,s,ns⟩ l=resV (listV l):=by simp -implicitDefEqProofs [opS]
 rw[eo]
 have c3:=t_mk1 hG l (by omega) t
 refine t_stepMk hG cN 20 n il s ns hi l hl t t1 t2 f q1 q2 q3 q4 0 85 [.p 5 0] (by simp -implicitDefEqProofs [mkEs]) (resR (listV l)) _ (makes_res (listV l)) (by have:=list_bulk l;simp only[resR];omega) fun H1 r0 r1 r2=>?_
 simp at r0 r1 r2 c3
 simp -implicitDefEqProofs [r0,r1,r2,c3]
theorem t_stepOk21(cN:NeedsOk G)(n:Int)(il:List Opn)(s:Str)(ns:List Str)(hi:okStp ⟨21,n,il,s,ns⟩):StepOk G ⟨21,n,il,s,ns⟩:=by
 intro l hl t t1 t2 f q1 q2 q3 q4
 have hi':=hi
 obtain⟨hns,hs,hil,hio⟩:=hi'
 have eo:opS ⟨21,n,il,s,ns⟩ l=resV (recV ns l):=by simp -implicitDefEqProofs [opS]
 rw[eo]
 have c3:=t_mk2 hG ⟨21,n,il,s,ns⟩ hns l (by omega) t t1 t2
 refine t_stepMk hG cN 21 n il s ns hi l hl t t1 t2 f q1 q2 q3 q4 1 87 [.p 4 0,.p 5 0] (by simp -implicitDefEqProofs [mkEs]) (resR (recV ns l)) _ (makes_res (recV ns l)) (by have:=rec_bulk ns l;simp only[resR];have:bulkS ns<549755813888:=hns;omega) fun H1 r0 r1 r2=>?_
 simp at r0 r1 r2 c3
 simp -implicitDefEqProofs [r0,r1,r2,c3]
theorem t_stepOk22(cN:NeedsOk G)(n:Int)(il:List Opn)(s:Str)(ns:List Str)(hi:okStp ⟨22,n,il,s,ns⟩):StepOk G ⟨22,n,il,s,ns⟩:=by
 intro l hl t t1 t2 f q1 q2 q3 q4
 have hi':=hi
 obtain⟨hns,hs,hil,hio⟩:=hi'
 obtain⟨a,m,rfl⟩:=one_val hG (i:=⟨22,n,il,s,ns⟩) (by simp -implicitDefEqProofs [needs]) q2
 have hba:a.bulk<68719476736:=by simp only[bulkL] at hl;omega
 have eo:opS ⟨22,n,il,s,ns⟩ (a::m)=resV (fieldV a s):=by simp -implicitDefEqProofs [opS]
 rw[eo]
 have c3:=t_mk3 hG ⟨22,n,il,s,ns⟩ hs a m (by omega) t t1 t2
 refine t_stepMk hG cN 22 n il s ns hi (a::m) hl t t1 t2 f q1 q2 q3 q4 2 89 [.p 5 0,.p 4 0] (by simp -implicitDefEqProofs [mkEs]) (resR (fieldV a s)) _ (makes_res (fieldV a s)) (by have:=field_bulk a s;simp only[resR];omega) fun H1 r0 r1 r2=>?_
 simp at r0 r1 r2 c3
 simp -implicitDefEqProofs [r0,r1,r2,c3]
theorem t_stepOk23(cN:NeedsOk G)(n:Int)(il:List Opn)(s:Str)(ns:List Str)(hi:okStp ⟨23,n,il,s,ns⟩):StepOk G ⟨23,n,il,s,ns⟩:=by
 intro l hl t t1 t2 f q1 q2 q3 q4
 have hi':=hi
 obtain⟨hns,hs,hil,hio⟩:=hi'
 obtain⟨a,m,rfl⟩:=one_val hG (i:=⟨23,n,il,s,ns⟩) (by simp -implicitDefEqProofs [needs]) q2
 have hba:a.bulk<68719476736:=by simp only[bulkL] at hl;omega
 have eo:opS ⟨23,n,il,s,ns⟩ (a::m)=(if isTV a s then some a else none):=by simp -implicitDefEqProofs [opS]
 rw[eo]
 have c3:=t_mk4 hG ⟨23,n,il,s,ns⟩ hs a m (by omega) t t1 t2
 refine t_stepMk hG cN 23 n il s ns hi (a::m) hl t t1 t2 f q1 q2 q3 q4 3 91 [.p 5 0,.p 4 0] (by simp -implicitDefEqProofs [mkEs]) (((a,isTV a s):Val×Bool)) _ ((makes_if a (isTV a s))) (by simp only;omega) fun H1 r0 r1 r2=>?_
 simp at r0 r1 r2 c3
 simp -implicitDefEqProofs [r0,r1,r2,c3]
theorem t_stepOk40(cN:NeedsOk G)(n:Int)(il:List Opn)(s:Str)(ns:List Str)(hi:okStp ⟨40,n,il,s,ns⟩):StepOk G ⟨40,n,il,s,ns⟩:=by
 intro l hl t t1 t2 f q1 q2 q3 q4
 have hi':=hi
 obtain⟨hns,hs,hil,hio⟩:=hi'
 obtain⟨a,m,rfl⟩:=one_val hG (i:=⟨40,n,il,s,ns⟩) (by simp -implicitDefEqProofs [needs]) q2
 have hba:a.bulk<68719476736:=by simp only[bulkL] at hl;omega
 have eo:opS ⟨40,n,il,s,ns⟩ (a::m)=(if decide (a.kind=n)=true then some a else none):=by simp -implicitDefEqProofs [opS]
 rw[eo]
 have c3:=t_mk5 hG ⟨40,n,il,s,ns⟩ a m t t1 t2
 refine t_stepMk hG cN 40 n il s ns hi (a::m) hl t t1 t2 f q1 q2 q3 q4 4 93 [.p 5 0,.p 4 0] (by simp -implicitDefEqProofs [mkEs]) (((a,decide (a.kind=n)):Val×Bool)) _ ((makes_if a (decide (a.kind=n)))) (by simp only;omega) fun H1 r0 r1 r2=>?_
 simp at r0 r1 r2 c3
 simp -implicitDefEqProofs [r0,r1,r2,c3]
theorem t_stepOk41(cN:NeedsOk G)(n:Int)(il:List Opn)(s:Str)(ns:List Str)(hi:okStp ⟨41,n,il,s,ns⟩):StepOk G ⟨41,n,il,s,ns⟩:=by
 intro l hl t t1 t2 f q1 q2 q3 q4
 have hi':=hi
 obtain⟨hns,hs,hil,hio⟩:=hi'
 obtain⟨a,m,rfl⟩:=one_val hG (i:=⟨41,n,il,s,ns⟩) (by simp -implicitDefEqProofs [needs]) q2
 have hba:a.bulk<68719476736:=by simp only[bulkL] at hl;omega
 have eo:opS ⟨41,n,il,s,ns⟩ (a::m)=resV (unaryV 6 a):=by simp -implicitDefEqProofs [opS]
 rw[eo]
 have c3:=t_mk6 hG a m (by omega) t
 refine t_stepMk hG cN 41 n il s ns hi (a::m) hl t t1 t2 f q1 q2 q3 q4 5 94 [.p 5 0] (by simp -implicitDefEqProofs [mkEs]) (resR (unaryV 6 a)) _ (makes_res (unaryV 6 a)) (by have:=unary_bulk 6 a;simp only[resR];omega) fun H1 r0 r1 r2=>?_
 simp at r0 r1 r2 c3
 simp -implicitDefEqProofs [r0,r1,r2,c3]
theorem t_stepOk42(cN:NeedsOk G)(n:Int)(il:List Opn)(s:Str)(ns:List Str)(hi:okStp ⟨42,n,il,s,ns⟩):StepOk G ⟨42,n,il,s,ns⟩:=by
 intro l hl t t1 t2 f q1 q2 q3 q4
 have hi':=hi
 obtain⟨hns,hs,hil,hio⟩:=hi'
 obtain⟨a,m,rfl⟩:=one_val hG (i:=⟨42,n,il,s,ns⟩) (by simp -implicitDefEqProofs [needs]) q2
 have hba:a.bulk<68719476736:=by simp only[bulkL] at hl;omega
 have eo:opS ⟨42,n,il,s,ns⟩ (a::m)=resV (unaryV 7 a):=by simp -implicitDefEqProofs [opS]
 rw[eo]
 have c3:=t_mk7 hG a m (by omega) t
 refine t_stepMk hG cN 42 n il s ns hi (a::m) hl t t1 t2 f q1 q2 q3 q4 6 95 [.p 5 0] (by simp -implicitDefEqProofs [mkEs]) (resR (unaryV 7 a)) _ (makes_res (unaryV 7 a)) (by have:=unary_bulk 7 a;simp only[resR];omega) fun H1 r0 r1 r2=>?_
 simp at r0 r1 r2 c3
 simp -implicitDefEqProofs [r0,r1,r2,c3]
theorem t_stepOk43(cN:NeedsOk G)(n:Int)(il:List Opn)(s:Str)(ns:List Str)(hi:okStp ⟨43,n,il,s,ns⟩):StepOk G ⟨43,n,il,s,ns⟩:=by
 intro l hl t t1 t2 f q1 q2 q3 q4
 have hi':=hi
 obtain⟨hns,hs,hil,hio⟩:=hi'
 obtain⟨a,b,rfl⟩:=two_val hG (i:=⟨43,n,il,s,ns⟩) (by simp -implicitDefEqProofs [needs]) (by simp -implicitDefEqProofs [needs]) q2 q3
 have hba:a.bulk<68719476736:=by simp only[bulkL] at hl;omega
 have hbb:b.bulk<68719476736:=by simp only[bulkL] at hl;omega
 have eo:opS ⟨43,n,il,s,ns⟩ [a,b]=intsS 9 a b:=by simp -implicitDefEqProofs [opS]
 rw[eo]
 have c3:=t_mk8 hG a b (by omega) (by omega) t
 refine t_stepMk hG cN 43 n il s ns hi [a,b] hl t t1 t2 f q1 q2 q3 q4 7 96 [.p 5 0] (by simp -implicitDefEqProofs [mkEs]) (intsR 9 a b) _ (makes_ints 9 a b) (by have:=intsR_bulk 9 a b;omega) fun H1 r0 r1 r2=>?_
 simp at r0 r1 r2 c3
 simp -implicitDefEqProofs [r0,r1,r2,c3]
theorem t_stepOk44(cN:NeedsOk G)(n:Int)(il:List Opn)(s:Str)(ns:List Str)(hi:okStp ⟨44,n,il,s,ns⟩):StepOk G ⟨44,n,il,s,ns⟩:=by
 intro l hl t t1 t2 f q1 q2 q3 q4
 have hi':=hi
 obtain⟨hns,hs,hil,hio⟩:=hi'
 obtain⟨a,b,rfl⟩:=two_val hG (i:=⟨44,n,il,s,ns⟩) (by simp -implicitDefEqProofs [needs]) (by simp -implicitDefEqProofs [needs]) q2 q3
 have hba:a.bulk<68719476736:=by simp only[bulkL] at hl;omega
 have hbb:b.bulk<68719476736:=by simp only[bulkL] at hl;omega
 have eo:opS ⟨44,n,il,s,ns⟩ [a,b]=intsS 10 a b:=by simp -implicitDefEqProofs [opS]
 rw[eo]
 have c3:=t_mk9 hG a b (by omega) (by omega) t
 refine t_stepMk hG cN 44 n il s ns hi [a,b] hl t t1 t2 f q1 q2 q3 q4 8 98 [.p 5 0] (by simp -implicitDefEqProofs [mkEs]) (intsR 10 a b) _ (makes_ints 10 a b) (by have:=intsR_bulk 10 a b;omega) fun H1 r0 r1 r2=>?_
 simp at r0 r1 r2 c3
 simp -implicitDefEqProofs [r0,r1,r2,c3]
theorem t_stepOk45(cN:NeedsOk G)(n:Int)(il:List Opn)(s:Str)(ns:List Str)(hi:okStp ⟨45,n,il,s,ns⟩):StepOk G ⟨45,n,il,s,ns⟩:=by
 intro l hl t t1 t2 f q1 q2 q3 q4
 have hi':=hi
 obtain⟨hns,hs,hil,hio⟩:=hi'
 obtain⟨a,b,rfl⟩:=two_val hG (i:=⟨45,n,il,s,ns⟩) (by simp -implicitDefEqProofs [needs]) (by simp -implicitDefEqProofs [needs]) q2 q3
 have hba:a.bulk<68719476736:=by simp only[bulkL] at hl;omega
 have hbb:b.bulk<68719476736:=by simp only[bulkL] at hl;omega
 have eo:opS ⟨45,n,il,s,ns⟩ [a,b]=intsS 11 a b:=by simp -implicitDefEqProofs [opS]
 rw[eo]
 have c3:=t_mk10 hG a b (by omega) (by omega) t
 refine t_stepMk hG cN 45 n il s ns hi [a,b] hl t t1 t2 f q1 q2 q3 q4 9 99 [.p 5 0] (by simp -implicitDefEqProofs [mkEs]) (intsR 11 a b) _ (makes_ints 11 a b) (by have:=intsR_bulk 11 a b;omega) fun H1 r0 r1 r2=>?_
 simp at r0 r1 r2 c3
 simp -implicitDefEqProofs [r0,r1,r2,c3]
theorem t_stepOk46(cN:NeedsOk G)(n:Int)(il:List Opn)(s:Str)(ns:List Str)(hi:okStp ⟨46,n,il,s,ns⟩):StepOk G ⟨46,n,il,s,ns⟩:=by
 intro l hl t t1 t2 f q1 q2 q3 q4
 have hi':=hi
 obtain⟨hns,hs,hil,hio⟩:=hi'
 obtain⟨a,b,rfl⟩:=two_val hG (i:=⟨46,n,il,s,ns⟩) (by simp -implicitDefEqProofs [needs]) (by simp -implicitDefEqProofs [needs]) q2 q3
 have hba:a.bulk<68719476736:=by simp only[bulkL] at hl;omega
 have hbb:b.bulk<68719476736:=by simp only[bulkL] at hl;omega
 have eo:opS ⟨46,n,il,s,ns⟩ [a,b]=intsS 16 a b:=by simp -implicitDefEqProofs [opS]
 rw[eo]
 have c3:=t_mk11 hG a b (by omega) (by omega) t
 refine t_stepMk hG cN 46 n il s ns hi [a,b] hl t t1 t2 f q1 q2 q3 q4 10 100 [.p 5 0] (by simp -implicitDefEqProofs [mkEs]) (intsR 16 a b) _ (makes_ints 16 a b) (by have:=intsR_bulk 16 a b;omega) fun H1 r0 r1 r2=>?_
 simp at r0 r1 r2 c3
 simp -implicitDefEqProofs [r0,r1,r2,c3]
theorem t_stepOk47(cN:NeedsOk G)(n:Int)(il:List Opn)(s:Str)(ns:List Str)(hi:okStp ⟨47,n,il,s,ns⟩):StepOk G ⟨47,n,il,s,ns⟩:=by
 intro l hl t t1 t2 f q1 q2 q3 q4
 have hi':=hi
 obtain⟨hns,hs,hil,hio⟩:=hi'
 obtain⟨a,b,rfl⟩:=two_val hG (i:=⟨47,n,il,s,ns⟩) (by simp -implicitDefEqProofs [needs]) (by simp -implicitDefEqProofs [needs]) q2 q3
 have hba:a.bulk<68719476736:=by simp only[bulkL] at hl;omega
 have hbb:b.bulk<68719476736:=by simp only[bulkL] at hl;omega
 have eo:opS ⟨47,n,il,s,ns⟩ [a,b]=intsS 17 a b:=by simp -implicitDefEqProofs [opS]
 rw[eo]
 have c3:=t_mk12 hG a b (by omega) (by omega) t
 refine t_stepMk hG cN 47 n il s ns hi [a,b] hl t t1 t2 f q1 q2 q3 q4 11 101 [.p 5 0] (by simp -implicitDefEqProofs [mkEs]) (intsR 17 a b) _ (makes_ints 17 a b) (by have:=intsR_bulk 17 a b;omega) fun H1 r0 r1 r2=>?_
 simp at r0 r1 r2 c3
 simp -implicitDefEqProofs [r0,r1,r2,c3]
theorem t_stepOk48(cN:NeedsOk G)(n:Int)(il:List Opn)(s:Str)(ns:List Str)(hi:okStp ⟨48,n,il,s,ns⟩):StepOk G ⟨48,n,il,s,ns⟩:=by
 intro l hl t t1 t2 f q1 q2 q3 q4
 have hi':=hi
 obtain⟨hns,hs,hil,hio⟩:=hi'
 obtain⟨a,m,rfl⟩:=one_val hG (i:=⟨48,n,il,s,ns⟩) (by simp -implicitDefEqProofs [needs]) q2
 have hba:a.bulk<68719476736:=by simp only[bulkL] at hl;omega
 have eo:opS ⟨48,n,il,s,ns⟩ (a::m)=intsS 9 a (numV n):=by simp -implicitDefEqProofs [opS]
 rw[eo]
 have c3:=t_mk13 hG a m n (by omega) t
 refine t_stepMk hG cN 48 n il s ns hi (a::m) hl t t1 t2 f q1 q2 q3 q4 12 102 [.p 5 0,.p 6 0] (by simp -implicitDefEqProofs [mkEs]) (intsR 9 a (numV n)) _ (makes_ints 9 a (numV n)) (by have:=intsR_bulk 9 a (numV n);simp at this;omega) fun H1 r0 r1 r2=>?_
 generalize intsR 9 a (numV n)=r at c3 ⊢
 simp -implicitDefEqProofs [numV] at c3
 simp at r0 r1 r2
 simp -implicitDefEqProofs [r0,r1,r2,c3]
theorem t_stepOk49(cN:NeedsOk G)(n:Int)(il:List Opn)(s:Str)(ns:List Str)(hi:okStp ⟨49,n,il,s,ns⟩):StepOk G ⟨49,n,il,s,ns⟩:=by
 intro l hl t t1 t2 f q1 q2 q3 q4
 have hi':=hi
 obtain⟨hns,hs,hil,hio⟩:=hi'
 obtain⟨a,m,rfl⟩:=one_val hG (i:=⟨49,n,il,s,ns⟩) (by simp -implicitDefEqProofs [needs]) q2
 have hba:a.bulk<68719476736:=by simp only[bulkL] at hl;omega
 have eo:opS ⟨49,n,il,s,ns⟩ (a::m)=intsS 16 a (numV n):=by simp -implicitDefEqProofs [opS]
 rw[eo]
 have c3:=t_mk14 hG a m n (by omega) t
 refine t_stepMk hG cN 49 n il s ns hi (a::m) hl t t1 t2 f q1 q2 q3 q4 13 103 [.p 5 0,.p 6 0] (by simp -implicitDefEqProofs [mkEs]) (intsR 16 a (numV n)) _ (makes_ints 16 a (numV n)) (by have:=intsR_bulk 16 a (numV n);simp at this;omega) fun H1 r0 r1 r2=>?_
 generalize intsR 16 a (numV n)=r at c3 ⊢
 simp -implicitDefEqProofs [numV] at c3
 simp at r0 r1 r2
 simp -implicitDefEqProofs [r0,r1,r2,c3]
end
end Go.Proofs.YtkpgolcjiahdfaaGreatDoor
namespace Go.Proofs.YtkpgolcjiahdfaaGreatDoor
open Go Go.RI
theorem needs_rest{i:Stp}(h20:i.op≠20)(h21:i.op≠21)(h22:i.op≠22)(h23:i.op≠23)(hlo:i.op<40∨49<i.op)(h:(needs i).2.2=true):((needs i).1=2∧(needs i).2.1=2)∨((needs i).1=1∧(needs i).2.1=1):=by
 unfold needs at h ⊢
 rw[if_neg h20,if_neg h21,if_neg h22,if_neg h23,if_neg (by omega),if_neg (by omega)] at h ⊢
 split
 ·left;simp
 ·rename_i h1
  rw[if_neg h1] at h
  split
  ·right;simp
  ·rename_i h2
   rw[if_neg h2] at h
   simp at h
section
variable {G:AHeap} (hG:G.next=2)
include hG
set_option maxHeartbeats 1000000 in
theorem t_stepOkRest(cN:NeedsOk G)(i:Stp)(hi:okStp i)(h20:i.op≠20)(h21:i.op≠21)(h22:i.op≠22)(h23:i.op≠23)(hlo:i.op<40∨49<i.op):StepOk G i:=by
 intro l hl t t1 t2 f q1 q2 q3 q4
 obtain⟨op,n,il,s,ns⟩:=i
 obtain⟨hns,hs,hil,hio⟩:=hi
 have c0:=cN ⟨op,n,il,s,ns⟩ hns hs t1 t2
 have c1:=t_stepAny hG l hl t false
 rw[q4] at c1
 simp only at h20 h21 h22 h23 hlo
 have k40:¬ op=40:=by omega
 have k41:¬ op=41:=by omega
 have k42:¬ op=42:=by omega
 have k43:¬ op=43:=by omega
 have k44:¬ op=44:=by omega
 have k45:¬ op=45:=by omega
 have k46:¬ op=46:=by omega
 have k47:¬ op=47:=by omega
 have k48:¬ op=48:=by omega
 have k49:¬ op=49:=by omega
 obtain⟨mv,H1,cm,rfl,hn1,hf1,r0,r1,r2,r3⟩:=t_makers hG ⟨op,n,il,s,ns⟩ l t t1 t2 f ((G.push (.cells [.i .i64 op,.i .i64 n,.fs t1 false il.length (encs il),.s s,.fs t2 false ns.length (encs ns)] 1 false)).push (.cells [.i .i64 0,.i .i64 0,.s [],.ns,.ns] 1 false))
 have g0:=hf1 2 (by simp -implicitDefEqProofs [hG])
 have g1:=hf1 3 (by simp -implicitDefEqProofs [hG])
 rw[q1] at c0
 rcases needs_rest (i:=⟨op,n,il,s,ns⟩) h20 h21 h22 h23 hlo q1 with⟨e1,e2⟩|⟨e1,e2⟩
 ·obtain⟨a,b,rfl⟩:∃ a b,l=[a,b]:=by
   match l,q2,q3 with
   | [],q2,_=>rw[e1] at q2;simp at q2
   | [_],q2,_=>rw[e1] at q2;simp at q2
   | [a,b],_,_=>exact⟨a,b,rfl⟩
   | _::_::_::_,_,q3=>rw[e2] at q3;simp at q3;omega
  have hba:a.bulk<68719476736:=by simp only[bulkL] at hl;omega
  have hbb:b.bulk<68719476736:=by simp only[bulkL] at hl;omega
  have eo:opS ⟨op,n,il,s,ns⟩ [a,b]=resV (binaryV op a b):=by simp -implicitDefEqProofs [opS,h20,h21,h22,h23,k40,k41,k42,k43,k44,k45,k46,k47,k48,k49,e1]
  rw[eo]
  have c2:=t_binary hG op a b (by omega) (by omega)
  have c3:=t_lmade hG (binaryV op a b).1 (binaryV op a b).2.1 (binaryV op a b).2.2
  have hb:(binaryV op a b).1.bulk<1099511627776:=by have:=binary_bulk op a b;omega
  have c4:=t_lown hG (binaryV op a b).1 hb false false
  rw[e1,e2] at c0
  generalize binaryV op a b=r at c2 c3 c4 ⊢
  obtain⟨v,fl,e⟩:=r
  clear eo hb q1 q2 q3 q4 hl hns hs hil hio hf1 e1 e2 hba hbb hlo
  simp -implicitDefEqProofs [hG] at c0 c1 cm hn1 r0 r1 r2 r3 g0 g1 c2 c3 c4
  unfold resV
  cases hok:(decide (fl=0)&&decide (e=0))
  ·rw[hok] at c3
   rw[if_neg (by simpa using hok)]
   refine pure_run ip36 rfl ?_
   simp -implicitDefEqProofs [I36,hG,c0,c1,cm,g0,g1,r0,r1,r2,r3,mkEs,c2,c3,h20,h21,h22,h23,k40,k41,k42,k43,k44,k45,k46,k47,k48,k49,zeroVal]
  ·rw[hok] at c3
   rw[if_pos (by simpa using hok)]
   refine pure_run ip36 rfl ?_
   simp -implicitDefEqProofs [I36,hG,c0,c1,cm,g0,g1,r0,r1,r2,r3,mkEs,c2,c3,c4,h20,h21,h22,h23,k40,k41,k42,k43,k44,k45,k46,k47,k48,k49]
 ·obtain⟨a,rfl⟩:∃ a,l=[a]:=by
   match l,q2,q3 with
   | [],q2,_=>rw[e1] at q2;simp at q2
   | [a],_,_=>exact⟨a,rfl⟩
   | _::_::_,_,q3=>rw[e2] at q3;simp at q3;omega
  have hba:a.bulk<68719476736:=by simp only[bulkL] at hl;omega
  have eo:opS ⟨op,n,il,s,ns⟩ [a]=resV (unaryV op a):=by simp -implicitDefEqProofs [opS,h20,h21,h22,h23,k40,k41,k42,k43,k44,k45,k46,k47,k48,k49,e1]
  rw[eo]
  have c2:=t_unary hG op a (by omega)
  have c3:=t_lmade hG (unaryV op a).1 (unaryV op a).2.1 (unaryV op a).2.2
  have hb:(unaryV op a).1.bulk<1099511627776:=by have:=unary_bulk op a;omega
  have c4:=t_lown hG (unaryV op a).1 hb false false
  rw[e1,e2] at c0
  generalize unaryV op a=r at c2 c3 c4 ⊢
  obtain⟨v,fl,e⟩:=r
  clear eo hb q1 q2 q3 q4 hl hns hs hil hio hf1 e1 e2 hba hlo
  simp -implicitDefEqProofs [hG] at c0 c1 cm hn1 r0 r1 r2 r3 g0 g1 c2 c3 c4
  unfold resV
  cases hok:(decide (fl=0)&&decide (e=0))
  ·rw[hok] at c3
   rw[if_neg (by simpa using hok)]
   refine pure_run ip36 rfl ?_
   simp -implicitDefEqProofs [I36,hG,c0,c1,cm,g0,g1,r0,r1,r2,r3,mkEs,c2,c3,h20,h21,h22,h23,k40,k41,k42,k43,k44,k45,k46,k47,k48,k49,zeroVal]
  ·rw[hok] at c3
   rw[if_pos (by simpa using hok)]
   refine pure_run ip36 rfl ?_
   simp -implicitDefEqProofs [I36,hG,c0,c1,cm,g0,g1,r0,r1,r2,r3,mkEs,c2,c3,c4,h20,h21,h22,h23,k40,k41,k42,k43,k44,k45,k46,k47,k48,k49]
theorem t_stepOk(cN:NeedsOk G)(i:Stp)(hi:okStp i):StepOk G i:=by
 by_cases hr:i.op≠20∧i.op≠21∧i.op≠22∧i.op≠23∧(i.op<40∨49<i.op)
 ·exact t_stepOkRest hG cN i hi hr.1 hr.2.1 hr.2.2.1 hr.2.2.2.1 hr.2.2.2.2
 ·obtain⟨op,n,il,s,ns⟩:=i
  simp only at hr
  have:op=20∨op=21∨op=22∨op=23∨op=40∨op=41∨op=42∨op=43∨op=44∨op=45∨op=46∨op=47∨op=48∨op=49:=by omega
  rcases this with rfl|rfl|rfl|rfl|rfl|rfl|rfl|rfl|rfl|rfl|rfl|rfl|rfl|rfl
  ·exact t_stepOk20 hG cN n il s ns hi
  ·exact t_stepOk21 hG cN n il s ns hi
  ·exact t_stepOk22 hG cN n il s ns hi
  ·exact t_stepOk23 hG cN n il s ns hi
  ·exact t_stepOk40 hG cN n il s ns hi
  ·exact t_stepOk41 hG cN n il s ns hi
  ·exact t_stepOk42 hG cN n il s ns hi
  ·exact t_stepOk43 hG cN n il s ns hi
  ·exact t_stepOk44 hG cN n il s ns hi
  ·exact t_stepOk45 hG cN n il s ns hi
  ·exact t_stepOk46 hG cN n il s ns hi
  ·exact t_stepOk47 hG cN n il s ns hi
  ·exact t_stepOk48 hG cN n il s ns hi
  ·exact t_stepOk49 hG cN n il s ns hi
theorem t_liftStep(cN:NeedsOk G)(i:Stp)(hi:okStp i)(l:List Val)(hl:bulkL l<68719476736)(t t1 t2 f:Bool):pureR IP G 36 [.ag [.i .i64 i.op,.i .i64 i.n,.fs t1 false i.l.length (encs i.l),.s i.s,.fs t2 false i.names.length (encs i.names)],.fs t f l.length (encs l)]=some (.tu [.ag (Enc.cells ((stepV i l).getD zeroVal)),.b (stepV i l).isSome]):=by
 unfold stepV
 by_cases h:(needs i).2.2=true∧(needs i).1≤l.length∧(l.length:Int)≤(needs i).2.1∧l.all mayV=true
 ·rw[if_pos h]
  exact t_stepOk hG cN i hi l hl t t1 t2 f h.1 h.2.1 h.2.2.1 h.2.2.2
 ·rw[if_neg h]
  exact t_stepRefuse hG cN i hi l hl t t1 t2 f h
end
end Go.Proofs.YtkpgolcjiahdfaaGreatDoor
namespace Go.Proofs.YtkpgolcjiahdfaaGreatDoor
open Go Go.RI
section
variable {G:AHeap} (hG:G.next=2)
include hG
theorem t_doNot(v:Val)(hv:v.bulk<1099511627776):pureR IP G 33 [.ag (Enc.cells v)]=some (.b (!mayV v)):=by
 have c1:=t_mayBe hG v hv false false
 refine pure_run ip33 rfl ?_
 simp -implicitDefEqProofs [I33,hG,c1]
theorem t_doAny(l:List Val)(hl:bulkL l<1099511627776)(t f:Bool):pureR IP G 32 [.fs t f l.length (encs l),.fn (.func 33) [] []]=some (.b (!l.all mayV)):=by
 have c1:=t_anyV hG 33 (fun v=>!mayV v) (fun lo l H=>pu33) l (by have:=bulkL_len l;omega) (fun v hv=>t_doNot hG v (by have:=bulkL_mem hv;omega)) t f
 have e:(l.any fun v=>!mayV v)=!(l.all mayV):=by simp -implicitDefEqProofs [List.not_all_eq_any_not]
 rw[e] at c1
 exact c1
theorem t_doOf(o:Opn)(homes made:List Val)(h1:o.kind=1→0≤o.n∧o.n<homes.length)(h2:o.kind=2→0≤o.n∧o.n<made.length)(ta tb:Bool) :
  pureR IP G 35 [.ag [.i .i64 o.kind,.i .i64 o.n,.i .i64 o.v.kind,.i .i64 o.v.n,.s o.v.s,.fs false false o.v.l.length (encs o.v.l),.fs false false o.v.names.length (encs o.v.names)],.fp [.fs ta false homes.length (encs homes)],.fp [.fs tb false made.length (encs made)]]=some (.ag (Enc.cells (ofO homes made o))):=by
 by_cases k1:o.kind=1
 ·obtain⟨a1,a2⟩:=h1 k1
  obtain⟨x,hx⟩:=get_of_lt (l:=homes) (i:=o.n.toNat) (by omega)
  have hx2:homes[o.n.toNat]'(by omega)=x:=by rw[List.getElem?_eq_getElem (by omega)] at hx;exact Option.some.inj hx
  have e:ofO homes made o=x:=by simp -implicitDefEqProofs [ofO,k1,hx]
  have hd:=drop_encs homes o.n.toNat
  rw[hx,show Enc.sz Val=5 from rfl] at hd
  rw[e]
  clear e h1 h2
  simp at hd
  refine pure_run ip35 rfl ?_
  simp -implicitDefEqProofs [I35,hG,k1,a1,a2,hd,hx2]
 by_cases k2:o.kind=2
 ·obtain⟨a1,a2⟩:=h2 k2
  obtain⟨x,hx⟩:=get_of_lt (l:=made) (i:=o.n.toNat) (by omega)
  have hx2:made[o.n.toNat]'(by omega)=x:=by rw[List.getElem?_eq_getElem (by omega)] at hx;exact Option.some.inj hx
  have e:ofO homes made o=x:=by simp -implicitDefEqProofs [ofO,k2,hx]
  have hd:=drop_encs made o.n.toNat
  rw[hx,show Enc.sz Val=5 from rfl] at hd
  rw[e]
  clear e h1 h2
  simp at hd
  refine pure_run ip35 rfl ?_
  simp -implicitDefEqProofs [I35,hG,k2,a1,a2,hd,hx2]
 ·have e:ofO homes made o=o.v:=by simp -implicitDefEqProofs [ofO,k1,k2]
  rw[e]
  refine pure_run ip35 rfl ?_
  simp -implicitDefEqProofs [I35,hG,k1,k2]
theorem do_snaps{H:AHeap}{homes made:List Val}{th:Bool}{sv:AVal}(g1:H.get 3=some (.cells [.fs th false homes.length (encs homes)] 1 false))(g2:H.get 4=some (.cells [sv] 1 false))(hA:Acc H 5 sv 5 made.length (encs made)) :
  ∃ tb,(snapV H 16 (.p 3 0)=some (.fp [.fs th false homes.length (encs homes)]))∧snapV H 16 (.p 4 0)=some (.fp [.fs tb false made.length (encs made)]):=by
 have s:=acc_snap (k:=14) hA snap_encs
 refine⟨decide (0<made.length),?_,?_⟩
 ·simp -implicitDefEqProofs [g1]
 ·simp -implicitDefEqProofs [g2,s]
theorem t_do_l(s:Stp)(homes made:List Val)(hlen:s.l.length<1000000)(ho:∀ o∈s.l,(o.kind=1→0≤o.n∧o.n<homes.length)∧(o.kind=2→0≤o.n∧o.n<made.length))(t1 th:Bool)(xn i m:Nat)(ins:AVal)(sv:AVal)(d:Nat)(Q:Post)(H:AHeap)
  (hd:5≤d) (hn:d≤H.next) (g1:H.get 3=some (.cells [.fs th false homes.length (encs homes)] 1 false)) (g2:H.get 4=some (.cells [sv] 1 false)) (hA:Acc H 5 sv 5 made.length (encs made)) (hsv:∀ id n c,sv=.sl id 0 n c→id<d)
  (hQ:∀ lv w H',H.next≤H'.next→(∀ id,id<d→H'.get id=H.get id)→Acc H' d lv 5 s.l.length (encs (s.l.map (ofO homes made)))→Q (.exit 2) [(2,.p 2 0),(4,.ns),(7,.p 4 0),(8,.fn (.func 35) [] [.p 3 0,.p 4 0]),(10,.p xn 0),(11,lv),(35,ins),(36,.i .i64 m),(37,.i .i64 i),(42,.fs t1 false s.l.length (encs s.l)),(43,.i .i64 s.l.length),(44,.i .i64 s.l.length),(45,w)] H') :
  wp (theCalls IP G 2) 2 (.loop L11a) Q [(2,.p 2 0),(4,.ns),(7,.p 4 0),(8,.fn (.func 35) [] [.p 3 0,.p 4 0]),(10,.p xn 0),(11,.ns),(35,ins),(36,.i .i64 m),(37,.i .i64 i),(42,.fs t1 false s.l.length (encs s.l)),(43,.i .i64 s.l.length),(44,.i .i64 0)] H:=by
 refine wp_loop_list (l:=s.l) (by omega) (fun k todo e H'=>∃ lv,e=[(2,.p 2 0),(4,.ns),(7,.p 4 0),(8,.fn (.func 35) [] [.p 3 0,.p 4 0]),(10,.p xn 0),(11,lv),(35,ins),(36,.i .i64 m),(37,.i .i64 i),(42,.fs t1 false s.l.length (encs s.l)),(43,.i .i64 s.l.length),(44,.i .i64 k)]∧H.next≤H'.next∧(∀ id,id<d→H'.get id=H.get id)∧Acc H' d lv 5 k (encs ((s.l.take k).map (ofO homes made)))) ?_ ?_ ?_
 ·rintro k o todo e H' hx hdr hlt hlt2 hlt3 ⟨lv,rfl,hn1,hf,hL⟩
  obtain⟨b1,b2⟩:=ho o (List.mem_of_getElem? hx)
  have k1:=(hf 3 (by omega)).trans g1
  have k2:=(hf 4 (by omega)).trans g2
  have hA1:Acc H' 5 sv 5 made.length (encs made):=acc_keep hA hn1 fun id n c hv=>hf id (hsv id n c hv)
  have n1:¬ 3=H'.next:=by omega
  have n2:¬ 4=H'.next:=by omega
  have n3:2≤H'.next:=by omega
  obtain⟨H1,hH1⟩:∃ H1,H1=(H'.push (.cells [.i .i64 0,.i .i64 0,.i .i64 0,.i .i64 0,.s [],.ns,.ns] 1 false)).put H'.next (some (.cells (Enc.cells o) 1 false)):=⟨_,rfl⟩
  have hk1:∀ id,id<H'.next→H1.get id=H'.get id:=fun id h=>by rw[hH1];simp -implicitDefEqProofs [show ¬ id=H'.next by omega]
  have q1:=(hk1 3 (by omega)).trans k1
  have q2:=(hk1 4 (by omega)).trans k2
  have q3:H1.get H'.next=some (.cells (Enc.cells o) 1 false):=by rw[hH1];simp
  have q4:H1.next=H'.next+1:=by rw[hH1];simp
  obtain⟨tb,s1,s2⟩:=do_snaps hG q1 q2 (acc_keep hA1 (by omega) fun id n c hv=>hk1 id (by have:=hsv id n c hv;omega))
  have c1:=t_doOf hG o homes made b1 b2 th tb
  simp at hH1 q3 s1 s2 c1
  clear hlt
  simp -implicitDefEqProofs [L11a,hlt2,hlt3,hx,n3,←hH1,q3,s1,s2,c1,q4]
  refine step_app (lo':=d) (acc_keep hL (by simp -implicitDefEqProofs [q4];omega) ?_) (m:=1) (ys:=Enc.cells (ofO homes made o)) (by omega) (by simp -implicitDefEqProofs [q4];omega) (more_lit (cs:=Enc.cells (ofO homes made o)) (e:=5) (ro:=false) (by simp -implicitDefEqProofs [q4]) (by simp) (by omega)) (by simp) (by omega) (by omega) (by omega) (by omega) ?_
  ·intro id a b hv
   have:=acc_lt hL id a b hv
   rw[get_push_lt (by omega)]
   exact hk1 id this.2
  intro H2 hn2 hL2 hf2
  simp -implicitDefEqProofs [q4] at hn2 hL2 hf2
  simp -implicitDefEqProofs [hlt3]
  refine⟨by omega,fun id hid=>?_,by simpa[List.take_add_one,hx,q4] using hL2⟩
  rw[hf2 id (by omega) fun id0 n0 c0 hv=>by have:=(acc_lt hL _ _ _ hv).1;omega]
  simp -implicitDefEqProofs [show ¬ id=H'.next+1 by omega,hk1 id (by omega),hf id hid]
 ·rintro e H' ⟨lv,rfl,hn1,hf,hL⟩
  rw[List.take_length] at hL
  simp -implicitDefEqProofs [L11a]
  exact hQ lv _ H' hn1 hf hL
 ·exact⟨.ns,by simp,Nat.le_refl _,fun _ _=>rfl,acc_none⟩
end
end Go.Proofs.YtkpgolcjiahdfaaGreatDoor
namespace Go.Proofs.YtkpgolcjiahdfaaGreatDoor
open Go Go.RI
section
variable {G:AHeap} (hG:G.next=2)
include hG
theorem t_do_steps(cN:NeedsOk G)(x:Pce)(hc:checkP x=true)(hx:okPce x)(homes:List Val)(hh:(homes.length:Int)=x.homes)(hm:homes.all mayV=true)(t1 t2 th:Bool)(Q:Post)(H:AHeap)
    (g0:H.get 2=some (.cells (pceC x t1 t2 false false) 1 false)) (g1:H.get 3=some (.cells [.fs th false homes.length (encs homes)] 1 false)) (g2:H.get 4=some (.cells [.ns] 1 false)) (hn:5≤H.next)
    (hQ1:∀ made,stepsV homes x.ins []=some made→made.length=x.ins.length→(∀ v∈made,v.bulk≤2304)→∀ sv w H',5≤H'.next→H'.get 2=some (.cells (pceC x t1 t2 false false) 1 false)→H'.get 3=some (.cells [.fs th false homes.length (encs homes)] 1 false)→H'.get 4=some (.cells [sv] 1 false)→Acc H' 5 sv 5 made.length (encs made) →
      Q (.exit 0) [(2,.p 2 0),(4,.ns),(7,.p 4 0),(8,.fn (.func 35) [] [.p 3 0,.p 4 0]),(35,.fs t1 false x.ins.length (encs x.ins)),(36,.i .i64 x.ins.length),(37,.i .i64 x.ins.length),(38,w)] H')
    (hQ2:stepsV homes x.ins []=none→∀ H',Q .ret [(4,.ns),(5,.i .i64 0),(6,.b false)] H') :
    wp (theCalls IP G 2) 2 (.loop L11b) Q [(2,.p 2 0),(4,.ns),(7,.p 4 0),(8,.fn (.func 35) [] [.p 3 0,.p 4 0]),(35,.fs t1 false x.ins.length (encs x.ins)),(36,.i .i64 x.ins.length),(37,.i .i64 0)] H:=by
  have hfits:=check_fits hc
  have hins:x.ins.length≤4096:=by have:=(checkP_iff.1 hc).1;unfold numsP at this;omega
  have hhb:∀ v∈homes,v.bulk≤2304:=fun v hv=>all_bulk hm hv
  refine wp_loop_list (l:=x.ins) (by omega) (fun i todo e H'=>∃ made sv,e=[(2,.p 2 0),(4,.ns),(7,.p 4 0),(8,.fn (.func 35) [] [.p 3 0,.p 4 0]),(35,.fs t1 false x.ins.length (encs x.ins)),(36,.i .i64 x.ins.length),(37,.i .i64 i)] ∧
    5≤H'.next∧H'.get 2=some (.cells (pceC x t1 t2 false false) 1 false)∧H'.get 3=some (.cells [.fs th false homes.length (encs homes)] 1 false)∧H'.get 4=some (.cells [sv] 1 false)∧Acc H' 5 sv 5 made.length (encs made)∧made.length=i∧(∀ v∈made,v.bulk≤2304)∧stepsV homes x.ins []=stepsV homes todo made) ?_ ?_ ?_
  · rintro i s todo e H' hs hdr hlt hlt2 hlt3 ⟨made,sv,rfl,n1,k0,k1,k2,hA,hml,hmb,he⟩
    subst hml
    have hfs:=hfits _ s hs
    have hok:=hx.1 s (List.mem_of_getElem? hs)
    have hsl:=fits_most hfs
    have hof:=fits_all hfs
    have hops:∀ o∈s.l,(o.kind=1→0≤o.n∧o.n<homes.length)∧(o.kind=2→0≤o.n∧o.n<made.length):=fun o ho=>⟨fun h=>by have:=opnFits_home (hof o ho) h;omega,fun h=>by have:=opnFits_step (hof o ho) h;omega⟩
    have hlb:bulkL (s.l.map (ofO homes made))≤s.l.length*2304:=by
      have:=bulkL_le (B:=2304) (l:=s.l.map (ofO homes made)) (fun v hv=>by
        obtain⟨o,ho,rfl⟩:=List.mem_map.1 hv
        exact of_bulk (hof o ho) hhb hmb)
      simpa using this
    have hlb2:bulkL (s.l.map (ofO homes made))<68719476736:=by omega
    obtain⟨H1,hH1⟩:∃ H1,H1=(H'.push (.cells [.i .i64 0,.i .i64 0,.ns,.s [],.ns] 1 false)).put H'.next (some (.cells (Enc.cells s) 1 false)):=⟨_,rfl⟩
    have hk1:∀ id,id<H'.next→H1.get id=H'.get id:=fun id h=>by rw[hH1];simp -implicitDefEqProofs [show ¬ id=H'.next by omega]
    have q0:=(hk1 2 (by omega)).trans k0
    have q1:=(hk1 3 (by omega)).trans k1
    have q2:=(hk1 4 (by omega)).trans k2
    have q3:H1.get H'.next=some (.cells (Enc.cells s) 1 false):=by rw[hH1];simp
    have q4:H1.next=H'.next+1:=by rw[hH1];simp
    have hA1:Acc H1 5 sv 5 made.length (encs made):=acc_keep hA (by omega) fun id n c hv=>hk1 id (acc_lt hA _ _ _ hv).2
    have n3:2≤H'.next:=by omega
    have hlt4:=hlt
    clear hlt
    simp at hH1 q3
    simp -implicitDefEqProofs [L11b,hlt2,hlt3,hs,n3,←hH1,q3]
    refine t_do_l hG s homes made (by omega) hops false th H'.next made.length x.ins.length _ sv (H'.next+1) _ H1 (by omega) (by omega) q1 q2 hA1 (fun id n c hv=>by have:=(acc_lt hA _ _ _ hv).2;omega) ?_
    intro lv w H2 hn2 hf2 hL
    have c4:=t_liftStep hG cN s hok (s.l.map (ofO homes made)) hlb2 (decide (0<s.l.length)) false false false
    have sl:=acc_snap (k:=15) hL snap_encs
    have r3:=(hf2 H'.next (by omega)).trans q3
    simp only[List.length_map] at c4
    rw[stepsV] at he
    obtain⟨v,hv⟩:∃ v,v=stepV s (s.l.map (ofO homes made)):=⟨_,rfl⟩
    rw[←hv] at c4 he
    have n4:2≤H2.next:=by omega
    simp at sl c4 r3
    cases v with
    | none =>
      simp at c4
      simp -implicitDefEqProofs [hlt3,r3,sl,c4,n4]
      exact hQ2 he _
    | some v =>
      have hvb:=step_ok hv.symm
      simp at c4
      obtain⟨H3,hH3⟩:∃ H3,H3=(H2.push (.cells [.i .i64 0,.i .i64 0,.s [],.ns,.ns] 1 false)).put H2.next (some (.cells (Enc.cells v) 1 false)):=⟨_,rfl⟩
      have hk3:∀ id,id<H2.next→H3.get id=H2.get id:=fun id h=>by rw[hH3];simp -implicitDefEqProofs [show ¬ id=H2.next by omega]
      have u2:=((hk3 4 (by omega)).trans (hf2 4 (by omega))).trans q2
      have u3:H3.get H2.next=some (.cells (Enc.cells v) 1 false):=by rw[hH3];simp
      have u4:H3.next=H2.next+1:=by rw[hH3];simp
      have hA3:Acc H3 5 sv 5 made.length (encs made):=acc_keep hA1 (by omega) fun id n c hv=>by
        have:=(acc_lt hA _ _ _ hv).2
        exact(hk3 id (by omega)).trans (hf2 id (by omega))
      simp at hH3 u3
      simp -implicitDefEqProofs [hlt3,r3,sl,c4,n4,←hH3,u2,u3,u4,hold_len hA3.hold]
      refine step_app (lo':=5) (acc_keep hA3 (by simp) ?_) (m:=1) (ys:=[.i .i64 0,.i .i64 0,.s [],.ns,.ns]) (by omega) (by simp -implicitDefEqProofs [u4];omega) (more_lit (cs:=[.i .i64 0,.i .i64 0,.s [],.ns,.ns]) (e:=5) (ro:=false) (by simp -implicitDefEqProofs [u4]) (by simp) (by omega)) (by simp) (by omega) (by omega) (by omega) (by omega) ?_
      · intro id a b hw
        have:=acc_lt hA3 id a b hw
        exact get_push_lt this.2
      intro H4 hn4 hA4 hf4
      have r4:=acc_row hA4
      have hn5:H4.next=H2.next+3:=by rw[hn4];simp -implicitDefEqProofs [u4]
      have hid:(H3.push (.cells [.i .i64 0,.i .i64 0,.s [],.ns,.ns] 5 false)).next=H2.next+2:=by simp -implicitDefEqProofs [u4]
      rw[hid] at hA4 r4
      have hk4:∀ id,id<5→H4.get id=H3.get id:=fun id h=>by
        rw[hf4 id (by rw[hid];omega) fun id0 n0 c0 hw=>by have:=(acc_lt hA3 _ _ _ hw).1;omega]
        exact get_push_lt (by omega)
      have v0:=(((hk4 2 (by omega)).trans (hk3 2 (by omega))).trans (hf2 2 (by omega))).trans q0
      have v1:=(((hk4 3 (by omega)).trans (hk3 3 (by omega))).trans (hf2 3 (by omega))).trans q1
      have v2:=(hk4 4 (by omega)).trans u2
      have pc:=put_last made v
      have m1:(made.length:Int)<(made.length:Int)+1:=by omega
      have m2:made.length*5+5≤(made.length+1)*5:=by omega
      have m3:2≤H2.next+2:=by omega
      have m4:¬ H2.next+2=4:=by omega
      have m5:¬ 4=H2.next+2:=by omega
      have m6:¬ 3=H2.next+2:=by omega
      have m7:¬ 2=H2.next+2:=by omega
      simp at pc
      have hid2:H3.next+1=H2.next+2:=by omega
      simp -implicitDefEqProofs [hid2,r4,v0,v1,v2,hlt3,pc,m1,m2,m3,m4,m5,m6,m7]
      refine⟨by omega,by omega,made++[v],.inr ⟨H2.next+2,by simp,by omega,by simp;omega,by simp -implicitDefEqProofs [m4,m5],by simp;omega⟩,by simp,fun w hw=>?_,by simpa using he⟩
      rcases List.mem_append.1 hw with h|h
      · exact hmb w h
      · simp at h;subst h;exact hvb
  · rintro e H' ⟨made,sv,rfl,n1,k0,k1,k2,hA,hml,hmb,he⟩
    simp -implicitDefEqProofs [L11b]
    exact hQ1 made he hml hmb sv _ H' n1 k0 k1 k2 hA
  · exact⟨[],.ns,by simp,hn,g0,g1,g2,acc_none,rfl,fun v hv=>(by cases hv),rfl⟩
theorem t_do_sets(x:Pce)(hc:checkP x=true)(homes made:List Val)(hh:(homes.length:Int)=x.homes)(hml:made.length=x.ins.length)(hhb:∀ v∈homes,v.bulk≤2304)(hmb:∀ v∈made,v.bulk≤2304)(t2 th:Bool)(to:Int)(sv:AVal)(d:Nat)(Q:Post)(H:AHeap)
  (hd:5≤d) (hn:d≤H.next) (g1:H.get 3=some (.cells [.fs th false homes.length (encs homes)] 1 false)) (g2:H.get 4=some (.cells [sv] 1 false)) (hA:Acc H 5 sv 5 made.length (encs made)) (hsv:∀ id n c,sv=.sl id 0 n c→id<d)
  (hQ:∀ lv w H',Acc H' d lv 5 x.sets.length (encs (x.sets.map (ofO homes made)))→Q (.exit 4) [(4,lv),(5,.i .i64 to),(8,.fn (.func 35) [] [.p 3 0,.p 4 0]),(91,.fs t2 false x.sets.length (encs x.sets)),(92,.i .i64 x.sets.length),(93,.i .i64 x.sets.length),(94,w)] H') :
  wp (theCalls IP G 2) 2 (.loop L11c) Q [(4,.ns),(5,.i .i64 to),(8,.fn (.func 35) [] [.p 3 0,.p 4 0]),(91,.fs t2 false x.sets.length (encs x.sets)),(92,.i .i64 x.sets.length),(93,.i .i64 0)] H:=by
 have hcp:=checkP_iff.1 hc
 have hset:x.sets.length≤64:=by have:=hcp.1;unfold numsP at this;omega
 have hof:=List.all_eq_true.1 hcp.2.2.2
 refine wp_loop_list (l:=x.sets) (by omega) (fun k todo e H'=>∃ lv,e=[(4,lv),(5,.i .i64 to),(8,.fn (.func 35) [] [.p 3 0,.p 4 0]),(91,.fs t2 false x.sets.length (encs x.sets)),(92,.i .i64 x.sets.length),(93,.i .i64 k)]∧H.next≤H'.next∧(∀ id,id<d→H'.get id=H.get id)∧Acc H' d lv 5 k (encs ((x.sets.take k).map (ofO homes made)))) ?_ ?_ ?_
 ·rintro k o todo e H' hx hdr hlt hlt2 hlt3 ⟨lv,rfl,hn1,hf,hL⟩
  have hoo:=hof o (List.mem_of_getElem? hx)
  have b1:o.kind=1→0≤o.n∧o.n<homes.length:=fun h=>by have:=opnFits_home hoo h;omega
  have b2:o.kind=2→0≤o.n∧o.n<made.length:=fun h=>by have:=opnFits_step hoo h;omega
  have hvb:=of_bulk (homes:=homes) (made:=made) hoo hhb hmb
  have k1:=(hf 3 (by omega)).trans g1
  have k2:=(hf 4 (by omega)).trans g2
  have hA1:Acc H' 5 sv 5 made.length (encs made):=acc_keep hA hn1 fun id n c hv=>hf id (hsv id n c hv)
  have n3:2≤H'.next:=by omega
  obtain⟨H1,hH1⟩:∃ H1,H1=(H'.push (.cells [.i .i64 0,.i .i64 0,.i .i64 0,.i .i64 0,.s [],.ns,.ns] 1 false)).put H'.next (some (.cells (Enc.cells o) 1 false)):=⟨_,rfl⟩
  have hk1:∀ id,id<H'.next→H1.get id=H'.get id:=fun id h=>by rw[hH1];simp -implicitDefEqProofs [show ¬ id=H'.next by omega]
  have q1:=(hk1 3 (by omega)).trans k1
  have q2:=(hk1 4 (by omega)).trans k2
  have q3:H1.get H'.next=some (.cells (Enc.cells o) 1 false):=by rw[hH1];simp
  have q4:H1.next=H'.next+1:=by rw[hH1];simp
  obtain⟨tb,s1,s2⟩:=do_snaps hG q1 q2 (acc_keep hA1 (by omega) fun id n c hv=>hk1 id (by have:=hsv id n c hv;omega))
  have c1:=t_doOf hG o homes made b1 b2 th tb
  have c2:=t_lown hG (ofO homes made o) (by omega) false false
  simp at hH1 q3 s1 s2 c1 c2
  clear hlt
  simp -implicitDefEqProofs [L11c,hlt2,hlt3,hx,n3,←hH1,q3,s1,s2,c1,c2,q4]
  refine step_app (lo':=d) (acc_keep hL (by simp -implicitDefEqProofs [q4];omega) ?_) (m:=1) (ys:=Enc.cells (ofO homes made o)) (by omega) (by simp -implicitDefEqProofs [q4];omega) (more_lit (cs:=Enc.cells (ofO homes made o)) (e:=5) (ro:=false) (by simp -implicitDefEqProofs [q4]) (by simp) (by omega)) (by simp) (by omega) (by omega) (by omega) (by omega) ?_
  ·intro id a b hv
   have:=acc_lt hL id a b hv
   rw[get_push_lt (by omega)]
   exact hk1 id this.2
  intro H2 hn2 hL2 hf2
  simp -implicitDefEqProofs [q4] at hn2 hL2 hf2
  simp -implicitDefEqProofs [hlt3]
  refine⟨by omega,fun id hid=>?_,by simpa[List.take_add_one,hx,q4] using hL2⟩
  rw[hf2 id (by omega) fun id0 n0 c0 hv=>by have:=(acc_lt hL _ _ _ hv).1;omega]
  simp -implicitDefEqProofs [show ¬ id=H'.next+1 by omega,hk1 id (by omega),hf id hid]
 ·rintro e H' ⟨lv,rfl,hn1,hf,hL⟩
  rw[List.take_length] at hL
  simp -implicitDefEqProofs [L11c]
  exact hQ lv _ H' hL
 ·exact⟨.ns,by simp,Nat.le_refl _,fun _ _=>rfl,acc_none⟩
end
end Go.Proofs.YtkpgolcjiahdfaaGreatDoor
namespace Go.Proofs.YtkpgolcjiahdfaaGreatDoor
open Go Go.RI
def doR(x:Pce)(homes:List Val):List Val×Int×Bool:=match doP x homes with
 | some (l,to)=>(l,to,true)
 | none=>([],0,false)
section
variable {G:AHeap} (hG:G.next=2)
include hG
set_option maxHeartbeats 1000000 in
theorem t_do(c17:CheckOk G)(cN:NeedsOk G)(x:Pce)(hx:okPce x)(homes:List Val)(hb:bulkL homes<1099511627776)(t1 t2 th:Bool):pureR IP G 11 [.ag (pceC x t1 t2 false false),.fs th false homes.length (encs homes)] =
    some (.tu [.fs false false (doR x homes).1.length (encs (doR x homes).1),.i .i64 (doR x homes).2.1,.b (doR x homes).2.2]):=by
  have c1:=c17 x hx t1 t2 false false
  have c2:=t_doAny hG homes hb th false
  unfold doR doP
  cases hc:checkP x
  · rw[hc] at c1
    simp -implicitDefEqProofs [pceC] at c1
    rw[if_neg (by simp)]
    refine pure_run ip11 rfl ?_
    simp -implicitDefEqProofs [I11,hG,c1,pceC]
  rw[hc] at c1
  by_cases hh:(homes.length:Int)=x.homes
  · cases hm:homes.all mayV
    · rw[hm] at c2
      rw[if_neg (by simp)]
      simp -implicitDefEqProofs [pceC] at c1
      refine pure_run ip11 rfl ?_
      simp -implicitDefEqProofs [I11,hG,c1,c2,hh,pceC]
    · rw[hm] at c2
      rw[if_pos ⟨rfl,hh,rfl⟩]
      have hhb:∀ v∈homes,v.bulk≤2304:=fun v hv=>all_bulk hm hv
      simp -implicitDefEqProofs [pceC] at c1
      refine pure_run ip11 rfl ?_
      simp -implicitDefEqProofs [I11,hG,c1,c2,hh,pceC]
      refine t_do_steps hG cN x hc hx homes hh hm t1 t2 th _ _ (by simp -implicitDefEqProofs [hG,pceC]) (by simp -implicitDefEqProofs [hG]) (by simp -implicitDefEqProofs [hG]) (by simp -implicitDefEqProofs [hG]) ?_ ?_
      · intro made hs hml hmb sv w H' hn g0 g1 g2 hA
        simp only[hs]
        have gg0:=g0
        simp only[pceC] at g0
        have fin:∀(lv:AVal) (d:Nat) (H2:AHeap),5≤d→Acc H2 d lv 5 x.sets.length (encs (x.sets.map (ofO homes made)))→frzV H2 2 15 lv=some (.fs false false x.sets.length (encs (x.sets.map (ofO homes made)))):=fun lv d H2 h1 h2=>hold_frz (k:=14) (hold_mono h2.hold (by omega)) frz_encs
        by_cases he:x.exit=2
        · have hcf:opnFits x.homes x.ins.length x.cond=true:=by
            have:=(checkP_iff.1 hc).2.2.1
            unfold condP at this
            rw[if_pos he] at this
            exact this
          have b1:x.cond.kind=1→0≤x.cond.n∧x.cond.n<homes.length:=fun h=>by have:=opnFits_home hcf h;omega
          have b2:x.cond.kind=2→0≤x.cond.n∧x.cond.n<made.length:=fun h=>by have:=opnFits_step hcf h;omega
          obtain⟨tb,s1,s2⟩:=do_snaps hG g1 g2 hA
          have c3:=t_doOf hG x.cond homes made b1 b2 th tb
          unfold toP
          rw[if_pos he]
          obtain⟨v,hv⟩:∃ v,v=ofO homes made x.cond:=⟨_,rfl⟩
          rw[←hv] at c3 ⊢
          simp at s1 s2 c3
          have n1:2≤H'.next:=by omega
          have n2:¬ 2=H'.next:=by omega
          by_cases hk:v.kind=2
          · rw[if_pos hk]
            by_cases hv1:v.n=1
            · rw[if_pos hv1]
              simp -implicitDefEqProofs [g0,he,s1,s2,c3,hk,hv1,n1,n2]
              refine t_do_sets hG x hc homes made hh hml hhb hmb t2 th _ sv (H'.next+1) _ _ (by omega) (by simp) (by simp -implicitDefEqProofs [show ¬ 3=H'.next by omega,g1]) (by simp -implicitDefEqProofs [show ¬ 4=H'.next by omega,g2]) (acc_keep hA (by simp) fun id n c hv=>by have:=(acc_lt hA _ _ _ hv).2;simp -implicitDefEqProofs [show ¬ id=H'.next by omega]) (fun id n c hv=>by have:=(acc_lt hA _ _ _ hv).2;omega) ?_
              intro lv w H2 hL
              have:=fin lv _ H2 (by omega) hL
              simp -implicitDefEqProofs [this]
            · rw[if_neg hv1]
              simp -implicitDefEqProofs [g0,he,s1,s2,c3,hk,hv1,n1,n2]
              refine t_do_sets hG x hc homes made hh hml hhb hmb t2 th _ sv (H'.next+1) _ _ (by omega) (by simp) (by simp -implicitDefEqProofs [show ¬ 3=H'.next by omega,g1]) (by simp -implicitDefEqProofs [show ¬ 4=H'.next by omega,g2]) (acc_keep hA (by simp) fun id n c hv=>by have:=(acc_lt hA _ _ _ hv).2;simp -implicitDefEqProofs [show ¬ id=H'.next by omega]) (fun id n c hv=>by have:=(acc_lt hA _ _ _ hv).2;omega) ?_
              intro lv w H2 hL
              have:=fin lv _ H2 (by omega) hL
              simp -implicitDefEqProofs [this]
          · rw[if_neg hk]
            simp -implicitDefEqProofs [g0,he,s1,s2,c3,hk,n1,n2]
        · unfold toP
          rw[if_neg he]
          simp -implicitDefEqProofs [g0,he]
          refine t_do_sets hG x hc homes made hh hml hhb hmb t2 th _ sv H'.next _ _ hn (Nat.le_refl _) g1 g2 hA (fun id n c hv=>(acc_lt hA _ _ _ hv).2) ?_
          intro lv w H2 hL
          have:=fin lv _ H2 hn hL
          simp -implicitDefEqProofs [this]
      · intro hs H'
        simp -implicitDefEqProofs [hs]
  · rw[if_neg (fun h=>hh h.2.1)]
    simp -implicitDefEqProofs [pceC] at c1
    refine pure_run ip11 rfl ?_
    simp -implicitDefEqProofs [I11,hG,c1,hh,pceC]
end
end Go.Proofs.YtkpgolcjiahdfaaGreatDoor
namespace Go.Proofs.YtkpgolcjiahdfaaGreatDoor
open Go Go.RI
section
variable {G:AHeap} (hG:G.next=2)
include hG
theorem t_copyTexts(ns:List Str)(hn:ns.length<1099511627776)(t f:Bool):pureR IP G 73 [.fs t f ns.length (encs ns)]=some (.fs false false ns.length (encs ns)):=by
 refine pure_run ip73 rfl ?_
 simp -implicitDefEqProofs [I73,hG]
 refine step_app0 (lo':=2) (by simp) (by omega) (by omega) (by omega) (by omega) ?_
 intro v H1 hn1 hA hf1
 simp -implicitDefEqProofs [hG]
 exact hold_frz (k:=15) hA.hold frz_encs
theorem t_copyV1:∀ b,b<1099511627776→∀ v:Val,v.bulk≤b→∀ t1 t2:Bool,pureR IP G 50 [.ag [.i .i64 v.kind,.i .i64 v.n,.s v.s,.fs t1 false v.l.length (encs v.l),.fs t2 false v.names.length (encs v.names)]]=some (.ag (Enc.cells v)):=by
  intro b
  induction b with
  | zero=>intro _ v h;have:=v.bulk_pos;omega
  | succ b ih =>
    intro hb v hv t1 t2
    rw[Val.bulk_eq] at hv
    have hl1:=bulkL_len v.l
    have hl2:=bulkS_len v.names
    have c1:=t_copyTexts hG v.names (by omega)
    refine pure_run ip50 rfl ?_
    simp -implicitDefEqProofs [I50,hG,c1]
    refine wp_loop_list (l:=v.l) (by omega) (fun i todo e H=>∃ lv,e=[(1,.p 2 0),(2,.p 3 0),(3,.p 4 0),(4,.i .i64 i)]∧H.get 2=some (.cells [.i .i64 v.kind,.i .i64 v.n,.s v.s,.fs t1 false v.l.length (encs v.l),.fs t2 false v.names.length (encs v.names)] 1 false) ∧
      H.get 3=some (.cells [.i .i64 0,.i .i64 0,.s [],.ns,.ns] 1 false)∧H.get 4=some (.cells [.i .i64 v.kind,.i .i64 v.n,.s v.s,lv,.fs false false v.names.length (encs v.names)] 1 false)∧4<H.next∧Acc H 5 lv 5 i (encs (v.l.take i))) ?_ ?_ ?_
    · rintro i x todo e H hx hd hlt hlt2 hlt3 ⟨lv,rfl,g1,g2,g3,hn,hA⟩
      have c2:=ih (by omega) x (by have:=bulkL_mem (List.mem_of_getElem? hx);omega) false false
      simp at c2
      obtain⟨d,hd2⟩:∃ d,H.next=d+5:=⟨H.next-5,by omega⟩
      clear hlt
      simp -implicitDefEqProofs [L50a,hlt2,hlt3,hx,g1,g2,g3,c2,hd2]
      refine step_app (acc_keep hA (by simp) ?_) (lo':=5) (m:=1) (ys:=Enc.cells x) (by omega) (by simp<;>omega) (more_lit (cs:=Enc.cells x) (e:=5) (ro:=false) (by simp -implicitDefEqProofs [hd2]) (by simp) (by omega)) (by simp) (by omega) (by omega) (by omega) (by omega) ?_
      · intro id a b hv
        have:=acc_lt hA id a b hv
        simp (disch:=(simp -implicitDefEqProofs [hd2];omega)) only[get_push_lt]
      intro H1 hn1 hA1 hf1
      have f1:∀ id,id<5→H1.get id=H.get id:=fun id h=>by
        rw[hf1 id (by simp;omega) (fun id2 a b hv=>by have:=acc_lt hA id2 a b hv;omega)]
        exact get_push_lt (by omega)
      simp -implicitDefEqProofs [hd2] at hn1 hA1
      clear hf1
      have e1:=(f1 2 (by omega)).trans g1
      have e2:=(f1 3 (by omega)).trans g2
      have e3:=(f1 4 (by omega)).trans g3
      simp -implicitDefEqProofs [hd2,hlt3,e1,e2,e3]
      refine⟨by omega,acc_keep (by simpa[List.take_add_one,hx] using hA1) (by simp) fun id a b h=>?_⟩
      cases h
      simp
    · rintro e H ⟨lv,rfl,g1,g2,g3,hn,hA⟩
      simp -implicitDefEqProofs [L50a,g1]
      simp -implicitDefEqProofs [hG,g1,g2,g3]
      rw[List.take_length] at hA
      have f1:=fun o=>hold_frz (k:=14) (hold_in hA.hold (H':=H.put 3 o) (lo':=2) (by omega) (by simp) fun id h1 h2=>by simp -implicitDefEqProofs [show ¬ id=3 by omega]) frz_encs
      simp -implicitDefEqProofs [f1]
    · exact⟨.ns,rfl,by simp -implicitDefEqProofs [hG],by simp -implicitDefEqProofs [hG],by simp -implicitDefEqProofs [hG],by simp -implicitDefEqProofs [hG],acc_none⟩
theorem t_copyV(v:Val)(hv:v.bulk<1099511627776)(t1 t2:Bool):pureR IP G 50 [.ag [.i .i64 v.kind,.i .i64 v.n,.s v.s,.fs t1 false v.l.length (encs v.l),.fs t2 false v.names.length (encs v.names)]]=some (.ag (Enc.cells v)) :=
 t_copyV1 hG v.bulk hv v (Nat.le_refl _) t1 t2
end
end Go.Proofs.YtkpgolcjiahdfaaGreatDoor
namespace Go.Proofs.YtkpgolcjiahdfaaGreatDoor
open Go Go.RI
section
variable {G:AHeap} (hG:G.next=2)
include hG
theorem t_copied(l:List Opn)(hl:l.length<1099511627776)(ho:∀ o∈l,okO o)(t f:Bool):pureR IP G 49 [.fs t f l.length (encs l)]=some (.fs false false l.length (encs l)):=by
  refine pure_run ip49 rfl ?_
  simp -implicitDefEqProofs [I49,hG]
  refine wp_loop_list (l:=l) (by omega) (fun i todo e H=>∃ lv,e=[(0,.fs t f l.length (encs l)),(3,lv),(4,.i .i64 i)]∧2≤H.next∧Acc H 2 lv 7 i (encs (l.take i))) ?_ ?_ ?_
  ·rintro i x todo e H hx hd hlt hlt2 hlt3 ⟨lv,rfl,hn,hA⟩
   have c2:=t_copyV hG x.v (ho x (List.mem_of_getElem? hx)) false false
   simp at c2
   obtain⟨d,hd2⟩:∃ d,H.next=d+2:=⟨H.next-2,by omega⟩
   clear hlt
   simp -implicitDefEqProofs [L49a,hlt2,hlt3,hx,hd2,c2]
   refine step_app (acc_keep hA (by simp) ?_) (lo':=2) (m:=1) (ys:=Enc.cells x) (by omega) (by simp<;>omega) (more_lit (cs:=Enc.cells x) (e:=7) (ro:=false) (by simp -implicitDefEqProofs [hd2]) (by simp) (by omega)) (by simp) (by omega) (by omega) (by omega) (by omega) ?_
   ·intro id a b hv
    have:=acc_lt hA id a b hv
    simp (disch:=(simp -implicitDefEqProofs [hd2];omega)) only[get_push_lt]
   intro H1 hn1 hA1 hf1
   simp -implicitDefEqProofs [hd2] at hn1 hA1
   clear hf1
   simp -implicitDefEqProofs [hd2,hlt3]
   exact⟨by omega,by simpa[List.take_add_one,hx] using hA1⟩
  ·rintro e H ⟨lv,rfl,hn,hA⟩
   simp -implicitDefEqProofs [L49a,hG]
   rw[List.take_length] at hA
   exact hold_frz (k:=15) hA.hold frz_encs
  ·exact⟨.ns,rfl,by omega,acc_none⟩
theorem t_back(l:List Opn)(hl:l.length<1099511627776)(ho:∀ o∈l,okO o)(t f:Bool):pureR IP G 23 [.fs t f l.length (encs l)]=some (.fs false false l.length (encs l)):=by
  refine pure_run ip23 rfl ?_
  simp -implicitDefEqProofs [I23,hG]
  refine wp_loop_list (l:=l) (by omega) (fun i todo e H=>∃ lv,e=[(0,.fs t f l.length (encs l)),(3,lv),(4,.i .i64 i)]∧2≤H.next∧Acc H 2 lv 7 i (encs (l.take i))) ?_ ?_ ?_
  ·rintro i x todo e H hx hd hlt hlt2 hlt3 ⟨lv,rfl,hn,hA⟩
   obtain⟨d,hd2⟩:∃ d,H.next=d+2:=⟨H.next-2,by omega⟩
   clear hlt
   simp -implicitDefEqProofs [L23a,hlt2,hlt3,hx,hd2]
   refine step_app (acc_keep hA (by simp) ?_) (lo':=2) (m:=1) (ys:=Enc.cells x) (by omega) (by simp<;>omega) (more_lit (cs:=Enc.cells x) (e:=7) (ro:=false) (by simp -implicitDefEqProofs [hd2]) (by simp) (by omega)) (by simp) (by omega) (by omega) (by omega) (by omega) ?_
   ·intro id a b hv
    have:=acc_lt hA id a b hv
    simp (disch:=(simp -implicitDefEqProofs [hd2];omega)) only[get_push_lt]
   intro H1 hn1 hA1 hf1
   simp -implicitDefEqProofs [hd2] at hn1 hA1
   clear hf1
   simp -implicitDefEqProofs [hd2,hlt3]
   exact⟨by omega,by simpa[List.take_add_one,hx] using hA1⟩
  ·rintro e H ⟨lv,rfl,hn,hA⟩
   simp -implicitDefEqProofs [L23a,hG]
   rw[List.take_length] at hA
   exact hold_frz (k:=15) hA.hold frz_encs
  ·exact⟨.ns,rfl,by omega,acc_none⟩
theorem t_copyIns(s:Stp)(hs:okStp s)(t1 t2:Bool):pureR IP G 48 [.ag [.i .i64 s.op,.i .i64 s.n,.fs t1 false s.l.length (encs s.l),.s s.s,.fs t2 false s.names.length (encs s.names)]]=some (.ag (Enc.cells s)):=by
 obtain⟨a1,a2,a3,a4⟩:=hs
 have hl2:=bulkS_len s.names
 have c1:=t_copied hG s.l a3 a4 t1 false
 have c2:=t_copyTexts hG s.names (by omega) t2 false
 refine pure_run ip48 rfl ?_
 simp -implicitDefEqProofs [I48,hG,c1,c2]
end
end Go.Proofs.YtkpgolcjiahdfaaGreatDoor
