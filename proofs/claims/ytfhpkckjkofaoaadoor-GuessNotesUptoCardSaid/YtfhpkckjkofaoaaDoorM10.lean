import Derived.Test.YtfhpkckjkofaoaaDoorM09
import Derived.Test.YtfhpkckjkofaoaaDoorM08
import Derived.Test.YtfhpkckjkofaoaaDoorM07
import Derived.Test.YtfhpkckjkofaoaaDoorM06
import Derived.Test.YtfhpkckjkofaoaaDoorM04
import Derived.ProofKit
set_option linter.unusedVariables false
set_option linter.unusedSimpArgs false
set_option linter.unusedSectionVars false
/- What the document's profile notes (chapter 22). Conditions: none. -/
namespace Go.Proofs.YtfhpkckjkofaoaaDoor
open Go Go.RI
attribute [local irreducible] RI.wp
section
variable {G:AHeap} (hG:G.next=2)
include hG
theorem updP_none{ps:List Pen}{f a many:Int}{K:List Int}(h:findP f a ps 0=none):updP ps f a many K=ps++[⟨f,a,many,K⟩]:=by unfold updP;rw[h]
theorem updP_some{ps:List Pen}{f a many:Int}{K:List Int}{j:Nat}{p:Pen}(h:findP f a ps 0=some (j,p)):updP ps f a many K=ps.set j ⟨p.f,p.a,many,K⟩:=by
 unfold updP
 rw[h]
 obtain⟨_,_,h1,h2⟩:=findP_some h
 rw[h1,h2]
set_option maxHeartbeats 2000000 in
set_option maxRecDepth 4000 in
theorem t_note22(n:Nat)(hn1:n<900)(ps:List Pen)(hok:PenOk n ps)(l:List Val)(hb:∀ v∈l,v.bulk<1099511627776)(hll:l.length<4611686018427387904)(hr:∀ v∈l,rngL (Enc.cells v))(t:Bool)(f a:Int)(pp:Nat)(hpp:2≤pp)(lo:Nat)(hlo:pp<lo)(sv:AVal)(P:Nat→Prop)(H:AHeap)(hp:H.get pp=some (.cells [sv] 1 false))(hlo2:lo≤H.next)(hP:∀ id,P id→lo≤id)(hL:LstR H P lo sv ps) :
    ∃ H' sv',theCalls IP G 2 8 [.p pp 0,.i .i64 f,.i .i64 a,.fs t false l.length (encs l)] H=some (.i .i64 (if notB f a l=true then 0 else 2),H')∧H.next≤H'.next∧H'.get pp=some (.cells [sv'] 1 false) ∧
      (∀ id,id<H.next→id≠pp→(∀ x y,sv≠.sl id 0 x y)→H'.get id=H.get id)∧(∀ id x y,sv'=.sl id 0 x y→(∃ x' y',sv=.sl id 0 x' y')∨H.next≤id)∧LstR H' (fun id=>((P id∧id<H.next)∨H.next≤id)∧∀ x y,sv'≠.sl id 0 x y) lo sv' (nxtP ps f a l):=by
  have key:∃ v H',theCalls IP G 2 8 [.p pp 0,.i .i64 f,.i .i64 a,.fs t false l.length (encs l)] H=some (v,H')∧(v=.i .i64 (if notB f a l=true then 0 else 2)∧∃ sv',H.next≤H'.next∧H'.get pp=some (.cells [sv'] 1 false) ∧
      (∀ id,id<H.next→id≠pp→(∀ x y,sv≠.sl id 0 x y)→H'.get id=H.get id)∧(∀ id x y,sv'=.sl id 0 x y→(∃ x' y',sv=.sl id 0 x' y')∨H.next≤id)∧LstR H' (fun id=>((P id∧id<H.next)∨H.next≤id)∧∀ x y,sv'≠.sl id 0 x y) lo sv' (nxtP ps f a l)):=by
    have hps:=hok.1
    obtain⟨cs0,hA0,hR0,hno0⟩:=hL
    have hsvlt:=acc_lt hA0
    -- nothing is noted
    have stay:∀ H':AHeap,notB f a l=false→H.next≤H'.next→(∀ id,id<H.next→H'.get id=H.get id)→((.i .i64 2:AVal)=.i .i64 (if notB f a l=true then 0 else 2)∧∃ sv',H.next≤H'.next∧H'.get pp=some (.cells [sv'] 1 false) ∧
        (∀ id,id<H.next→id≠pp→(∀ x y,sv≠.sl id 0 x y)→H'.get id=H.get id)∧(∀ id x y,sv'=.sl id 0 x y→(∃ x' y',sv=.sl id 0 x' y')∨H.next≤id)∧LstR H' (fun id=>((P id∧id<H.next)∨H.next≤id)∧∀ x y,sv'≠.sl id 0 x y) lo sv' (nxtP ps f a l)):=by
      intro H' hnb h1 h2
      refine⟨by rw[hnb];rfl,sv,h1,by rw[h2 pp (by omega)];exact hp,fun id h3 _ _=>h2 id h3,fun id x y hv=>.inl ⟨x,y,hv⟩,?_⟩
      unfold nxtP
      rw[if_neg (by rw[hnb];simp)]
      refine lst_keep (lst_mono (P:=P) (fun id h3 h4=>?_) (fun id x y hv h5=>h5.2 x y hv) ⟨cs0,hA0,hR0,hno0⟩) h1 fun id h3 _=>h2 id h3
      exact⟨.inl ⟨h4,h3⟩,fun x y hv=>hno0 id x y hv h4⟩
    have hpn:¬ pp=H.next:=by omega
    by_cases hf0:0≤f
    rotate_left
    · have q1:f<0:=by omega
      have hnb:notB f a l=false:=by unfold notB;rw[decide_eq_false hf0];rfl
      refine calls_nil_of ip8 rfl rfl ?_
      simp -implicitDefEqProofs [I8,q1]
      simpa using stay H hnb (Nat.le_refl _) fun _ _=>rfl
    have q1:¬ f<0:=by omega
    by_cases hf1:f<16
    rotate_left
    · have q2:16≤f:=by omega
      have hnb:notB f a l=false:=by unfold notB;rw[decide_eq_false hf1,Bool.and_false];rfl
      refine calls_nil_of ip8 rfl rfl ?_
      simp -implicitDefEqProofs [I8,q1,q2]
      simpa using stay H hnb (Nat.le_refl _) fun _ _=>rfl
    have q2:¬ 16≤f:=by omega
    by_cases ha0:0≤a
    rotate_left
    · have q3:a<0:=by omega
      have hnb:notB f a l=false:=by unfold notB;rw[decide_eq_false ha0,Bool.false_and,Bool.and_false];rfl
      refine calls_nil_of ip8 rfl rfl ?_
      simp -implicitDefEqProofs [I8,q1,q2,q3]
      simpa using stay H hnb (Nat.le_refl _) fun _ _=>rfl
    have q3:¬ a<0:=by omega
    by_cases ha1:a<512
    rotate_left
    · have q4:512≤a:=by omega
      have hnb:notB f a l=false:=by unfold notB;rw[decide_eq_false ha1,Bool.and_false,Bool.and_false];rfl
      refine calls_nil_of ip8 rfl rfl ?_
      simp -implicitDefEqProofs [I8,q1,q2,q3,q4]
      simpa using stay H hnb (Nat.le_refl _) fun _ _=>rfl
    have q4:¬ 512≤a:=by omega
    have hrange:((decide (0≤f)&&decide (f<16))&&(decide (0≤a)&&decide (a<512)))=true:=by rw[decide_eq_true hf0,decide_eq_true hf1,decide_eq_true ha0,decide_eq_true ha1];rfl
    by_cases h64:l.length≤64
    rotate_left
    · have q5:(64:Int)<l.length:=by omega
      have hnb:notB f a l=false:=by unfold notB noteB;rw[decide_eq_false (by omega:¬(l.length:Int)≤64)];simp
      refine calls_nil_of ip8 rfl rfl ?_
      simp -implicitDefEqProofs [I8,q1,q2,q3,q4,q5]
      simpa using stay H hnb (Nat.le_refl _) fun _ _=>rfl
    have q5:¬(64:Int)<l.length:=by omega
    have hnbe:notB f a l=l.all mayV:=by unfold notB noteB;rw[hrange,decide_eq_true (by omega:(l.length:Int)≤64)];simp
    have keyA:=t_note22_a hG l h64 hb hr t (.p pp 0) (.i .i64 f) (.i .i64 a) H (by omega)
    refine calls_nil_of ip8 rfl rfl ?_
    simp -implicitDefEqProofs [I8,q1,q2,q3,q4,q5]
    refine keyA _ ?_ ?_
    rotate_left
    · intro hall H' hN hF
      simp
      simpa using stay H' (hnbe.trans hall) hN hF
    intro hall H1 kv w hN hF hA
    have hnb:=hnbe.trans hall
    have hkl:(kindsL l).length≤64:=by rw[kindsL_len];exact h64
    have hp1:H1.get pp=some (.cells [sv] 1 false):=by rw[hF pp (by omega)];exact hp
    have hL1:LstR H1 P lo sv ps:=lst_keep ⟨cs0,hA0,hR0,hno0⟩ hN fun id h3 _=>hF id h3
    obtain⟨t1,cs1,hs1,hS1⟩:=lst_snap (k:=12) hL1
    have hs1:snapV H1 15 sv=some (.fs t1 false ps.length cs1):=hs1
    have c1:=t_find22 hG ps (by omega) cs1 hS1 t1 f a
    unfold idxP at c1
    have hc0:=cntP_ok hok f a
    have keyB:∀ K:List Int,K.length≤64→∀ kv0:AVal,KVr H1 P kv0 K→_:=fun K hK kv0 hkv0=>t_note22_b hG K (kindsL l) hK hkl kv0 kv P (fun id=>H.next≤id) (.p pp 0)
    cases hfd:findP f a ps 0 with
    | none =>
      rw[hfd] at c1
      simp at c1
      have hk:ksP ps f a=none:=by unfold ksP;rw[hfd]
      have hcn:cntP ps f a=0:=by unfold cntP;rw[hfd]
      have hnx:nxtP ps f a l=ps++[⟨f,a,1,kindsL l⟩]:=by
        unfold nxtP notP
        rw[if_pos hnb,hk,hcn,updP_none hG hfd];rfl
      have n1:¬ pp=H1.next:=by omega
      have n2:2≤pp:=hpp
      have n3:¬ 2=H1.next:=by omega
      obtain⟨u1,u2⟩:=acc_one hA
      simp -implicitDefEqProofs [hs1,c1,hp1,n1,u1,u2]
      refine step_app (lo':=lo) (m:=1) (ys:=[.i .i64 f,.i .i64 a,.i .i64 1,kv]) (acc_keep hA0 (by simp;omega) fun id n0 c0 hv=>?_) (by omega) (by simp;omega) (more_lit (cs:=[.i .i64 f,.i .i64 a,.i .i64 1,kv]) (e:=4) (ro:=false) (by simp) (by simp) (by omega)) (by simp) (by omega) (by omega) (by omega) (by omega) ?_
      · have:=(hsvlt id n0 c0 hv).2
        simp -implicitDefEqProofs [show ¬ id=H1.next by omega,show ¬ id=H1.next+1 by omega]
        exact hF id this
      intro H3 n3 A3 F3
      have n3':H3.next=H1.next+2:=by rw[n3];simp
      have hsn:∀ id x y,sv=.sl id 0 x y→lo≤id:=fun id x y hv=>(hsvlt id x y hv).1
      have f3:∀ id,id<H1.next→(∀ x y,sv≠.sl id 0 x y)→H3.get id=H1.get id:=fun id h1 h2=>by
        rw[F3 id (by simp;omega) fun id0 n0 c0 hv e=>h2 n0 c0 (e▸hv)]
        simp -implicitDefEqProofs [show ¬ id=H1.next by omega]
      have g3:H3.get pp=some (.cells [sv] 1 false):=by
        rw[f3 pp (by omega) fun x y hv=>by have:=hsn pp x y hv;omega]
        exact hp1
      simp -implicitDefEqProofs [g3,hpp]
      rw[hnb,hnx]
      simp only[if_true]
      refine⟨trivial,by omega,fun id h1 h2 h3=>?_,.inr (by omega),cs0++[.i .i64 f,.i .i64 a,.i .i64 1,kv],?_,?_,fun id x y hv h=>h.2 (by cases hv;rfl)⟩
      · rw[if_neg h2,f3 id (by omega) h3];exact hF id h1
      · rw[List.length_append,List.length_singleton]
        refine acc_keep A3 (by simp) fun id n0 c0 hv=>?_
        have hid:id=H1.next+1:=by cases hv;simp
        simp -implicitDefEqProofs [show ¬ id=pp by omega]
      · refine penR_app ?_ ?_
        · have hk1:=kvr_mono (P':=fun id=>((P id∧id<H.next)∨H.next≤id)∧¬ H1.next+1=id) (fun id h1 h2=>⟨.inr h2,by omega⟩) (acc_kvr hA)
          refine kvr_keep hk1 (by simp;omega) fun id h1 h2=>?_
          have h5:lo≤id:=by
            rcases h1.1 with⟨h,_⟩|h
            · exact hP id h
            · omega
          simp -implicitDefEqProofs [show ¬ id=pp by omega]
          refine f3 id h2 fun x y hv=>?_
          rcases h1.1 with⟨h,_⟩|h
          · exact hno0 id x y hv h
          · have:=(hsvlt id x y hv).2;omega
        · have hk1:=penR_mono (P':=fun id=>((P id∧id<H.next)∨H.next≤id)∧¬ H1.next+1=id) (fun id h1 h2=>⟨.inl ⟨h2,h1⟩,by omega⟩) hR0
          refine penR_keep (by simp;omega) (fun id h1 h2=>?_) hk1
          have h6:P id:=by
            rcases h1.1 with⟨h,_⟩|h
            · exact h
            · omega
          have h5:=hP id h6
          simp -implicitDefEqProofs [show ¬ id=pp by omega]
          rw[f3 id (by omega) fun x y hv=>hno0 id x y hv h6]
          exact hF id h2
    | some x =>
      obtain⟨j,p⟩:=x
      rw[hfd] at c1
      simp at c1
      obtain⟨_,hpj,_⟩:=findP_some hfd
      simp at hpj
      have hj:=lt_of_get hpj
      have hj2:(j:Int)<(ps.length:Int):=by omega
      have hj3:¬(j:Int)<0:=by omega
      have hpm:=hok.2 p (List.mem_of_getElem? hpj)
      have hk:ksP ps f a=some p.ks:=by unfold ksP;rw[hfd]
      have hcn:cntP ps f a=p.many:=by unfold cntP;rw[hfd]
      have hnx:nxtP ps f a l=ps.set j ⟨p.f,p.a,p.many+1,bothG p.ks (kindsL l)⟩:=by
        unfold nxtP notP
        rw[if_pos hnb,hk,hcn,updP_some hG hfd];rfl
      obtain⟨R,hsv,hR1,hR2,hR3,hR4⟩:∃ R,sv=.sl R 0 ps.length none∧lo≤R∧R<H.next∧H.get R=some (.cells cs0 4 false)∧cs0.length=ps.length*4:=by
        rcases hA0 with⟨_,h,_⟩|⟨R,h1,h2,h3,h4,h5⟩
        · omega
        · exact⟨R,h1,h2,h3,h4,h5⟩
      obtain⟨kv0,hkv0,e0,e1,e2,e3⟩:=penR_get hR0 hpj
      have hkv1:KVr H1 P kv0 p.ks:=kvr_keep hkv0 hN fun id _ h=>hF id h
      have gR:=(hF R hR2).trans hR3
      have hb2:=keyB p.ks hpm.2.2 kv0 hkv1
      have n1:¬ pp=H1.next:=by omega
      have n2:¬ R=pp:=by omega
      have n2':¬ pp=R:=by omega
      have n3:2≤R:=by omega
      have m1:j*4+3<cs0.length:=by omega
      have m2:j*4+2<cs0.length:=by omega
      have m1':j*4+3+1≤cs0.length:=by omega
      have m2':j*4+2+1≤cs0.length:=by omega
      have e3':=get_all e3
      subst hsv
      simp -implicitDefEqProofs [hs1,c1,hp1,n1,n2,hj2,hj3,gR,e3,e3']
      refine hb2 _ H1 (by omega) hkv1 (acc_kvr hA) _ ?_
      intro H2 ov w2 hN2 hF2 hA2
      obtain⟨u1,u2⟩:=acc_one hA2
      have p2:=(hF2 pp (by omega)).trans hp1
      have r2:=(hF2 R (by omega)).trans gR
      have w1:wrapI .i64 (p.many+1)=p.many+1:=wrap_ok (by omega) (by omega)
      have e2b:(cs0.set (j*4+3) ov)[j*4+2]?=some (.i .i64 p.many):=by rw[List.getElem?_set_ne (by omega)];exact e2
      have e2c:=get_all e2b
      simp -implicitDefEqProofs [p2,r2,n2,n2',n3,hj2,m1,m1',m2,m2',u1,u2,e2b,e2c,w1]
      rw[hnb,hnx]
      simp only[if_true]
      have ff:∀ id,id<H.next→H2.get id=H.get id:=fun id h=>(hF2 id (by omega)).trans (hF id h)
      refine⟨trivial,by omega,fun id h1 h2 h3=>?_,(cs0.set (j*4+3) ov).set (j*4+2) (.i .i64 (p.many+1)),?_,penR_set (p:=p) (cs:=cs0) (kv:=ov) ?_ ?_ hpj,fun id x y hv h=>h.2 (by cases hv;rfl)⟩
      · rw[if_neg (fun h=>h3 h.symm),if_neg (fun h=>h3 h.symm)];exact ff id h1
      · rw[List.length_set]
        exact .inr ⟨R,rfl,hR1,by simp;omega,by simp,by simp -implicitDefEqProofs [hR4]⟩
      · have hk1:=kvr_mono (P':=fun id=>((P id∧id<H.next)∨H.next≤id)∧¬ R=id) (fun id h1 h2=>⟨.inr (by omega),by omega⟩) (acc_kvr hA2)
        refine kvr_keep hk1 (by simp) fun id h1 h2=>?_
        simp -implicitDefEqProofs [show ¬ id=R from fun h=>h1.2 h.symm]
      · have hk1:=penR_mono (P':=fun id=>((P id∧id<H.next)∨H.next≤id)∧¬ R=id) (fun id h1 h2=>⟨.inl ⟨h2,h1⟩,fun h=>hno0 R _ _ rfl (h▸h2)⟩) hR0
        refine penR_keep (by simp;omega) (fun id h1 h2=>?_) hk1
        simp -implicitDefEqProofs [show ¬ id=R from fun h=>h1.2 h.symm]
        exact ff id h2
  obtain⟨v,H',h1,rfl,sv',h2⟩:=key
  exact⟨H',sv',h1,h2⟩
end
end Go.Proofs.YtfhpkckjkofaoaaDoor
namespace Go.Proofs.YtfhpkckjkofaoaaDoor
open Go Go.RI
attribute [local irreducible] RI.wp
section
variable {G:AHeap} (hG:G.next=2)
include hG
theorem t_gn_a(n:Nat)(hn:n<1048576)(lo:Nat)(hlo:2≤lo)(iv:AVal)(cells:List AVal)(a0 a3 a4 a5 a6:AVal)(H:AHeap)(hA:Acc H lo iv 5 n cells)(Q:Post)
  (hQ:∀ H' w,H'.next=H.next→(∀ id,(∀ x y,iv≠.sl id 0 x y)→H'.get id=H.get id)→Q (.exit 2) [(0,a0),(3,a3),(4,a4),(5,a5),(6,a6),(7,iv),(8,.i .i64 n),(76,w)] H') :
  wp (theCalls IP G 2) 2 (.loop L3a) Q [(0,a0),(3,a3),(4,a4),(5,a5),(6,a6),(7,iv),(8,.i .i64 0)] H:=by
 have hlen:=acc_lenV hA
 have hcl:=acc_len hA
 refine wp_loop_list (l:=List.range n) (by simp;omega) (fun i todo e H'=>e=[(0,a0),(3,a3),(4,a4),(5,a5),(6,a6),(7,iv),(8,.i .i64 i)]∧H'.next=H.next∧(∀ id,(∀ x y,iv≠.sl id 0 x y)→H'.get id=H.get id)∧∃ cs,cs.length=n*5∧(0<n→∃ id,iv=.sl id 0 n none∧lo≤id∧H'.get id=some (.cells cs 5 false))) ?_ ?_ ?_
 ·rintro i x todo e H' hx hd hlt hlt2 hlt3 ⟨rfl,hN,hF,cs,hcs,hr⟩
  simp at hlt hlt2
  obtain⟨id,rfl,hid,hg⟩:=hr (by omega)
  have h1:i*5+1≤cs.length:=by omega
  have h2:(i:Int)<(n:Int):=by omega
  have h3:2≤id:=by omega
  clear hlt hx hd
  simp -implicitDefEqProofs [L3a,hlen,h2,hlt3,hg,h1,h3]
  refine⟨hN,fun j hj=>?_,cs.set (i*5) (.i .i64 99),by simpa using hcs,fun _=>⟨hid,rfl⟩⟩
  rw[if_neg (fun e=>by simp -implicitDefEqProofs [e] at hj)]
  exact hF j (by simpa using hj)
 ·rintro e H' ⟨rfl,hN,hF,cs,hcs,hr⟩
  rw[List.length_range]
  simp -implicitDefEqProofs [L3a,hlen]
  exact hQ H' _ hN hF
 ·refine⟨by simp,rfl,fun _ _=>rfl,cells,hcl,fun h0=>?_⟩
  rcases hA with⟨_,h,_⟩|⟨id,h1,h2,_,h4,_⟩
  ·omega
  ·exact⟨id,h1,h2,h4⟩
theorem t_gn_b(n:Nat)(hn:n<1048576)(lo:Nat)(hlo:2≤lo)(kv:AVal)(cells:List AVal)(a0 a3 a4 a5 a6:AVal)(H:AHeap)(hA:Hold H lo kv 1 n cells)(Q:Post)
  (hQ:∀ H' w,H'.next=H.next→(∀ id,(∀ x y,kv≠.sl id 0 x y)→H'.get id=H.get id)→Q (.exit 4) [(0,a0),(3,a3),(4,a4),(5,a5),(6,a6),(9,kv),(10,.i .i64 n),(140,w)] H') :
  wp (theCalls IP G 2) 2 (.loop L3b) Q [(0,a0),(3,a3),(4,a4),(5,a5),(6,a6),(9,kv),(10,.i .i64 0)] H:=by
 have hlen:=hold_len hA
 refine wp_loop_list (l:=List.range n) (by simp;omega) (fun i todo e H'=>e=[(0,a0),(3,a3),(4,a4),(5,a5),(6,a6),(9,kv),(10,.i .i64 i)]∧H'.next=H.next∧(∀ id,(∀ x y,kv≠.sl id 0 x y)→H'.get id=H.get id)∧∃ cs,cs.length=n*1∧(0<n→∃ id c,kv=.sl id 0 n c∧lo≤id∧H'.get id=some (.cells cs 1 false))) ?_ ?_ ?_
 ·rintro i x todo e H' hx hd hlt hlt2 hlt3 ⟨rfl,hN,hF,cs,hcs,hr⟩
  simp at hlt hlt2
  obtain⟨id,c,rfl,hid,hg⟩:=hr (by omega)
  have h1:i+1≤cs.length:=by omega
  have h2:(i:Int)<(n:Int):=by omega
  have h3:2≤id:=by omega
  clear hlt hx hd
  simp -implicitDefEqProofs [L3b,hlen,h2,hlt3,hg,h1,h3]
  refine⟨hN,fun j hj=>?_,cs.set i (.i .i64 99),by simpa using hcs,fun _=>⟨hid,rfl⟩⟩
  rw[if_neg (fun e=>by simp -implicitDefEqProofs [e] at hj)]
  exact hF j (by simpa using hj)
 ·rintro e H' ⟨rfl,hN,hF,cs,hcs,hr⟩
  rw[List.length_range]
  simp -implicitDefEqProofs [L3b,hlen]
  exact hQ H' _ hN hF
 ·refine⟨by simp,rfl,fun _ _=>rfl,cells,?_,fun h0=>?_⟩
  ·rcases hA with⟨_,h,h2⟩|⟨id,c,_,_,_,_,_,h5⟩
   ·subst h2;subst h;rfl
   ·exact h5
  ·rcases hA with⟨_,h,_⟩|⟨id,c,h1,_,h2,_,h4,_⟩
   ·omega
   ·exact⟨id,c,h1,h2,h4⟩
end
end Go.Proofs.YtfhpkckjkofaoaaDoor
namespace Go.RI
open Go
structure Seen where
 f:Int
 a:Int
 homes:List Val
 deriving Inhabited
instance:Enc Seen:=⟨3,fun x=>[.i .i64 x.f,.i .i64 x.a,.fs false false x.homes.length (encs x.homes)],fun _=>rfl⟩
@[simp] theorem cells_seen{x:Seen}:Enc.cells x=[AVal.i .i64 x.f,.i .i64 x.a,.fs false false x.homes.length (encs x.homes)]:=rfl
instance:EncOk Seen:={ snap:=fun _ _ _=>by simp,frz:=fun _ _ _ _=>by simp }
@[simp] theorem drop_seen{l:List Seen}{i:Nat}:(encs l).drop (i*3)=cellsO l[i]?++restE l (i+1):=drop_encs l i
@[simp] theorem len_seen{l:List Seen}:(encs l).length=l.length*3:=encs_len l
def okSeen(x:Seen):Prop:=x.homes.length<1048576∧(∀ v∈x.homes,v.bulk<1099511627776)∧∀ v∈x.homes,rngL (Enc.cells v)
section
variable {P:Program} {tI tS tV tLV tLS:TypeId}
def seenB(x:Seen):Nat:=bulkL x.homes+1
theorem tyM_seen(K:ValTys P tI tS tV tLV tLS){tSn:TypeId}(hs:∃ fs,P.underlying tSn=some (.struct fs)∧fs.toList.map (·.type)=[tI,tI,tLV])(n:Nat)(l:List AVal)(m:Nat)(h:TyM P n tSn l m):∃ o:Seen,l=Enc.cells o∧seenB o≤m:=by
  cases n with
  | zero=>cases h
  | succ n =>
    obtain⟨xs,rfl,h1,h2,h3⟩:=tyM_struct hs h
    obtain⟨x0,x1,x2,rfl⟩:=list3 h1
    obtain⟨a,e0⟩:=tyM_int K.i (h3 0 tI x0 rfl rfl)
    obtain⟨b,e1⟩:=tyM_int K.i (h3 1 tI x1 rfl rfl)
    obtain⟨c,e2,b2⟩:=tyM_slice K.lv Val.bulk (fun n x m h=>tyM_valV K n m x h) (h3 2 tLV x2 rfl rfl)
    rw[sum_bulkL] at b2
    refine⟨⟨a,b,c⟩,by simp[e0,e1,e2],?_⟩
    simp only[List.map_cons,List.map_nil,List.sum_cons,List.sum_nil] at h2
    unfold seenB
    simp only
    omega
theorem tyM_seens(K:ValTys P tI tS tV tLV tLS){tSn tLSn:TypeId}(hs:∃ fs,P.underlying tSn=some (.struct fs)∧fs.toList.map (·.type)=[tI,tI,tLV])(hl:P.underlying tLSn=some (.slice tSn)){n m:Nat}{l:List AVal}(h:TyM P n tLSn l m)(hm:m≤1048576) :
  ∃ xs:List Seen,l=[.fs false false xs.length (encs xs)]∧xs.length<1048576∧∀ x∈xs,okSeen x:=by
 obtain⟨xs,e,hb⟩:=tyM_slice hl seenB (fun n x m h=>tyM_seen K hs n x m h) h
 have hr:=tyM_rng n tLSn l m h
 refine⟨xs,e,?_,fun x hx=>?_⟩
 ·have:=sum_len seenB (fun x=>by unfold seenB;omega) xs
  omega
 ·have h1:=sum_mem seenB hx
  have h2:seenB x=bulkL x.homes+1:=rfl
  have h3:=bulkL_len x.homes
  rw[e] at hr
  have hr1:rngL (encs xs):=by
   simp only[rngL,rngV] at hr
   exact hr.1
  have hr2:=rng_encs hr1 x hx
  rw[cells_seen] at hr2
  simp only[rngL,rngV] at hr2
  exact⟨by omega,fun v hv=>(by have:=bulkL_mem hv;omega),rng_encs hr2.2.2.1⟩
end
end Go.RI
namespace Go.Proofs.YtfhpkckjkofaoaaDoor
open Go Go.RI
def GnP(sv:AVal)(id:Nat):Prop:=7≤id∧∀ x y,sv≠.sl id 0 x y
structure GnSt (n:Nat) (H:AHeap):Prop where
 next:7≤H.next
 pa:H.get 3=some (.cells [.m 2] 1 false)
 po:H.get 6=some (.cells [.m 5] 1 false)
 st:∃ ps qs es eo sv,PenOk n ps∧PenOk n qs∧H.get 2=some (.map es)∧H.get 5=some (.map eo)∧H.get 4=some (.cells [sv] 1 false)∧PenM H (GnP sv) es ps∧PenM H (GnP sv) eo qs∧LstR H (GnP sv) 7 sv ps
attribute [local irreducible] RI.wp
section
variable {G:AHeap} (hG:G.next=2)
include hG
set_option maxHeartbeats 4000000 in
set_option maxRecDepth 8000 in
theorem t_gn_c(l:List Seen)(hl:l.length<1048576)(hok:∀ x∈l,okSeen x)(Q:Post)(hQ:∀(i:Nat) w H',Q (.exit 0) [(0,.fs false false l.length (encs l)),(3,.p 3 0),(4,.p 4 0),(5,.p 6 0),(6,.i .i64 i),(21,w)] H')(H:AHeap)(hst:GnSt 0 H) :
  wp (theCalls IP G 2) 2 (.loop L3c) Q [(0,.fs false false l.length (encs l)),(3,.p 3 0),(4,.p 4 0),(5,.p 6 0),(6,.i .i64 0)] H:=by
 refine wp_loop_list (l:=l) (by omega) (fun i todo e H'=>e=[(0,.fs false false l.length (encs l)),(3,.p 3 0),(4,.p 4 0),(5,.p 6 0),(6,.i .i64 i)]∧i≤60∧GnSt i H') ?_ ?_ ?_
 ·rintro i x todo e H0 hx hd hlt hlt2 hlt3 ⟨rfl,hi60,hS⟩
  have hx2:=get_all hx
  obtain⟨hx1,hxb,hxr⟩:=hok x (List.mem_of_getElem? hx)
  refine(Classical.em (i<60)).elim (fun h60=>?_) (fun h60=>?_)
  rotate_left
  ·have q:¬(i:Int)<60:=by omega
   clear hlt
   simp -implicitDefEqProofs [L3c,hlt2,q]
   exact hQ i _ H0
  have q:(i:Int)<60:=by omega
  obtain⟨N0,pa0,po0,ps,qs,es,eo,sv,kp,kq,ga0,go0,gb0,ma0,mo0,lb0⟩:=hS
  have hsvlt:∀ id a b,sv=.sl id 0 a b→7≤id∧id<H0.next:=fun id a b hv=>by
   obtain⟨cs,hA,_⟩:=lb0
   exact acc_lt hA id a b hv
  -- other.Note
  obtain⟨H1,eo',c1,n1,go1,f1,mo1⟩:=t_noteM hG i (by omega) qs kq [] (by simp) (by simp) 1 1 5 6 (by omega) (by omega) eo (GnP sv) 7 .ns H0 po0 go0 mo0 acc_none (by omega) (by omega) (fun id h e=>by have:=h.1;omega)
  -- the copy
  obtain⟨iv,H2,c2,n2,A2,f2⟩:=t_copyAll hG x.homes hx1 hxb false H1 (by omega)
  have ivlt:=acc_lt A2
  have f12:∀ id,id<H0.next→id≠5→H2.get id=H0.get id:=fun id h h2=>(f2 id (by omega)).trans (f1 id h h2)
  -- a.Note
  obtain⟨H3,es',c3,n3,ga3,f3,ma3⟩:=t_noteM hG i (by omega) ps kp x.homes hxb (by omega) x.f x.a 2 3 (by omega) (by omega) es (fun id=>GnP sv id∧id<H0.next) H1.next iv H2 ((f12 3 (by omega) (by omega)).trans pa0) ((f12 2 (by omega) (by omega)).trans ga0) (penM_keep (by omega) (fun id h1 h2=>f12 id h2 (by have:=h1.1.1;omega)) (penM_mono (fun id h1 h2=>⟨h2,h1⟩) ma0)) A2 (by omega) (by omega) (fun id h e=>by have:=h.1.1;omega)
  have f123:∀ id,id<H0.next→id≠5→id≠2→H3.get id=H0.get id:=fun id h h2 h4=>(f3 id (by omega) h4).trans (f12 id h h2)
  -- b.Note
  have lb3:LstR H3 (fun id=>GnP sv id∧id<H0.next) 7 sv ps:=lst_keep (lst_mono (fun id h1 h2=>⟨h2,h1⟩) (fun id a b hv h=>h.1.2 a b hv) lb0) (by omega) fun id h1 h2=>by
   refine f123 id h1 ?_ ?_
   ·rcases h2 with h2|⟨a,b,h2⟩
    ·have:=h2.1.1;omega
    ·have:=(hsvlt id a b h2).1;omega
   ·rcases h2 with h2|⟨a,b,h2⟩
    ·have:=h2.1.1;omega
    ·have:=(hsvlt id a b h2).1;omega
  obtain⟨H4,sv',c4,n4,gb4,f4,svn,lb4⟩:=t_note22 hG i (by omega) ps kp x.homes hxb (by omega) hxr false x.f x.a 4 (by omega) 7 (by omega) sv (fun id=>GnP sv id∧id<H0.next) H3 ((f123 4 (by omega) (by omega) (by omega)).trans gb0) (by omega) (fun id h=>h.1.1) lb3
  have sv'lt:∀ id a b,sv'=.sl id 0 a b→7≤id∧id<H4.next:=fun id a b hv=>by
   obtain⟨cs,hA,_⟩:=lb4
   exact acc_lt hA id a b hv
  -- what was copied stands as it did
  have ivne:∀ id a b,iv=.sl id 0 a b→H1.next≤id∧id<H2.next:=fun id a b hv=>ivlt id a b hv
  have A4:Acc H4 H1.next iv 5 x.homes.length (encs x.homes):=acc_keep A2 (by omega) fun id a b hv=>by
   obtain⟨h1,h2⟩:=ivne id a b hv
   rw[f4 id (by omega) (by omega) fun y z hv2=>by have:=(hsvlt id y z hv2).2;omega]
   exact f3 id (by omega) (by omega)
  have s4:snapV H4 16 iv=some (.fs (decide (0<x.homes.length)) false x.homes.length (encs x.homes)):=acc_snap (k:=15) A4 snap_encs
  have c5:=t_sameAll hG x.homes hx1 hxb (decide (0<x.homes.length)) false false false
  have keyA:=t_gn_a hG x.homes.length hx1 H1.next (by omega) iv (encs x.homes) (.fs false false l.length (encs l)) (.p 3 0) (.p 4 0) (.p 6 0) (.i .i64 i) H4 A4
  have okp:=nxtP_ok kp x.f x.a x.homes
  have okq:=nxtP_ok kq 1 1 []
  generalize nxtP ps x.f x.a x.homes=ps' at *
  generalize nxtP qs 1 1 []=qs' at *
  generalize notB x.f x.a x.homes=nb at *
  clear hlt
  simp -implicitDefEqProofs [L3c,hlt2,hlt3,q,hx,hx2,c1,c2,c3,c4,ldE_eq,ldP_fp,s4,c5]
  refine keyA _ ?_
  intro H5 w5 n5 f5
  -- frames
  have g5:∀ id,id<H3.next→id≠4→(∀ y z,sv≠.sl id 0 y z)→(∀ y z,iv≠.sl id 0 y z)→H5.get id=H3.get id:=fun id h1 h2 h3 h4=>(f5 id h4).trans (f4 id h1 h2 h3)
  have lowiv:∀ id,id<H1.next→∀ y z,iv≠.sl id 0 y z:=fun id h y z hv=>by have:=(ivne id y z hv).1;omega
  have lowsv:∀ id,id<7→∀ y z,sv≠.sl id 0 y z:=fun id h y z hv=>by have:=(hsvlt id y z hv).1;omega
  have hisv:∀ id,H0.next≤id→∀ y z,sv≠.sl id 0 y z:=fun id h y z hv=>by have:=(hsvlt id y z hv).2;omega
  have pa5:H5.get 3=some (.cells [.m 2] 1 false):=by rw[g5 3 (by omega) (by omega) (lowsv _ (by omega)) (lowiv _ (by omega)),f123 3 (by omega) (by omega) (by omega)];exact pa0
  have po5:H5.get 6=some (.cells [.m 5] 1 false):=by rw[g5 6 (by omega) (by omega) (lowsv _ (by omega)) (lowiv _ (by omega)),f123 6 (by omega) (by omega) (by omega)];exact po0
  have ga5:H5.get 2=some (.map es'):=by rw[g5 2 (by omega) (by omega) (lowsv _ (by omega)) (lowiv _ (by omega))];exact ga3
  have go5:H5.get 5=some (.map eo'):=by rw[g5 5 (by omega) (by omega) (lowsv _ (by omega)) (lowiv _ (by omega)),f3 5 (by omega) (by omega),f2 5 (by omega)];exact go1
  have gb5:H5.get 4=some (.cells [sv'] 1 false):=by rw[f5 4 (lowiv _ (by omega))];exact gb4
  have svnew:∀ id,id<H3.next→(∀ y z,sv≠.sl id 0 y z)→∀ y z,sv'≠.sl id 0 y z:=fun id h1 h2 y z hv=>by
   rcases svn id y z hv with⟨y',z',h3⟩|h3
   ·exact h2 y' z' h3
   ·omega
  have ma5:PenM H5 (GnP sv') es' ps':=by
   have h1:PenM H5 (fun id=>((GnP sv id∧id<H0.next)∧id<H2.next)∨H2.next≤id) es' ps':=penM_keep (by omega) (fun id h1 h2=>by
    rcases h1 with h1|h1
    ·exact g5 id h2 (by have:=h1.1.1.1;omega) h1.1.1.2 (lowiv id (by omega))
    ·exact g5 id h2 (by omega) (hisv id (by omega)) fun y z hv=>by have:=(ivne id y z hv).2;omega) ma3
   have h0:PenM H3 (fun id=>(((GnP sv id∧id<H0.next)∧id<H2.next)∨H2.next≤id)∧id<H3.next) es' ps':=penM_mono (fun id h1 h2=>⟨h2,h1⟩) ma3
   have h2:=penM_keep (H':=H5) (by omega) (fun id h1 h2=>by
    rcases h1.1 with h1|h1
    ·exact g5 id h2 (by have:=h1.1.1.1;omega) h1.1.1.2 (lowiv id (by omega))
    ·exact g5 id h2 (by omega) (hisv id (by omega)) fun y z hv=>by have:=(ivne id y z hv).2;omega) h0
   refine penM_mono (fun id _ h3=>?_) h2
   obtain⟨h3,h4⟩:=h3
   rcases h3 with h3|h3
   ·exact⟨h3.1.1.1,svnew id h4 h3.1.1.2⟩
   ·exact⟨by omega,svnew id h4 (hisv id (by omega))⟩
  have mo5:PenM H5 (GnP sv') eo' qs':=by
   have h0:PenM H1 (fun id=>((GnP sv id∧id<H0.next)∨H0.next≤id)∧id<H1.next) eo' qs':=penM_mono (fun id h1 h2=>⟨h2,h1⟩) mo1
   have hge:∀ id,(((GnP sv id∧id<H0.next)∨H0.next≤id)∧id<H1.next)→7≤id∧(∀ y z,sv≠.sl id 0 y z):=fun id h=>by
    rcases h.1 with h1|h1
    ·exact⟨h1.1.1,h1.1.2⟩
    ·exact⟨by omega,hisv id h1⟩
   have h2:=penM_keep (H':=H5) (by omega) (fun id h1 h2=>by
    obtain⟨k1,k2⟩:=hge id h1
    rw[g5 id (by omega) (by omega) k2 (lowiv id h2),f3 id (by omega) (by omega)]
    exact f2 id h2) h0
   exact penM_mono (fun id _ h3=>⟨(hge id h3).1,svnew id (by omega) (hge id h3).2⟩) h2
  have lb5:LstR H5 (GnP sv') 7 sv' ps':=by
   have h1:LstR H4 (fun id=>((((GnP sv id∧id<H0.next)∧id<H3.next)∨H3.next≤id)∧∀ y z,sv'≠.sl id 0 y z)∧id<H4.next) 7 sv' ps':=lst_mono (fun id h1 h2=>⟨h2,h1⟩) (fun id a b hv h=>h.1.2 a b hv) lb4
   have h2:=lst_keep (H':=H5) h1 (by omega) fun id h2 h3=>by
    refine f5 id ?_
    rcases h3 with h3|⟨a,b,h3⟩
    ·rcases h3.1.1 with h4|h4
     ·exact lowiv id (by omega)
     ·exact fun y z hv=>by have:=(ivne id y z hv).2;omega
    ·rcases svn id a b h3 with⟨y',z',h4⟩|h4
     ·exact lowiv id (by have:=(hsvlt id y' z' h4).2;omega)
     ·exact fun y z hv=>by have:=(ivne id y z hv).2;omega
   refine lst_mono (fun id _ h3=>⟨?_,h3.1.2⟩) (fun id a b hv h=>h.2 a b hv) h2
   rcases h3.1.1 with h4|h4
   ·exact h4.1.1.1
   ·omega
  -- what is told
  have kk:=ksP_len okp x.f x.a
  have T:∀ H':AHeap,H5.next≤H'.next→(∀ id,id<H5.next→H'.get id=H5.get id)→H'.get 3=some (.cells [.m 2] 1 false)∧H'.get 6=some (.cells [.m 5] 1 false)∧H'.get 2=some (.map es')∧H'.get 5=some (.map eo')∧H'.get 4=some (.cells [sv'] 1 false)∧PenM H' (GnP sv') es' ps'∧PenM H' (GnP sv') eo' qs'∧LstR H' (GnP sv') 7 sv' ps':=fun H' h1 h2 =>
   ⟨by rw[h2 _ (by omega)];exact pa5,by rw[h2 _ (by omega)];exact po5,by rw[h2 _ (by omega)];exact ga5,by rw[h2 _ (by omega)];exact go5,by rw[h2 _ (by omega)];exact gb5,penM_keep h1 (fun id _ h=>h2 id h) ma5,penM_keep h1 (fun id _ h=>h2 id h) mo5,lst_keep lb5 h1 fun id h _=>h2 id h⟩
  obtain⟨kv,H6,c6,n6,K6,f6⟩:=t_kindsM hG (i+1) (by omega) ps' okp x.f x.a 2 3 es' (GnP sv') H5.next H5 pa5 ga5 ma5 (Nat.le_refl _)
  obtain⟨pa6,po6,ga6,go6,gb6,ma6,mo6,lb6⟩:=T H6 n6 f6
  have c7:=t_countM hG ps' x.f x.a 2 3 es' (GnP sv') H6 pa6 ga6 ma6
  obtain⟨t6,cs6,s6,S6⟩:=lst_snap (k:=12) lb6
  have s6:snapV H6 15 sv'=some (.fs t6 false ps'.length cs6):=s6
  have c8:=t_count22 hG ps' (by have:=okp.1;omega) cs6 S6 t6 x.f x.a
  have c9:=t_kinds22 hG ps' (by have:=okp.1;omega) (fun p hp=>by have:=(okp.2 p hp).2.2;omega) cs6 S6 t6 x.f x.a
  obtain⟨t6k,s6k⟩:=hold_snapx (k:=14) K6 snap_encs
  have c10:=t_eqInts hG ((ksP ps' x.f x.a).getD []) ((ksP ps' x.f x.a).getD []) (by omega) t6k false false false
  have keyB:=t_gn_b hG ((ksP ps' x.f x.a).getD []).length (by omega) H5.next (by omega) kv (encs ((ksP ps' x.f x.a).getD [])) (.fs false false l.length (encs l)) (.p 3 0) (.p 4 0) (.p 6 0) (.i .i64 i) H6 K6
  have kvlo:=fun id a b hv=>(hold_lt K6 id a b hv).1
  simp at c10
  simp -implicitDefEqProofs [hlt2,hlt3,hx,hx2,c6,c7,c8,c9,c10,gb6,s6,s6k,ldE_eq,ldP_fp]
  refine keyB _ ?_
  intro H7 w7 n7 f7
  have f57:∀ id,id<H5.next→H7.get id=H5.get id:=fun id h=>(f7 id fun y z hv=>by have:=kvlo id y z hv;omega).trans (f6 id h)
  obtain⟨pa7,po7,ga7,go7,gb7,ma7,mo7,lb7⟩:=T H7 (by omega) f57
  obtain⟨kv2,H8,c11,n8,K8,f8⟩:=t_kindsM hG (i+1) (by omega) ps' okp x.f x.a 2 3 es' (GnP sv') H7.next H7 pa7 ga7 ma7 (Nat.le_refl _)
  have f58:∀ id,id<H5.next→H8.get id=H5.get id:=fun id h=>(f8 id (by omega)).trans (f57 id h)
  obtain⟨pa8,po8,ga8,go8,gb8,ma8,mo8,lb8⟩:=T H8 (by omega) f58
  obtain⟨t8,cs8,s8,S8⟩:=lst_snap (k:=12) lb8
  have s8:snapV H8 15 sv'=some (.fs t8 false ps'.length cs8):=s8
  have c12:=t_kinds22 hG ps' (by have:=okp.1;omega) (fun p hp=>by have:=(okp.2 p hp).2.2;omega) cs8 S8 t8 x.f x.a
  obtain⟨t8k,s8k⟩:=hold_snapx (k:=14) K8 snap_encs
  have c13:=t_eqInts hG ((ksP ps' x.f x.a).getD []) ((ksP ps' x.f x.a).getD []) (by omega) t8k false false false
  simp at c13
  simp -implicitDefEqProofs [hlt2,hlt3,hx,hx2,c11,c12,c13,gb8,s8,s8k,ldE_eq,ldP_fp]
  exact⟨by omega,by omega,pa8,po8,ps',qs',es',eo',sv',okp,okq,ga8,go8,gb8,ma8,mo8,lb8⟩
 ·rintro e H' ⟨rfl,hi,hS⟩
  simp -implicitDefEqProofs [L3c]
  exact hQ l.length _ H'
 ·exact⟨rfl,by omega,hst⟩
theorem t_guessNotes(cw:pureR IP G 15 []=some (.b true))(l:List Seen)(hl:l.length<1048576)(hok:∀ x∈l,okSeen x) :
  ∃ H',Brings IP G G.next 3 [.fs false false l.length (encs l)] G (.b true) H':=by
 have c1:=t_newM hG (H:=G) (by omega)
 obtain⟨H1,hH1⟩:∃ H1,H1=(G.push (.map [])).push (.cells [.m G.next] 1 false):=⟨_,rfl⟩
 rw[←hH1] at c1
 have n1:H1.next=4:=by rw[hH1];simp -implicitDefEqProofs [hG]
 have c2:=t_new22 hG (H:=H1) (by omega)
 obtain⟨H2,hH2⟩:∃ H2,H2=H1.push (.cells [.ns] 1 false):=⟨_,rfl⟩
 rw[←hH2] at c2
 have n2:H2.next=5:=by rw[hH2];simp -implicitDefEqProofs [n1]
 have c3:=t_newM hG (H:=H2) (by omega)
 obtain⟨H3,hH3⟩:∃ H3,H3=(H2.push (.map [])).push (.cells [.m H2.next] 1 false):=⟨_,rfl⟩
 rw[←hH3] at c3
 have n3:H3.next=7:=by rw[hH3];simp -implicitDefEqProofs [n2]
 have hst:GnSt 0 H3:=by
  refine⟨by omega,?_,?_,[],[],[],[],.ns,⟨by simp,by simp⟩,⟨by simp,by simp⟩,?_,?_,?_,rfl,rfl,[],acc_none,rfl,fun id a b h=>by cases h⟩
  ·rw[hH3,hH2,hH1];simp -implicitDefEqProofs [hG]
  ·rw[hH3,hH2,hH1];simp -implicitDefEqProofs [hG]
  ·rw[hH3,hH2,hH1];simp -implicitDefEqProofs [hG]
  ·rw[hH3,hH2,hH1];simp -implicitDefEqProofs [hG]
  ·rw[hH3,hH2,hH1];simp -implicitDefEqProofs [hG]
 have key:=t_gn_c hG l hl hok
 rw[hG] at c1
 rw[n1] at c2
 rw[n2] at c3
 refine law_brings ip3 rfl rfl ?_
 simp -implicitDefEqProofs [I3,hG,c1,c2,c3]
 refine key _ ?_ H3 hst
 intro i w H'
 simp -implicitDefEqProofs [cw]
end
end Go.Proofs.YtfhpkckjkofaoaaDoor
namespace Go.Proofs.YtfhpkckjkofaoaaDoor
open Go
noncomputable def G1:RI.AHeap:=(RI.G0 2).put 0 (some (.cells [.i .i64 0,.s [],.b false] 1 true))
end Go.Proofs.YtfhpkckjkofaoaaDoor
namespace Go.RI
open Go
theorem pure_closed{tab:List (Nat×IFunc)}{G:AHeap}{f k:Nat}{fn:IFunc}(hf:tabIP tab f=some fn)(hm:fn.mode=2)(h:isTrueP (callK (buildT tab) G k G.next f [] G)=true):pureR (tabIP tab) G f []=some (.b true):=by
 obtain⟨n,hn⟩:=closed_pure hf hm h G.next G
 simp only[acall,callI,callB,hf,hm] at hn
 simp only[mapO] at hn
 split at hn
 ·rename_i u H1 hb
  split at hn
  ·rename_i v' hv
   cases hn
   exact pureR_some ⟨fn,n,u,H1,hf,hb,hv⟩
  ·cases hn
 ·cases hn
end Go.RI
namespace Go.Proofs.YtfhpkckjkofaoaaDoor
open Go
theorem works_run:RI.isTrueP (RI.callK (RI.buildT tab) G1 100000 2 15 [] G1)=true:=by kernel_rfl
theorem works_pure:RI.pureR IP G1 15 []=some (.b true):=RI.pure_closed ip15 rfl works_run
end Go.Proofs.YtfhpkckjkofaoaaDoor
