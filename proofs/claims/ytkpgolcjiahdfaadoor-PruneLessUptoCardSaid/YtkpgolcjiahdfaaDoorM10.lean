import Derived.Test.YtkpgolcjiahdfaaDoorM09
import Derived.Test.YtkpgolcjiahdfaaDoorM08
import Derived.Test.YtkpgolcjiahdfaaDoorM07
set_option linter.unusedVariables false
set_option linter.unusedSimpArgs false
set_option linter.unusedSectionVars false
/- What prune.once's loop brings. Conditions: none. -/
namespace Go.Proofs.YtkpgolcjiahdfaaDoor
open Go Go.RI
def oenv(d:Nat)(x:Pce)(t1:Bool)(i:Int):Env:=[(1,.p d 0),(3,.p (d+1) 0),(4,.p (d+4) 0),(5,.p (d+5) 0),(6,.fn (.func 39) [] [.p (d+6) 0]),(16,.fs t1 false x.ins.length (encs x.ins)),(17,.i .i64 x.ins.length),(18,.i .i64 i)]
section
variable {G:AHeap} (hG:G.next=2)
include hG
theorem once_end{d:Nat}{s:OS}{ov pv:AVal}{cs:List AVal}{PB:List OpB}{H0 H4 H5:AHeap}(hI:OnceI d s ov pv cs PB H4)(y:OpB)(hy:okB y)(id0:Nat)(h0:H4.next≤id0)(hn:H4.next≤H5.next)(hacc:Acc H5 (d+7) (.sl id0 0 (PB.length+1) none) 7 (PB.length+1) (encs PB++Enc.cells y))(hf:∀ id,id<H4.next→(∀ id0 n0 c0,pv=.sl id0 0 n0 c0→id≠id0)→H5.get id=H4.get id)(hle:H0.next≤H4.next)(hfr:∀ id,id<d+3→H4.get id=H0.get id){K:OS}(hK:K=⟨s.k,s.pl++[y.o]⟩) :
  H0.next≤H5.next∧(∀ id,id<d+3→(if id=d+5 then some (.cells [.sl id0 0 (PB.length+1) none] 1 false) else H5.get id)=H0.get id)∧∃ ov' pv' cs' PB',OnceI d K ov' pv' cs' PB' (H5.put (d+5) (some (.cells [.sl id0 0 (PB.length+1) none] 1 false))):=by
 have nx:=hI.mf.nx
 refine⟨by omega,fun id hid=>?_,_,_,_,_,by rw[hK];exact once_place hG hI y hy id0 h0 hn hacc hf⟩
 rw[if_neg (by omega),hf id (by omega) fun id0 n0 c0 hv=>by have:=acc_lt hI.acc _ _ _ hv;omega]
 exact hfr id hid
set_option maxHeartbeats 4000000 in
theorem t_once_loop(d:Nat)(hd0:2≤d)(x:Pce)(hx:okPce x)(hc:checkP x=true)(t1:Bool)(Q:Post)(H:AHeap)(h0:∃ ov pv cs PB,OnceI d ⟨ks0 x.homes,[]⟩ ov pv cs PB H)
    (hQ:∀ w H' ov pv cs PB,OnceI d (onceO x) ov pv cs PB H'→H.next≤H'.next→(∀ id,id<d+3→H'.get id=H.get id)→Q (.exit 0) [(1,.p d 0),(3,.p (d+1) 0),(4,.p (d+4) 0),(5,.p (d+5) 0),(6,.fn (.func 39) [] [.p (d+6) 0]),(16,.fs t1 false x.ins.length (encs x.ins)),(17,.i .i64 x.ins.length),(18,.i .i64 x.ins.length),(19,w)] H') :
    wp (theCalls IP G d) d (.loop L19a) Q (oenv d x t1 0) H:=by
  have hfits:=check_fits hc
  have hnum:=(checkP_iff.1 hc).1
  have hins:x.ins.length≤4096∧0≤x.homes∧x.homes≤64:=by unfold numsP at hnum;omega
  refine wp_loop_list (l:=x.ins) (by omega) (fun i todo e H'=>e=oenv d x t1 i∧H.next≤H'.next∧(∀ id,id<d+3→H'.get id=H.get id)∧∃ s ov pv cs PB,s=onceG ⟨ks0 x.homes,[]⟩ (x.ins.take i)∧GoodO x.homes s i∧OnceI d s ov pv cs PB H') ?_ ?_ ?_
  · rintro i t todo e H' hs hdr hlt hlt2 hlt3 ⟨rfl,hnx,hfr,s,ov,pv,cs,PB,hf,hg,hI⟩
    have hfs:=hfits _ t hs
    have hok:=hx.1 t (List.mem_of_getElem? hs)
    have hsl:=fits_most hfs
    have nx:=hI.mf.nx
    have n3:2≤H'.next:=by omega
    have n4:d≤H'.next:=by omega
    have hsi:i<x.ins.length:=lt_of_get hs
    have hfn:onceG ⟨ks0 x.homes,[]⟩ (x.ins.take (i+1))=onceS s t:=by rw[List.take_add_one,hs,onceG_app,←hf];rfl
    rw[hfn]
    have hgn:=onceS_good hg hfs
    obtain⟨H1,hH1⟩:∃ H1,H1=(H'.push (.cells [.i .i64 0,.i .i64 0,.ns,.s [],.ns] 1 false)).put H'.next (some (.cells (Enc.cells t) 1 false)):=⟨_,rfl⟩
    have hk1:∀ id,id<H'.next→H1.get id=H'.get id:=fun id h=>by rw[hH1];simp -implicitDefEqProofs [show ¬ id=H'.next by omega]
    have q3:H1.get H'.next=some (.cells (Enc.cells t) 1 false):=by rw[hH1];simp
    have q4:H1.next=H'.next+1:=by rw[hH1];simp
    have hI1:=once_box hG hI (H':=H1) (by omega) hk1
    obtain⟨tb,s1⟩:=once_snap hG hI1
    have c1:=t_pturn hG t.l (by omega) s.pl (fun o ho hk=>by have:=opnFits_step (fits_all hfs o ho) hk;rw[hg.pl];omega) (fun o ho=>by
      have:=opn_bulk (turnO_fitsP hg.pl hg.plfit (fits_all hfs o ho))
      omega) false false tb
    obtain⟨j,hj⟩:∃ j,j=turnS s.pl t:=⟨_,rfl⟩
    have hjl:j.l=t.l.map (turnO s.pl):=by rw[hj];rfl
    have hj1:j.op=t.op∧j.n=t.n∧j.s=t.s∧j.names=t.names:=by rw[hj];exact⟨rfl,rfl,rfl,rfl⟩
    obtain⟨e1,e2,e3,e4⟩:=hj1
    have hlen:j.l.length=t.l.length:=by rw[hjl];simp
    rw[←hjl] at c1
    have hjf:=turnS_fitsP hg.pl hg.plfit hfs
    rw[←hj] at hjf
    have hoj:onceS s t=onceJ s j:=by rw[hj];rfl
    rw[hoj] at hgn ⊢
    simp at hH1 q3 s1 c1
    clear hlt
    simp -implicitDefEqProofs [oenv,L19a,hlt2,hlt3,hs,n3,n4,←hH1,q3,s1,c1]
    refine step_clone (lo':=H'.next+1) (by simp) (by omega) (by omega) (by have:=bulkS_len t.names;have:=hok.1;omega) (by omega) ?_
    intro nv H2 hn2 hN hnew hf2
    have hk2:∀ id,id<H'.next→H2.get id=H'.get id:=fun id h=>(hf2 id (by omega)).trans (hk1 id h)
    have r3:H2.get H'.next=some (.cells (Enc.cells t) 1 false):=(hf2 H'.next (by omega)).trans q3
    obtain⟨o1,o2⟩:=hold_one hN
    obtain⟨H3,hH3⟩:∃ H3,H3=((H2.put H'.next (some (.cells [.i .i64 t.op,.i .i64 t.n,.fs false false t.l.length (encs j.l),.s t.s,.fs false false t.names.length (encs t.names)] 1 false))).put H'.next (some (.cells [.i .i64 t.op,.i .i64 t.n,.fs false false t.l.length (encs j.l),.s t.s,nv] 1 false))):=⟨_,rfl⟩
    have hk3:∀ id,id<H'.next→H3.get id=H'.get id:=fun id h=>by rw[hH3];simp -implicitDefEqProofs [show ¬ id=H'.next by omega];exact hk2 id h
    have v1:H3.get H'.next=some (.cells [.i .i64 t.op,.i .i64 t.n,.fs false false t.l.length (encs j.l),.s t.s,nv] 1 false):=by rw[hH3];simp
    have v3:H3.next=H2.next:=by rw[hH3];simp
    have hI3:=once_box hG hI (H':=H3) (by omega) hk3
    have hN3:Hold H3 (H'.next+1) nv 1 t.names.length (encs t.names):=hold_in hN (Nat.le_refl _) (by omega) fun id h1 h2=>by rw[hH3];simp -implicitDefEqProofs [show ¬ id=H'.next by omega]
    have sM:snapV H3 14 nv=some (.fs (snapW nv t.names.length) false t.names.length (encs t.names)):=hold_snapW (k:=13) hN3 snap_encs
    have sN:snapV H3 15 nv=some (.fs (snapW nv t.names.length) false t.names.length (encs t.names)):=hold_snapW (k:=14) hN3 snap_encs
    obtain⟨ta,tc,cs2,hT2,sv,sh⟩:=mkk_snap hG hI3.mf 11
    obtain⟨cs3,hT3,sr⟩:=mkk_row hG hI3.mf 13
    have hhs:s.k.hs.length=x.homes.toNat:=by rw[hg.k,facts_hs]
    have c2:=t_psure hG s.k cs2 hT2 ta tc j (by omega) (fun o ho=>⟨fun hk=>by have:=opnFits_home (fits_all hjf o ho) hk;omega,fun hk=>by have:=opnFits_step (fits_all hjf o ho) hk;omega⟩) false (snapW nv t.names.length)
    have hjb:∀ o∈j.l,o.v.bulk<1099511627776:=fun o ho=>by have:=opn_bulk (fits_all hjf o ho);omega
    have hnl:t.names.length<1099511627776:=by have:=bulkS_len t.names;have:=hok.1;omega
    have c3:=t_pidxS hG j (by omega) (by rw[e4];exact hnl) hjb false (snapW nv t.names.length) s.k.l (by have:=hg.le;omega) cs3 hT3 (decide (0<s.k.l.length))
    rw[e1,e2,e3,e4,hlen] at c2 c3
    have gM3:=hI3.mf.gM
    have g53:=hI3.g5
    simp at hH3 r3 sN sM
    simp -implicitDefEqProofs [r3,o1,o2,n4,←hH3]
    have hpi:PB.length=i:=by have:=congrArg List.length hI.pb;simp at this;rw[this];exact hg.pl
    have hSl:SlT H3 (Ak (d+7) (Rw pv) ov) nv 1 j.names.length (encs j.names):=by
      rw[e4]
      refine slT_of (hold_sl hN3 fun id c hv=>⟨⟨by have:=hold_lt hN3 _ _ _ hv;omega,fun hr=>?_⟩,fun j m c2 hj=>?_⟩)
      · obtain⟨m,c2,hp⟩:=hr
        have:=acc_lt hI.acc _ _ _ hp
        have:=hold_lt hN3 _ _ _ hv
        omega
      · have:=acc_lt hI.mf.acc _ _ _ hj
        have:=hold_lt hN3 _ _ _ hv
        omega
    by_cases hsu:t.op=40∧sureK s.k j=true
    · obtain⟨o,hjo⟩:=one_len (fits_hands hjf (by rw[e1];omega))
      have hl0:0<t.l.length:=by rw[←hlen,hjo];simp
      have hne:¬ t.l=[]:=fun h=>by rw[h] at hl0;simp at hl0
      have hld:(encs j.l).take 7=Enc.cells o:=by rw[hjo];simp
      have hle:7≤j.l.length*7:=by rw[hjo];simp
      simp at hld
      rw[hsu.2,hsu.1] at c2
      rw[hsu.1] at v1
      have hst:onceJ s j=⟨s.k,s.pl++[o]⟩:=by unfold onceJ;rw[if_pos ⟨e1.trans hsu.1,hsu.2⟩,hjo];rfl
      simp -implicitDefEqProofs [v1,sv,sh,sN,c2,gM3,g53,hl0,hne,hld,hle]
      refine step_app (lo':=d+7) (acc_keep hI3.acc (by simp<;>omega) ?_) (m:=1) (ys:=Enc.cells o) (by omega) (by simp<;>omega) (more_lit (cs:=Enc.cells o) (e:=7) (ro:=false) (by simp) (by simp) (by omega)) (by simp) (by omega) (by omega) (by omega) (by omega) ?_
      · intro id a b hv
        have:=acc_lt hI3.acc id a b hv
        simp -implicitDefEqProofs [show ¬ id=H3.next by omega,show ¬ id=H3.next+1 by omega]
      intro H5 hn5 acc5 hf5
      have f5:∀ id,id<H3.next→(∀ id0 n0 c0,pv=.sl id0 0 n0 c0→id≠id0)→H5.get id=H3.get id:=fun id h1 h2=>by
        rw[hf5 id (by simp<;>omega) h2]
        simp -implicitDefEqProofs [show ¬ id=H3.next by omega,show ¬ id=H3.next+1 by omega]
      have y5:=(f5 (d+5) (by omega) fun id0 n0 c0 hv=>by have:=acc_lt hI3.acc _ _ _ hv;omega).trans hI3.g5
      simp at hn5 acc5
      simp -implicitDefEqProofs [hlt3,y5]
      obtain⟨r1,r2,r3⟩:=once_end hG hI3 ⟨o,false⟩ (fun h=>by cases h) (H3.next+1) (by omega) (by omega) (by simpa using acc5) f5 (H0:=H) (K:=onceJ s j) (by omega) (fun id hid=>(hk3 id (by omega)).trans (hfr id hid)) (hst)
      exact⟨r1,r2,hgn,r3⟩
    have hst0:¬(j.op=40∧sureK s.k j=true):=by rw[e1];exact hsu
    by_cases h40:t.op=40
    rotate_left
    by_cases h23:t.op=23
    rotate_left
    · by_cases hi:idxS s.k.l j<0
      · have hpl:placeF s.k.l.length j=stO s.k.l.length:=by unfold placeF;rw[if_neg (by omega)]
        have hst:onceJ s j=⟨addK s.k j,s.pl++[placeF s.k.l.length j]⟩:=by unfold onceJ;rw[if_neg hst0,if_pos hi]
        obtain⟨v,H4,hcall,rfl,jj,cs',hM4,hnt,hj4,hn4,hf4⟩:=t_padd hG hI3.mf (c0:=d) (by omega) (by omega) j x.homes s.k.l.length hjf hhs (by have:=hg.le;omega) false false nv hSl
        have hI4:=once_add hG hI3 hM4 hj4 hn4 (hnt rfl (hold_noTmp hN3) hI3.nt) hf4
        have v4:=(hf4 H'.next (by omega) (by omega) (by omega) fun j m c hv=>by have:=acc_lt hI.mf.acc _ _ _ hv;omega).trans v1
        rw[e1,e2,e3,hlen] at hcall
        have n5:¬ H'.next=H4.next:=by omega
        have n6:d≤H4.next:=by omega
        have n7:¬ d+5=H4.next:=by omega
        simp -implicitDefEqProofs [v1,h40,sr,sM,c3,hi,gM3,hold_len hI3.mf.acc.hold,hcall,h23,h40,v4,n5,n6,n7,hI4.g5]
        refine step_app (lo':=d+7) (acc_keep hI4.acc (by simp<;>omega) ?_) (m:=1) (ys:=Enc.cells (⟨stO s.k.l.length,true⟩:OpB)) (by omega) (by simp<;>omega) (more_lit (cs:=Enc.cells (⟨stO s.k.l.length,true⟩:OpB)) (e:=7) (ro:=false) (by simp -implicitDefEqProofs [stO,zeroVal]) (by simp) (by omega)) (by simp) (by omega) (by omega) (by omega) (by omega) ?_
        · intro id a b hv
          have:=acc_lt hI4.acc id a b hv
          simp -implicitDefEqProofs [show ¬ id=H4.next by omega,show ¬ id=H4.next+1 by omega]
        intro H5 hn5 acc5 hf5
        have f5:∀ id,id<H4.next→(∀ id0 n0 c0,pv=.sl id0 0 n0 c0→id≠id0)→H5.get id=H4.get id:=fun id h1 h2=>by
          rw[hf5 id (by simp<;>omega) h2]
          simp -implicitDefEqProofs [show ¬ id=H4.next by omega,show ¬ id=H4.next+1 by omega]
        have y5:=(f5 (d+5) (by omega) fun id0 n0 c0 hv=>by have:=acc_lt hI4.acc _ _ _ hv;omega).trans hI4.g5
        simp at hn5 acc5
        simp -implicitDefEqProofs [hlt3,y5]
        obtain⟨r1,r2,r3⟩:=once_end hG hI4 ⟨stO s.k.l.length,true⟩ (fun _=>⟨rfl,rfl⟩) (H4.next+2) (by omega) (by omega) (by simpa using acc5) f5 (H0:=H) (K:=onceJ s j) (by omega) (fun id hid=>(hf4 id (by omega) (by omega) (by omega) fun j m c hv=>by have:=acc_lt hI3.mf.acc _ _ _ hv;omega).trans ((hk3 id (by omega)).trans (hfr id hid))) (by rw[hst,hpl])
        exact⟨r1,r2,hgn,r3⟩
      · obtain⟨m,hm⟩:∃ m:Nat,idxS s.k.l j=m:=⟨(idxS s.k.l j).toNat,by omega⟩
        rw[hm] at c3
        have hst:onceJ s j=⟨s.k,s.pl++[placeF m j]⟩:=by unfold onceJ;rw[if_neg hst0,if_neg hi,hm];rfl
        have hpl:placeF m j=stO m:=by unfold placeF;rw[if_neg (by omega)]
        have hi':¬(m:Int)<0:=by omega
        have n5:¬ H'.next=H3.next:=by omega
        have n6:d≤H3.next:=by omega
        have n7:¬ d+5=H3.next:=by omega
        simp -implicitDefEqProofs [v1,h40,sr,sM,c3,hi',gM3,h23,h40,v1,n5,n6,n7,hI3.g5]
        refine step_app (lo':=d+7) (acc_keep hI3.acc (by simp<;>omega) ?_) (m:=1) (ys:=Enc.cells (⟨stO m,true⟩:OpB)) (by omega) (by simp<;>omega) (more_lit (cs:=Enc.cells (⟨stO m,true⟩:OpB)) (e:=7) (ro:=false) (by simp -implicitDefEqProofs [stO,zeroVal]) (by simp) (by omega)) (by simp) (by omega) (by omega) (by omega) (by omega) ?_
        · intro id a b hv
          have:=acc_lt hI3.acc id a b hv
          simp -implicitDefEqProofs [show ¬ id=H3.next by omega,show ¬ id=H3.next+1 by omega]
        intro H5 hn5 acc5 hf5
        have f5:∀ id,id<H3.next→(∀ id0 n0 c0,pv=.sl id0 0 n0 c0→id≠id0)→H5.get id=H3.get id:=fun id h1 h2=>by
          rw[hf5 id (by simp<;>omega) h2]
          simp -implicitDefEqProofs [show ¬ id=H3.next by omega,show ¬ id=H3.next+1 by omega]
        have y5:=(f5 (d+5) (by omega) fun id0 n0 c0 hv=>by have:=acc_lt hI3.acc _ _ _ hv;omega).trans hI3.g5
        simp at hn5 acc5
        simp -implicitDefEqProofs [hlt3,y5]
        obtain⟨r1,r2,r3⟩:=once_end hG hI3 ⟨stO m,true⟩ (fun _=>⟨rfl,rfl⟩) (H3.next+2) (by omega) (by omega) (by simpa using acc5) f5 (H0:=H) (K:=onceJ s j) (by omega) (fun id hid=>(hk3 id (by omega)).trans (hfr id hid)) (by rw[hst,hpl])
        exact⟨r1,r2,hgn,r3⟩
    all_goals
      first
        | (have hz:sureK s.k j=false:=Bool.eq_false_iff.2 fun e=>hsu ⟨h40,e⟩
           rw[hz] at c2
           have hh:=h40
           clear h40)
        | (have hh:=h23)
      obtain⟨o,hjo⟩:=one_len (fits_hands hjf (by rw[e1];omega))
      have hl0:0<t.l.length:=by rw[←hlen,hjo];simp
      have hne:¬ t.l=[]:=fun h=>by rw[h] at hl0;simp at hl0
      have hld:(encs j.l).take 7=Enc.cells o:=by rw[hjo];simp
      have hle:7≤j.l.length*7:=by rw[hjo];simp
      simp at hld
      rw[hh] at v1 c2 c3
      by_cases hi:idxS s.k.l j<0
      · have hpl:placeF s.k.l.length j=o:=by unfold placeF;rw[if_pos (by omega),hjo];rfl
        have hst:onceJ s j=⟨addK s.k j,s.pl++[placeF s.k.l.length j]⟩:=by unfold onceJ;rw[if_neg hst0,if_pos hi]
        obtain⟨v,H4,hcall,rfl,jj,cs',hM4,hnt,hj4,hn4,hf4⟩:=t_padd hG hI3.mf (c0:=d) (by omega) (by omega) j x.homes s.k.l.length hjf hhs (by have:=hg.le;omega) false false nv hSl
        have hI4:=once_add hG hI3 hM4 hj4 hn4 (hnt rfl (hold_noTmp hN3) hI3.nt) hf4
        have v4:=(hf4 H'.next (by omega) (by omega) (by omega) fun j m c hv=>by have:=acc_lt hI.mf.acc _ _ _ hv;omega).trans v1
        rw[e1,e2,e3,hlen,hh] at hcall
        have n5:¬ H'.next=H4.next:=by omega
        have n6:d≤H4.next:=by omega
        have n7:¬ d+5=H4.next:=by omega
        simp -implicitDefEqProofs [v1,sv,sh,sN,c2,sr,sM,c3,hi,gM3,hold_len hI3.mf.acc.hold,hcall,hh,v4,n5,n6,n7,hI4.g5,hl0,hne,hld,hle]
        refine step_app (lo':=d+7) (acc_keep hI4.acc (by simp<;>omega) ?_) (m:=1) (ys:=Enc.cells o) (by omega) (by simp<;>omega) (more_lit (cs:=Enc.cells o) (e:=7) (ro:=false) (by simp) (by simp) (by omega)) (by simp) (by omega) (by omega) (by omega) (by omega) ?_
        · intro id a b hv
          have:=acc_lt hI4.acc id a b hv
          simp -implicitDefEqProofs [show ¬ id=H4.next by omega,show ¬ id=H4.next+1 by omega]
        intro H5 hn5 acc5 hf5
        have f5:∀ id,id<H4.next→(∀ id0 n0 c0,pv=.sl id0 0 n0 c0→id≠id0)→H5.get id=H4.get id:=fun id h1 h2=>by
          rw[hf5 id (by simp<;>omega) h2]
          simp -implicitDefEqProofs [show ¬ id=H4.next by omega,show ¬ id=H4.next+1 by omega]
        have y5:=(f5 (d+5) (by omega) fun id0 n0 c0 hv=>by have:=acc_lt hI4.acc _ _ _ hv;omega).trans hI4.g5
        simp at hn5 acc5
        simp -implicitDefEqProofs [hlt3,y5]
        obtain⟨r1,r2,r3⟩:=once_end hG hI4 ⟨o,false⟩ (fun h=>by cases h) (H4.next+2) (by omega) (by omega) (by simpa using acc5) f5 (H0:=H) (K:=onceJ s j) (by omega) (fun id hid=>(hf4 id (by omega) (by omega) (by omega) fun j m c hv=>by have:=acc_lt hI3.mf.acc _ _ _ hv;omega).trans ((hk3 id (by omega)).trans (hfr id hid))) (by rw[hst,hpl])
        exact⟨r1,r2,hgn,r3⟩
      · obtain⟨m,hm⟩:∃ m:Nat,idxS s.k.l j=m:=⟨(idxS s.k.l j).toNat,by omega⟩
        rw[hm] at c3
        have hst:onceJ s j=⟨s.k,s.pl++[placeF m j]⟩:=by unfold onceJ;rw[if_neg hst0,if_neg hi,hm];rfl
        have hpl:placeF m j=o:=by unfold placeF;rw[if_pos (by omega),hjo];rfl
        have hi':¬(m:Int)<0:=by omega
        have n5:¬ H'.next=H3.next:=by omega
        have n6:d≤H3.next:=by omega
        have n7:¬ d+5=H3.next:=by omega
        simp -implicitDefEqProofs [v1,sv,sh,sN,c2,sr,sM,c3,hi',gM3,hh,v1,n5,n6,n7,hI3.g5,hl0,hne,hld,hle]
        refine step_app (lo':=d+7) (acc_keep hI3.acc (by simp<;>omega) ?_) (m:=1) (ys:=Enc.cells o) (by omega) (by simp<;>omega) (more_lit (cs:=Enc.cells o) (e:=7) (ro:=false) (by simp) (by simp) (by omega)) (by simp) (by omega) (by omega) (by omega) (by omega) ?_
        · intro id a b hv
          have:=acc_lt hI3.acc id a b hv
          simp -implicitDefEqProofs [show ¬ id=H3.next by omega,show ¬ id=H3.next+1 by omega]
        intro H5 hn5 acc5 hf5
        have f5:∀ id,id<H3.next→(∀ id0 n0 c0,pv=.sl id0 0 n0 c0→id≠id0)→H5.get id=H3.get id:=fun id h1 h2=>by
          rw[hf5 id (by simp<;>omega) h2]
          simp -implicitDefEqProofs [show ¬ id=H3.next by omega,show ¬ id=H3.next+1 by omega]
        have y5:=(f5 (d+5) (by omega) fun id0 n0 c0 hv=>by have:=acc_lt hI3.acc _ _ _ hv;omega).trans hI3.g5
        simp at hn5 acc5
        simp -implicitDefEqProofs [hlt3,y5]
        obtain⟨r1,r2,r3⟩:=once_end hG hI3 ⟨o,false⟩ (fun h=>by cases h) (H3.next+2) (by omega) (by omega) (by simpa using acc5) f5 (H0:=H) (K:=onceJ s j) (by omega) (fun id hid=>(hk3 id (by omega)).trans (hfr id hid)) (by rw[hst,hpl])
        exact⟨r1,r2,hgn,r3⟩
  · rintro e H' ⟨rfl,hnx,hfr,s,ov,pv,cs,PB,hf,hg,hI⟩
    rw[List.take_length] at hf
    subst hf
    simp -implicitDefEqProofs [oenv,L19a]
    exact hQ _ H' ov pv cs PB hI hnx hfr
  · obtain⟨ov,pv,cs,PB,hI⟩:=h0
    exact⟨rfl,Nat.le_refl _,fun _ _=>rfl,_,ov,pv,cs,PB,rfl,os0_good,hI⟩
end
end Go.Proofs.YtkpgolcjiahdfaaDoor
namespace Go.Proofs.YtkpgolcjiahdfaaDoor
open Go Go.RI
def onceX(x:Pce):Pce:={ x with sets:=x.sets.map (turnO (onceO x).pl),cond:=turnO (onceO x).pl x.cond }
section
variable {G:AHeap} (hG:G.next=2)
include hG
theorem once_low{d:Nat}{s:OS}{ov pv:AVal}{cs:List AVal}{PB:List OpB}{H H':AHeap}(hI:OnceI d s ov pv cs PB H)(hn:H.next≤H'.next)(hk:∀ id,d+3≤id→id<H.next→H'.get id=H.get id):OnceI d s ov pv cs PB H' :=
 have nx:=hI.mf.nx
 { mf:={ gM:=(hk _ (by omega) (by omega)).trans hI.mf.gM,gH:=(hk _ (by omega) (by omega)).trans hI.mf.gH,nx:=by omega,lt:=hI.mf.lt,acc:=acc_keep hI.mf.acc hn fun id a b hv=>by have:=acc_lt hI.mf.acc _ _ _ hv;exact hk id (by omega) this.2,out:=outS_keep hn (fun id h1 h2=>⟨hk id (by have:=h1.1.1;omega) h2,h1⟩) _ _ hI.mf.out },g5:=(hk _ (by omega) (by omega)).trans hI.g5,g6:=(hk _ (by omega) (by omega)).trans hI.g6,pb:=hI.pb,ok:=hI.ok,acc:=acc_keep hI.acc hn fun id a b hv=>by have:=acc_lt hI.acc _ _ _ hv;exact hk id (by omega) this.2,dis:=hI.dis,nt:=hI.nt }
set_option maxHeartbeats 1000000 in
theorem t_once(x:Pce)(hx:okPce x)(hc:checkP x=true)(t1 t2:Bool)(H:AHeap)(hH:2≤H.next) :
  ∃ v H',(∀ lo,theCalls IP G lo 19 [.ag (pceC x t1 t2 false false)] H=some (v,H'))∧v=.tu [.p (H.next+4) 0,.ag (pceC (onceX x) t1 false false false)]∧H.next≤H'.next∧(∀ id,id<H.next→H'.get id=H.get id)∧∃ ov pv cs PB,OnceI H.next (onceO x) ov pv cs PB H':=by
 have hck:=checkP_iff.1 hc
 have hnum:=hck.1
 unfold numsP at hnum
 obtain⟨n,hn⟩:∃ n:Nat,x.homes=n:=⟨x.homes.toNat,by omega⟩
 have hx0:=hx
 obtain⟨ho1,ho2,ho3,ho4,ho5⟩:=hx
 refine calls_one_of ip19 rfl rfl ?_
 rw[ends_fin]
 obtain⟨H1,hH1⟩:∃ H1,H1=(H.push (.cells (pceC x t1 t2 false false) 1 false)).push (.cells [.i .i64 0,.i .i64 0,.i .i64 0,.i .i64 0,.ns,.ns,.i .i64 0,.i .i64 0,.i .i64 0,.i .i64 0,.i .i64 0,.i .i64 0,.s [],.ns,.ns,.i .i64 0] 1 false):=⟨_,rfl⟩
 have h1n:H1.next=H.next+2:=by rw[hH1];simp
 have h1k:∀ id,id<H.next→H1.get id=H.get id:=fun id h=>by rw[hH1];simp -implicitDefEqProofs [show ¬ id=H.next by omega,show ¬ id=H.next+1 by omega]
 have h10:H1.get H.next=some (.cells (pceC x t1 t2 false false) 1 false):=by rw[hH1];simp
 have h11:∃ z,z.length=16∧H1.get (H.next+1)=some (.cells z 1 false):=⟨[.i .i64 0,.i .i64 0,.i .i64 0,.i .i64 0,.ns,.ns,.i .i64 0,.i .i64 0,.i .i64 0,.i .i64 0,.i .i64 0,.i .i64 0,.s [],.ns,.ns,.i .i64 0],rfl,by rw[hH1];simp⟩
 obtain⟨z,hz,h11⟩:=h11
 obtain⟨v,H2,hbeg,rfl,b1,b2,b3,b4⟩:=t_begun hG n (by omega) H1 (by omega)
 rw[h1n] at b1 b2 b3 hbeg
 have p10:=(b4 H.next (by omega)).trans h10
 have p11:=(b4 (H.next+1) (by omega)).trans h11
 simp only[pceC,hn] at hH1 h10 p10
 simp -implicitDefEqProofs [show H.next+2+2=H.next+4 by omega,show H.next+2+1=H.next+3 by omega,show H.next+2+3=H.next+5 by omega] at b1 b2 b3 hbeg
 have htu:=t_turner hG (H2.push (.cells [.ns] 1 false)) (H.next+5)
 simp -implicitDefEqProofs [b3] at htu
 obtain⟨H3,hH3⟩:∃ H3,H3=(H2.push (.cells [.ns] 1 false)).push (.cells [.p (H.next+5) 0] 1 false):=⟨_,rfl⟩
 have h3n:H3.next=H.next+7:=by rw[hH3];simp -implicitDefEqProofs [b3]
 have h3k:∀ id,id<H.next+5→H3.get id=H2.get id:=fun id h=>by rw[hH3];simp -implicitDefEqProofs [b3,show ¬ id=H.next+5 by omega,show ¬ id=H.next+6 by omega]
 have h35:H3.get (H.next+5)=some (.cells [.ns] 1 false):=by rw[hH3];simp -implicitDefEqProofs [b3]
 have h36:H3.get (H.next+6)=some (.cells [.p (H.next+5) 0] 1 false):=by rw[hH3];simp -implicitDefEqProofs [b3]
 have q10:=(h3k H.next (by omega)).trans p10
 have q11:=(h3k (H.next+1) (by omega)).trans p11
 rw[←hH3] at htu
 simp -implicitDefEqProofs [I19,pceC,hn,←hH1,h1n,h10,p10,hbeg,b3,htu,q10]
 have key:=t_once_loop hG H.next hH x hx0 hc t1
 simp only[oenv] at key
 refine key _ H3 ⟨.ns,.ns,[],[],?_⟩ ?_
 ·have hh:x.homes.toNat=n:=by omega
  exact{ mf:={ gM:=by rw[h3k _ (by omega),b1];simp -implicitDefEqProofs [ks0,hh],gH:=by rw[h3k _ (by omega),b2];simp -implicitDefEqProofs [ks0,hh],nx:=by omega,lt:=by omega,acc:=acc_none,out:=rfl },g5:=h35,g6:=h36,pb:=rfl,ok:=by simp,acc:=acc_none,dis:=(fun i m c h=>by cases h),nt:=noTmp_nil }
 ·intro w H4 ov pv cs PB hI hn4 hf4
  have r10:=(hf4 H.next (by omega)).trans q10
  have r11:=(hf4 (H.next+1) (by omega)).trans q11
  have hg:=onceO_good hc
  have hset:=List.all_eq_true.1 hck.2.2.2
  have hsl:x.sets.length≤64:=by omega
  obtain⟨tb,s1⟩:=once_snap hG hI
  have c2:=t_pturn hG x.sets (by omega) (onceO x).pl (fun o ho hk=>by have:=opnFits_step (hset o ho) hk;rw[hg.pl];omega) (fun o ho=>by
   have:=opn_bulk (turnO_fitsP hg.pl hg.plfit (hset o ho));omega) t2 false tb
  have hcd:(x.cond.kind=2→0≤x.cond.n∧x.cond.n<(onceO x).pl.length)∧(turnO (onceO x).pl x.cond).v.bulk<1099511627776:=by
   have hcond:=hck.2.2.1
   unfold condP at hcond
   by_cases he:x.exit=2
   ·rw[if_pos he] at hcond
    exact⟨fun hk=>by have:=opnFits_step hcond hk;rw[hg.pl];omega,by have:=opn_bulk (turnO_fitsP hg.pl hg.plfit hcond);omega⟩
   ·rw[if_neg he] at hcond
    simp only[Bool.and_eq_true,decide_eq_true_eq] at hcond
    have hk:¬ x.cond.kind=2:=by omega
    have e:turnO (onceO x).pl x.cond=x.cond:=by unfold turnO;rw[if_neg hk]
    rw[e]
    exact⟨fun h=>absurd h hk,ho5⟩
  have nx:=hI.mf.nx
  obtain⟨H5,hH5⟩:∃ H5,H5=H4.push (.cells (Enc.cells x.cond) 7 false):=⟨_,rfl⟩
  have h5n:H5.next=H4.next+1:=by rw[hH5];rfl
  have h5k:∀ id,id<H4.next→H5.get id=H4.get id:=fun id h=>by rw[hH5];exact get_push_lt h
  have h5r:H5.get H4.next=some (.cells (Enc.cells x.cond) 7 false):=by rw[hH5];simp
  have hI5:=once_box hG hI (H':=H5) (by omega) h5k
  obtain⟨tb,s1⟩:=once_snap hG hI5
  have c2:=t_pturn hG x.sets (by omega) (onceO x).pl (fun o ho hk=>by have:=opnFits_step (hset o ho) hk;rw[hg.pl];omega) (fun o ho=>by
   have:=opn_bulk (turnO_fitsP hg.pl hg.plfit (hset o ho));omega) t2 false tb
  have c3:=t_pturn hG [x.cond] (by simp) (onceO x).pl (fun o ho=>by simp at ho;subst ho;exact hcd.1) (fun o ho=>by simp at ho;subst ho;exact hcd.2) true false tb
  have s5:=(h5k H.next (by omega)).trans r10
  have nx5:¬ H4.next=H.next:=by omega
  have nn:∀ k,¬ H.next+k+1=H.next:=fun k=>by omega
  have e1:(onceX x).sets=x.sets.map (turnO (onceO x).pl):=rfl
  have e2:(onceX x).cond=turnO (onceO x).pl x.cond:=rfl
  have e3:(onceX x).func=x.func∧(onceX x).at_=x.at_∧(onceX x).many=x.many∧(onceX x).homes=x.homes∧(onceX x).ins=x.ins∧(onceX x).exit=x.exit∧(onceX x).to=x.to∧(onceX x).deep=x.deep:=⟨rfl,rfl,rfl,rfl,rfl,rfl,rfl,rfl⟩
  have t11:=(h5k (H.next+1) (by omega)).trans r11
  obtain⟨z0,z1,z2,z3,z4,z5,z6,z7,z8,z9,z10,z11,z12,z13,z14,z15,rfl⟩:=list16 hz
  simp at s1 c2 c3 hH5 h5r
  simp -implicitDefEqProofs [r10,←hH5,s1,c2,c3,h5r,s5,nx5,t11,e1,e2,e3,hn]
  refine⟨by omega,fun id hid=>?_,ov,pv,cs,PB,once_low hG hI5 (by simp) fun id h1 h2=>by simp -implicitDefEqProofs [show ¬ id=H.next by omega,show ¬ id=H.next+1 by omega]⟩
  simp only[show ¬ id=H.next by omega,show ¬ id=H.next+1 by omega,if_false]
  rw[h5k id (by omega),hf4 id (by omega),h3k id (by omega),b4 id (by omega),h1k id hid]
end
end Go.Proofs.YtkpgolcjiahdfaaDoor
namespace Go.Proofs.YtkpgolcjiahdfaaDoor
open Go Go.RI
section
variable {G:AHeap} (hG:G.next=2)
include hG
theorem markL_snoc:∀(l:List Opn) (out:List Bool) (o:Opn),markL out (l++[o])=if o.kind=2 then(markL out l).set o.n.toNat true else markL out l
 | [],out,o=>rfl
 | p::l,out,o=>by rw[List.cons_append,markL,markL_snoc l];rfl
set_option maxHeartbeats 1000000 in
theorem t_pmark(nd:List Bool)(l:List Opn)(hl:l.length<1000000)(hk:∀ o∈l,o.kind=2→0≤o.n∧o.n<nd.length)(lo o r:Nat)(lv:AVal)(H:AHeap)(hS:SlT H (fun id=>id≠r) lv 7 l.length (encs l))(g1:H.get o=some (.cells [.sl r 0 nd.length (some nd.length)] 1 false))(g2:H.get r=some (.cells (encs nd) 1 false))(hlo:lo≤r)(ho:o<H.next)(hr:r<H.next)(hor:o≠r) :
  ∃ v H',theCalls IP G lo 41 [lv,.p o 0] H=some (v,H')∧v=.tu []∧H.next≤H'.next∧H'.get r=some (.cells (encs (markL nd l)) 1 false)∧∀ id,id<H.next→id≠r→H'.get id=H.get id:=by
 have hln:∀ H':AHeap,lenV H' 0 lv=some l.length:=fun H'=>by
  rcases hS with(⟨t,f,rfl⟩|⟨rfl,h,_⟩)|⟨id,c,rfl,_⟩
  ·rfl
  ·rw[h];rfl
  ·rfl
 refine calls_nil_of ip41 rfl rfl ?_
 simp -implicitDefEqProofs [I41,hln]
 refine wp_loop_list (l:=l) (by omega) (fun i todo e H'=>e=[(1,.p o 0),(5,lv),(6,.i .i64 l.length),(7,.i .i64 i)]∧H.next≤H'.next∧H'.get r=some (.cells (encs (markL nd (l.take i))) 1 false)∧∀ id,id<H.next→id≠r→H'.get id=H.get id) ?_ ?_ ?_
 ·rintro i p todo e H' hp hd hlt hlt2 hlt3 ⟨rfl,hn,hg,hf⟩
  have hil:i<l.length:=hlt
  have q1:=(hf o ho hor).trans g1
  have hml:(markL nd (l.take i)).length=nd.length:=markL_len _ _
  have hpk:=hk p (List.mem_of_getElem? hp)
  have n1:¬ o=H'.next:=by omega
  have n2:¬ r=H'.next:=by omega
  have n3:lo≤H'.next:=by omega
  have htk:markL nd (l.take (i+1))=if p.kind=2 then(markL nd (l.take i)).set p.n.toNat true else markL nd (l.take i):=by rw[List.take_add_one,hp];exact markL_snoc hG _ _ _
  rw[htk]
  clear hlt
  rcases hS with(⟨t,f,rfl⟩|⟨rfl,h,_⟩)|⟨id,c,rfl,hc,h1,h2,h3,h4⟩
  ·by_cases k2:p.kind=2
   ·obtain⟨a1,a2⟩:=hpk k2
    have hb:(encs (markL nd (l.take i))).set p.n.toNat (.b true)=encs ((markL nd (l.take i)).set p.n.toNat true):=set_bool (by omega)
    have a3:p.n.toNat+1≤(markL nd (l.take i)).length:=by omega
    simp -implicitDefEqProofs [L41a,hlt2,hlt3,hp,n1,n2,n3,q1,hg,k2,a1,a2,hb,a3,hlo]
    exact⟨by omega,fun j h1 h2=>by simp -implicitDefEqProofs [h2,show ¬ j=H'.next by omega];exact hf j h1 h2⟩
   ·simp -implicitDefEqProofs [L41a,hlt2,hlt3,hp,n1,n2,n3,q1,hg,k2]
    exact⟨by omega,fun j h1 h2=>by simp -implicitDefEqProofs [show ¬ j=H'.next by omega];exact hf j h1 h2⟩
  ·omega
  ·have q3:=(hf id h2 h1).trans h3
   have n5:¬ id=H'.next:=by omega
   have hle:i*7+7≤l.length*7:=by omega
   by_cases k2:p.kind=2
   ·obtain⟨a1,a2⟩:=hpk k2
    have hb:(encs (markL nd (l.take i))).set p.n.toNat (.b true)=encs ((markL nd (l.take i)).set p.n.toNat true):=set_bool (by omega)
    have a3:p.n.toNat+1≤(markL nd (l.take i)).length:=by omega
    simp -implicitDefEqProofs [L41a,hlt2,hlt3,hp,n1,n2,n3,n5,q1,q3,hle,hg,k2,a1,a2,hb,a3,hlo]
    exact⟨by omega,fun j h1 h2=>by simp -implicitDefEqProofs [h2,show ¬ j=H'.next by omega];exact hf j h1 h2⟩
   ·simp -implicitDefEqProofs [L41a,hlt2,hlt3,hp,n1,n2,n3,n5,q1,q3,hle,hg,k2]
    exact⟨by omega,fun j h1 h2=>by simp -implicitDefEqProofs [show ¬ j=H'.next by omega];exact hf j h1 h2⟩
 ·rintro e H' ⟨rfl,hn,hg,hf⟩
  rw[List.take_length] at hg
  simp -implicitDefEqProofs [L41a]
  exact⟨hn,hg,hf⟩
 ·exact⟨by simp,Nat.le_refl _,by simpa[markL] using g2,fun _ _ _=>rfl⟩
end
end Go.Proofs.YtkpgolcjiahdfaaDoor
namespace Go.Proofs.YtkpgolcjiahdfaaDoor
open Go Go.RI
section
variable {G:AHeap} (hG:G.next=2)
include hG
theorem needs0_get{nh:Int}{l:List Stp}{i:Nat}{t:Stp}(h:l[i]?=some t):(needs0 nh l)[i]?=some (!sureK (factsK nh (l.take i)) t):=by
 have hlt:=lt_of_get h
 unfold needs0 need0
 rw[List.getElem?_map,List.getElem?_range hlt,Option.map_some,h];rfl
theorem take_setB{L M:List Bool}{i:Nat}{x:Bool}(hi:i<L.length)(ht:L.take i=M.take i)(hx:M[i]?=some x):(L.set i x).take (i+1)=M.take (i+1):=by
 rw[List.take_add_one,List.take_add_one,hx,←ht,List.take_set_of_le (Nat.le_refl _),List.getElem?_set_self hi]
set_option maxHeartbeats 2000000 in
theorem t_needs_a(k:KS)(cs:List AVal)(hT:OutT cs k.l)(ta tb:Bool)(nh:Int)(hnh:0≤nh∧nh≤64)(hfits:Fits nh k.l)(hlen:k.l.length≤4096)(yc:List AVal)(hv:AVal)(Q:Post)(H:AHeap)(h0:H.get 2=some (.cells yc 1 false))(h2:H.get 4=some (.cells [.sl 3 0 k.l.length (some k.l.length)] 1 false))(h1:H.get 3=some (.cells (encs (List.replicate k.l.length false)) 1 false))(hM:MkK 7 6 8 (fun _=>False) (ks0 nh) .ns [] H)
  (hQ:∀ w H',H'.get 2=some (.cells yc 1 false)→H'.get 4=some (.cells [.sl 3 0 k.l.length (some k.l.length)] 1 false)→H'.get 3=some (.cells (encs (needs0 nh k.l)) 1 false)→8≤H'.next→Q (.exit 0) [(0,.fp [.fs ta false k.l.length cs,hv]),(3,.p 2 0),(5,.p 4 0),(6,.p 7 0),(23,.fs ta false k.l.length cs),(24,.i .i64 k.l.length),(25,.i .i64 k.l.length),(26,w)] H') :
  wp (theCalls IP G 2) 2 (.loop L21a) Q [(0,.fp [.fs ta false k.l.length cs,hv]),(3,.p 2 0),(5,.p 4 0),(6,.p 7 0),(23,.fs ta false k.l.length cs),(24,.i .i64 k.l.length),(25,.i .i64 0)] H:=by
 refine wp_loop_list (l:=k.l) (by omega) (fun i todo e H'=>e=[(0,.fp [.fs ta false k.l.length cs,hv]),(3,.p 2 0),(5,.p 4 0),(6,.p 7 0),(23,.fs ta false k.l.length cs),(24,.i .i64 k.l.length),(25,.i .i64 i)]∧H'.get 2=some (.cells yc 1 false)∧H'.get 4=some (.cells [.sl 3 0 k.l.length (some k.l.length)] 1 false) ∧
  ∃ nd ov cs',nd.length=k.l.length∧nd.take i=(needs0 nh k.l).take i∧H'.get 3=some (.cells (encs nd) 1 false)∧MkK 7 6 8 (fun _=>False) (factsK nh (k.l.take i)) ov cs' H') ?_ ?_ ?_
 ·rintro i t todo e H' ht hd hlt hlt2 hlt3 ⟨rfl,g0,g2,nd,ov,cs',hnl,hnt,g1,hM⟩
  have hil:i<k.l.length:=hlt
  obtain⟨u1,f1,u2,f2,hc⟩:=hT.2 _ _ ht
  have hcl:=hT.1
  have b1:5≤cs.length-i*5:=by omega
  have hfs:=hfits _ t ht
  have hsl:=fits_most hfs
  have nx:=hM.nx
  have hfl:(factsK nh (k.l.take i)).l=k.l.take i:=facts_l _ _
  have hti:(k.l.take i).length=i:=by rw[List.length_take];omega
  have hfh:(factsK nh (k.l.take i)).hs.length=nh.toNat:=facts_hs _ _
  obtain⟨H1,hH1⟩:∃ H1,H1=(H'.push (.cells [.i .i64 0,.i .i64 0,.ns,.s [],.ns] 1 false)).put H'.next (some (.cells [.i .i64 t.op,.i .i64 t.n,.fs u1 f1 t.l.length (encs t.l),.s t.s,.fs u2 f2 t.names.length (encs t.names)] 1 false)):=⟨_,rfl⟩
  have hk1:∀ id,id<H'.next→H1.get id=H'.get id:=fun id h=>by rw[hH1];simp -implicitDefEqProofs [show ¬ id=H'.next by omega]
  have q3:H1.get H'.next=some (.cells [.i .i64 t.op,.i .i64 t.n,.fs u1 f1 t.l.length (encs t.l),.s t.s,.fs u2 f2 t.names.length (encs t.names)] 1 false):=by rw[hH1];simp
  have q4:H1.next=H'.next+1:=by rw[hH1];simp
  have hM1:=mkk_box hG hM (H':=H1) (by omega) hk1
  obtain⟨va,vb,cs2,hT2,sv,sh⟩:=mkk_snap hG hM1 11
  have c2:=t_psure hG (factsK nh (k.l.take i)) cs2 hT2 va vb t (by omega) (fun o ho=>⟨fun hk=>by have:=opnFits_home (fits_all hfs o ho) hk;omega,fun hk=>by have:=opnFits_step (fits_all hfs o ho) hk;rw[hfl,hti];omega⟩) u1 u2
  have hset:=set_bool (l:=nd) (i:=i) (b:=!sureK (factsK nh (k.l.take i)) t) (by omega)
  have hst:=take_setB hG (L:=nd) (M:=needs0 nh k.l) (by omega) hnt (needs0_get hG ht)
  obtain⟨sb,hsb⟩:∃ sb,sb=sureK (factsK nh (k.l.take i)) t:=⟨_,rfl⟩
  rw[←hsb] at hset hst c2
  obtain⟨H2,hH2⟩:∃ H2,H2=H1.put 3 (some (.cells (encs (nd.set i (!sb))) 1 false)):=⟨_,rfl⟩
  have hk2:∀ id,id≠3→H2.get id=H1.get id:=fun id h=>by rw[hH2];simp -implicitDefEqProofs [h]
  have q5:H2.next=H1.next:=by rw[hH2];simp
  have hM2:MkK 7 6 8 (fun _=>False) (factsK nh (k.l.take i)) ov cs' H2 :=
   { gM:=(hk2 _ (by omega)).trans hM1.gM,gH:=(hk2 _ (by omega)).trans hM1.gH,nx:=by omega,lt:=hM1.lt,acc:=acc_keep hM1.acc (by omega) fun id a b hv=>by have:=acc_lt hM1.acc _ _ _ hv;exact hk2 id (by omega),out:=outS_keep (by omega) (fun id h1 h2=>⟨hk2 id (by have:=h1.1.1;omega),h1⟩) _ _ hM1.out }
  obtain⟨v,H3,hcall,rfl,jj,cs3,hM3,hnt3,hj3,hn3,hf3⟩:=t_padd hG hM2 (c0:=2) (by omega) (by omega) t nh i hfs hfh (by rw[hfl,hti];omega) u1 f1 (.fs u2 f2 t.names.length (encs t.names)) (.inl (.inl ⟨u2,f2,rfl⟩))
  have y0:=(hk1 2 (by omega)).trans g0
  have y1:=(hk1 3 (by omega)).trans g1
  have y2:=(hk1 4 (by omega)).trans g2
  have z3:=(hk2 H'.next (by omega)).trans q3
  have nov:∀ id,id<8→∀ j m c,ov=.sl j 0 m c→id≠j:=fun id h j m c hv=>by have:=acc_lt hM2.acc _ _ _ hv;omega
  have gM1:=hM1.gM
  have n1:¬ 3=H'.next:=by omega
  have n2:¬ 4=H'.next:=by omega
  have n3:2≤H'.next:=by omega
  have il:i+1≤nd.length:=by omega
  have hft:factsK nh (k.l.take (i+1))=addK (factsK nh (k.l.take i)) t:=by rw[List.take_add_one,ht];exact facts_snoc _ _ _
  rw[hft]
  clear hlt
  simp -implicitDefEqProofs [L21a,hlt2,hlt3,hc,b1,n3,←hH1,q3,y2,gM1,sv,sh,c2,y1,il,hset,←hH2,z3,hcall]
  refine⟨?_,?_,nd.set i (!sb),by simp -implicitDefEqProofs [hnl],hst,?_,_,cs3,hM3⟩
  ·rw[hf3 _ (by omega) (by omega) (by omega) (nov _ (by omega)),hk2 _ (by omega)];exact y0
  ·rw[hf3 _ (by omega) (by omega) (by omega) (nov _ (by omega)),hk2 _ (by omega)];exact y2
  ·rw[hf3 _ (by omega) (by omega) (by omega) (nov _ (by omega)),hH2];simp
 ·rintro e H' ⟨rfl,g0,g2,nd,ov,cs',hnl,hnt,g1,hM⟩
  have he:nd=needs0 nh k.l:=by
   rw[List.take_of_length_le (by omega),List.take_of_length_le (by rw[needs0_len];omega)] at hnt
   exact hnt
  subst he
  simp -implicitDefEqProofs [L21a]
  exact hQ _ H' g0 g2 g1 hM.nx
 ·exact⟨by simp,h0,h2,List.replicate k.l.length false,.ns,[],by simp,by simp,h1,hM⟩
end
end Go.Proofs.YtkpgolcjiahdfaaDoor
namespace Go.Proofs.YtkpgolcjiahdfaaDoor
open Go Go.RI
section
variable {G:AHeap} (hG:G.next=2)
include hG
set_option maxHeartbeats 1000000 in
theorem t_needs_b(k:KS)(cs:List AVal)(hT:OutT cs k.l)(ta:Bool)(nh:Int)(hfits:Fits nh k.l)(hlen:k.l.length≤4096)(hv e3:AVal)(nd0:List Bool)(hnd:nd0.length=k.l.length)(Q:Post)(H:AHeap)(h2:H.get 4=some (.cells [.sl 3 0 k.l.length (some k.l.length)] 1 false))(h1:H.get 3=some (.cells (encs nd0) 1 false))(hn:8≤H.next)
    (hQ:∀ H' w,H'.get 4=some (.cells [.sl 3 0 k.l.length (some k.l.length)] 1 false)→H'.get 3=some (.cells (encs (markB k.l k.l.length nd0)) 1 false)→8≤H'.next→Q (.exit 2) [(0,.fp [.fs ta false k.l.length cs,hv]),(5,.p 4 0),(9,.fn (.func 41) [] [.p 4 0]),(10,.i .i64 (-1)),(55,w)] H') :
    wp (theCalls IP G 2) 2 (.loop L21b) Q [(0,.fp [.fs ta false k.l.length cs,hv]),(5,.p 4 0),(9,.fn (.func 41) [] [.p 4 0]),(10,.i .i64 ((k.l.length:Int)-1))] H:=by
  refine wp_loop_inv (fun n e H'=>n≤k.l.length∧(∃ j:Int,j=(n:Int)-1∧e=[(0,.fp [.fs ta false k.l.length cs,hv]),(5,.p 4 0),(9,.fn (.func 41) [] [.p 4 0]),(10,.i .i64 j)])∧H'.get 4=some (.cells [.sl 3 0 k.l.length (some k.l.length)] 1 false)∧8≤H'.next ∧
    ∃ nd:List Bool,nd.length=k.l.length∧markB k.l k.l.length nd0=markB k.l n nd∧H'.get 3=some (.cells (encs nd) 1 false)) ?_ k.l.length _ _ ⟨Nat.le_refl _,⟨_,rfl,rfl⟩,h2,hn,nd0,hnd,rfl,h1⟩
  rintro n e H' ⟨hnl,⟨j,hj,rfl⟩,g2,nx,nd,hl,hm,g1⟩
  cases n with
  | zero =>
    have hj1:j=-1:=by omega
    subst hj1
    have hmm:markB k.l 0 nd=nd:=rfl
    rw[hmm] at hm
    rw[hm] at hQ
    simp -implicitDefEqProofs [L21b]
    exact hQ H' _ g2 g1 nx
  | succ i =>
    have hji:j=(i:Int):=by omega
    subst hji
    obtain⟨t,ht⟩:=get_of_lt (l:=k.l) (i:=i) (by omega)
    obtain⟨u1,f1,u2,f2,hc⟩:=hT.2 _ _ ht
    have hcl:=hT.1
    have hfs:=hfits _ t ht
    have hsl:=fits_most hfs
    have hil:(i:Int)<(k.l.length:Int):=by omega
    have hi3:i<4611686018427387904:=by omega
    have w1:wrapI .i64 ((i:Int)-1)=(i:Int)-1:=wrap_ok (by omega) (by omega)
    obtain⟨b,hb⟩:=get_of_lt (l:=nd) (i:=i) (by omega)
    have hmb:markB k.l (i+1) nd=markB k.l i (if atN nd i=true then markL nd t.l else nd):=by
      rw[markB,ht];rfl
    have hat:atN nd i=b:=by unfold atN;rw[hb];rfl
    rw[hmb,hat] at hm
    clear hj
    cases b with
    | false =>
      simp -implicitDefEqProofs [L21b,g2,g1,hil,hb,w1]
      simp at hm
      exact⟨i,by omega,by omega,rfl,nx,nd,hl,hm,rfl⟩
    | true =>
      obtain⟨v,H2,hcall,rfl,hn2,hr2,hf2⟩:=t_pmark hG nd t.l (by omega) (fun o ho hk=>by have:=opnFits_step (fits_all hfs o ho) hk;rw[hl];omega) 2 4 3 (.fs u1 f1 t.l.length (encs t.l)) H' (.inl (.inl ⟨u1,f1,rfl⟩)) (by rw[hl];exact g2) g1 (by omega) (by omega) (by omega) (by omega)
      have b1:i*5+2<cs.length:=by omega
      have hc2:cs[i*5+2]?=some (.fs u1 f1 t.l.length (encs t.l)):=by
        have h0:((cs.drop (i*5)).take 5)[2]?=some (.fs u1 f1 t.l.length (encs t.l)):=by rw[hc];rfl
        rw[List.getElem?_take,if_pos (by omega),List.getElem?_drop] at h0
        exact h0
      have b2:i*5+2≤cs.length:=by omega
      simp -implicitDefEqProofs [L21b,g2,g1,hil,hb,w1,hc2,hcall]
      simp at hm
      exact⟨i,by omega,by omega,rfl,(hf2 _ (by omega) (by omega)).trans g2,by omega,markL nd t.l,by rw[markL_len,hl],hm,hr2⟩
theorem t_pneeds(k:KS)(cs:List AVal)(hT:OutT cs k.l)(ta tb:Bool)(y:Pce)(t1 t2:Bool)(hnh:0≤y.homes∧y.homes≤64)(hfits:Fits y.homes k.l)(hlen:k.l.length≤4096)(hsl:y.sets.length≤64)(hops:∀ o∈y.sets++[y.cond],o.kind=2→0≤o.n∧o.n<k.l.length) :
  pureR IP G 21 [.fp [.fs ta false k.l.length cs,.fs tb false k.hs.length (encs k.hs)],.ag (pceC y t1 t2 false false)]=some (.fs false false k.l.length (encs (needsP y.homes k.l (y.sets++[y.cond])))):=by
 obtain⟨n,hn⟩:∃ n:Nat,y.homes=n:=⟨y.homes.toNat,by omega⟩
 refine pure_run ip21 rfl ?_
 obtain⟨H1,hH1⟩:∃ H1,H1=(((G.push (.cells (pceC y t1 t2 false false) 1 false)).push (.cells (repCells [.b false] k.l.length) 1 false)).push (.cells [.ns] 1 false)).put 4 (some (.cells [.sl 3 0 k.l.length (some k.l.length)] 1 false)):=⟨_,rfl⟩
 have h1n:H1.next=5:=by rw[hH1];simp -implicitDefEqProofs [hG]
 have h10:H1.get 2=some (.cells (pceC y t1 t2 false false) 1 false):=by rw[hH1];simp -implicitDefEqProofs [hG]
 have h11:H1.get 3=some (.cells (encs (List.replicate k.l.length false)) 1 false):=by rw[hH1];simp -implicitDefEqProofs [hG,rep_bool]
 have h12:H1.get 4=some (.cells [.sl 3 0 k.l.length (some k.l.length)] 1 false):=by rw[hH1];simp -implicitDefEqProofs [hG]
 obtain⟨v,H2,hbeg,rfl,b1,b2,b3,b4⟩:=t_begun hG n (by omega) H1 (by omega)
 rw[h1n] at b1 b2 b3 hbeg
 have p0:=(b4 2 (by omega)).trans h10
 have p1:=(b4 3 (by omega)).trans h11
 have p2:=(b4 4 (by omega)).trans h12
 have hmk:(k.l.length:Int)≤281474976710656:=by omega
 simp only[pceC,hn] at hH1 h10 p0
 simp at b1 b2 b3 hbeg
 simp -implicitDefEqProofs [I21,pceC,hn,hG,hmk,←hH1,h10,hbeg,p0]
 have hh:y.homes.toNat=n:=by omega
 refine t_needs_a hG k cs hT ta tb y.homes hnh hfits hlen _ _ _ H2 p0 p2 p1 { gM:=by rw[b1];simp -implicitDefEqProofs [ks0,hh],gH:=by rw[b2];simp -implicitDefEqProofs [ks0,hh],nx:=by omega,lt:=by omega,acc:=acc_none,out:=rfl } ?_
 intro w H3 g0 g2 g1 nx
 have g1':=g1
 simp -implicitDefEqProofs [g0]
 obtain⟨Hp,hHp⟩:∃ Hp,Hp=H3.push (.cells (Enc.cells y.cond) 7 false):=⟨_,rfl⟩
 have hpn:Hp.next=H3.next+1:=by rw[hHp];rfl
 have hpk:∀ id,id<H3.next→Hp.get id=H3.get id:=fun id h=>by rw[hHp];exact get_push_lt h
 have hpr:Hp.get H3.next=some (.cells (Enc.cells y.cond) 7 false):=by rw[hHp];simp
 have hHp':=hHp
 simp at hHp'
 rw[←hHp']
 refine step_clone (lo':=8) (by simp) (by omega) (by omega) (by omega) (by omega) ?_
 intro lv H4 hn4 hL hnew hf4
 have z0:=(hf4 2 (by omega)).trans ((hpk 2 (by omega)).trans g0)
 simp -implicitDefEqProofs [z0]
 refine step_appH (lo':=8) hL (m:=1) (ys:=Enc.cells y.cond) (by omega) (by omega) (more_lit (cs:=Enc.cells y.cond) (e:=7) (ro:=false) ((hf4 H3.next (by omega)).trans hpr) (by simp) (by omega)) (by simp) (by omega) (by omega) (by omega) (by omega) ?_
 intro H5 hn5 acc5 hf5
 have f5:∀ id,id<8→H5.get id=H3.get id:=fun id h=>by
  rw[hf5 id (by omega) (fun id0 n0 c0 hv=>by have:=hnew _ _ _ hv;omega),hf4 id (by omega),hpk id (by omega)]
 have eo:encs y.sets++Enc.cells y.cond=encs (y.sets++[y.cond]):=by simp
 rw[eo] at acc5
 have hSl:SlT H5 (fun id=>id≠3) (.sl H4.next 0 (y.sets.length+1) none) 7 (y.sets++[y.cond]).length (encs (y.sets++[y.cond])):=by
  have e2:(y.sets++[y.cond]).length=y.sets.length+1:=by simp
  rw[e2]
  exact .inr ⟨H4.next,none,rfl,.inl rfl,by omega,by omega,acc_row acc5,by simp;omega⟩
 obtain⟨v5,H6,hcall,rfl,hn6,hr6,hf6⟩:=t_pmark hG (needs0 y.homes k.l) (y.sets++[y.cond]) (by simp;omega) (fun o ho hk=>by rw[needs0_len];exact hops o ho hk) 2 4 3 _ H5 hSl (by rw[f5 _ (by omega),needs0_len];exact g2) ((f5 _ (by omega)).trans g1) (by omega) (by omega) (by omega) (by omega)
 have y2:=(hf6 4 (by omega) (by omega)).trans ((f5 4 (by omega)).trans g2)
 have w1:wrapI .i64 ((k.l.length:Int)-1)=(k.l.length:Int)-1:=wrap_ok (by omega) (by omega)
 simp -implicitDefEqProofs [hcall,y2,w1]
 refine t_needs_b hG k cs hT ta y.homes hfits hlen _ .np (markL (needs0 y.homes k.l) (y.sets++[y.cond])) (by rw[markL_len,needs0_len]) _ H6 y2 hr6 (by omega) ?_
 intro H7 w k2 k1 nx7
 have hH:Hold H7 2 (.sl 3 0 k.l.length (some k.l.length)) 1 k.l.length (encs (needsP y.homes k.l (y.sets++[y.cond]))):=.inr ⟨3,_,rfl,.inr rfl,by omega,by omega,k1,by simp -implicitDefEqProofs [needsP,markB_len,markL_len,needs0_len]⟩
 have hz:=hold_frz (k:=15) hH frz_encs
 simp -implicitDefEqProofs [k2,hz,hn]
end
end Go.Proofs.YtkpgolcjiahdfaaDoor
namespace Go.Proofs.YtkpgolcjiahdfaaDoor
open Go Go.RI
def plN(nd:List Bool)(m:Nat):List Opn:=(List.range m).map fun j=>stO (rk nd j)
def pbN(nd:List Bool)(m:Nat):List OpB:=(List.range m).map fun j=>⟨stO (rk nd j),true⟩
theorem plN_len(nd:List Bool)(m:Nat):(plN nd m).length=m:=by simp -implicitDefEqProofs [plN]
theorem pbN_o(nd:List Bool)(m:Nat):(pbN nd m).map OpB.o=plN nd m:=by simp -implicitDefEqProofs [pbN,plN]
theorem pbN_ok(nd:List Bool)(m:Nat):∀ b∈pbN nd m,okB b:=by
 intro b hb _
 simp only[pbN,List.mem_map] at hb
 obtain⟨j,_,rfl⟩:=hb
 exact⟨rfl,rfl⟩
theorem pbN_succ(nd:List Bool)(m:Nat):pbN nd (m+1)=pbN nd m++[⟨stO (rk nd m),true⟩]:=by simp -implicitDefEqProofs [pbN,List.range_succ]
theorem plN_turn{nd:List Bool}{m:Nat}{o:Opn}(h:o.kind=2→0≤o.n∧o.n<m):turnO (plN nd m) o=renO nd o:=by
 unfold turnO renO
 by_cases hk:o.kind=2
 ·obtain⟨a,b⟩:=h hk
  rw[if_pos hk,if_pos hk,plN,List.getElem?_map,List.getElem?_range (by omega)];rfl
 ·rw[if_neg hk,if_neg hk]
theorem outK_snoc{nd:List Bool}{l:List Stp}{i:Nat}{t:Stp}(h:l[i]?=some t):outK nd (l.take (i+1)) 0=outK nd (l.take i) 0++if atN nd i=true then [renS nd t] else []:=by
 have hlt:=lt_of_get h
 rw[List.take_add_one,h,outK_app,List.length_take,Nat.min_eq_left (by omega),Nat.zero_add]
 simp -implicitDefEqProofs [outK]
def ocells(y:Pce)(iv:AVal):List AVal:=[.i .i64 y.func,.i .i64 y.at_,.i .i64 y.many,.i .i64 y.homes,iv,.fs false false y.sets.length (encs y.sets),.i .i64 y.exit,.i .i64 y.to,.i .i64 y.cond.kind,.i .i64 y.cond.n,.i .i64 y.cond.v.kind,.i .i64 y.cond.v.n,.s y.cond.v.s,.fs false false y.cond.v.l.length (encs y.cond.v.l),.fs false false y.cond.v.names.length (encs y.cond.v.names),.i .i64 y.deep]
structure OfI (y:Pce) (nd:List Bool) (l:List Stp) (z:List AVal) (Hb:AHeap) (i:Nat) (iv pv:AVal) (cso:List AVal) (H:AHeap):Prop where
 g0:H.get 2=some (.cells (ocells y iv) 1 false)
 g1:H.get 3=some (.cells z 1 false)
 low:∀ id,4≤id→id<Hb.next→H.get id=Hb.get id
 nx:Hb.next+2≤H.next
 gp:H.get Hb.next=some (.cells [pv] 1 false)
 gq:H.get (Hb.next+1)=some (.cells [.p Hb.next 0] 1 false)
 pl:Acc H (Hb.next+2) pv 7 i (encs (pbN nd i))
 acc:Acc H (Hb.next+2) iv 5 (rk nd i) cso
 out:Out H (fun id=>4≤id∧id<Hb.next) cso (outK nd (l.take i) 0)
 dis:∀ j m c m' c',iv=.sl j 0 m c→pv=.sl j 0 m' c'→False
def penv(n:Nat)(P:Nat)(nd:List Bool)(i:Int):Env:=[(1,.p 2 0),(2,.p 3 0),(5,.p 8 0),(6,.p P 0),(7,.fn (.func 39) [] [.p (P+1) 0]),(26,.fs false false n (encs nd)),(27,.i .i64 n),(28,.i .i64 i)]
section
variable {G:AHeap} (hG:G.next=2)
include hG
set_option maxHeartbeats 2000000 in
theorem t_pof_loop(y:Pce)(nd:List Bool)(k:KS)(nh:Int)(hfits:Fits nh k.l)(hnl:nd.length=k.l.length)(hlen:k.l.length≤4096)(z:List AVal)(Hb:AHeap)(hb:4+7≤Hb.next)(X:Nat→Prop)(ov:AVal)(cs:List AVal)(hMb:MkK 8 7 (4+7) X k ov cs Hb)(hnt:NoTmp cs)(Q:Post)(H:AHeap)(h0:OfI y nd k.l z Hb 0 .ns .ns [] H)
    (hQ:∀ w H' iv pv cso,OfI y nd k.l z Hb k.l.length iv pv cso H'→Q (.exit 0) [(1,.p 2 0),(2,.p 3 0),(5,.p 8 0),(6,.p Hb.next 0),(7,.fn (.func 39) [] [.p (Hb.next+1) 0]),(26,.fs false false k.l.length (encs nd)),(27,.i .i64 k.l.length),(28,.i .i64 k.l.length),(29,w)] H') :
    wp (theCalls IP G 2) 2 (.loop L5a) Q (penv k.l.length Hb.next nd 0) H:=by
  have key:=wp_loop_list (call:=theCalls IP G 2) (lo:=2) (b:=L5a) (Q:=Q) (l:=nd) (by omega) (fun i todo e H'=>e=penv k.l.length Hb.next nd i∧∃ iv pv cso,OfI y nd k.l z Hb i iv pv cso H') ?_ ?_ (e:=penv k.l.length Hb.next nd 0) (H:=H) ?_
  · exact key
  · rintro i b todo e H' hbi hd hlt hlt2 hlt3 ⟨rfl,iv,pv,cso,hI⟩
    obtain⟨g0,g1,low,nx,gp,gq,pl,acc,out,dis⟩:=hI
    have hik:i<k.l.length:=by omega
    have hlt2':(i:Int)<(k.l.length:Int):=by omega
    obtain⟨t,ht⟩:=get_of_lt hik
    have hat:atN nd i=b:=by unfold atN;rw[hbi];rfl
    have hok:=outK_snoc (nd:=nd) ht
    have hrk:rk nd (i+1)=rk nd i+if b=true then 1 else 0:=by rw[rk,hat]
    have hrl:rk nd i≤i:=rk_self nd i
    rw[hat] at hok
    have hil:lenV H' 0 iv=some (rk nd i):=hold_len acc.hold H'
    have n1:¬ 2=H'.next:=by omega
    have n2:¬ Hb.next=H'.next:=by omega
    have n3:2≤Hb.next:=by omega
    have hpo:(2:Nat)≠Hb.next:=by omega
    simp only[ocells] at g0
    clear hlt
    simp -implicitDefEqProofs [penv,L5a,hlt2',hlt3,hbi,gp,g0,hil]
    refine step_app (lo':=Hb.next+2) (acc_keep pl (by simp<;>omega) ?_) (m:=1) (ys:=Enc.cells (⟨stO (rk nd i),true⟩:OpB)) (by omega) (by simp<;>omega) (more_lit (cs:=Enc.cells (⟨stO (rk nd i),true⟩:OpB)) (e:=7) (ro:=false) (by simp -implicitDefEqProofs [stO,zeroVal]) (by simp) (by omega)) (by simp) (by omega) (by omega) (by omega) (by omega) ?_
    · intro id a b hv
      have:=acc_lt pl id a b hv
      exact get_push_lt (by omega)
    intro H2 hn2 acc2 hf2
    simp only[heap_next_push] at hn2 acc2 hf2
    have f2:∀ id,id<H'.next→(∀ id0 n0 c0,pv=.sl id0 0 n0 c0→id≠id0)→H2.get id=H'.get id:=fun id h1 h2=>by
      rw[hf2 id (by omega) h2];exact get_push_lt h1
    have np:∀ id,id<Hb.next+2→∀ id0 n0 c0,pv=.sl id0 0 n0 c0→id≠id0:=fun id h id0 n0 c0 hv=>by have:=acc_lt pl _ _ _ hv;omega
    obtain⟨pv3,hpv3⟩:∃ v,v=AVal.sl (H'.next+1) 0 (i+1) none:=⟨_,rfl⟩
    obtain⟨H3,hH3⟩:∃ H3,H3=H2.put Hb.next (some (.cells [pv3] 1 false)):=⟨_,rfl⟩
    have f3:∀ id,id<H'.next→id≠Hb.next→(∀ id0 n0 c0,pv=.sl id0 0 n0 c0→id≠id0)→H3.get id=H'.get id:=fun id h1 h2 h3=>by rw[hH3];simp -implicitDefEqProofs [h2];exact f2 id h1 h3
    have hn3:H3.next=H'.next+2:=by rw[hH3];simp -implicitDefEqProofs [hn2]
    have y2p:=(f2 Hb.next (by omega) (np _ (by omega))).trans gp
    have npi:∀ id a b,iv=.sl id 0 a b→∀ id0 n0 c0,pv=.sl id0 0 n0 c0→id≠id0:=fun id a b h id0 n0 c0 h2 e=>by subst e;exact dis _ _ _ _ _ h h2
    have pl3:Acc H3 (Hb.next+2) pv3 7 (i+1) (encs (pbN nd (i+1))):=by
      rw[pbN_succ,encs_append]
      have:=acc_keep (H':=H3) acc2 (by omega) fun id a b hv=>by cases hv;rw[hH3];simp -implicitDefEqProofs [show ¬ H'.next+1=Hb.next by omega]
      rw[hpv3]
      simpa using this
    have acc3:Acc H3 (Hb.next+2) iv 5 (rk nd i) cso:=acc_keep acc (by omega) fun id a b hv=>by have:=acc_lt acc _ _ _ hv;exact f3 id (by omega) (by omega) (npi id a b hv)
    have out3:Out H3 (fun id=>4≤id∧id<Hb.next) cso (outK nd (k.l.take i) 0):=out_keep (by omega) (fun id h1 h2=>⟨f3 id h2 (by omega) (np _ (by omega)),h1⟩) _ _ out
    have k0:=(f3 2 (by omega) (by omega) (np _ (by omega))).trans g0
    have k1:=(f3 3 (by omega) (by omega) (np _ (by omega))).trans g1
    have kq:=(f3 (Hb.next+1) (by omega) (by omega) (np _ (by omega))).trans gq
    have kp:H3.get Hb.next=some (.cells [pv3] 1 false):=by rw[hH3];simp
    have low3:∀ id,4≤id→id<Hb.next→H3.get id=Hb.get id:=fun id h1 h2=>(f3 id (by omega) (by omega) (np _ (by omega))).trans (low id h1 h2)
    obtain⟨u1,u2⟩:pv3.tup=false∧pv3.cells=[pv3]:=by rw[hpv3];exact⟨rfl,rfl⟩
    simp -implicitDefEqProofs [hlt3,y2p,n3,←hpv3,u1,u2,←hH3]
    cases b with
    | false =>
      simp at hrk hok
      simp -implicitDefEqProofs [hlt3]
      refine⟨iv,pv3,cso,{ g0:=k0,g1:=k1,low:=low3,nx:=by omega,gp:=kp,gq:=kq,pl:=pl3,acc:=by rw[hrk];exact acc3,out:=by rw[hok];exact out3,dis:=fun j m c m' c' h1 h2=>?_ }⟩
      rw[hpv3] at h2
      cases h2
      have:=(acc_lt acc _ _ _ h1).2
      omega
    | true =>
      simp at hrk hok
      have hMk:=hMb.gM
      have r6:=(low3 8 (by omega) (by omega)).trans hMk
      obtain⟨rid,hovE,hrow⟩:∃ rid,ov=.sl rid 0 k.l.length none∧H3.get rid=some (.cells cs 5 false):=by
        rcases hMb.acc with⟨_,h,_⟩|⟨id,h,h1,h2,h3,_⟩
        · omega
        · exact⟨id,h,(low3 id (by omega) h2).trans h3⟩
      obtain⟨lv,nv,hc5,hLv,hNv,m1,m2⟩:=outS_get _ _ hMb.out i t ht
      have hcl:=outS_len _ _ hMb.out
      have hi5:i*5+5≤cs.length:=by omega
      obtain⟨d1,d2⟩:=slT_one hLv
      obtain⟨d3,d4⟩:=slT_one hNv
      have hNs:=slT_sl hNv fun t f n l he=>hnt nv m2 t f n l he
      obtain⟨H4,hH4⟩:∃ H4,H4=(H3.push (.cells [.i .i64 0,.i .i64 0,.ns,.s [],.ns] 1 false)).put H3.next (some (.cells [.i .i64 t.op,.i .i64 t.n,lv,.s t.s,nv] 1 false)):=⟨_,rfl⟩
      have f4:∀ id,id<H3.next→H4.get id=H3.get id:=fun id h=>by rw[hH4];simp -implicitDefEqProofs [show ¬ id=H3.next by omega]
      have q4:H4.get H3.next=some (.cells [.i .i64 t.op,.i .i64 t.n,lv,.s t.s,nv] 1 false):=by rw[hH4];simp
      have hn4:H4.next=H3.next+1:=by rw[hH4];simp
      have hLv4:SlT H4 (Ak (4+7) X ov) lv 7 t.l.length (encs t.l):=slT_keep hLv (by omega) fun id h1 h2=>⟨(f4 id (by omega)).trans (low3 id (by have:=h1.1.1;omega) h2),h1⟩
      obtain⟨lt,lf,sl⟩:=slT_snap (k:=15) hLv4 snap_encs
      have sp:=acc_snap (k:=13) (acc_keep (H':=H4) pl3 (by omega) fun id a b hv=>f4 id (acc_lt pl3 _ _ _ hv).2) (snap_B (k:=12) _ (pbN_ok nd (i+1)))
      rw[pbN_o] at sp
      have hfs:=hfits _ t ht
      have hsl:=fits_most hfs
      have hmap:t.l.map (turnO (plN nd (i+1)))=(renS nd t).l:=List.map_congr_left fun o ho=>plN_turn fun hk=>by have:=opnFits_step (fits_all hfs o ho) hk;omega
      have c2:=t_pturn hG t.l (by omega) (plN nd (i+1)) (fun o ho hk=>by have:=opnFits_step (fits_all hfs o ho) hk;rw[plN_len];omega) (fun o ho=>by
        rw[plN_turn fun hk=>by have:=opnFits_step (fits_all hfs o ho) hk;omega]
        have:=opn_bulk (fits_all hfs o ho)
        unfold renO
        split
        · simp -implicitDefEqProofs [stO,zeroVal,Val.bulk,bulkL,bulkS]
        · omega) lt lf true
      rw[hmap,plN_len] at c2
      have hrl2:(renS nd t).l.length=t.l.length:=by simp -implicitDefEqProofs [renS]
      have x0:=(f4 2 (by omega)).trans k0
      have xp:=(f4 Hb.next (by omega)).trans kp
      have xq:=(f4 (Hb.next+1) (by omega)).trans kq
      have n5:2≤H3.next:=by omega
      have n6:¬ 2=H3.next:=by omega
      simp at sp
      have n7:¬ H3.next=2:=by omega
      obtain⟨H5,hH5⟩:∃ H5,H5=H4.put H3.next (some (.cells [.i .i64 t.op,.i .i64 t.n,.fs false false t.l.length (encs (renS nd t).l),.s t.s,nv] 1 false)):=⟨_,rfl⟩
      have f5:∀ id,id<H3.next→H5.get id=H3.get id:=fun id h=>by rw[hH5];simp -implicitDefEqProofs [show ¬ id=H3.next by omega];exact f4 id h
      have q5:H5.get H3.next=some (.cells [.i .i64 t.op,.i .i64 t.n,.fs false false t.l.length (encs (renS nd t).l),.s t.s,nv] 1 false):=by rw[hH5];simp
      have hn5:H5.next=H3.next+1:=by rw[hH5];simp -implicitDefEqProofs [hn4]
      have w0:=(f5 2 (by omega)).trans k0
      simp -implicitDefEqProofs [r6,hovE,hlt2',hrow,hc5,hi5,d1,d2,d3,d4,n5,←hH4,q4,sl,xq,xp,sp,c2,←hH5,w0,q5]
      have acc5:Acc H5 (Hb.next+2) iv 5 (rk nd i) cso:=acc_keep acc3 (by omega) fun id a b hv=>f5 id (acc_lt acc3 _ _ _ hv).2
      refine step_app (lo':=Hb.next+2) (acc_keep acc5 (by simp<;>omega) ?_) (m:=1) (ys:=[.i .i64 t.op,.i .i64 t.n,.fs false false t.l.length (encs (renS nd t).l),.s t.s,nv]) (by omega) (by simp<;>omega) (more_lit (cs:=[.i .i64 t.op,.i .i64 t.n,.fs false false t.l.length (encs (renS nd t).l),.s t.s,nv]) (e:=5) (ro:=false) (by simp) (by simp) (by omega)) (by simp) (by omega) (by omega) (by omega) (by omega) ?_
      · intro id a b hv
        have:=acc_lt acc5 id a b hv
        exact get_push_lt (by omega)
      intro H6 hn6 acc6 hf6
      simp only[heap_next_push] at hn6 acc6 hf6
      have f6:∀ id,id<H5.next→(∀ id0 n0 c0,iv=.sl id0 0 n0 c0→id≠id0)→H6.get id=H5.get id:=fun id h1 h2=>by
        rw[hf6 id (by omega) h2];exact get_push_lt h1
      have ni:∀ id,id<Hb.next+2→∀ id0 n0 c0,iv=.sl id0 0 n0 c0→id≠id0:=fun id h id0 n0 c0 hv=>by have:=acc_lt acc5 _ _ _ hv;omega
      have v0:=(f6 2 (by omega) (ni _ (by omega))).trans w0
      simp -implicitDefEqProofs [hlt3,v0]
      have keep:∀ o id,id<H3.next→id≠2→(∀ id0 n0 c0,iv=.sl id0 0 n0 c0→id≠id0)→(H6.put 2 o).get id=H3.get id:=fun o id h1 h2 h3=>by
        simp -implicitDefEqProofs [h2]
        exact(f6 id (by omega) h3).trans (f5 id h1)
      have hNs6:∀ o,Sl (H6.put 2 o) (fun id=>4≤id∧id<Hb.next) nv 1 t.names.length (encs t.names):=fun o=>sl_keep hNs (by simp;omega) fun id h1 h2=>⟨(keep o id (by omega) (by have:=h1.1.1;omega) (ni _ (by omega))).trans (low3 id (by have:=h1.1.1;omega) h2),by have:=h1.1.1;omega,h2⟩
      refine⟨.sl (H5.next+1) 0 (rk nd i+1) none,pv3,cso++[.i .i64 t.op,.i .i64 t.n,.fs false false t.l.length (encs (renS nd t).l),.s t.s,nv],{ g0:=by simp -implicitDefEqProofs [ocells],g1:=(keep _ _ (by omega) (by omega) (ni _ (by omega))).trans k1,low:=fun id h1 h2=>(keep _ id (by omega) (by omega) (ni _ (by omega))).trans (low3 id h1 h2),nx:=by simp;omega,gp:=(keep _ _ (by omega) (by omega) (ni _ (by omega))).trans kp,gq:=(keep _ _ (by omega) (by omega) (ni _ (by omega))).trans kq,pl:=?_,acc:=?_,out:=?_,dis:=fun j m c m' c' h1 h2=>?_ }⟩
      · refine acc_keep pl3 (by simp;omega) fun id a b hv=>keep _ id (acc_lt pl3 _ _ _ hv).2 (by have:=(acc_lt pl3 _ _ _ hv).1;omega) fun id0 n0 c0 h=>?_
        rw[hpv3] at hv
        cases hv
        have:=(acc_lt acc _ _ _ h).2
        omega
      · rw[hrk]
        exact acc_keep acc6 (by simp) fun id a b hv=>by cases hv;simp -implicitDefEqProofs [show ¬ H5.next+1=2 by omega]
      · rw[hok]
        exact out_add (s:=renS nd t) (by rw[hrl2];exact .inl (.inl ⟨false,rfl⟩)) (hNs6 _) _ _ (out_keep (by simp;omega) (fun id h1 h2=>⟨keep _ id h2 (by omega) (ni _ (by omega)),h1⟩) _ _ out3)
      · rw[hpv3] at h2
        obtain⟨e1,_⟩:=AVal.sl.inj h1
        obtain⟨e2,_⟩:=AVal.sl.inj h2
        omega
  · rintro e H' ⟨rfl,iv,pv,cso,hI⟩
    rw[hnl] at hI
    simp -implicitDefEqProofs [penv,L5a,hnl]
    exact hQ _ H' iv pv cso hI
  · exact⟨rfl,.ns,.ns,[],h0⟩
end
end Go.Proofs.YtkpgolcjiahdfaaDoor
namespace Go.Proofs.YtkpgolcjiahdfaaDoor
open Go Go.RI
def CheckOk(G:AHeap):Prop:=∀ x:Pce,okPce x→∀ t1 t2 t3 t4:Bool,pureR IP G 18 [.ag (pceC x t1 t2 t3 t4)]=some (.i .i64 (if checkP x then 0 else 2))
end Go.Proofs.YtkpgolcjiahdfaaDoor
namespace Go.Proofs.YtkpgolcjiahdfaaDoor
open Go Go.RI
section
variable {G:AHeap} (hG:G.next=2)
include hG
set_option maxHeartbeats 2000000 in
theorem t_pruneOf(c17:CheckOk G)(x:Pce)(hx:okPce x)(t1 t2:Bool):pureR IP G 5 [.ag (pceC x t1 t2 false false)] =
  some (if checkP x then .tu [.ag (Enc.cells (pruneP x)),.i .i64 0] else .tu [.ag (Enc.cells (⟨0,0,0,0,[],[],0,0,⟨0,0,zeroVal⟩,0⟩:Pce)),.i .i64 2]):=by
 have c1:=c17 x hx t1 t2 false false
 have hx0:=hx
 obtain⟨ho1,ho2,ho3,ho4,ho5⟩:=hx
 refine pure_run ip5 rfl ?_
 cases hc:checkP x
 ·rw[hc] at c1
  simp only[pceC] at c1
  simp at c1
  simp -implicitDefEqProofs [I5,hG,pceC,c1,zeroVal]
 ·rw[hc] at c1
  have hck:=checkP_iff.1 hc
  have hnum:=hck.1
  unfold numsP at hnum
  have hA:=prune_all hc
  have hg:=onceO_good hc
  have hkl:(onceO x).k.l.length≤4096:=by have:=hg.le;omega
  obtain⟨H1,hH1⟩:∃ H1,H1=(G.push (.cells (pceC x t1 t2 false false) 1 false)).push (.cells [.i .i64 0,.i .i64 0,.i .i64 0,.i .i64 0,.ns,.ns,.i .i64 0,.i .i64 0,.i .i64 0,.i .i64 0,.i .i64 0,.i .i64 0,.s [],.ns,.ns,.i .i64 0] 1 false):=⟨_,rfl⟩
  have h1n:H1.next=4:=by rw[hH1];simp -implicitDefEqProofs [hG]
  have h10:H1.get 2=some (.cells (pceC x t1 t2 false false) 1 false):=by rw[hH1];simp -implicitDefEqProofs [hG]
  have h11:H1.get 3=some (.cells [.i .i64 0,.i .i64 0,.i .i64 0,.i .i64 0,.ns,.ns,.i .i64 0,.i .i64 0,.i .i64 0,.i .i64 0,.i .i64 0,.i .i64 0,.s [],.ns,.ns,.i .i64 0] 1 false):=by rw[hH1];simp -implicitDefEqProofs [hG]
  obtain⟨v,H2,honce,rfl,on,of,ov,pv,cs,PB,hI⟩:=t_once hG x hx0 hc t1 t2 H1 (by omega)
  rw[h1n] at honce on of hI
  have p0:=(of 2 (by omega)).trans h10
  have p1:=(of 3 (by omega)).trans h11
  have nx:=hI.mf.nx
  obtain⟨H3,hH3⟩:∃ H3,H3=(H2.put 2 (some (.cells (pceC (onceX x) t1 false false false) 1 false))).put 2 (some (.cells (ocells (onceX x) .ns) 1 false)):=⟨_,rfl⟩
  have h3n:H3.next=H2.next:=by rw[hH3];simp
  have h3k:∀ id,id≠2→H3.get id=H2.get id:=fun id h=>by rw[hH3];simp -implicitDefEqProofs [h]
  have h30:H3.get 2=some (.cells (ocells (onceX x) .ns) 1 false):=by rw[hH3];simp
  have htu:=t_turner hG (H3.push (.cells [.ns] 1 false)) H2.next
  simp -implicitDefEqProofs [h3n] at htu
  obtain⟨H4,hH4⟩:∃ H4,H4=(H3.push (.cells [.ns] 1 false)).push (.cells [.p H2.next 0] 1 false):=⟨_,rfl⟩
  rw[←hH4] at htu
  have h4n:H4.next=H2.next+2:=by rw[hH4];simp -implicitDefEqProofs [h3n]
  have h4k:∀ id,id<H2.next→H4.get id=H3.get id:=fun id h=>by rw[hH4];simp -implicitDefEqProofs [h3n,show ¬ id=H2.next by omega,show ¬ id=H2.next+1 by omega]
  have h4p:H4.get H2.next=some (.cells [.ns] 1 false):=by rw[hH4];simp -implicitDefEqProofs [h3n]
  have h4q:H4.get (H2.next+1)=some (.cells [.p H2.next 0] 1 false):=by rw[hH4];simp -implicitDefEqProofs [h3n]
  have q0:=(h4k 2 (by omega)).trans h30
  have q1:=(h4k 3 (by omega)).trans ((h3k _ (by omega)).trans p1)
  have low:∀ id,4≤id→id<H2.next→H4.get id=H2.get id:=fun id h1 h2=>(h4k id h2).trans (h3k id (by omega))
  have hI4:=once_low hG hI (H':=H4) (by omega) fun id h1 h2=>low id (by omega) h2
  have hM4:MkK 8 7 (4+7) (Rw pv) (onceO x).k ov cs H4:=hI4.mf
  have hM2:MkK 8 7 (4+7) (Rw pv) (onceO x).k ov cs H2:=hI.mf
  obtain⟨ta,tb,cs2,hT2,sv,sh⟩:=mkk_snap hG hM4 11
  have gM4:=hM4.gM
  obtain⟨nd,hnd⟩:∃ nd,nd=ndP x:=⟨_,rfl⟩
  have hnl:nd.length=(onceO x).k.l.length:=by rw[hnd];exact hA.nd.len
  have hops:∀ o∈(onceX x).sets++[(onceX x).cond],o.kind=2→opnFits x.homes (onceO x).k.l.length o=true:=fun o ho hk=>by
   rcases mem_snoc ho with ho|rfl
   ·exact hA.setsF o ho
   ·have hcF:=hA.condF
    split at hcF
    ·exact hcF
    ·have:(turnO (onceO x).pl x.cond).kind=2:=hk
     omega
  have c21:=t_pneeds hG (onceO x).k cs2 hT2 ta tb { onceX x with ins:=[]} false false (show 0≤x.homes∧x.homes≤64 by omega) hg.fits hkl (show(onceX x).sets.length≤64 by simp -implicitDefEqProofs [onceX];omega) (fun o ho hk=>by have:=opnFits_step (hops o ho hk) hk;omega)
  have hneed:needsP ({ onceX x with ins:=[]}:Pce).homes (onceO x).k.l (({ onceX x with ins:=[]}:Pce).sets++[({ onceX x with ins:=[]}:Pce).cond])=nd:=by rw[hnd];rfl
  rw[hneed] at c21
  have h10':=h10
  simp only[pceC] at hH1 h10' p0 honce c1 c21 hH3
  simp only[ocells] at hH3 h30 q0
  simp at c1 c21 honce
  have n2:¬ 2=H2.next:=by omega
  simp -implicitDefEqProofs [I5,pceC,hG,←hH1,h1n,h10',h11,c1,honce,p0,p1,←hH3,h30,h3n,htu,q0,gM4,sv,sh,c21,hnl]
  have key:=t_pof_loop hG (onceX x) nd (onceO x).k x.homes hg.fits hnl hkl [.i .i64 0,.i .i64 0,.i .i64 0,.i .i64 0,.ns,.ns,.i .i64 0,.i .i64 0,.i .i64 0,.i .i64 0,.i .i64 0,.i .i64 0,.s [],.ns,.ns,.i .i64 0] H2 (by omega) (Rw pv) ov cs hM2 hI.nt
  simp only[penv] at key
  refine key _ H4 { g0:=by simp only[ocells];exact q0,g1:=q1,low:=low,nx:=by omega,gp:=h4p,gq:=h4q,pl:=acc_none,acc:=acc_none,out:=rfl,dis:=fun j m c m' c' h=>by cases h } ?_
  intro w H5 iv pv5 cso hO
  obtain⟨g0,g1,low5,nx5,gp,gq,pl,acc,out,dis⟩:=hO
  have hol:(outK nd (onceO x).k.l 0).length=rk nd (onceO x).k.l.length:=outK_len0 _ _
  rw[List.take_length] at out
  have hrl:=rk_self nd (onceO x).k.l.length
  obtain⟨H6,hH6⟩:∃ H6,H6=H5.push (.cells (Enc.cells (onceX x).cond) 7 false):=⟨_,rfl⟩
  have h6n:H6.next=H5.next+1:=by rw[hH6];rfl
  have h6k:∀ id,id<H5.next→H6.get id=H5.get id:=fun id h=>by rw[hH6];exact get_push_lt h
  have h6r:H6.get H5.next=some (.cells (Enc.cells (onceX x).cond) 7 false):=by rw[hH6];simp
  have w0:=(h6k 2 (by omega)).trans g0
  have w1:=(h6k 3 (by omega)).trans g1
  have wp:=(h6k H2.next (by omega)).trans gp
  have wq:=(h6k (H2.next+1) (by omega)).trans gq
  have sp:=acc_snap (k:=13) (acc_keep (H':=H6) pl (by omega) fun id a b hv=>h6k id (acc_lt pl _ _ _ hv).2) (snap_B (k:=12) _ (pbN_ok nd (onceO x).k.l.length))
  rw[pbN_o] at sp
  have bk:∀ o∈(onceX x).sets++[(onceX x).cond],(o.kind=2→0≤o.n∧o.n<(onceO x).k.l.length)∧turnO (plN nd (onceO x).k.l.length) o=renO nd o∧(renO nd o).v.bulk<1099511627776:=fun o ho=>by
   have h1:o.kind=2→0≤o.n∧o.n<(onceO x).k.l.length:=fun hk=>by have:=opnFits_step (hops o ho hk) hk;omega
   refine⟨h1,plN_turn h1,?_⟩
   unfold renO
   split
   ·simp -implicitDefEqProofs [stO,zeroVal,Val.bulk,bulkL,bulkS]
   ·rename_i hk
    rcases mem_snoc ho with hm|rfl
    ·have:=opn_bulk (hA.setsF o hm);omega
    ·have hcF:=hA.condF
     split at hcF
     ·have:=opn_bulk hcF;exact Nat.lt_of_le_of_lt this (by omega)
     ·have e:(onceX x).cond=x.cond:=hcF.1
      rw[e];exact ho5
  have c2:=t_pturn hG (onceX x).sets (by simp -implicitDefEqProofs [onceX];omega) (plN nd (onceO x).k.l.length) (fun o ho hk=>by rw[plN_len];exact(bk o (by simp -implicitDefEqProofs [ho])).1 hk) (fun o ho=>by rw[(bk o (by simp -implicitDefEqProofs [ho])).2.1];exact(bk o (by simp -implicitDefEqProofs [ho])).2.2) false false (decide (0<(onceO x).k.l.length))
  have c3:=t_pturn hG [(onceX x).cond] (by simp) (plN nd (onceO x).k.l.length) (fun o ho hk=>by rw[plN_len];simp at ho;subst ho;exact(bk _ (by simp)).1 hk) (fun o ho=>by simp at ho;subst ho;rw[(bk _ (by simp)).2.1];exact(bk _ (by simp)).2.2) true false (decide (0<(onceO x).k.l.length))
  have e2:(onceX x).sets.map (turnO (plN nd (onceO x).k.l.length))=(pruneP x).sets:=by
   have h:((onceX x).sets).map (renO nd)=(pruneP x).sets:=by rw[hnd];rfl
   rw[←h]
   exact List.map_congr_left fun o ho=>(bk o (by simp -implicitDefEqProofs [ho])).2.1
  have e3:turnO (plN nd (onceO x).k.l.length) (onceX x).cond=(pruneP x).cond:=by
   rw[(bk _ (by simp)).2.1,hnd];rfl
  have e4:(pruneP x).ins=outK nd (onceO x).k.l 0:=by rw[hnd];rfl
  have e5:(pruneP x).func=(onceX x).func∧(pruneP x).at_=(onceX x).at_∧(pruneP x).many=(onceX x).many∧(pruneP x).homes=(onceX x).homes∧(pruneP x).exit=(onceX x).exit∧(pruneP x).to=(onceX x).to∧(pruneP x).deep=(onceX x).deep:=⟨rfl,rfl,rfl,rfl,rfl,rfl,rfl⟩
  have e6:(pruneP x).sets.length=(onceX x).sets.length:=by rw[←e2];simp
  rw[e2] at c2
  rw[List.map_cons,List.map_nil,e3,plN_len] at c3
  rw[plN_len] at c2
  have fz:∀ K:AHeap,K.next=H6.next→(∀ id,4≤id→K.get id=H6.get id)→frzV K 2 14 iv=some (.fs false false (rk nd (onceO x).k.l.length) (encs (outK nd (onceO x).k.l 0))):=fun K h1 h2=>by
   refine hold_frz (k:=13) (hold_mono (acc_keep acc (H':=K) (by omega) fun id a b hv=>(h2 id (by have:=(acc_lt acc _ _ _ hv).1;omega)).trans (h6k id (acc_lt acc _ _ _ hv).2)).hold (by omega)) ?_
   exact out_frz (P:=fun id=>4≤id∧id<H2.next) (k:=11) (fun id h=>by omega) _ _ (out_keep (H':=K) (by omega) (fun id h3 h4=>⟨(h2 id h3.1).trans (h6k id h4),h3⟩) _ _ out)
  obtain⟨d1,d2⟩:=hold_one acc.hold
  simp only[ocells] at g0 w0
  simp at sp c2 c3 hH6 h6r
  simp -implicitDefEqProofs [g0,←hH6,wq,wp,sp,c2,c3,w0,h6r,w1,d1,d2,e4,e5,e6,hol]
  rw[fz _ (by simp) (fun id h=>by simp -implicitDefEqProofs [show ¬ id=2 by omega,show ¬ id=3 by omega])]
  simp
end
end Go.Proofs.YtkpgolcjiahdfaaDoor
namespace Go.Proofs.YtkpgolcjiahdfaaDoor
open Go Go.RI
theorem slR_to{H:AHeap}{esz len h:Nat}{t f:Bool}{cs:List AVal}(hl:cs.length=len*esz)(hh:h≤len):slR esz H (some (.fs t f len cs)) (some none) (some (some h)) (some none)=some (some (.fs t (f&&decide (h=len)) h (cs.take (h*esz))),H):=by
 simp -implicitDefEqProofs [slR,slV,hl,hh]
theorem take_encs5{l:List Stp}{n:Nat}(h:n≤l.length):(encs l).take (n*5)=encs (l.take n):=by
 have e:encs l=encs (l.take n)++encs (l.drop n):=by rw[←encs_append,List.take_append_drop]
 have hl:(encs (l.take n)).length=n*5:=by rw[encs_len,List.length_take,Nat.min_eq_left h];rfl
 rw[e,←hl,List.take_append_of_le_length (Nat.le_refl _),List.take_of_length_le (Nat.le_refl _)]
section
variable {G:AHeap} (hG:G.next=2)
include hG
set_option maxHeartbeats 1000000 in
theorem t_fails_loop(l:List Stp)(nh:Int)(hnh:0≤nh∧nh≤64)(hfits:Fits nh l)(hlen:l.length≤4096)(t1:Bool)(a:AVal)(xc:List AVal)(Q:Post)(H:AHeap)(h0:H.get 2=some (.cells xc 1 false))(hM:MkK 5 4 6 (fun _=>False) (ks0 nh) .ns [] H)
  (hQ:∀ w H' ov cs,H'.get 2=some (.cells xc 1 false)→MkK 5 4 6 (fun _=>False) (factsK nh l) ov cs H'→Q (.exit 0) [(1,a),(2,.p 2 0),(5,.p 5 0),(28,.fs t1 false l.length (encs l)),(29,.i .i64 l.length),(30,.i .i64 l.length),(31,w)] H') :
  wp (theCalls IP G 2) 2 (.loop L10a) Q [(1,a),(2,.p 2 0),(5,.p 5 0),(28,.fs t1 false l.length (encs l)),(29,.i .i64 l.length),(30,.i .i64 0)] H:=by
 refine wp_loop_list (l:=l) (by omega) (fun i todo e H'=>e=[(1,a),(2,.p 2 0),(5,.p 5 0),(28,.fs t1 false l.length (encs l)),(29,.i .i64 l.length),(30,.i .i64 i)]∧H'.get 2=some (.cells xc 1 false)∧∃ ov cs',MkK 5 4 6 (fun _=>False) (factsK nh (l.take i)) ov cs' H') ?_ ?_ ?_
 ·rintro i t todo e H' ht hd hlt hlt2 hlt3 ⟨rfl,g0,ov,cs',hM⟩
  have hil:i<l.length:=hlt
  have hfs:=hfits _ t ht
  have nx:=hM.nx
  have hfl:(factsK nh (l.take i)).l=l.take i:=facts_l _ _
  have hti:(l.take i).length=i:=by rw[List.length_take];omega
  have hfh:(factsK nh (l.take i)).hs.length=nh.toNat:=facts_hs _ _
  obtain⟨H1,hH1⟩:∃ H1,H1=(H'.push (.cells [.i .i64 0,.i .i64 0,.ns,.s [],.ns] 1 false)).put H'.next (some (.cells (Enc.cells t) 1 false)):=⟨_,rfl⟩
  have hk1:∀ id,id<H'.next→H1.get id=H'.get id:=fun id h=>by rw[hH1];simp -implicitDefEqProofs [show ¬ id=H'.next by omega]
  have q3:H1.get H'.next=some (.cells (Enc.cells t) 1 false):=by rw[hH1];simp
  have q4:H1.next=H'.next+1:=by rw[hH1];simp
  have hM1:=mkk_box hG hM (H':=H1) (by omega) hk1
  obtain⟨v,H3,hcall,rfl,jj,cs3,hM3,hnt3,hj3,hn3,hf3⟩:=t_padd hG hM1 (c0:=2) (by omega) (by omega) t nh i hfs hfh (by rw[hfl,hti];omega) false false (.fs false false t.names.length (encs t.names)) (.inl (.inl ⟨false,false,rfl⟩))
  have nov:∀ id,id<6→∀ j m c,ov=.sl j 0 m c→id≠j:=fun id h j m c hv=>by have:=acc_lt hM1.acc _ _ _ hv;omega
  have n3:2≤H'.next:=by omega
  have hft:factsK nh (l.take (i+1))=addK (factsK nh (l.take i)) t:=by rw[List.take_add_one,ht];exact facts_snoc _ _ _
  rw[hft]
  simp at hH1 q3
  clear hlt
  simp -implicitDefEqProofs [L10a,hlt2,hlt3,ht,n3,←hH1,q3,hcall]
  refine⟨?_,_,cs3,hM3⟩
  rw[hf3 _ (by omega) (by omega) (by omega) (nov _ (by omega)),hk1 _ (by omega)];exact g0
 ·rintro e H' ⟨rfl,g0,ov,cs',hM⟩
  rw[List.take_length] at hM
  simp -implicitDefEqProofs [L10a]
  exact hQ _ H' ov cs' g0 hM
 ·exact⟨by simp,h0,.ns,[],hM⟩
set_option maxHeartbeats 1000000 in
theorem t_pfails(c17:CheckOk G)(x:Pce)(hx:okPce x)(a:Int)(t1 t2 t3 t4:Bool):pureR IP G 10 [.ag (pceC x t1 t2 t3 t4),.i .i64 a]=some (.b (failsP x a)):=by
 have c1:=c17 x hx t1 t2 t3 t4
 simp only[pceC] at c1
 have hins:=hx.2.1
 refine pure_run ip10 rfl ?_
 cases hc:checkP x
 ·rw[hc] at c1
  have hr:failsP x a=true:=by unfold failsP;rw[hc];rfl
  rw[hr]
  simp at c1
  simp -implicitDefEqProofs [I10,hG,pceC,c1]
 ·rw[hc] at c1
  simp at c1
  have hck:=checkP_iff.1 hc
  have hnum:=hck.1
  unfold numsP at hnum
  obtain⟨n,hn⟩:∃ n:Nat,x.homes=n:=⟨x.homes.toNat,by omega⟩
  by_cases ha:a<0
  ·have hr:failsP x a=true:=by unfold failsP;rw[decide_eq_false (show ¬ 0≤a by omega)];simp
   rw[hr]
   simp -implicitDefEqProofs [I10,hG,pceC,c1,ha]
  by_cases hb:(x.ins.length:Int)≤a
  ·have hr:failsP x a=true:=by unfold failsP;rw[decide_eq_false (show ¬ a<x.ins.length by omega)];simp
   rw[hr]
   simp -implicitDefEqProofs [I10,hG,pceC,c1,ha,hb]
  obtain⟨m,rfl⟩:∃ m:Nat,a=m:=⟨a.toNat,by omega⟩
  obtain⟨s,hs⟩:=get_of_lt (l:=x.ins) (i:=m) (by omega)
  have hr:failsP x m=!sureK (factsK x.homes (x.ins.take m)) s:=by
   unfold failsP
   rw[hc,decide_eq_true (show(0:Int)≤m by omega),decide_eq_true (show(m:Int)<x.ins.length by omega)]
   simp -implicitDefEqProofs [hs]
  rw[hr]
  obtain⟨H1,hH1⟩:∃ H1,H1=G.push (.cells (pceC x t1 t2 t3 t4) 1 false):=⟨_,rfl⟩
  have h1n:H1.next=3:=by rw[hH1];simp -implicitDefEqProofs [hG]
  have h10:H1.get 2=some (.cells (pceC x t1 t2 t3 t4) 1 false):=by rw[hH1];simp -implicitDefEqProofs [hG]
  obtain⟨v,H2,hbeg,rfl,b1,b2,b3,b4⟩:=t_begun hG n (by omega) H1 (by omega)
  rw[h1n] at b1 b2 b3 hbeg
  have p0:=(b4 2 (by omega)).trans h10
  have ht5:=take_encs5 (l:=x.ins) (n:=m) (by omega)
  have hsl:slR 5 H2 (some (.fs t1 false x.ins.length (encs x.ins))) (some none) (some (some m)) (some none)=some (some (.fs t1 false m (encs (x.ins.take m))),H2):=by rw[slR_to (by simp) (by omega),ht5];rfl
  have hb2:¬ x.ins.length≤m:=by omega
  have hb3:m<x.ins.length:=by omega
  have hml:(x.ins.take m).length=m:=by rw[List.length_take];omega
  simp only[pceC,hn] at hH1 h10 p0 c1
  simp at b1 b2 b3 hbeg
  simp -implicitDefEqProofs [I10,pceC,hn,hG,←hH1,h10,c1,ha,hb,hb2,hbeg,p0,hsl]
  have hh:x.homes.toNat=n:=by omega
  have key:=t_fails_loop hG (x.ins.take m) x.homes (by omega) (fits_take (check_fits hc) m) (by omega) t1 (.i .i64 m)
  rw[hml] at key
  refine key _ _ H2 p0 { gM:=by rw[b1];simp -implicitDefEqProofs [ks0,hh],gH:=by rw[b2];simp -implicitDefEqProofs [ks0,hh],nx:=by omega,lt:=by omega,acc:=acc_none,out:=rfl } ?_
  intro w H3 ov cs g0 hM
  obtain⟨va,vb,cs2,hT2,sv,sh⟩:=mkk_snap hG hM 11
  have hfs:=check_fits hc m s hs
  have hfl:(factsK x.homes (x.ins.take m)).l=x.ins.take m:=facts_l _ _
  have hfh:(factsK x.homes (x.ins.take m)).hs.length=x.homes.toNat:=facts_hs _ _
  have hsl2:=fits_most hfs
  have c2:=t_psure hG (factsK x.homes (x.ins.take m)) cs2 hT2 va vb s (by omega) (fun o ho=>⟨fun hk=>by have:=opnFits_home (fits_all hfs o ho) hk;omega,fun hk=>by have:=opnFits_step (fits_all hfs o ho) hk;rw[hfl,hml];omega⟩) false false
  have gM:=hM.gM
  rw[hn] at sv sh c2 gM
  have hs3:∀ h,x.ins[m]'h=s:=fun h=>by rw[List.getElem?_eq_getElem h] at hs;exact Option.some.inj hs
  simp -implicitDefEqProofs [g0,hs,hs3,hb3,gM,sv,sh,c2]
end
end Go.Proofs.YtkpgolcjiahdfaaDoor
namespace Go.RI
open Go
theorem onceS_from{s:OS}{i t:Stp}(h:t∈(onceS s i).k.l):t∈s.k.l∨(t.names=i.names∧t.s=i.s):=by
 unfold onceS onceJ at h
 split at h
 ·exact .inl h
 split at h
 ·simp only[addK] at h
  rcases List.mem_append.1 h with h|h
  ·exact .inl h
  ·simp at h;subst h;exact .inr ⟨rfl,rfl⟩
 ·exact .inl h
theorem onceG_from:∀(l:List Stp) (s:OS) (t:Stp),t∈(onceG s l).k.l→t∈s.k.l∨∃ i∈l,t.names=i.names∧t.s=i.s
  | [],s,t,h=>.inl h
  | i::l,s,t,h=>by
    rcases onceG_from l _ t h with h1|⟨j,h1,h2⟩
    · rcases onceS_from h1 with h3|h3
      · exact .inl h3
      · exact .inr ⟨i,by simp,h3⟩
    · exact .inr ⟨j,by simp[h1],h2⟩
theorem pruneP_ok{x:Pce}(hc:checkP x=true)(ho:okPce x):okPce (pruneP x):=by
 have hcy:=checkP_iff.1 (pruneP_check hc)
 have hfy:=check_fits (pruneP_check hc)
 have hn:=hcy.1
 unfold numsP at hn
 refine⟨fun t ht=>?_,by omega,by omega,fun o hm=>?_,?_⟩
 ·obtain⟨r,hr⟩:=get_of_mem ht
  have hr2:=hr
  rw[pruneP_ins] at hr2
  obtain⟨j,s,h1,_,h3,_⟩:=outK_from _ 0 r t hr2
  rcases onceG_from x.ins ⟨ks0 x.homes,[]⟩ s (List.mem_of_getElem? h1) with h|⟨i,h4,h5,h6⟩
  ·simp[ks0] at h
  ·have:=ho.1 i h4
   have e1:t.names=i.names:=by rw[h3];exact h5
   have e2:t.s=i.s:=by rw[h3];exact h6
   exact(stp_fok (hfy r t hr) (by rw[e1];exact this.1) (by rw[e2];exact this.2.1)).1
 ·have:=opn_bulk (List.all_eq_true.1 hcy.2.2.2 o hm)
  unfold okO;omega
 ·have hcd:=hcy.2.2.1
  unfold condP at hcd
  split at hcd
  ·have:=opn_bulk hcd;unfold okO;omega
  ·simp only[Bool.and_eq_true] at hcd
   have:=(sameV_iff _ _).1 hcd.2
   unfold okO;rw[this];decide
end Go.RI
namespace Go.Proofs.YtkpgolcjiahdfaaDoor
open Go Go.RI
def NoFs(v:AVal):Prop:=∀ t f n l,v≠.fs t f n l
theorem step_appA{call:CallI}{lo lo' esz bytes n m:Nat}{H:AHeap}{v y:AVal}{cells ys:List AVal}{xs:List RI.Item}{kill:List Nat}{Q:Post}{dst:Option Nat}{op:IOp}{re:List (Nat×IOp×Option (Nat×Bool))}{e:Env}
  (h:Hold H lo' v esz n cells) (hv:NoFs v) (hll:lo≤lo') (hlo:lo'≤H.next) (hy:moreV H esz y=some (m,ys)) (hl:ys.length=m*esz) (he:0<esz) (hb:0<bytes) (hs:(2*(n+m)+192)*bytes≤281474976710656)
  (k:∀(v':AVal) (H':AHeap),H.next≤H'.next→Hold H' lo' v' esz (n+m) (cells++ys)→NoFs v'→(∀ id,id<H.next→(∀ id0 n0 c0,v=.sl id0 0 n0 c0→id≠id0)→H'.get id=H.get id)→stepP call lo xs kill Q dst op re e (some (some v',H'))) :
  stepP call lo xs kill Q dst op re e (appR lo H esz bytes (some v) (some y)):=by
 by_cases hm:m=0
 ·subst hm
  have hys:ys=[]:=List.eq_nil_of_length_eq_zero (by simpa using hl)
  subst hys
  have e1:appR lo H esz bytes (some v) (some y)=some (some v,H):=by
   rcases h with⟨h|h,_,_⟩|⟨id,c,rfl,hc,_⟩
   ·exact absurd h (hv _ _ _ _)
   ·subst h;simp -implicitDefEqProofs [appR,appV,hy,he,hb]
   ·rcases hc with rfl|rfl<;>simp -implicitDefEqProofs [appR,appV,hy,he,hb]
  rw[e1]
  exact k v H (Nat.le_refl _) (by simpa using h) hv fun _ _ _=>rfl
 ·exact step_appH h hll hlo hy hl he hb hs (by omega) fun H' h1 h2 h3=>k _ H' (by omega) h2.hold (fun t f n l h=>by cases h) h3
theorem more_fs{H:AHeap}{esz n:Nat}{t f:Bool}{cells:List AVal}(hl:cells.length=n*esz):moreV H esz (.fs t f n cells)=some (n,cells):=by
 by_cases hn:n=0
 ·subst hn
  have:cells=[]:=List.eq_nil_of_length_eq_zero (by simpa using hl)
  subst this
  simp -implicitDefEqProofs [moreV]
 ·simp -implicitDefEqProofs [moreV,hn,hl]
def flatO(l:List Stp):List Opn:=l.flatMap Stp.l
theorem flatO_snoc(l:List Stp)(t:Stp):flatO (l++[t])=flatO l++t.l:=by simp -implicitDefEqProofs [flatO]
theorem flatO_len{l:List Stp}(h:∀ t∈l,t.l.length≤8):(flatO l).length≤8*l.length:=by
  induction l with
  | nil=>simp -implicitDefEqProofs [flatO]
  | cons a l ih =>
    have:=ih fun t ht=>h t (by simp -implicitDefEqProofs [ht])
    have:=h a (by simp)
    have e:flatO (a::l)=a.l++flatO l:=by simp -implicitDefEqProofs [flatO]
    rw[e,List.length_append,List.length_cons]
    omega
section
variable {G:AHeap} (hG:G.next=2)
include hG
set_option maxHeartbeats 1000000 in
theorem t_needed_a(y:Pce)(hn:y.ins.length≤4096)(hl:∀ t∈y.ins,t.l.length≤8)(i:Nat)(hi:i<y.ins.length)(t1 t2:Bool)(A:List Opn)(hA:A.length≤65)(v0:AVal)(hv0:NoFs v0)(Q:Post)(H:AHeap)(g0:H.get 2=some (.cells (pceC y t1 t2 false false) 1 false))(hx0:3≤H.next)(hH0:Hold H 3 v0 7 A.length (encs A))
  (hQ:∀ w v H',3≤H'.next→NoFs v→Hold H' 3 v 7 (A++flatO (y.ins.drop (i+1))).length (encs (A++flatO (y.ins.drop (i+1))))→Q (.exit 0) [(1,.i .i64 i),(2,.p 2 0),(5,v),(6,.i .i64 y.ins.length),(22,w)] H') :
  wp (theCalls IP G 2) 2 (.loop L9a) Q [(1,.i .i64 i),(2,.p 2 0),(5,v0),(6,.i .i64 ((i:Int)+1))] H:=by
 have hdl:(y.ins.drop (i+1)).length=y.ins.length-(i+1):=by simp
 simp only[pceC] at g0
 refine wp_loop_list (l:=y.ins.drop (i+1)) (by omega) (fun j todo e H'=>∃(q:Nat) (v:AVal),q=i+1+j∧e=[(1,.i .i64 i),(2,.p 2 0),(5,v),(6,.i .i64 q)]∧H'.get 2=H.get 2∧3≤H'.next∧NoFs v∧Hold H' 3 v 7 (A++flatO ((y.ins.drop (i+1)).take j)).length (encs (A++flatO ((y.ins.drop (i+1)).take j)))) ?_ ?_ ⟨i+1,v0,rfl,by simp,rfl,hx0,hv0,by simpa[flatO] using hH0⟩
 ·rintro j t todo e H' ht hd hlt hlt2 hlt3 ⟨q,v,hq,rfl,hg,hx,hnv,hH⟩
  rw[List.getElem?_drop,←hq] at ht
  have hql:q<y.ins.length:=lt_of_get ht
  have hq1:(q:Int)<(y.ins.length:Int):=by omega
  have hg2:=hg.trans g0
  have htl:=hl t (List.mem_of_getElem? ht)
  have hfl:(flatO ((y.ins.drop (i+1)).take j)).length≤32768:=by
   have:=flatO_len (l:=(y.ins.drop (i+1)).take j) fun t h=>hl t (List.mem_of_mem_drop (List.mem_of_mem_take h))
   have h2:((y.ins.drop (i+1)).take j).length≤4096:=by rw[List.length_take];omega
   omega
  have hw:wrapI .i64 ((q:Int)+1)=(q:Int)+1:=wrap_ok (by omega) (by omega)
  have htk:(y.ins.drop (i+1)).take (j+1)=(y.ins.drop (i+1)).take j++[t]:=by rw[List.take_add_one,List.getElem?_drop,←hq,ht];rfl
  have hA2:(A++flatO ((y.ins.drop (i+1)).take j)).length≤40000:=by rw[List.length_append];omega
  have ht3:∀ h,y.ins[q]'h=t:=fun h=>by rw[List.getElem?_eq_getElem h] at ht;exact Option.some.inj ht
  clear hlt
  simp -implicitDefEqProofs [L9a,hq1,hql,hg2,ht,ht3]
  refine step_appA (lo':=3) hH hnv (by omega) hx (more_fs (by simp)) (by simp) (by omega) (by omega) (by omega) ?_
  intro v2 H2 hn2 hd2 hv2 hf2
  simp -implicitDefEqProofs [hw]
  refine⟨v2,⟨rfl,by omega⟩,?_,by omega,hv2,?_⟩
  ·rw[hf2 2 (by omega) fun id0 n0 c0 h=>by have:=(hold_lt hH _ _ _ h).1;omega];exact hg
  ·rw[htk,flatO_snoc,List.length_append,encs_append,←Nat.add_assoc,←List.append_assoc]
   rw[List.length_append,encs_append] at hd2
   exact hd2
 ·rintro e H' ⟨q,v,hq,rfl,hg,hx,hnv,hH⟩
  rw[List.take_length] at hH
  have hqe:q=y.ins.length:=by omega
  subst hqe
  have hg2:=hg.trans g0
  simp -implicitDefEqProofs [L9a,hg2]
  exact hQ _ v H' hx hnv hH
theorem t_needed_b(B:List Opn)(hB:B.length<100000)(i:Nat)(v:AVal)(Q:Post)(H:AHeap)(hx:3≤H.next)(hH:Hold H 3 v 7 B.length (encs B))
  (h1:(B.any fun o=>decide (o.kind=2)&&decide (o.n=i))=true→∀ H',Q .ret [(4,.b true)] H') (h2:(B.any fun o=>decide (o.kind=2)&&decide (o.n=i))=false→∀ w H',Q (.exit 2) [(1,.i .i64 i),(5,v),(7,.i .i64 B.length),(36,w)] H') :
  wp (theCalls IP G 2) 2 (.loop L9b) Q [(1,.i .i64 i),(5,v),(7,.i .i64 0)] H:=by
 have hln:=hold_len hH H
 refine wp_loop_list (l:=B) (by omega) (fun j todo e H'=>e=[(1,.i .i64 i),(5,v),(7,.i .i64 j)]∧H'=H∧(B.any fun o=>decide (o.kind=2)&&decide (o.n=i))=todo.any fun o=>decide (o.kind=2)&&decide (o.n=i)) ?_ ?_ ?_
 ·rintro j o todo e H' ho hd hlt hlt2 hlt3 ⟨rfl,rfl,hn⟩
  obtain⟨id,c,rfl,hrow⟩:∃ id c,v=.sl id 0 B.length c∧H'.get id=some (.cells (encs B) 7 false):=by
   rcases hH with⟨_,h,_⟩|⟨id,c,h,_,_,_,h3,_⟩
   ·omega
   ·exact⟨id,c,h,h3⟩
  have hjl:j<B.length:=hlt
  have a1:=get_encs (l:=B) (i:=j) (k:=0) (by simp -implicitDefEqProofs [Enc.sz])
  have a2:=get_encs (l:=B) (i:=j) (k:=1) (by simp -implicitDefEqProofs [Enc.sz])
  simp -implicitDefEqProofs [ho,show Enc.sz Opn=7 from rfl] at a1 a2
  rw[List.any_cons] at hn
  clear hlt
  by_cases k2:o.kind=2
  ·by_cases kn:o.n=i
   ·have ha:(B.any fun o=>decide (o.kind=2)&&decide (o.n=i))=true:=by rw[hn];simp -implicitDefEqProofs [k2,kn]
    simp -implicitDefEqProofs [L9b,hlt2,hrow,a1,a2,k2,kn]
    exact h1 ha _
   ·simp -implicitDefEqProofs [k2,kn] at hn
    simp -implicitDefEqProofs [L9b,hlt2,hlt3,hrow,a1,a2,k2,kn]
    simpa using hn
  ·simp -implicitDefEqProofs [k2] at hn
   simp -implicitDefEqProofs [L9b,hlt2,hlt3,hrow,a1,a2,k2]
   simpa using hn
 ·rintro e H' ⟨rfl,rfl,hn⟩
  simp -implicitDefEqProofs [L9b,hln]
  exact h2 (by rw[hn];rfl) _ _
 ·simp
set_option maxHeartbeats 1000000 in
theorem t_needed(y:Pce)(hs:y.sets.length≤64)(hn:y.ins.length≤4096)(hl:∀ t∈y.ins,t.l.length≤8)(i:Nat)(hi:i<y.ins.length)(t1 t2:Bool):pureR IP G 9 [.ag (pceC y t1 t2 false false),.i .i64 i]=some (.b (takesP y i)):=by
 refine pure_run ip9 rfl ?_
 obtain⟨H1,hH1⟩:∃ H1,H1=((G.push (.cells (pceC y t1 t2 false false) 1 false)).push (.cells [] 7 false)).push (.cells (Enc.cells y.cond) 7 false):=⟨_,rfl⟩
 have h1n:H1.next=5:=by rw[hH1];simp -implicitDefEqProofs [hG]
 have h10:H1.get 2=some (.cells (pceC y t1 t2 false false) 1 false):=by rw[hH1];simp -implicitDefEqProofs [hG]
 have h11:H1.get 3=some (.cells [] 7 false):=by rw[hH1];simp -implicitDefEqProofs [hG]
 have h12:H1.get 4=some (.cells (Enc.cells y.cond) 7 false):=by rw[hH1];simp -implicitDefEqProofs [hG]
 have h10':=h10
 simp only[pceC] at hH1 h10'
 simp at hH1
 simp -implicitDefEqProofs [I9,pceC,hG,←hH1,h10']
 have hd0:Hold H1 3 (.sl 3 0 0 (some 0)) 7 0 []:=.inr ⟨3,some 0,rfl,.inr rfl,by omega,by omega,h11,rfl⟩
 refine step_appA (lo':=3) (m:=y.sets.length) (ys:=encs y.sets) hd0 (fun t f n l h=>by cases h) (by omega) (by omega) (more_fs (by simp)) (by simp) (by omega) (by omega) (by omega) ?_
 intro v2 H2 hn2 hd2 hv2 hf2
 have f2:∀ id,id<5→id≠3→H2.get id=H1.get id:=fun id h1 h2=>hf2 id (by omega) fun id0 n0 c0 h=>by cases h;exact h2
 have g20:=(f2 2 (by omega) (by omega)).trans h10'
 have g22:=(f2 4 (by omega) (by omega)).trans h12
 have tk:touchV (.sl 3 0 0 (some 0))=some []:=rfl
 simp -implicitDefEqProofs [g20,tk]
 refine step_appA (lo':=3) (n:=0+y.sets.length) (m:=1) hd2 hv2 (by omega) (by omega) (more_lit (cs:=Enc.cells y.cond) (e:=7) (ro:=false) g22 (by simp) (by omega)) (by simp) (by omega) (by omega) (by omega) ?_
 intro v3 H3 hn3 hd3 hv3 hf3
 have hlow:∀ id n0 c0,v2=.sl id 0 n0 c0→3≤id:=fun id n0 c0 h=>(hold_lt hd2 _ _ _ h).1
 have g30:=(hf3 2 (by omega) fun id0 n0 c0 h=>by have:=hlow _ _ _ h;omega).trans g20
 have hw:wrapI .i64 ((i:Int)+1)=(i:Int)+1:=wrap_ok (by omega) (by omega)
 simp -implicitDefEqProofs [hw]
 have hAl:(y.sets++[y.cond]).length=y.sets.length+1:=by simp
 have hd3':Hold H3 3 v3 7 (y.sets++[y.cond]).length (encs (y.sets++[y.cond])):=by
  have e1:0+y.sets.length+1=(y.sets++[y.cond]).length:=by omega
  have e2:[]++encs y.sets++Enc.cells y.cond=encs (y.sets++[y.cond]):=by simp
  rw[e1,e2] at hd3
  exact hd3
 refine t_needed_a hG y hn hl i hi t1 t2 (y.sets++[y.cond]) (by omega) v3 hv3 _ H3 g30 (by omega) hd3' ?_
 intro w v4 H4 hx4 hv4 hd4
 have hfl:(flatO (y.ins.drop (i+1))).length≤32768:=by
  have:=flatO_len (l:=y.ins.drop (i+1)) fun t h=>hl t (List.mem_of_mem_drop h)
  have h2:(y.ins.drop (i+1)).length≤4096:=by simp;omega
  omega
 simp
 refine t_needed_b hG _ (by rw[List.length_append];omega) i v4 _ H4 hx4 hd4 ?_ ?_
 ·intro h H'
  have e:takesP y i=true:=h
  simp -implicitDefEqProofs [e]
 ·intro h w H'
  have e:takesP y i=false:=h
  simp -implicitDefEqProofs [e]
end
end Go.Proofs.YtkpgolcjiahdfaaDoor
namespace Go.Proofs.YtkpgolcjiahdfaaDoor
open Go Go.RI
section
variable {G:AHeap} (hG:G.next=2)
include hG
theorem t_copyTexts(ns:List Str)(hn:ns.length<1099511627776)(t f:Bool):pureR IP G 58 [.fs t f ns.length (encs ns)]=some (.fs false false ns.length (encs ns)):=by
 refine pure_run ip58 rfl ?_
 simp -implicitDefEqProofs [I58,hG]
 refine step_app0 (lo':=2) (by simp) (by omega) (by omega) (by omega) (by omega) ?_
 intro v H1 hn1 hA hf1
 simp -implicitDefEqProofs [hG]
 exact hold_frz (k:=15) hA.hold frz_encs
theorem t_copyV1:∀ b,b<1099511627776→∀ v:Val,v.bulk≤b→∀ t1 t2:Bool,pureR IP G 45 [.ag [.i .i64 v.kind,.i .i64 v.n,.s v.s,.fs t1 false v.l.length (encs v.l),.fs t2 false v.names.length (encs v.names)]]=some (.ag (Enc.cells v)):=by
  intro b
  induction b with
  | zero=>intro _ v h;have:=v.bulk_pos;omega
  | succ b ih =>
    intro hb v hv t1 t2
    rw[Val.bulk_eq] at hv
    have hl1:=bulkL_len v.l
    have hl2:=bulkS_len v.names
    have c1:=t_copyTexts hG v.names (by omega)
    refine pure_run ip45 rfl ?_
    simp -implicitDefEqProofs [I45,hG,c1]
    refine wp_loop_list (l:=v.l) (by omega) (fun i todo e H=>∃ lv,e=[(1,.p 2 0),(2,.p 3 0),(3,.p 4 0),(4,.i .i64 i)]∧H.get 2=some (.cells [.i .i64 v.kind,.i .i64 v.n,.s v.s,.fs t1 false v.l.length (encs v.l),.fs t2 false v.names.length (encs v.names)] 1 false) ∧
      H.get 3=some (.cells [.i .i64 0,.i .i64 0,.s [],.ns,.ns] 1 false)∧H.get 4=some (.cells [.i .i64 v.kind,.i .i64 v.n,.s v.s,lv,.fs false false v.names.length (encs v.names)] 1 false)∧4<H.next∧Acc H 5 lv 5 i (encs (v.l.take i))) ?_ ?_ ?_
    · rintro i x todo e H hx hd hlt hlt2 hlt3 ⟨lv,rfl,g1,g2,g3,hn,hA⟩
      have c2:=ih (by omega) x (by have:=bulkL_mem (List.mem_of_getElem? hx);omega) false false
      simp at c2
      obtain⟨d,hd2⟩:∃ d,H.next=d+5:=⟨H.next-5,by omega⟩
      clear hlt
      simp -implicitDefEqProofs [L45a,hlt2,hlt3,hx,g1,g2,g3,c2,hd2]
      refine step_app (acc_keep hA (by simp) ?_) (lo':=5) (m:=1) (ys:=Enc.cells x) (by omega) (by simp<;>omega) (more_lit (cs:=Enc.cells x) (e:=5) (ro:=false) (by simp -implicitDefEqProofs [hd2]) (by simp) (by omega)) (by simp) (by omega) (by omega) (by omega) (by omega) ?_
      · intro id a b hv
        have:=acc_lt hA id a b hv
        simp (disch:=(simp -implicitDefEqProofs [hd2];omega)) only[get_push_lt]
      intro H1 hn1 hA1 hf1
      have f1:∀ id,id<5→H1.get id=H.get id:=fun id h=>by
        rw[hf1 id (by simp;omega) (fun id2 a b hv=>by have:=acc_lt hA id2 a b hv;omega)]
        exact get_push_lt (by omega)
      simp -implicitDefEqProofs [hd2] at hn1 hA1
      clear hf1
      have e1:=(f1 2 (by omega)).trans g1
      have e2:=(f1 3 (by omega)).trans g2
      have e3:=(f1 4 (by omega)).trans g3
      simp -implicitDefEqProofs [hd2,hlt3,e1,e2,e3]
      refine⟨by omega,acc_keep (by simpa[List.take_add_one,hx] using hA1) (by simp) fun id a b h=>?_⟩
      cases h
      simp
    · rintro e H ⟨lv,rfl,g1,g2,g3,hn,hA⟩
      simp -implicitDefEqProofs [L45a,g1]
      simp -implicitDefEqProofs [hG,g1,g2,g3]
      rw[List.take_length] at hA
      have f1:=fun o=>hold_frz (k:=14) (hold_in hA.hold (H':=H.put 3 o) (lo':=2) (by omega) (by simp) fun id h1 h2=>by simp -implicitDefEqProofs [show ¬ id=3 by omega]) frz_encs
      simp -implicitDefEqProofs [f1]
    · exact⟨.ns,rfl,by simp -implicitDefEqProofs [hG],by simp -implicitDefEqProofs [hG],by simp -implicitDefEqProofs [hG],by simp -implicitDefEqProofs [hG],acc_none⟩
theorem t_copyV(v:Val)(hv:v.bulk<1099511627776)(t1 t2:Bool):pureR IP G 45 [.ag [.i .i64 v.kind,.i .i64 v.n,.s v.s,.fs t1 false v.l.length (encs v.l),.fs t2 false v.names.length (encs v.names)]]=some (.ag (Enc.cells v)) :=
 t_copyV1 hG v.bulk hv v (Nat.le_refl _) t1 t2
end
end Go.Proofs.YtkpgolcjiahdfaaDoor
namespace Go.Proofs.YtkpgolcjiahdfaaDoor
open Go Go.RI
section
variable {G:AHeap} (hG:G.next=2)
include hG
theorem t_copied(l:List Opn)(hl:l.length<1099511627776)(ho:∀ o∈l,okO o)(t f:Bool):pureR IP G 44 [.fs t f l.length (encs l)]=some (.fs false false l.length (encs l)):=by
  refine pure_run ip44 rfl ?_
  simp -implicitDefEqProofs [I44,hG]
  refine wp_loop_list (l:=l) (by omega) (fun i todo e H=>∃ lv,e=[(0,.fs t f l.length (encs l)),(3,lv),(4,.i .i64 i)]∧2≤H.next∧Acc H 2 lv 7 i (encs (l.take i))) ?_ ?_ ?_
  ·rintro i x todo e H hx hd hlt hlt2 hlt3 ⟨lv,rfl,hn,hA⟩
   have c2:=t_copyV hG x.v (ho x (List.mem_of_getElem? hx)) false false
   simp at c2
   obtain⟨d,hd2⟩:∃ d,H.next=d+2:=⟨H.next-2,by omega⟩
   clear hlt
   simp -implicitDefEqProofs [L44a,hlt2,hlt3,hx,hd2,c2]
   refine step_app (acc_keep hA (by simp) ?_) (lo':=2) (m:=1) (ys:=Enc.cells x) (by omega) (by simp<;>omega) (more_lit (cs:=Enc.cells x) (e:=7) (ro:=false) (by simp -implicitDefEqProofs [hd2]) (by simp) (by omega)) (by simp) (by omega) (by omega) (by omega) (by omega) ?_
   ·intro id a b hv
    have:=acc_lt hA id a b hv
    simp (disch:=(simp -implicitDefEqProofs [hd2];omega)) only[get_push_lt]
   intro H1 hn1 hA1 hf1
   simp -implicitDefEqProofs [hd2] at hn1 hA1
   clear hf1
   simp -implicitDefEqProofs [hd2,hlt3]
   exact⟨by omega,by simpa[List.take_add_one,hx] using hA1⟩
  ·rintro e H ⟨lv,rfl,hn,hA⟩
   simp -implicitDefEqProofs [L44a,hG]
   rw[List.take_length] at hA
   exact hold_frz (k:=15) hA.hold frz_encs
  ·exact⟨.ns,rfl,by omega,acc_none⟩
theorem t_back(l:List Opn)(hl:l.length<1099511627776)(ho:∀ o∈l,okO o)(t f:Bool):pureR IP G 23 [.fs t f l.length (encs l)]=some (.fs false false l.length (encs l)):=by
  refine pure_run ip23 rfl ?_
  simp -implicitDefEqProofs [I23,hG]
  refine wp_loop_list (l:=l) (by omega) (fun i todo e H=>∃ lv,e=[(0,.fs t f l.length (encs l)),(3,lv),(4,.i .i64 i)]∧2≤H.next∧Acc H 2 lv 7 i (encs (l.take i))) ?_ ?_ ?_
  ·rintro i x todo e H hx hd hlt hlt2 hlt3 ⟨lv,rfl,hn,hA⟩
   obtain⟨d,hd2⟩:∃ d,H.next=d+2:=⟨H.next-2,by omega⟩
   clear hlt
   simp -implicitDefEqProofs [L23a,hlt2,hlt3,hx,hd2]
   refine step_app (acc_keep hA (by simp) ?_) (lo':=2) (m:=1) (ys:=Enc.cells x) (by omega) (by simp<;>omega) (more_lit (cs:=Enc.cells x) (e:=7) (ro:=false) (by simp -implicitDefEqProofs [hd2]) (by simp) (by omega)) (by simp) (by omega) (by omega) (by omega) (by omega) ?_
   ·intro id a b hv
    have:=acc_lt hA id a b hv
    simp (disch:=(simp -implicitDefEqProofs [hd2];omega)) only[get_push_lt]
   intro H1 hn1 hA1 hf1
   simp -implicitDefEqProofs [hd2] at hn1 hA1
   clear hf1
   simp -implicitDefEqProofs [hd2,hlt3]
   exact⟨by omega,by simpa[List.take_add_one,hx] using hA1⟩
  ·rintro e H ⟨lv,rfl,hn,hA⟩
   simp -implicitDefEqProofs [L23a,hG]
   rw[List.take_length] at hA
   exact hold_frz (k:=15) hA.hold frz_encs
  ·exact⟨.ns,rfl,by omega,acc_none⟩
theorem t_operands(l:List Opn)(hl:l.length<1099511627776)(ho:∀ o∈l,okO o)(t f:Bool):pureR IP G 24 [.fs t f l.length (encs l)]=some (.fs false false l.length (encs l)):=by
  refine pure_run ip24 rfl ?_
  simp -implicitDefEqProofs [I24,hG]
  refine wp_loop_list (l:=l) (by omega) (fun i todo e H=>∃ lv,e=[(0,.fs t f l.length (encs l)),(3,lv),(4,.i .i64 i)]∧2≤H.next∧Acc H 2 lv 7 i (encs (l.take i))) ?_ ?_ ?_
  ·rintro i x todo e H hx hd hlt hlt2 hlt3 ⟨lv,rfl,hn,hA⟩
   obtain⟨d,hd2⟩:∃ d,H.next=d+2:=⟨H.next-2,by omega⟩
   clear hlt
   simp -implicitDefEqProofs [L24a,hlt2,hlt3,hx,hd2]
   refine step_app (acc_keep hA (by simp) ?_) (lo':=2) (m:=1) (ys:=Enc.cells x) (by omega) (by simp<;>omega) (more_lit (cs:=Enc.cells x) (e:=7) (ro:=false) (by simp -implicitDefEqProofs [hd2]) (by simp) (by omega)) (by simp) (by omega) (by omega) (by omega) (by omega) ?_
   ·intro id a b hv
    have:=acc_lt hA id a b hv
    simp (disch:=(simp -implicitDefEqProofs [hd2];omega)) only[get_push_lt]
   intro H1 hn1 hA1 hf1
   simp -implicitDefEqProofs [hd2] at hn1 hA1
   clear hf1
   simp -implicitDefEqProofs [hd2,hlt3]
   exact⟨by omega,by simpa[List.take_add_one,hx] using hA1⟩
  ·rintro e H ⟨lv,rfl,hn,hA⟩
   simp -implicitDefEqProofs [L24a,hG]
   rw[List.take_length] at hA
   exact hold_frz (k:=15) hA.hold frz_encs
  ·exact⟨.ns,rfl,by omega,acc_none⟩
theorem t_copyIns(s:Stp)(hs:okStp s)(t1 t2:Bool):pureR IP G 43 [.ag [.i .i64 s.op,.i .i64 s.n,.fs t1 false s.l.length (encs s.l),.s s.s,.fs t2 false s.names.length (encs s.names)]]=some (.ag (Enc.cells s)):=by
 obtain⟨a1,a2,a3,a4⟩:=hs
 have hl2:=bulkS_len s.names
 have c1:=t_copied hG s.l a3 a4 t1 false
 have c2:=t_copyTexts hG s.names (by omega) t2 false
 refine pure_run ip43 rfl ?_
 simp -implicitDefEqProofs [I43,hG,c1,c2]
end
end Go.Proofs.YtkpgolcjiahdfaaDoor
namespace Go.Proofs.YtkpgolcjiahdfaaDoor
open Go Go.RI
section
variable {G:AHeap} (hG:G.next=2)
include hG
set_option maxHeartbeats 1000000 in
theorem t_copyPce(x:Pce)(hx:okPce x)(t1 t2 t3 t4:Bool):pureR IP G 22 [.ag (pceC x t1 t2 t3 t4)]=some (.ag (Enc.cells x)):=by
 obtain⟨ho1,ho2,ho3,ho4,ho5⟩:=hx
 have c1:=t_copied hG x.sets ho3 ho4 t2 false
 have c2:=t_copyV hG x.cond.v ho5 t3 t4
 simp at c2
 refine pure_run ip22 rfl ?_
 simp -implicitDefEqProofs [I22,hG,pceC]
 refine wp_loop_list (l:=x.ins) (by omega) (fun i todo e H=>∃ lv,e=[(1,.p 2 0),(2,.p 3 0),(3,.p 4 0),(4,.i .i64 i)]∧H.get 2=some (.cells (pceC x t1 t2 t3 t4) 1 false) ∧
  (∃ z,H.get 3=some (.cells z 1 false)∧z.length=16)∧H.get 4=some (.cells ((pceC x t1 t2 t3 t4).set 4 lv) 1 false)∧4<H.next∧Acc H 5 lv 5 i (encs (x.ins.take i))) ?_ ?_ ?_
 ·rintro i s todo e H hs hd hlt hlt2 hlt3 ⟨lv,rfl,g1,⟨z,g2,hz⟩,g3,hn,hA⟩
  have c3:=t_copyIns hG s (ho1 s (List.mem_of_getElem? hs)) false false
  simp at c3
  obtain⟨d,hd2⟩:∃ d,H.next=d+5:=⟨H.next-5,by omega⟩
  simp only[pceC,List.set_cons_succ,List.set_cons_zero] at g1 g3
  clear hlt
  simp -implicitDefEqProofs [L22a,hlt2,hlt3,hs,g1,g3,c3,hd2]
  refine step_app (acc_keep hA (by simp) ?_) (lo':=5) (m:=1) (ys:=Enc.cells s) (by omega) (by simp<;>omega) (more_lit (cs:=Enc.cells s) (e:=5) (ro:=false) (by simp -implicitDefEqProofs [hd2]) (by simp) (by omega)) (by simp) (by omega) (by omega) (by omega) (by omega) ?_
  ·intro id a b hv
   have:=acc_lt hA id a b hv
   simp (disch:=(simp -implicitDefEqProofs [hd2];omega)) only[get_push_lt]
  intro H1 hn1 hA1 hf1
  have f1:∀ id,id<5→H1.get id=H.get id:=fun id h=>by
   rw[hf1 id (by simp;omega) (fun id2 a b hv=>by have:=acc_lt hA id2 a b hv;omega)]
   exact get_push_lt (by omega)
  simp -implicitDefEqProofs [hd2] at hn1 hA1
  clear hf1
  have e1:=(f1 2 (by omega)).trans g1
  have e2:=(f1 3 (by omega)).trans g2
  have e3:=(f1 4 (by omega)).trans g3
  simp -implicitDefEqProofs [hd2,hlt3,e1,e2,e3]
  refine⟨rfl,hz,_,rfl,by omega,acc_keep (by simpa[List.take_add_one,hs] using hA1) (by simp) fun id a b h=>?_⟩
  cases h
  simp
 ·rintro e H ⟨lv,rfl,g1,⟨z,g2,hz⟩,g3,hn,hA⟩
  simp only[pceC,List.set_cons_succ,List.set_cons_zero] at g1 g3
  obtain⟨z0,z1,z2,z3,z4,z5,z6,z7,z8,z9,z10,z11,z12,z13,z14,z15,rfl⟩:=list16 hz
  simp -implicitDefEqProofs [L22a,g1]
  simp -implicitDefEqProofs [hG,g1,g2,g3,c1,c2]
  rw[List.take_length] at hA
  have f1:=fun o p q=>hold_frz (k:=14) (hold_in hA.hold (H':=((H.put 4 p).put 4 q).put 3 o) (lo':=2) (by omega) (by simp) fun id h1 h2=>by simp -implicitDefEqProofs [show ¬ id=3 by omega,show ¬ id=4 by omega]) frz_encs
  simp -implicitDefEqProofs [f1]
 ·exact⟨.ns,rfl,by simp -implicitDefEqProofs [hG,pceC],⟨_,by simp -implicitDefEqProofs [hG];rfl,rfl⟩,by simp -implicitDefEqProofs [hG,pceC],by simp -implicitDefEqProofs [hG],acc_none⟩
end
end Go.Proofs.YtkpgolcjiahdfaaDoor
namespace Go.Proofs.YtkpgolcjiahdfaaDoor
open Go Go.RI
section
variable {G:AHeap} (hG:G.next=2)
include hG
def outC(x:Pce)(lv:AVal):List AVal:=[.i .i64 x.func,.i .i64 x.at_,.i .i64 x.many,.i .i64 x.homes,lv,.ns,.i .i64 x.exit,.i .i64 x.to,.i .i64 0,.i .i64 0,.i .i64 0,.i .i64 0,.s [],.ns,.ns,.i .i64 x.deep]
set_option maxHeartbeats 1000000 in
theorem t_told(x:Pce)(hx:okPce x)(t1 t2:Bool):pureR IP G 7 [.ag (pceC x t1 t2 false false)]=some (.ag (Enc.cells x)):=by
 obtain⟨ho1,ho2,ho3,ho4,ho5⟩:=hx
 have c1:=t_operands hG x.sets ho3 ho4 t2 false
 refine pure_run ip7 rfl ?_
 simp -implicitDefEqProofs [I7,hG,pceC]
 refine wp_loop_list (l:=x.ins) (by omega) (fun i todo e H=>∃ lv,e=[(1,.p 2 0),(2,.p 3 0),(3,.p 4 0),(4,.i .i64 i)]∧H.get 2=some (.cells (pceC x t1 t2 false false) 1 false) ∧
  (∃ z,H.get 3=some (.cells z 1 false)∧z.length=16)∧H.get 4=some (.cells (outC x lv) 1 false)∧4<H.next∧Acc H 5 lv 5 i (encs (x.ins.take i))) ?_ ?_ ?_
 ·rintro i s todo e H hs hd hlt hlt2 hlt3 ⟨lv,rfl,g1,⟨z,g2,hz⟩,g3,hn,hA⟩
  obtain⟨a1,a2,a3,a4⟩:=ho1 s (List.mem_of_getElem? hs)
  have c3:=t_operands hG s.l a3 a4 false false
  obtain⟨d,hd2⟩:∃ d,H.next=d+5:=⟨H.next-5,by omega⟩
  simp only[pceC,outC,cells_pce] at g1 g3
  clear hlt
  simp -implicitDefEqProofs [L7a,hlt2,hlt3,hs,g1,g3,c3,hd2]
  refine step_app (acc_keep hA (by simp) ?_) (lo':=5) (m:=1) (ys:=Enc.cells s) (by omega) (by simp<;>omega) (more_lit (cs:=Enc.cells s) (e:=5) (ro:=false) (by simp -implicitDefEqProofs [hd2]) (by simp) (by omega)) (by simp) (by omega) (by omega) (by omega) (by omega) ?_
  ·intro id a b hv
   have:=acc_lt hA id a b hv
   simp (disch:=(simp -implicitDefEqProofs [hd2];omega)) only[get_push_lt]
  intro H1 hn1 hA1 hf1
  have f1:∀ id,id<5→H1.get id=H.get id:=fun id h=>by
   rw[hf1 id (by simp;omega) (fun id2 a b hv=>by have:=acc_lt hA id2 a b hv;omega)]
   exact get_push_lt (by omega)
  simp -implicitDefEqProofs [hd2] at hn1 hA1
  clear hf1
  have e1:=(f1 2 (by omega)).trans g1
  have e2:=(f1 3 (by omega)).trans g2
  have e3:=(f1 4 (by omega)).trans g3
  simp -implicitDefEqProofs [hd2,hlt3,e1,e2,e3]
  refine⟨rfl,hz,_,rfl,by omega,acc_keep (by simpa[List.take_add_one,hs] using hA1) (by simp) fun id a b h=>?_⟩
  cases h
  simp
 ·rintro e H ⟨lv,rfl,g1,⟨z,g2,hz⟩,g3,hn,hA⟩
  simp only[pceC,outC,cells_pce] at g1 g3
  obtain⟨z0,z1,z2,z3,z4,z5,z6,z7,z8,z9,z10,z11,z12,z13,z14,z15,rfl⟩:=list16 hz
  simp -implicitDefEqProofs [L7a,g1]
  simp -implicitDefEqProofs [hG,g1,g2,g3,c1]
  rw[List.take_length] at hA
  have f1:=fun o p q=>hold_frz (k:=14) (hold_in hA.hold (H':=((H.put 4 p).put 4 q).put 3 o) (lo':=2) (by omega) (by simp) fun id h1 h2=>by simp -implicitDefEqProofs [show ¬ id=3 by omega,show ¬ id=4 by omega]) frz_encs
  simp -implicitDefEqProofs [f1]
 ·exact⟨.ns,rfl,by simp -implicitDefEqProofs [hG,pceC],⟨_,by simp -implicitDefEqProofs [hG];rfl,rfl⟩,by simp -implicitDefEqProofs [hG,outC],by simp -implicitDefEqProofs [hG],acc_none⟩
set_option maxHeartbeats 1000000 in
theorem t_meant(x:Pce)(hx:okPce x)(t1 t2 t3 t4:Bool):pureR IP G 6 [.ag (pceC x t1 t2 t3 t4)]=some (.ag (Enc.cells x)):=by
 have c0:=t_copyPce hG x hx t1 t2 t3 t4
 simp -implicitDefEqProofs [pceC] at c0
 obtain⟨ho1,ho2,ho3,ho4,ho5⟩:=hx
 have c1:=t_back hG x.sets ho3 ho4 false false
 refine pure_run ip6 rfl ?_
 simp -implicitDefEqProofs [I6,hG,pceC,c0]
 refine wp_loop_list (l:=x.ins) (by omega) (fun i todo e H=>∃ lv,e=[(2,.p 3 0),(3,.p 4 0),(4,.p 5 0),(5,.i .i64 i)]∧H.get 4=some (.cells (Enc.cells x) 1 false) ∧
  (∃ z,H.get 3=some (.cells z 1 false)∧z.length=16)∧H.get 5=some (.cells (outC x lv) 1 false)∧5<H.next∧Acc H 6 lv 5 i (encs (x.ins.take i))) ?_ ?_ ?_
 ·rintro i s todo e H hs hd hlt hlt2 hlt3 ⟨lv,rfl,g1,⟨z,g2,hz⟩,g3,hn,hA⟩
  obtain⟨a1,a2,a3,a4⟩:=ho1 s (List.mem_of_getElem? hs)
  have c3:=t_back hG s.l a3 a4 false false
  obtain⟨d,hd2⟩:∃ d,H.next=d+6:=⟨H.next-6,by omega⟩
  simp only[pceC,outC,cells_pce] at g1 g3
  clear hlt
  simp -implicitDefEqProofs [L6a,hlt2,hlt3,hs,g1,g3,c3,hd2]
  refine step_app (acc_keep hA (by simp) ?_) (lo':=6) (m:=1) (ys:=Enc.cells s) (by omega) (by simp<;>omega) (more_lit (cs:=Enc.cells s) (e:=5) (ro:=false) (by simp -implicitDefEqProofs [hd2]) (by simp) (by omega)) (by simp) (by omega) (by omega) (by omega) (by omega) ?_
  ·intro id a b hv
   have:=acc_lt hA id a b hv
   simp (disch:=(simp -implicitDefEqProofs [hd2];omega)) only[get_push_lt]
  intro H1 hn1 hA1 hf1
  have f1:∀ id,id<6→H1.get id=H.get id:=fun id h=>by
   rw[hf1 id (by simp;omega) (fun id2 a b hv=>by have:=acc_lt hA id2 a b hv;omega)]
   exact get_push_lt (by omega)
  simp -implicitDefEqProofs [hd2] at hn1 hA1
  clear hf1
  have e1:=(f1 4 (by omega)).trans g1
  have e2:=(f1 3 (by omega)).trans g2
  have e3:=(f1 5 (by omega)).trans g3
  simp -implicitDefEqProofs [hd2,hlt3,e1,e2,e3]
  refine⟨hz,_,rfl,by omega,acc_keep (by simpa[List.take_add_one,hs] using hA1) (by simp) fun id a b h=>?_⟩
  cases h
  simp
 ·rintro e H ⟨lv,rfl,g1,⟨z,g2,hz⟩,g3,hn,hA⟩
  simp only[pceC,outC,cells_pce] at g1 g3
  obtain⟨z0,z1,z2,z3,z4,z5,z6,z7,z8,z9,z10,z11,z12,z13,z14,z15,rfl⟩:=list16 hz
  simp -implicitDefEqProofs [L6a,g1]
  simp -implicitDefEqProofs [hG,g1,g2,g3,c1]
  rw[List.take_length] at hA
  have f1:=fun o p q=>hold_frz (k:=14) (hold_in hA.hold (H':=((H.put 5 p).put 5 q).put 3 o) (lo':=2) (by omega) (by simp) fun id h1 h2=>by simp -implicitDefEqProofs [show ¬ id=3 by omega,show ¬ id=5 by omega]) frz_encs
  simp -implicitDefEqProofs [f1]
 ·exact⟨.ns,rfl,by simp -implicitDefEqProofs [hG,pceC],⟨_,by simp -implicitDefEqProofs [hG];rfl,rfl⟩,by simp -implicitDefEqProofs [hG,outC],by simp -implicitDefEqProofs [hG],acc_none⟩
end
end Go.Proofs.YtkpgolcjiahdfaaDoor
namespace Go.Proofs.YtkpgolcjiahdfaaDoor
open Go Go.RI
section
variable {G:AHeap} (hG:G.next=2)
include hG
theorem t_number(a b:Int):pureR IP G 78 [.i .i64 a,.i .i64 b]=some (.i .i64 (numI a b)):=by
 refine pure_run ip78 rfl ?_
 simp -implicitDefEqProofs [I78,hG]
 repeat' ((first|refine guard_intro ?_ ?_|refine test_intro ?_ ?_)<;>intro h<;>(try simp -implicitDefEqProofs [h,hG]))
 all_goals simp only[decide_eq_true_eq,decide_eq_false_iff_not] at *
 all_goals simp -implicitDefEqProofs [numI, *]
theorem t_text(a b:Str):pureR IP G 79 [.s a,.s b]=some (.i .i64 (txtI a b)):=by
 have e:∀ a b:Str,leS a b=(ltB a b||a==b):=fun _ _=>rfl
 have hgt:∀ a b:Str,(!leS a b)=true→ltB b a=true:=fun a b h=>by
  have hne:a≠b:=fun he=>by subst he;simp -implicitDefEqProofs [leS] at h
  rcases ltB_total a b hne with h1|h1
  ·simp -implicitDefEqProofs [leS,h1] at h
  ·exact h1
 refine pure_run ip79 rfl ?_
 simp -implicitDefEqProofs [I79,hG]
 refine test_intro ?_ ?_<;>intro h<;>simp -implicitDefEqProofs [hG]
 ·simp -implicitDefEqProofs [txtI,h]
 ·refine test_intro ?_ ?_<;>intro h2<;>simp -implicitDefEqProofs [hG]
  ·have h3:ltB b a=false:=by
    cases h4:ltB b a with
    | false=>rfl
    | true=>exact absurd (ltB_not_le b a h4) (by rw[h2];simp)
   simp -implicitDefEqProofs [txtI,h,h3]
  ·simp -implicitDefEqProofs [txtI,h,hgt a b (by rw[h2];rfl)]
def valC(v:Val)(t1 t2:Bool):List AVal:=[.i .i64 v.kind,.i .i64 v.n,.s v.s,.fs t1 false v.l.length (encs v.l),.fs t2 false v.names.length (encs v.names)]
theorem t_cmp_loop1(v w:Val)(hv:v.names.length<1099511627776)(t1 t2 t3 t4:Bool)(Q:Post)(H:AHeap)(g1:H.get 2=some (.cells (valC v t1 t2) 1 false))(g2:H.get 3=some (.cells (valC w t3 t4) 1 false))
  (h1:(v.names=w.names∨cmpS v.names w.names=numI v.names.length w.names.length∧v.names.length≠w.names.length)→∀ b i,Q (.exit 0) [(2,.p 2 0),(3,.p 3 0),(5,.i .i64 i),(49,b)] H)
  (h2:v.names≠w.names→Q .ret [(4,.i .i64 (cmpS v.names w.names))] H) :
  wp (theCalls IP G 2) 2 (.loop L71a) Q [(2,.p 2 0),(3,.p 3 0),(5,.i .i64 0)] H:=by
 simp only[valC] at g1 g2
 refine wp_loop_inv (fun k e H'=>∃ i:Nat,k=v.names.length-i∧i≤v.names.length∧i≤w.names.length∧v.names.take i=w.names.take i∧e=[(2,.p 2 0),(3,.p 3 0),(5,.i .i64 i)]∧H'=H) ?_ _ _ _ ⟨0,rfl,by omega,by omega,by simp,rfl,rfl⟩
 rintro k e H' ⟨i,hk,hi1,hi2,ht,rfl,rfl⟩
 have done:(i=v.names.length∨i=w.names.length)→(v.names=w.names∨cmpS v.names w.names=numI v.names.length w.names.length∧v.names.length≠w.names.length):=fun he=>by
  by_cases hl:v.names.length=w.names.length
  ·left
   have e1:i=v.names.length:=by omega
   rw[e1] at ht
   rw[List.take_of_length_le (Nat.le_refl _),List.take_of_length_le (by omega)] at ht
   exact ht
  ·exact .inr ⟨cmpS_end ht ⟨hi1,hi2⟩ he,hl⟩
 rcases Nat.lt_or_ge i v.names.length with hlt1|hge1
 ·have hlt2:(i:Int)<(v.names.length:Int):=by omega
  rcases Nat.lt_or_ge i w.names.length with hlt3|hge3
  ·have hlt4:(i:Int)<(w.names.length:Int):=by omega
   obtain⟨x,hx⟩:=get_of_lt hlt1
   obtain⟨y,hy⟩:=get_of_lt hlt3
   have hlt5:i<4611686018427387904:=by omega
   clear hlt1 hlt3
   have c1:=t_text hG x y
   simp -implicitDefEqProofs [L71a,g1,g2,hlt2,hlt4,hx,hy]
   refine test_intro ?_ ?_<;>intro h<;>simp -implicitDefEqProofs [g1,g2,hlt2,hlt4,hx,hy,hlt5,c1]
   ·have hxy:x=y:=by simpa using h
    subst hxy
    exact⟨v.names.length-(i+1),by omega,i+1,rfl,by omega,by omega,take_succ_eq ht hx hy,rfl⟩
   ·have hxy:x≠y:=by simpa using h
    rw[←cmpS_at ht hx hy hxy]
    refine h2 fun he=>?_
    rw[he,hy] at hx
    cases hx
    exact hxy rfl
  ·have hlt4:¬(i:Int)<(w.names.length:Int):=by omega
   simp -implicitDefEqProofs [L71a,g1,g2,hlt2,hlt4]
   exact h1 (done (by omega)) _ _
 ·have hlt2:¬(i:Int)<(v.names.length:Int):=by omega
  simp -implicitDefEqProofs [L71a,g1,g2,hlt2]
  exact h1 (done (by omega)) _ _
theorem t_cmp_loop2(v w:Val)(hv:v.l.length<1099511627776)(t1 t2 t3 t4:Bool)
  (ih:∀ x∈v.l,∀ y:Val,∀ t1 t2 t3 t4:Bool,pureR IP G 71 [.ag (valC x t1 t2),.ag (valC y t3 t4)]=some (.i .i64 (cmpV x y)))
  (Q:Post) (H:AHeap) (g1:H.get 2=some (.cells (valC v t1 t2) 1 false)) (g2:H.get 3=some (.cells (valC w t3 t4) 1 false))
  (h1:cmpVL v.l w.l=numI v.l.length w.l.length→∀ b i,Q (.exit 2) [(2,.p 2 0),(3,.p 3 0),(6,.i .i64 i),(99,b)] H)
  (h2:Q .ret [(4,.i .i64 (cmpVL v.l w.l))] H) :
  wp (theCalls IP G 2) 2 (.loop L71b) Q [(2,.p 2 0),(3,.p 3 0),(6,.i .i64 0)] H:=by
 simp only[valC] at g1 g2
 refine wp_loop_inv (fun k e H'=>∃ i:Nat,k=v.l.length-i∧i≤v.l.length∧i≤w.l.length∧v.l.take i=w.l.take i∧e=[(2,.p 2 0),(3,.p 3 0),(6,.i .i64 i)]∧H'=H) ?_ _ _ _ ⟨0,rfl,by omega,by omega,by simp,rfl,rfl⟩
 rintro k e H' ⟨i,hk,hi1,hi2,ht,rfl,rfl⟩
 rcases Nat.lt_or_ge i v.l.length with hlt1|hge1
 ·have hlt2:(i:Int)<(v.l.length:Int):=by omega
  rcases Nat.lt_or_ge i w.l.length with hlt3|hge3
  ·have hlt4:(i:Int)<(w.l.length:Int):=by omega
   obtain⟨x,hx⟩:=get_of_lt hlt1
   obtain⟨y,hy⟩:=get_of_lt hlt3
   have hlt5:i<4611686018427387904:=by omega
   clear hlt1 hlt3
   have c1:=ih x (List.mem_of_getElem? hx) y false false false false
   simp only[valC] at c1
   simp -implicitDefEqProofs [L71b,g1,g2,hlt2,hlt4,hx,hy,c1]
   refine test_intro ?_ ?_<;>intro h<;>simp -implicitDefEqProofs [g1,g2,hlt5]
   ·have hxy:cmpV x y=0:=by simpa using h
    have:=(cmpV_iff x y).1 hxy
    subst this
    exact⟨v.l.length-(i+1),by omega,i+1,rfl,by omega,by omega,take_succ_eq ht hx hy,rfl⟩
   ·have hxy:cmpV x y≠0:=by simpa using h
    rw[←cmpVL_at ht hx hy hxy]
    exact h2
  ·have hlt4:¬(i:Int)<(w.l.length:Int):=by omega
   simp -implicitDefEqProofs [L71b,g1,g2,hlt2,hlt4]
   exact h1 (cmpVL_end ht ⟨hi1,hi2⟩ (by omega)) _ _
 ·have hlt2:¬(i:Int)<(v.l.length:Int):=by omega
  simp -implicitDefEqProofs [L71b,g1,g2,hlt2]
  exact h1 (cmpVL_end ht ⟨hi1,hi2⟩ (by omega)) _ _
theorem t_cmp1:∀ b,b<1099511627776→∀ v w:Val,v.bulk≤b→∀ t1 t2 t3 t4:Bool,pureR IP G 71 [.ag (valC v t1 t2),.ag (valC w t3 t4)]=some (.i .i64 (cmpV v w)):=by
  intro b
  induction b with
  | zero=>intro _ v w h;have:=v.bulk_pos;omega
  | succ b ih =>
    intro hb v w hv t1 t2 t3 t4
    rw[Val.bulk_eq] at hv
    have hl1:=bulkL_len v.l
    have hl2:=bulkS_len v.names
    have c1:=t_number hG
    have c2:=t_text hG
    rw[cmpV_eq]
    refine pure_run ip71 rfl ?_
    simp -implicitDefEqProofs [I71,hG,valC]
    refine test_intro ?_ ?_<;>intro h<;>simp -implicitDefEqProofs [hG,c1]
    · have h := of_decide_eq_true h
      rw[if_pos h]
      refine test_intro ?_ ?_<;>intro h2<;>simp -implicitDefEqProofs [hG,c1]
      · have h2:=of_decide_eq_true h2
        rw[if_pos h2]
        refine test_intro ?_ ?_<;>intro h3<;>simp -implicitDefEqProofs [hG,c2]
        · have h3:v.s=w.s:=by simpa using h3
          rw[if_pos h3]
          refine t_cmp_loop1 hG v w (by omega) t1 t2 t3 t4 _ _ (by simp -implicitDefEqProofs [hG,valC]) (by simp -implicitDefEqProofs [hG,valC]) ?_ ?_
          · intro hc b i
            simp -implicitDefEqProofs [hG]
            refine test_intro ?_ ?_<;>intro h4<;>simp -implicitDefEqProofs [hG,c1]
            · have h4:=of_decide_eq_true h4
              have hnm:v.names=w.names:=by
                rcases hc with hc|hc
                · exact hc
                · omega
              rw[if_pos hnm]
              refine t_cmp_loop2 hG v w (by omega) t1 t2 t3 t4 (fun x hx y=>ih (by omega) x y (by have:=bulkL_mem hx;omega)) _ _ (by simp -implicitDefEqProofs [hG,valC]) (by simp -implicitDefEqProofs [hG,valC]) ?_ ?_
              · intro he b i
                simp -implicitDefEqProofs [hG,c1,he]
              · simp
            · have h4:=of_decide_eq_false h4
              rcases hc with hc|hc
              · rw[hc] at h4;exact absurd rfl h4
              · rw[if_neg (fun e=>by rw[e] at h4;exact h4 rfl),hc.1]
          · intro hne
            rw[if_neg hne]
            simp
        · intro e;rw[e] at h3;simp at h3
      · intro e;exact absurd e (of_decide_eq_false h2)
    · intro e;exact absurd e (of_decide_eq_false h)
theorem t_sameR(v w:Val)(hv:v.bulk<1099511627776)(t1 t2 t3 t4:Bool):pureR IP G 59 [.ag (valC v t1 t2),.ag (valC w t3 t4)]=some (.b (decide (v=w))):=by
 have c1:=t_cmp1 hG v.bulk hv v w (Nat.le_refl _) t1 t2 t3 t4
 simp only[valC] at c1 ⊢
 refine pure_run ip59 rfl ?_
 simp -implicitDefEqProofs [I59,hG,c1]
 exact cmpV_iff v w
end
end Go.Proofs.YtkpgolcjiahdfaaDoor
