import Derived.Test.YtkpgolcjiahdfaaDoorM08
import Derived.Test.YtkpgolcjiahdfaaDoorM07
set_option linter.unusedVariables false
set_option linter.unusedSimpArgs false
set_option linter.unusedSectionVars false
/- RI, part ST: what is left of a pruned piece; steps that can't fail (chapter 23). Conditions: none. -/
namespace Go.RI
open Go
theorem pruneP_ins(x:Pce):(pruneP x).ins=outK (ndP x) (onceO x).k.l 0:=rfl
theorem prune_len{x:Pce}(hc:checkP x=true):(pruneP x).ins.length≤x.ins.length:=by
 have h1:=(onceO_good hc).le
 rw[pruneP_ins,outK_len0]
 have:=rk_self (ndP x) (onceO x).k.l.length
 omega
theorem map_inj_on{α β:Type}{g:α→β}:∀(l m:List α),l.map g=m.map g→(∀ a∈l,∀ b∈m,g a=g b→a=b)→l=m
  | [],[],_,_=>rfl
  | [],b::m,h,_=>by simp at h
  | a::l,[],h,_=>by simp at h
  | a::l,b::m,h,hg=>by
    simp only[List.map_cons,List.cons.injEq] at h
    rw[hg a (by simp) b (by simp) h.1,map_inj_on l m h.2 fun x hx y hy=>hg x (by simp[hx]) y (by simp[hy])]
theorem fits_zero{nh a:Int}{o:Opn}(h:opnFits nh a o=true)(hk:o.kind=2):0≤o.n∧o.v=zeroVal:=by
 unfold opnFits at h
 rw[if_neg (by omega),if_pos hk] at h
 simp only[Bool.and_eq_true,decide_eq_true_eq] at h
 exact⟨h.1.1,(sameV_iff _ _).1 h.2⟩
theorem renO_inj{nh a b:Int}{nd:List Bool}{o p:Opn}(ho:opnFits nh a o=true)(hp:opnFits nh b p=true)(h1:o.kind=2→atN nd o.n.toNat=true)(h2:p.kind=2→atN nd p.n.toNat=true)(h:renO nd o=renO nd p):o=p:=by
 unfold renO at h
 by_cases k1:o.kind=2
 ·rw[if_pos k1] at h
  by_cases k2:p.kind=2
  ·rw[if_pos k2] at h
   obtain⟨a1,a2⟩:=fits_zero ho k1
   obtain⟨b1,b2⟩:=fits_zero hp k2
   have e:rk nd o.n.toNat=rk nd p.n.toNat:=by
    have:=congrArg Opn.n h
    simp only[stO] at this
    omega
   have:=rk_inj (h1 k1) (h2 k2) e
   cases o;cases p
   simp only at *
   subst k1 k2 a2 b2
   congr 1
   omega
  ·rw[if_neg k2] at h
   exact absurd (congrArg Opn.kind h).symm k2
 ·rw[if_neg k1] at h
  by_cases k2:p.kind=2
  ·rw[if_pos k2] at h
   exact absurd (congrArg Opn.kind h) k1
  ·rw[if_neg k2] at h;exact h
theorem prune_once{x:Pce}(hc:checkP x=true){a b:Nat}{t:Stp}(hab:a<b)(ha:(pruneP x).ins[a]?=some t)(hb:(pruneP x).ins[b]?=some t):False:=by
 have hA:=prune_all hc
 rw[pruneP_ins] at ha hb
 have hN:Needed x.homes (onceO x).k.l (x.sets.map (turnO (onceO x).pl)++[turnO (onceO x).pl x.cond]) (ndP x):=hA.nd
 generalize ndP x=nd at *
 obtain⟨j1,s1,p1,p2,p3,p4⟩:=outK_from _ 0 a t ha
 obtain⟨j2,s2,q1,q2,q3,q4⟩:=outK_from _ 0 b t hb
 simp only[Nat.zero_add,rk,Nat.add_zero] at p2 p4 q2 q4
 have es:s1=s2:=by
  rw[p3] at q3
  simp only[renS,Stp.mk.injEq] at q3
  obtain⟨e1,e2,e3,e4,e5⟩:=q3
  have e6:=map_inj_on s1.l s2.l e3 fun o ho p hp h=>renO_inj (fits_all (hA.good.fits j1 s1 p1) o ho) (fits_all (hA.good.fits j2 s2 q1) p hp) (hN.closed j1 s1 p1 p2 o ho) (hN.closed j2 s2 q1 q2 p hp) h
  cases s1;cases s2
  simp only at *
  subst e1 e2 e4 e5 e6
  rfl
 subst es
 rcases Nat.lt_trichotomy j1 j2 with h|h|h
 ·exact hA.good.nodup j1 j2 s1 h p1 q1
 ·subst h;omega
 ·exact hA.good.nodup j2 j1 s1 h q1 p1
theorem renO_home{nd:List Bool}{o:Opn}:((renO nd o).kind=1↔o.kind=1)∧(o.kind=1→renO nd o=o):=by
 unfold renO
 by_cases k:o.kind=2
 ·rw[if_pos k]
  simp[stO,k]
 ·rw[if_neg k];exact⟨Iff.rfl,fun _=>rfl⟩
theorem noteG_ren{hs:List Int}{nd:List Bool}{i:Stp}(h1:i.op=40→i.l.length=1):noteG hs (renS nd i) (renS nd i).l=noteG hs i i.l:=by
 unfold noteG
 by_cases ho:i.op=40
 ·obtain⟨o,hl⟩:=one_len (h1 ho)
  have h2:=(renO_home (nd:=nd) (o:=o)).1
  have h3:=(renO_home (nd:=nd) (o:=o)).2
  simp only[renS,hl,ho,List.map_cons,List.map_nil,List.getElem?_cons_zero,Option.getD_some,true_and,h2]
  by_cases hk:o.kind=1
  ·rw[if_pos hk,if_pos hk,h3 hk]
  ·rw[if_neg hk,if_neg hk]
 ·rw[if_neg (fun h=>ho h.1),if_neg (fun h=>ho h.1)]
theorem facts_keep{nh:Int}{l:List Stp}{ops:List Opn}{nd:List Bool}(hN:Needed nh l ops nd)(hf:Fits nh l)(hchk:∀(n:Nat) (t:Stp),l[n]?=some t→t.op=40→sureK (factsK nh (l.take n)) t=false):∀ n,n≤l.length→(factsK nh (outK nd (l.take n) 0)).hs=(factsK nh (l.take n)).hs
  | 0,_=>by simp[outK]
  | n+1,hn=>by
    obtain⟨s,hs⟩:=get_of_lt (l:=l) (i:=n) (by omega)
    have ih:=facts_keep hN hf hchk n (by omega)
    have ht:l.take (n+1)=l.take n++[s]:=by rw[List.take_add_one,hs];rfl
    rw[ht,outK_app,List.length_take,Nat.min_eq_left (by omega)]
    rw[facts_snoc nh (l.take n) s]
    by_cases hc:atN nd n=true
    · have e:outK nd [s] (0+n)=[renS nd s]:=by simp[outK,hc]
      rw[e,facts_snoc]
      simp only[addK]
      rw[noteG_ren (fun ho=>fits_hands (hf n s hs) (.inr ho)),ih]
    · have e:outK nd [s] (0+n)=[]:=by simp[outK,hc]
      rw[e,List.append_nil,ih]
      have hno:s.op≠40:=fun ho=>by
        have h1:=hN.sure n s hs (by simpa using hc)
        rw[hchk n s hs ho] at h1;cases h1
      simp only[addK,noteG]
      rw[if_neg (fun h=>hno h.1)]
theorem take_outK{nd:List Bool}{l:List Stp}{j:Nat}(hj:j≤l.length):(outK nd l 0).take (rk nd j)=outK nd (l.take j) 0:=by
 have h1:outK nd l 0=outK nd (l.take j) 0++outK nd (l.drop j) (0+(l.take j).length):=by rw[←outK_app,List.take_append_drop]
 have h2:(outK nd (l.take j) 0).length=rk nd j:=by rw[outK_len0,List.length_take,Nat.min_eq_left hj]
 rw[h1,←h2,List.take_append_of_le_length (Nat.le_refl _),List.take_of_length_le (Nat.le_refl _)]
theorem known_keep{nh:Int}{l:List Stp}{ops:List Opn}{nd:List Bool}(hN:Needed nh l ops nd)(hf:Fits nh l)(hchk:∀(n:Nat) (t:Stp),l[n]?=some t→t.op=40→sureK (factsK nh (l.take n)) t=false){j:Nat}(hj:j≤l.length){o:Opn}(ho:opnFits nh j o=true)(hk:o.kind=2→atN nd o.n.toNat=true) :
  knownK (factsK nh (outK nd (l.take j) 0)) (renO nd o)=knownK (factsK nh (l.take j)) o:=by
 unfold knownK knownI
 simp only[facts_l,facts_keep hN hf hchk j hj]
 by_cases h1:o.kind=1
 ·rw[(renO_home).2 h1]
  simp[h1]
 ·by_cases h2:o.kind=2
  ·obtain⟨b1,b2⟩:=opnFits_step ho h2
   obtain⟨s,hs⟩:=get_of_lt (l:=l) (i:=o.n.toNat) (by omega)
   have e:renO nd o=stO (rk nd o.n.toNat):=by unfold renO;rw[if_pos h2]
   have hst:(l.take j)[o.n.toNat]?=some s:=by rw[List.getElem?_take,if_pos (by omega)];exact hs
   have:=outK_get hst (hk h2)
   rw[e,if_neg h1,if_pos h2,hst]
   simp[stO,this,stpKind,renS]
  ·have e:renO nd o=o:=by unfold renO;rw[if_neg h2]
   rw[e]
   simp[h1,h2]
theorem sure_keep{nh:Int}{l:List Stp}{ops:List Opn}{nd:List Bool}(hN:Needed nh l ops nd)(hf:Fits nh l)(hchk:∀(n:Nat) (t:Stp),l[n]?=some t→t.op=40→sureK (factsK nh (l.take n)) t=false){j:Nat}{s:Stp}(hs:l[j]?=some s)(hj:atN nd j=true) :
  sureK (factsK nh (outK nd (l.take j) 0)) (renS nd s)=sureK (factsK nh (l.take j)) s:=by
 have hlt:=lt_of_get hs
 have ha:∀ c,allK (factsK nh (outK nd (l.take j) 0)) (renS nd s).l c=allK (factsK nh (l.take j)) s.l c:=by
  intro c
  unfold allK
  simp only[renS,List.all_map]
  rw[Bool.eq_iff_iff,List.all_eq_true,List.all_eq_true]
  have:∀ o∈s.l,knownK (factsK nh (outK nd (l.take j) 0)) (renO nd o)=knownK (factsK nh (l.take j)) o:=fun o ho=>known_keep hN hf hchk (by omega) (fits_all (hf j s hs) o ho) (hN.closed j s hs hj o ho)
  constructor
  ·intro h o ho
   have:=this o ho
   have h1:=h o ho
   simp only[Function.comp] at h1
   rw[this] at h1;exact h1
  ·intro h o ho
   have:=this o ho
   simp only[Function.comp]
   rw[this];exact h o ho
 unfold sureK
 simp only[ha]
 rfl
def takesP(y:Pce)(i:Nat):Bool:=(y.sets++[y.cond]++(y.ins.drop (i+1)).flatMap Stp.l).any fun o=>decide (o.kind=2)&&decide (o.n=i)
theorem prune_needed{x:Pce}(hc:checkP x=true){i:Nat}(hi:i<(pruneP x).ins.length):takesP (pruneP x) i=true∨failsP (pruneP x) i=true:=by
 have hA:=prune_all hc
 have hcy:=pruneP_check hc
 have hN:Needed x.homes (onceO x).k.l (x.sets.map (turnO (onceO x).pl)++[turnO (onceO x).pl x.cond]) (ndP x):=hA.nd
 obtain⟨t,ht⟩:=get_of_lt hi
 have ht':=ht
 rw[pruneP_ins] at ht'
 obtain⟨j,s,h1,h2,h3,h4⟩:=outK_from _ 0 i t ht'
 simp only[Nat.zero_add,rk,Nat.add_zero] at h2 h4
 subst h4
 rcases hN.from_ j s h1 h2 with h5|⟨o,h5,h6,h7⟩|⟨m,u,h5,h6,h7,o,h8,h9,h10⟩
 ·right
  unfold failsP
  rw[show(pruneP x).homes=x.homes from rfl,hcy]
  have e1:((rk (ndP x) j:Nat):Int).toNat=rk (ndP x) j:=by omega
  rw[e1,ht,pruneP_ins,take_outK (by have:=lt_of_get h1;omega),h3]
  simp only[Option.getD_some]
  rw[sure_keep hN hA.good.fits hA.good.chk h1 h2,h5]
  simp
 ·left
  unfold takesP
  rw[List.any_eq_true]
  refine⟨renO (ndP x) o,List.mem_append_left _ ?_,?_⟩
  ·rcases mem_snoc h5 with h5|rfl
   ·exact List.mem_append_left _ (List.mem_map_of_mem h5)
   ·exact List.mem_append_right _ (by simp[pruneP,ndP])
  ·unfold renO
   rw[if_pos h6,h7]
   simp[stO]
 ·left
  unfold takesP
  rw[List.any_eq_true]
  refine⟨renO (ndP x) o,List.mem_append_right _ ?_,?_⟩
  ·rw[List.mem_flatMap]
   refine⟨renS (ndP x) u,?_,List.mem_map_of_mem h8⟩
   have hg:=outK_get h6 h7
   have hlt:=rk_lt h2 h5
   rw[pruneP_ins]
   refine List.mem_of_getElem? (i:=rk (ndP x) m-(rk (ndP x) j+1)) ?_
   rw[List.getElem?_drop,show rk (ndP x) j+1+(rk (ndP x) m-(rk (ndP x) j+1))=rk (ndP x) m by omega]
   exact hg
  ·unfold renO
   rw[if_pos h9,h10]
   simp[stO]
end Go.RI
namespace Go.RI
open Go
def room(g:GS):Nat:=g.out.length+g.hs.count (-1)
end Go.RI
namespace Go.RI
open Go
def OutT(cs:List AVal)(out:List Stp):Prop:=cs.length=out.length*5∧∀(j:Nat) (s:Stp),out[j]?=some s→∃ t1 f1 t2 f2,(cs.drop (j*5)).take 5=[.i .i64 s.op,.i .i64 s.n,.fs t1 f1 s.l.length (encs s.l),.s s.s,.fs t2 f2 s.names.length (encs s.names)]
def Sl(H:AHeap)(P:Nat→Prop)(v:AVal)(esz n:Nat)(cells:List AVal):Prop :=
 ((∃ f,v=.fs false f n cells)∨(v=.ns∧n=0∧cells=[]))∨∃ id c,v=.sl id 0 n c∧(c=none∨c=some n)∧P id∧id<H.next∧H.get id=some (.cells cells esz false)∧cells.length=n*esz
theorem sl_keep{H H':AHeap}{P P':Nat→Prop}{v:AVal}{esz n:Nat}{cells:List AVal}(h:Sl H P v esz n cells)(hn:H.next≤H'.next)(hk:∀ id,P id→id<H.next→H'.get id=H.get id∧P' id):Sl H' P' v esz n cells:=by
 rcases h with h|⟨id,c,h1,h2,h3,h4,h5,h6⟩
 ·exact .inl h
 ·obtain⟨k1,k2⟩:=hk id h3 h4
  exact .inr ⟨id,c,h1,h2,k2,by omega,k1.trans h5,h6⟩
theorem sl_frz{H:AHeap}{P:Nat→Prop}{lo esz n k:Nat}{v:AVal}{cells:List AVal}(h:Sl H P v esz n cells)(hP:∀ id,P id→lo≤id)(hc:mapO (frzV H lo k) cells=some cells):frzV H lo (k+1) v=some (.fs false false n cells):=by
 rcases h with(⟨f,rfl⟩|⟨rfl,rfl,rfl⟩)|⟨id,c,rfl,hcap,h1,h2,h3,h4⟩
 ·rfl
 ·rfl
 ·by_cases hn:n=0
  ·subst hn
   have:cells=[]:=List.eq_nil_of_length_eq_zero (by simpa using h4)
   subst this
   rfl
  ·exact frz_lit hn (hP _ h1) h3 h4 (by rcases hcap with rfl|rfl<;>simp) hc
def Out(H:AHeap)(P:Nat→Prop):List AVal→List Stp→Prop
 | cs,[]=>cs=[]
 | cs,s::l=>∃ lv nv cs',cs=.i .i64 s.op::.i .i64 s.n::lv::.s s.s::nv::cs'∧Sl H P lv 7 s.l.length (encs s.l)∧Sl H P nv 1 s.names.length (encs s.names)∧Out H P cs' l
theorem out_keep{H H':AHeap}{P P':Nat→Prop}(hn:H.next≤H'.next)(hk:∀ id,P id→id<H.next→H'.get id=H.get id∧P' id):∀(l:List Stp) (cs:List AVal),Out H P cs l→Out H' P' cs l
 | [],cs,h=>h
 | s::l,cs,⟨lv,nv,cs',h,h1,h2,h3⟩=>⟨lv,nv,cs',h,sl_keep h1 hn hk,sl_keep h2 hn hk,out_keep hn hk l cs' h3⟩
theorem out_add{H:AHeap}{P:Nat→Prop}{s:Stp}{lv nv:AVal}(h1:Sl H P lv 7 s.l.length (encs s.l))(h2:Sl H P nv 1 s.names.length (encs s.names)):∀(l:List Stp) (cs:List AVal),Out H P cs l→Out H P (cs++[.i .i64 s.op,.i .i64 s.n,lv,.s s.s,nv]) (l++[s])
 | [],cs,h=>by subst h;exact⟨lv,nv,[],rfl,h1,h2,rfl⟩
 | t::l,cs,⟨lv',nv',cs',h,k1,k2,k3⟩=>⟨lv',nv',cs'++_,by rw[h];rfl,k1,k2,out_add h1 h2 l cs' k3⟩
theorem out_frz{H:AHeap}{P:Nat→Prop}{lo k:Nat}(hP:∀ id,P id→lo≤id):∀(l:List Stp) (cs:List AVal),Out H P cs l→mapO (frzV H lo (k+2)) cs=some (encs l)
  | [],cs,h=>by subst h;rfl
  | s::l,cs,⟨lv,nv,cs',h,k1,k2,k3⟩=>by
    subst h
    have e1:=sl_frz (k:=k+1) k1 hP frz_encs
    have e2:=sl_frz (k:=k+1) k2 hP frz_encs
    have e3:=out_frz (k:=k) hP l cs' k3
    simp[e1,e2,e3]
end Go.RI
namespace Go.RI
open Go
structure OpB where
 o:Opn
 b:Bool
instance:Enc OpB:=⟨7,fun x=>[.i .i64 x.o.kind,.i .i64 x.o.n,.i .i64 x.o.v.kind,.i .i64 x.o.v.n,.s x.o.v.s,if x.b then .ns else .fs false false x.o.v.l.length (encs x.o.v.l),if x.b then .ns else .fs false false x.o.v.names.length (encs x.o.v.names)],fun _=>rfl⟩
@[simp] theorem cells_opB(x:OpB):Enc.cells x=[.i .i64 x.o.kind,.i .i64 x.o.n,.i .i64 x.o.v.kind,.i .i64 x.o.v.n,.s x.o.v.s,if x.b then .ns else .fs false false x.o.v.l.length (encs x.o.v.l),if x.b then .ns else .fs false false x.o.v.names.length (encs x.o.v.names)]:=rfl
theorem sz_opB:Enc.sz OpB=7:=rfl
def okB(x:OpB):Prop:=x.b=true→x.o.v.l=[]∧x.o.v.names=[]
theorem snap_B{H:AHeap}{k:Nat}:∀ l:List OpB,(∀ x∈l,okB x)→mapO (snapV H (k+1)) (encs l)=some (encs (l.map OpB.o))
  | [],_=>by simp
  | x::l,h=>by
    have ih:=snap_B (H:=H) (k:=k) l fun y hy=>h y (by simp[hy])
    rw[encs_cons,List.map_cons,encs_cons]
    refine mapO_append ?_ ih
    have hb:=h x (by simp)
    cases hx:x.b
    · simp[hx]
    · obtain⟨h1,h2⟩:=hb hx
      simp[hx,h1,h2]
theorem opn_bulk{nh a:Int}{o:Opn}(h:opnFits nh a o=true):o.v.bulk≤2304:=by
 have hz:noneV o.v=true→o.v.bulk≤2304:=fun h=>by rw[(sameV_iff _ _).1 h];decide
 unfold opnFits at h
 split at h
 ·simp only[Bool.and_eq_true] at h;exact hz h.2
 split at h
 ·simp only[Bool.and_eq_true] at h;exact hz h.2
 split at h
 ·simp only[Bool.and_eq_true] at h;exact may_bulk h.2
 ·cases h
theorem stp_fok{nh a:Int}{j:Stp}(h:stpFits nh a j=true)(h1:bulkS j.names<549755813888)(h2:j.s.length<549755813887):okStp j∧bulkL (j.l.map Opn.v)<68719476736:=by
 have hl:=fits_most h
 refine⟨⟨h1,h2,by omega,fun o ho=>by have:=opn_bulk (fits_all h o ho);unfold okO;omega⟩,?_⟩
 have:=bulkL_le (B:=2304) (l:=j.l.map Opn.v) (fun v hv=>by
  obtain⟨o,ho,rfl⟩:=List.mem_map.1 hv
  exact opn_bulk (fits_all h o ho))
 simp at this
 omega
def snapW(v:AVal)(n:Nat):Bool:=decide (0<n)&&!(v.tup)&&(match v with|.sl ..=>true|_=>false)
theorem hold_snapW{H:AHeap}{lo esz n k:Nat}{v:AVal}{cells cells':List AVal}(h:Hold H lo v esz n cells)(hc:mapO (snapV H k) cells=some cells'):snapV H (k+1) v=some (.fs (snapW v n) false n cells'):=by
 rw[hold_snap h hc]
 unfold snapW
 cases v<;>rfl
theorem hold_sl{H:AHeap}{lo esz n:Nat}{v:AVal}{cells:List AVal}{P:Nat→Prop}(h:Hold H lo v esz n cells)(hP:∀ id c,v=.sl id 0 n c→P id):Sl H P v esz n cells:=by
 rcases h with⟨h|h,rfl,rfl⟩|⟨id,c,h1,h2,h3,h4,h5,h6⟩
 ·exact .inl (.inl ⟨true,h⟩)
 ·exact .inl (.inr ⟨h,rfl,rfl⟩)
 ·exact .inr ⟨id,c,h1,h2,hP id c h1,h4,h5,h6⟩
theorem get_of_mem{α:Type}{l:List α}{x:α}(h:x∈l):∃ n:Nat,l[n]?=some x:=by
 obtain⟨n,hn,rfl⟩:=List.getElem_of_mem h
 exact⟨n,List.getElem?_eq_getElem hn⟩
end Go.RI
namespace Go.RI
open Go
end Go.RI
namespace Go.RI
open Go
section
variable {call:CallI} {lo:Nat} {e:Env} {H:AHeap}
noncomputable def cpyR(lo:Nat)(H:AHeap)(esz:Nat):Option AVal→Option AVal→Option (Option AVal×AHeap)
 | some a,some b=>(cpyV lo H esz a b).map fun(v,H')=>(some v,H')
 | _,_=>none
@[simp] theorem op_cpy{esz:Nat}{x y:Opd}:opI call lo (.cpy esz x y) e H=cpyR lo H esz (x.eval e) (y.eval e):=by
 simp only[opI,aop,cpyR]
 rcases x.eval e with _|a<;>rcases y.eval e with _|b<;>rfl
theorem cpyR_sl{esz id off len id2 off2 len2 n e2:Nat}{c c2:Option Nat}{cs ys:List AVal}(hn:min len2 len=n)(h0:0<n)(hs:rowAt H id2 off2 (n*esz)=some ys)(hlo:lo≤id)(hg:H.get id=some (.cells cs e2 false))(hb:off+n*esz≤cs.length)(hy:ys.length=n*esz) :
  cpyR lo H esz (some (.sl id off len c)) (some (.sl id2 off2 len2 c2))=some (some (.i .i64 n),H.put id (some (.cells (putCells cs off ys) e2 false))):=by
 have h1:¬ n=0:=by omega
 simp[cpyR,cpyV,srcLen,srcCells,hn,h1,hs,hlo,hg,hb,hy]
theorem cpyR_none{esz id off len id2 off2 len2:Nat}{c c2:Option Nat}(hn:min len2 len=0) :
  cpyR lo H esz (some (.sl id off len c)) (some (.sl id2 off2 len2 c2))=some (some (.i .i64 0),H):=by
 simp[cpyR,cpyV,srcLen,hn]
end
def rowK(a b:AVal)(n k:Nat):List AVal:=List.replicate k a++List.replicate (n-k) b
theorem rowK_len{a b:AVal}{n k:Nat}(h:k≤n):(rowK a b n k).length=n:=by simp[rowK];omega
theorem rowK_put{a b:AVal}{n:Nat}:∀(m k:Nat),k+m≤n→putCells (rowK a b n k) k (List.replicate m a)=rowK a b n (k+m)
  | 0,k,_=>rfl
  | m+1,k,h=>by
    rw[List.replicate_succ]
    have e:(rowK a b n k).set k a=rowK a b n (k+1):=by
      unfold rowK
      rw[List.set_append_right _ _ (by simp),List.length_replicate,Nat.sub_self]
      rw[show n-k=(n-(k+1))+1 by omega,List.replicate_succ,List.set_cons_zero,List.replicate_succ',List.append_assoc]
      rfl
    show putCells ((rowK a b n k).set k a) (k+1) (List.replicate m a)=_
    rw[e,rowK_put m (k+1) (by omega)]
    congr 1
    omega
theorem rowK_take{a b:AVal}{n k m:Nat}(h:m≤k):(rowK a b n k).take m=List.replicate m a:=by
 unfold rowK
 rw[List.take_append_of_le_length (by simpa using h),List.take_replicate,Nat.min_eq_left h]
theorem slq_from{H:AHeap}{id n k:Nat}(h:k<n):slqR 1 H (some (.sl id 0 n (some n))) (some (some k)) (some none) (some none)=some (some (.sl id k (n-k) (some (n-k))),H):=by
 simp[slqR,slV,show k≤n by omega,show ¬ n=k by omega,isFs]
theorem slq_to{H:AHeap}{id n k:Nat}(h:k≤n):slqR 1 H (some (.sl id 0 n (some n))) (some none) (some (some k)) (some none)=some (some (.sl id 0 k (some n)),H):=by
 simp[slqR,slV,h,isFs]
theorem u_and{n:Nat}(h:n≤64):binV .and (.i .u64 (n:Int)) (.i .u64 4294967295)=some (.i .u64 n):=by
 have:∀ m:Fin 65,binI .and .u64 (m.val:Int) 4294967295=some (.i .u64 (m.val:Int)):=by
  intro m
  have h2:∀ m:Fin 65,(IntKind.u64.wrap ((BitVec.ofInt IntKind.u64.bits (m.val:Int) &&& BitVec.ofInt IntKind.u64.bits 4294967295).toNat:Nat))=(m.val:Int):=by decide
  exact congrArg (fun x=>some (AVal.i .u64 x)) (h2 m)
 exact this ⟨n,by omega⟩
theorem u_shr{n:Nat}(h:n≤64):binV .shr (.i .u64 (n:Int)) (.i .u64 32)=some (.i .u64 0):=by
 have h2:∀ m:Fin 65,(m.val:Int).fdiv (2 ^ (min (32:Int).toNat IntKind.u64.bits))=0:=by decide
 have:=h2 ⟨n,by omega⟩
 exact congrArg (fun x=>some (AVal.i .u64 x)) this
theorem u_wrap{n:Nat}(h:n≤64):wrapI .u64 (n:Int)=n:=by
 have h2:∀ m:Fin 65,wrapI .u64 (m.val:Int)=(m.val:Int):=by decide
 exact h2 ⟨n,by omega⟩
end Go.RI
namespace Go.Proofs.YtkpgolcjiahdfaaDoor
open Go Go.RI
section
variable {G:AHeap} (hG:G.next=2)
include hG
theorem t_mul64(n:Nat)(hn:n≤64):pureR IP G 73 [.i .u64 1,.i .u64 n]=some (.tu [.i .u64 0,.i .u64 n]):=by
 have a0:=u_and (n:=0) (by omega)
 have a1:=u_and (n:=1) (by omega)
 have an:=u_and hn
 have s0:=u_shr (n:=0) (by omega)
 have s1:=u_shr (n:=1) (by omega)
 have sn:=u_shr hn
 have w:=u_wrap hn
 have w0:wrapI .u64 0=0:=rfl
 simp at a0 a1 an s0 s1 sn
 refine pure_run ip73 rfl ?_
 simp -implicitDefEqProofs [I73,hG,a0,a1,an,s0,s1,sn,w,w0]
theorem t_mul(n:Nat)(hn:n≤64):pureR IP G 60 [.i .u64 1,.i .u64 n]=some (.tu [.i .u64 0,.i .u64 n]):=by
 have c1:=t_mul64 hG n hn
 refine pure_run ip60 rfl ?_
 simp -implicitDefEqProofs [I60,hG,c1]
end
end Go.Proofs.YtkpgolcjiahdfaaDoor
namespace Go.Proofs.YtkpgolcjiahdfaaDoor
open Go Go.RI
section
variable {G:AHeap} (hG:G.next=2)
include hG
theorem rep_one(b:AVal):∀ n:Nat,repCells [b] n=List.replicate n b
 | 0=>rfl
 | n+1=>by rw[List.replicate_succ,←rep_one b n];rfl
theorem t_repeat_loop(n:Nat)(hn:n≤64)(d:Nat)(x b:AVal)(Q:Post)(H:AHeap)(hd:d<H.next)
  (hQ:∀ H':AHeap,H'.get d=some (.cells (rowK x b n n) 1 false)→(∀ id,id≠d→H'.get id=H.get id)→H'.next=H.next→Q (.exit 0) [(7,.sl d 0 n (some n)),(8,.i .i64 n),(37,.b false)] H')
  (k:Nat) (hk:k≤n) (hk0:0<n→0<k) (g:H.get d=some (.cells (rowK x b n k) 1 false)) :
  wp (theCalls IP G d) d (.loop L47a) Q [(7,.sl d 0 n (some n)),(8,.i .i64 k)] H:=by
 refine wp_loop_inv (fun r e H'=>∃ k:Nat,r=n-k∧k≤n∧(0<n→0<k)∧e=[(7,.sl d 0 n (some n)),(8,.i .i64 k)]∧H'.get d=some (.cells (rowK x b n k) 1 false)∧(∀ id,id≠d→H'.get id=H.get id)∧H'.next=H.next) ?_ (n-k) _ _ ⟨k,rfl,hk,hk0,rfl,g,fun _ _=>rfl,rfl⟩
 rintro r e H' ⟨k,rfl,hk,hk0,rfl,g',hf,hx⟩
 by_cases hkn:k=n
 ·subst hkn
  simp -implicitDefEqProofs [L47a]
  exact hQ H' g' hf hx
 ·have h1:(k:Int)<(n:Int):=by omega
  have h2:k<n:=by omega
  have h3:0<k:=by omega
  obtain⟨m,hm⟩:∃ m,min k (n-k)=m:=⟨_,rfl⟩
  have s1:=slq_from (H:=H') (id:=d) h2
  have s2:=slq_to (H:=H') (id:=d) (n:=n) hk
  have s3:=cpyR_sl (lo:=d) (H:=H') (esz:=1) (id:=d) (off:=k) (len:=n-k) (id2:=d) (off2:=0) (len2:=k) (n:=m) (e2:=1) (c:=some (n-k)) (c2:=some n) (cs:=rowK x b n k) (ys:=List.replicate m x) hm (by omega) (by unfold RI.rowAt;rw[g'];simp only;rw[if_pos (by rw[rowK_len hk];omega),List.drop_zero,Nat.mul_one,rowK_take (by omega)]) (Nat.le_refl _) g' (by rw[rowK_len hk];omega) (by simp)
  rw[rowK_put m k (by omega)] at s3
  have w1:wrapI .i64 ((k:Int)+(m:Int))=(k:Int)+(m:Int):=wrap_ok (by omega) (by omega)
  simp -implicitDefEqProofs [L47a,h1,h2,s1,s2,s3,w1,optI]
  exact⟨n-(k+m),by omega,k+m,rfl,by omega,by omega,by simp,rfl,fun id hid=>by simp -implicitDefEqProofs [hid,hf id hid],hx⟩
theorem t_repeat(n:Nat)(hn:n≤64)(a:Nat)(x:Int)(H:AHeap)(ha:H.get a=some (.cells [.i .i64 x] 1 false))(ha2:a<H.next)(hGH:2≤H.next) :
  ∃ v H',(∀ lo,theCalls IP G lo 47 [.sl a 0 1 (some 1),.i .i64 n] H=some (v,H'))∧v=.sl H.next 0 n (some n)∧H'.get H.next=some (.cells (List.replicate n (.i .i64 x)) 1 false)∧H'.next=H.next+1∧∀ id,id<H.next→H'.get id=H.get id:=by
 have c1:=t_mul hG n hn
 have w:=u_wrap hn
 have w1:wrapI .u64 1=1:=rfl
 have w2:wrapI .i64 (n:Int)=n:=wrap_ok (by omega) (by omega)
 have q1:¬(n:Int)<0:=by omega
 have q2:¬(9223372036854775807:Int)<(n:Int):=by omega
 have q3:(8:Int)*(n:Int)≤281474976710656:=by omega
 have q4:¬ a=H.next:=by omega
 refine calls_one_of ip47 rfl rfl ?_
 rw[ends_fin]
 have hr:=rep_one hG (.i .i64 0) n
 have fin:∀(H1:AHeap),H1.get H.next=some (.cells (rowK (.i .i64 x) (.i .i64 0) n n) 1 false)→(∀ id,id<H.next→H1.get id=H.get id)→H1.next=H.next+1 →
   H1.get H.next=some (.cells (List.replicate n (.i .i64 x)) 1 false)∧H1.next=H.next+1∧∀ id,id<H.next→H1.get id=H.get id:=fun H1 h1 h2 h3=>⟨by rw[h1];unfold rowK;simp,h3,h2⟩
 by_cases h0:n=0
 ·subst h0
  simp at c1 w w2 hr
  have s:=cpyR_none (lo:=H.next) (H:=H.push (.cells [] 1 false)) (esz:=1) (id:=H.next) (off:=0) (len:=0) (id2:=a) (off2:=0) (len2:=1) (c:=some 0) (c2:=some 1) rfl
  simp -implicitDefEqProofs [I47,c1,w,w1,w2,q1,q2,q3,q4,hr,s]
  refine t_repeat_loop hG 0 (by omega) H.next (.i .i64 x) (.i .i64 0) _ _ (by simp) ?_ 0 (by omega) (by omega) (by simp -implicitDefEqProofs [rowK])
  intro H1 h1 h2 h3
  simp
  exact fin H1 h1 (fun id hid=>by rw[h2 id (by omega)];exact get_push_lt hid) (by rw[h3];simp)
 ·have s:=cpyR_sl (lo:=H.next) (H:=H.push (.cells (List.replicate n (.i .i64 0)) 1 false)) (esz:=1) (id:=H.next) (off:=0) (len:=n) (id2:=a) (off2:=0) (len2:=1) (n:=1) (e2:=1) (c:=some n) (c2:=some 1) (cs:=List.replicate n (.i .i64 0)) (ys:=[.i .i64 x]) (by omega) (by omega) (by unfold RI.rowAt;rw[get_push_lt ha2,ha];rfl) (Nat.le_refl _) (by simp) (by simp;omega) rfl
  have e:putCells (List.replicate n (AVal.i .i64 0)) 0 [.i .i64 x]=rowK (.i .i64 x) (.i .i64 0) n 1:=by
   have:=rowK_put (a:=.i .i64 x) (b:=.i .i64 0) (n:=n) 1 0 (by omega)
   simpa[rowK] using this
  rw[e] at s
  simp -implicitDefEqProofs [I47,c1,w,w1,w2,q1,q2,q3,q4,hr,s]
  refine t_repeat_loop hG n hn H.next (.i .i64 x) (.i .i64 0) _ _ (by simp) ?_ 1 (by omega) (by omega) (by simp)
  intro H1 h1 h2 h3
  simp
  exact fin H1 h1 (fun id hid=>by rw[h2 id (by omega)];simp -implicitDefEqProofs [show ¬ id=H.next by omega]) (by rw[h3];simp)
end
end Go.Proofs.YtkpgolcjiahdfaaDoor
namespace Go.Proofs.YtkpgolcjiahdfaaDoor
open Go Go.RI
section
variable {G:AHeap} (hG:G.next=2)
include hG
theorem encs_rep(n:Nat)(x:Int):encs (List.replicate n x)=List.replicate n (AVal.i .i64 x):=by
 induction n with
 | zero=>rfl
 | succ n ih=>rw[List.replicate_succ,List.replicate_succ,←ih];rfl
theorem t_begun(n:Nat)(hn:n≤64)(H:AHeap)(hGH:2≤H.next) :
  ∃ v H',(∀ lo,theCalls IP G lo 27 [.i .i64 n] H=some (v,H'))∧v=.p (H.next+2) 0∧H'.get (H.next+2)=some (.cells [.ns,.sl (H.next+1) 0 n (some n)] 1 false)∧H'.get (H.next+1)=some (.cells (encs (List.replicate n (-1))) 1 false)∧H'.next=H.next+3∧∀ id,id<H.next→H'.get id=H.get id:=by
 obtain⟨v,H',hc,rfl,h1,h2,h3⟩:=t_repeat hG n hn H.next (-1) (H.push (.cells [.i .i64 (-1)] 1 false)) (by simp) (by simp) (by simp;omega)
 refine calls_one_of ip27 rfl rfl ?_
 rw[ends_fin,encs_rep hG]
 simp at h1 h2 h3 hc
 simp -implicitDefEqProofs [I27,hc]
 refine⟨by omega,?_,?_,by omega,fun id hid=>?_⟩
 ·simp -implicitDefEqProofs [h2]
 ·first|(simp -implicitDefEqProofs [h2,h1];done)|(rw[if_neg (by omega)];exact h1)
 ·rw[if_neg (by omega),h3 id (by omega)]
  simp -implicitDefEqProofs [show ¬ id=H.next by omega]
end
end Go.Proofs.YtkpgolcjiahdfaaDoor
namespace Go.RI
open Go
def SlT(H:AHeap)(P:Nat→Prop)(v:AVal)(esz n:Nat)(cells:List AVal):Prop :=
 ((∃ t f,v=.fs t f n cells)∨(v=.ns∧n=0∧cells=[]))∨∃ id c,v=.sl id 0 n c∧(c=none∨c=some n)∧P id∧id<H.next∧H.get id=some (.cells cells esz false)∧cells.length=n*esz
theorem slT_keep{H H':AHeap}{P P':Nat→Prop}{v:AVal}{esz n:Nat}{cells:List AVal}(h:SlT H P v esz n cells)(hn:H.next≤H'.next)(hk:∀ id,P id→id<H.next→H'.get id=H.get id∧P' id):SlT H' P' v esz n cells:=by
 rcases h with h|⟨id,c,h1,h2,h3,h4,h5,h6⟩
 ·exact .inl h
 ·obtain⟨k1,k2⟩:=hk id h3 h4
  exact .inr ⟨id,c,h1,h2,k2,by omega,k1.trans h5,h6⟩
theorem slT_one{H:AHeap}{P:Nat→Prop}{v:AVal}{esz n:Nat}{cells:List AVal}(h:SlT H P v esz n cells):v.tup=false∧v.cells=[v]:=by
 rcases h with(⟨t,f,rfl⟩|⟨rfl,_⟩)|⟨id,c,rfl,_⟩<;>exact⟨rfl,rfl⟩
theorem slT_snap{H:AHeap}{P:Nat→Prop}{esz n k:Nat}{v:AVal}{cells:List AVal}(h:SlT H P v esz n cells)(hc:mapO (snapV H k) cells=some cells):∃ t f,snapV H (k+1) v=some (.fs t f n cells):=by
 rcases h with(⟨t,f,rfl⟩|⟨rfl,rfl,rfl⟩)|⟨id,c,rfl,hcap,h1,h2,h3,h4⟩
 ·exact⟨_,_,rfl⟩
 ·exact⟨_,_,rfl⟩
 ·by_cases hn:n=0
  ·subst hn
   have:cells=[]:=List.eq_nil_of_length_eq_zero (by simpa using h4)
   subst this
   exact⟨_,_,rfl⟩
  ·exact⟨_,_,snap_lit hn h3 h4 (by rcases hcap with rfl|rfl<;>simp) hc⟩
theorem slT_sl{H:AHeap}{P:Nat→Prop}{v:AVal}{esz n:Nat}{cells:List AVal}(h:SlT H P v esz n cells)(ht:∀ t f n l,v=.fs t f n l→t=false):Sl H P v esz n cells:=by
 rcases h with(⟨t,f,rfl⟩|h)|h
 ·have:=ht _ _ _ _ rfl
  subst this
  exact .inl (.inl ⟨f,rfl⟩)
 ·exact .inl (.inr h)
 ·exact .inr h
theorem slT_of{H:AHeap}{P:Nat→Prop}{v:AVal}{esz n:Nat}{cells:List AVal}(h:Sl H P v esz n cells):SlT H P v esz n cells:=by
 rcases h with(⟨f,rfl⟩|h)|h
 ·exact .inl (.inl ⟨_,f,rfl⟩)
 ·exact .inl (.inr h)
 ·exact .inr h
def OutS(H:AHeap)(P:Nat→Prop):List AVal→List Stp→Prop
 | cs,[]=>cs=[]
 | cs,s::l=>∃ lv nv cs',cs=.i .i64 s.op::.i .i64 s.n::lv::.s s.s::nv::cs'∧SlT H P lv 7 s.l.length (encs s.l)∧SlT H P nv 1 s.names.length (encs s.names)∧OutS H P cs' l
theorem outS_len{H:AHeap}{P:Nat→Prop}:∀(l:List Stp) (cs:List AVal),OutS H P cs l→cs.length=l.length*5
  | [],cs,h=>by subst h;rfl
  | s::l,cs,⟨lv,nv,cs',h,_,_,h2⟩=>by
    have:=outS_len l cs' h2
    subst h
    simp;omega
theorem outS_keep{H H':AHeap}{P P':Nat→Prop}(hn:H.next≤H'.next)(hk:∀ id,P id→id<H.next→H'.get id=H.get id∧P' id):∀(l:List Stp) (cs:List AVal),OutS H P cs l→OutS H' P' cs l
 | [],cs,h=>h
 | s::l,cs,⟨lv,nv,cs',h,h1,h2,h3⟩=>⟨lv,nv,cs',h,slT_keep h1 hn hk,slT_keep h2 hn hk,outS_keep hn hk l cs' h3⟩
theorem outS_add{H:AHeap}{P:Nat→Prop}{s:Stp}{lv nv:AVal}(h1:SlT H P lv 7 s.l.length (encs s.l))(h2:SlT H P nv 1 s.names.length (encs s.names)):∀(l:List Stp) (cs:List AVal),OutS H P cs l→OutS H P (cs++[.i .i64 s.op,.i .i64 s.n,lv,.s s.s,nv]) (l++[s])
 | [],cs,h=>by subst h;exact⟨lv,nv,[],rfl,h1,h2,rfl⟩
 | t::l,cs,⟨lv',nv',cs',h,k1,k2,k3⟩=>⟨lv',nv',cs'++_,by rw[h];rfl,k1,k2,outS_add h1 h2 l cs' k3⟩
theorem outS_snap{H:AHeap}{P:Nat→Prop}{k:Nat}:∀(l:List Stp) (cs:List AVal),OutS H P cs l→∃ cs2,mapO (snapV H (k+2)) cs=some cs2∧OutT cs2 l
  | [],cs,h=>by subst h;exact⟨[],rfl,rfl,fun j s h=>by simp at h⟩
  | s::l,cs,⟨lv,nv,cs',h,k1,k2,k3⟩=>by
    subst h
    obtain⟨t1,f1,e1⟩:=slT_snap (k:=k+1) k1 snap_encs
    obtain⟨t2,f2,e2⟩:=slT_snap (k:=k+1) k2 snap_encs
    obtain⟨c2,e3,e4,e5⟩:=outS_snap (k:=k) l cs' k3
    refine⟨.i .i64 s.op::.i .i64 s.n::.fs t1 f1 s.l.length (encs s.l)::.s s.s::.fs t2 f2 s.names.length (encs s.names)::c2,by simp[e1,e2,e3],by simp[e4];omega,fun j x hx=>?_⟩
    cases j with
    | zero=>simp at hx;subst hx;exact⟨t1,f1,t2,f2,by simp⟩
    | succ j =>
      obtain⟨a,b,c,d,h⟩:=e5 j x (by simpa using hx)
      exact⟨a,b,c,d,by rw[←h];simp[show(j+1)*5=j*5+1+1+1+1+1 by omega]⟩
theorem outS_get{H:AHeap}{P:Nat→Prop}:∀(l:List Stp) (cs:List AVal),OutS H P cs l→∀(j:Nat) (s:Stp),l[j]?=some s→∃ lv nv,(cs.drop (j*5)).take 5=[.i .i64 s.op,.i .i64 s.n,lv,.s s.s,nv]∧SlT H P lv 7 s.l.length (encs s.l)∧SlT H P nv 1 s.names.length (encs s.names)∧lv∈cs∧nv∈cs
  | [],cs,h,j,s,hj=>by simp at hj
  | s::l,cs,⟨lv,nv,cs',h,k1,k2,k3⟩,j,t,hj=>by
    subst h
    cases j with
    | zero=>simp at hj;subst hj;exact⟨lv,nv,by simp,k1,k2,by simp,by simp⟩
    | succ j =>
      obtain⟨a,b,h1,h2,h3,h4,h5⟩:=outS_get l cs' k3 j t (by simpa using hj)
      exact⟨a,b,by rw[←h1];simp[show(j+1)*5=j*5+1+1+1+1+1 by omega],h2,h3,by simp[h4],by simp[h5]⟩
def NoTmp(cs:List AVal):Prop:=∀ c∈cs,∀ t f n l,c=AVal.fs t f n l→t=false
theorem noTmp_nil:NoTmp []:=fun c h=>by cases h
theorem noTmp_app{a b:List AVal}(ha:NoTmp a)(hb:NoTmp b):NoTmp (a++b):=fun c h=>(List.mem_append.1 h).elim (ha c) (hb c)
instance:Enc Bool:=⟨1,fun b=>[.b b],fun _=>rfl⟩
instance:EncOk Bool:={ snap:=fun _ _ _=>by simp[Enc.cells],frz:=fun _ _ _ _=>by simp[Enc.cells]}
@[simp] theorem cells_bool{b:Bool}:Enc.cells b=[AVal.b b]:=rfl
@[simp] theorem drop_bool{l:List Bool}{i:Nat}:(encs l).drop i=cellsO l[i]?++restE l (i+1):=by
 have:=drop_encs l i
 simpa[show Enc.sz Bool=1 from rfl] using this
@[simp] theorem len_bool{l:List Bool}:(encs l).length=l.length:=by have:=encs_len l;simpa[show Enc.sz Bool=1 from rfl] using this
@[simp] theorem take_bool{l:List Bool}:(encs l).take l.length=encs l:=List.take_of_length_le (by simp)
@[simp] theorem get_bool{l:List Bool}{i:Nat}:(encs l)[i]?=l[i]?.map AVal.b:=by
 have:=get_encs (l:=l) (i:=i) (k:=0) (by simp[Enc.sz])
 simp only[show Enc.sz Bool=1 from rfl,Nat.mul_one,Nat.add_zero] at this
 rw[this]
 cases l[i]?<;>simp[cellsO]
theorem set_bool{l:List Bool}{i:Nat}{b:Bool}(h:i<l.length):(encs l).set i (.b b)=encs (l.set i b):=by
 obtain⟨x,hx⟩:=get_of_lt h
 have:=put_encs (k:=0) hx (m:=[AVal.b b]) (y:=b) (by simp[Enc.sz]) (by simp)
 simpa[show Enc.sz Bool=1 from rfl] using this
theorem rep_bool:∀ n,repCells [AVal.b false] n=encs (List.replicate n false)
 | 0=>rfl
 | n+1=>by simp[repCells,List.replicate_succ,rep_bool n]
end Go.RI
namespace Go.Proofs.YtkpgolcjiahdfaaDoor
open Go Go.RI
def Ak(lo:Nat)(X:Nat→Prop)(ov:AVal)(id:Nat):Prop:=(lo≤id∧¬ X id)∧∀ j m c,ov=.sl j 0 m c→id≠j
structure MkK (b h lo:Nat) (X:Nat→Prop) (k:KS) (ov:AVal) (cs:List AVal) (H:AHeap):Prop where
 gM:H.get b=some (.cells [ov,.sl h 0 k.hs.length (some k.hs.length)] 1 false)
 gH:H.get h=some (.cells (encs k.hs) 1 false)
 nx:lo≤H.next
 lt:b<lo∧h<lo∧b≠h
 acc:Acc H lo ov 5 k.l.length cs
 out:OutS H (Ak lo X ov) cs k.l
section
variable {G:AHeap} (hG:G.next=2)
include hG
theorem mkk_box{b h lo:Nat}{X:Nat→Prop}{k:KS}{ov:AVal}{cs:List AVal}{H H':AHeap}(hM:MkK b h lo X k ov cs H)(hn:H.next≤H'.next)(hk:∀ id,id<H.next→H'.get id=H.get id):MkK b h lo X k ov cs H' :=
 { gM:=(hk _ (by have:=hM.nx;have:=hM.lt;omega)).trans hM.gM,gH:=(hk _ (by have:=hM.nx;have:=hM.lt;omega)).trans hM.gH,nx:=by have:=hM.nx;omega,lt:=hM.lt,acc:=acc_keep hM.acc hn fun id a b hv=>hk id (acc_lt hM.acc _ _ _ hv).2,out:=outS_keep hn (fun id h1 h2=>⟨hk id h2,h1⟩) _ _ hM.out }
theorem mkk_hs{b h lo:Nat}{X:Nat→Prop}{k:KS}{ov:AVal}{cs:List AVal}{H:AHeap}(hM:MkK b h lo X k ov cs H)(hs':List Int)(hl:hs'.length=k.hs.length):MkK b h lo X ⟨k.l,hs'⟩ ov cs (H.put h (some (.cells (encs hs') 1 false))):=by
 have l1:=hM.lt
 have nx:=hM.nx
 have ne:∀ id,id≠h→(H.put h (some (.cells (encs hs') 1 false))).get id=H.get id:=fun id hid=>by simp -implicitDefEqProofs [hid]
 exact{ gM:=by rw[ne _ (by omega),hM.gM,hl],gH:=by simp,nx:=by simpa using nx,lt:=l1,acc:=acc_keep hM.acc (by simp) fun id a b hv=>ne id (by have:=acc_lt hM.acc _ _ _ hv;omega),out:=outS_keep (by simp) (fun id h1 h2=>⟨ne id (by have:=h1.1.1;omega),h1⟩) _ _ hM.out }
theorem mkk_l{b h lo:Nat}{X:Nat→Prop}{k:KS}{ov:AVal}{cs:List AVal}{H H6:AHeap}(hM:MkK b h lo X k ov cs H)(t:Stp)(lv nv:AVal)(id0:Nat)(h0:H.next≤id0)(acc6:Acc H6 lo (.sl id0 0 (k.l.length+1) none) 5 (k.l.length+1) (cs++[.i .i64 t.op,.i .i64 t.n,lv,.s t.s,nv]))(hn:H.next≤H6.next)(fr:∀ id,id<H.next→(∀ j m c,ov=.sl j 0 m c→id≠j)→H6.get id=H.get id)
  (hL:SlT H (Ak lo X ov) lv 7 t.l.length (encs t.l)) (hS:SlT H (Ak lo X ov) nv 1 t.names.length (encs t.names)) :
  MkK b h lo X ⟨k.l++[t],k.hs⟩ (.sl id0 0 (k.l.length+1) none) (cs++[.i .i64 t.op,.i .i64 t.n,lv,.s t.s,nv]) (H6.put b (some (.cells [.sl id0 0 (k.l.length+1) none,.sl h 0 k.hs.length (some k.hs.length)] 1 false))):=by
 have nx:=hM.nx
 have l1:=hM.lt
 obtain⟨o,hob⟩:∃ o,o=some (AObj.cells [.sl id0 0 (k.l.length+1) none,.sl h 0 k.hs.length (some k.hs.length)] 1 false):=⟨_,rfl⟩
 rw[←hob]
 have nr:∀ id,id<lo→∀ j m c,ov=.sl j 0 m c→id≠j:=fun id h j m c hj=>by have:=acc_lt hM.acc _ _ _ hj;omega
 have ne:∀(id:Nat),id≠b→(H6.put b o).get id=H6.get id:=fun id h=>by simp -implicitDefEqProofs [h]
 have hn':H.next≤(H6.put b o).next:=by simpa using hn
 have hq:∀ id,Ak lo X ov id→id<H.next→(H6.put b o).get id=H.get id∧Ak lo X (.sl id0 0 (k.l.length+1) none) id:=fun id h1 h2 =>
  ⟨by rw[ne _ (by have:=h1.1;omega)];exact fr _ h2 h1.2,h1.1,fun j m c hj=>by cases hj;omega⟩
 have hacc:=acc_keep (H':=H6.put b o) acc6 (by simp) fun id a b hv=>by have:=acc_lt acc6 _ _ _ hv;exact ne _ (by omega)
 have hout:=outS_add (slT_keep hL hn' hq) (slT_keep hS hn' hq) _ _ (outS_keep hn' hq _ _ hM.out)
 exact{ gM:=by simp -implicitDefEqProofs [hob],gH:=by rw[ne _ (by omega),fr _ (by omega) (nr _ (by omega))];exact hM.gH,nx:=by omega,lt:=l1,acc:=by simpa using hacc,out:=hout }
end
end Go.Proofs.YtkpgolcjiahdfaaDoor
namespace Go.RI
open Go
instance:Enc (List Val):=⟨1,fun l=>[.fs false false l.length (encs l)],fun _=>rfl⟩
@[simp] theorem cells_vals{l:List Val}:Enc.cells l=[AVal.fs false false l.length (encs l)]:=rfl
instance:EncOk (List Val):={ snap:=fun _ _ _=>by simp,frz:=fun _ _ _ _=>by simp }
@[simp] theorem drop_vals{l:List (List Val)}{i:Nat}:(encs l).drop i=cellsO l[i]?++restE l (i+1):=by
 have:=drop_encs l i
 simpa[show Enc.sz (List Val)=1 from rfl] using this
@[simp] theorem len_vals{l:List (List Val)}:(encs l).length=l.length:=by have:=encs_len l;simpa[show Enc.sz (List Val)=1 from rfl] using this
def kindsL(l:List Val):List Int:=l.map Val.kind
@[simp] theorem kindsL_len{l:List Val}:(kindsL l).length=l.length:=by simp[kindsL]
theorem put_kind{L:List Int}{i:Nat}{k:Int}(h:i<L.length):(encs L).set i (.i .i64 k)=encs (L.set i k):=by
 obtain⟨x,hx⟩:=get_of_lt h
 have:=put_encs (k:=0) hx (m:=[AVal.i .i64 k]) (y:=k) (by simp[Enc.sz]) (by simp)
 simpa[show Enc.sz Int=1 from rfl] using this
end Go.RI
namespace Go.Proofs.YtkpgolcjiahdfaaDoor
open Go Go.RI
section
variable {G:AHeap} (hG:G.next=2)
include hG
set_option maxHeartbeats 1000000 in
theorem t_padd{b h lo c0:Nat}{X:Nat→Prop}{k:KS}{ov:AVal}{cs:List AVal}{H:AHeap}(hM:MkK b h lo X k ov cs H)(hc1:c0≤b)(hc2:c0≤h)(i:Stp)(nh:Int)(m:Nat)(hfs:stpFits nh m i=true)(hhs:k.hs.length=nh.toNat)(hlen:k.l.length<1000000)(tl fl:Bool)(nv:AVal)(hS:SlT H (Ak lo X ov) nv 1 i.names.length (encs i.names)) :
  ∃ v H',theCalls IP G c0 28 [.p b 0,.ag [.i .i64 i.op,.i .i64 i.n,.fs tl fl i.l.length (encs i.l),.s i.s,nv]] H=some (v,H')∧v=.tu []∧∃ j cs',MkK b h lo X (addK k i) (.sl j 0 (k.l.length+1) none) cs' H'∧(tl=false→NoTmp [nv]→NoTmp cs→NoTmp cs')∧H.next≤j∧H.next≤H'.next∧∀ id,id<H.next→id≠b→id≠h→(∀ j m c,ov=.sl j 0 m c→id≠j)→H'.get id=H.get id:=by
 obtain⟨d1,d2⟩:=slT_one hS
 have l1:=hM.lt
 have nx:=hM.nx
 have n1:¬ b=H.next:=by omega
 have n2:¬ h=H.next:=by omega
 have n3:¬ H.next=b:=by omega
 have n4:¬ H.next=h:=by omega
 have n5:¬ b=h:=by omega
 have hfl:=fits_all hfs
 refine calls_nil_of ip28 rfl rfl ?_
 obtain⟨Hb,hHb⟩:∃ Hb,Hb=H.push (.cells [.i .i64 i.op,.i .i64 i.n,.fs tl fl i.l.length (encs i.l),.s i.s,nv] 1 false):=⟨_,rfl⟩
 have hbn:Hb.next=H.next+1:=by rw[hHb];rfl
 have hbk:∀ id,id<H.next→Hb.get id=H.get id:=fun id h=>by rw[hHb];exact get_push_lt h
 have hbr:Hb.get H.next=some (.cells [.i .i64 i.op,.i .i64 i.n,.fs tl fl i.l.length (encs i.l),.s i.s,nv] 1 false):=by rw[hHb];simp
 have hMb:=mkk_box hG hM (H':=Hb) (by omega) hbk
 have tail:∀(hs':List Int) (Ht:AHeap),noteG k.hs i i.l=hs'→MkK b h lo X ⟨k.l,hs'⟩ ov cs Ht→hs'.length=k.hs.length→Ht.next=H.next+1→(∀ id,id≠h→Ht.get id=Hb.get id)→∀ H6:AHeap,H.next≤H6.next→Acc H6 lo (.sl (Ht.next+1) 0 (k.l.length+1) none) 5 (k.l.length+1) (cs++[.i .i64 i.op,.i .i64 i.n,.fs tl fl i.l.length (encs i.l),.s i.s,nv])→(∀ id,id<Ht.next→(∀ j m c,ov=.sl j 0 m c→id≠j)→H6.get id=Ht.get id)→Ht.next≤H6.next →
   ∃ j cs',MkK b h lo X (addK k i) (.sl j 0 (k.l.length+1) none) cs' (H6.put b (some (.cells [.sl (Ht.next+1) 0 (k.l.length+1) none,.sl h 0 k.hs.length (some k.hs.length)] 1 false)))∧(tl=false→NoTmp [nv]→NoTmp cs→NoTmp cs')∧H.next≤j∧H.next≤(H6.put b (some (.cells [.sl (Ht.next+1) 0 (k.l.length+1) none,.sl h 0 k.hs.length (some k.hs.length)] 1 false))).next∧∀ id,id<H.next→id≠b→id≠h→(∀ j m c,ov=.sl j 0 m c→id≠j)→(H6.put b (some (.cells [.sl (Ht.next+1) 0 (k.l.length+1) none,.sl h 0 k.hs.length (some k.hs.length)] 1 false))).get id=H.get id:=by
  intro hs' Ht hno hMt hhl hn hk H6 hn6 acc6 hf6 hn7
  have hL:SlT Ht (Ak lo X ov) (.fs tl fl i.l.length (encs i.l)) 7 i.l.length (encs i.l):=.inl (.inl ⟨tl,fl,rfl⟩)
  have hS':=slT_keep (H':=Ht) (P':=Ak lo X ov) hS (by omega) fun id h1 h2=>⟨by rw[hk id (by have:=h1.1.1;omega)];exact hbk id h2,h1⟩
  have hM6:=mkk_l hG hMt i (.fs tl fl i.l.length (encs i.l)) nv (Ht.next+1) (by omega) acc6 (by omega) hf6 hL hS'
  refine⟨Ht.next+1,cs++[.i .i64 i.op,.i .i64 i.n,.fs tl fl i.l.length (encs i.l),.s i.s,nv],?_,fun ht hnv hcs=>noTmp_app hcs fun c hc=>?_,by omega,by simpa using hn6,fun id h1 h2 h3 h4=>?_⟩
  ·have e:addK k i=⟨k.l++[i],hs'⟩:=by unfold addK;rw[hno]
   dsimp only at hM6
   rw[hhl] at hM6
   rw[e]
   exact hM6
  ·intro t f n l he
   subst he
   simp at hc
   rcases hc with⟨rfl,_⟩|rfl
   ·exact ht
   ·exact hnv (.fs t f n l) (by simp) t f n l rfl
  ·simp -implicitDefEqProofs [h2]
   rw[hf6 id (by omega) h4,hk id h3,hbk id h1]
 have gMb:=hMb.gM
 have gHb:=hMb.gH
 by_cases hop:i.op=40∧(i.l[0]?.getD default).kind=1
 ·obtain⟨h40,hk1⟩:=hop
  obtain⟨o,ho⟩:=one_len (fits_hands hfs (.inr h40))
  have hk1':o.kind=1:=by rw[ho] at hk1;simpa using hk1
  obtain⟨a1,a2⟩:=opnFits_home (hfl o (by rw[ho];simp)) hk1'
  have a3:o.n.toNat<k.hs.length:=by omega
  have a4:o.n<(k.hs.length:Int):=by omega
  have a5:o.n.toNat+1≤k.hs.length:=by omega
  have hpk:=put_kind (L:=k.hs) (i:=o.n.toNat) (k:=i.n) a3
  have hno:noteG k.hs i i.l=k.hs.set o.n.toNat i.n:=by unfold noteG;rw[if_pos ⟨h40,hk1⟩,ho];rfl
  obtain⟨Ht,hHt⟩:∃ Ht,Ht=Hb.put h (some (.cells (encs (k.hs.set o.n.toNat i.n)) 1 false)):=⟨_,rfl⟩
  have hMt:MkK b h lo X ⟨k.l,k.hs.set o.n.toNat i.n⟩ ov cs Ht:=by rw[hHt];exact mkk_hs hG hMb _ (by simp)
  have htn:Ht.next=H.next+1:=by rw[hHt];simpa using hbn
  have htk:∀ id,id≠h→Ht.get id=Hb.get id:=fun id h=>by rw[hHt];simp -implicitDefEqProofs [h]
  have htr:=(htk H.next (by omega)).trans hbr
  have gMt:=hMt.gM
  have tacc:=hMt.acc
  dsimp only at gMt tacc
  rw[List.length_set] at gMt
  have hE:(encs k.hs).length=k.hs.length:=by rw[encs_len];simp -implicitDefEqProofs [Enc.sz]
  have hHb2:=hHb
  have hbr2:=hbr
  have htr2:=htr
  simp -implicitDefEqProofs [h40,ho,hk1'] at hHb2 hbr2 htr2
  simp -implicitDefEqProofs [I28,d1,d2,←hHb2,hbr2,gMb,gHb,h40,ho,hk1',a1,a3,a4,a5,hpk,hE,n1,n2,n3,n4,n5,hc1,hc2,←hHt,gMt,htr2]
  refine step_app (lo':=lo) (acc_keep tacc (by simp<;>omega) ?_) (m:=1) (ys:=[.i .i64 i.op,.i .i64 i.n,.fs tl fl i.l.length (encs i.l),.s i.s,nv]) (by omega) (by simp<;>omega) (more_lit (cs:=[.i .i64 i.op,.i .i64 i.n,.fs tl fl i.l.length (encs i.l),.s i.s,nv]) (e:=5) (ro:=false) (by simp -implicitDefEqProofs [h40,ho,hk1']) (by simp) (by omega)) (by simp) (by omega) (by omega) (by omega) (by omega) ?_
  ·intro id a b hv
   have:=acc_lt tacc id a b hv
   exact get_push_lt (by omega)
  intro H6 hn6 acc6 hf6
  simp at hn6
  have f6:∀ id,id<Ht.next→(∀ j m c,ov=.sl j 0 m c→id≠j)→H6.get id=Ht.get id:=fun id h1 h2=>by rw[hf6 id (by simp;omega) h2];exact get_push_lt h1
  have rM:=(f6 b (by omega) fun j m c hj=>by have:=acc_lt tacc _ _ _ hj;omega).trans gMt
  simp -implicitDefEqProofs [rM,hc1]
  obtain⟨j,cs',t1,t5,t2,t3,t4⟩:=tail _ Ht hno hMt (by simp) htn htk H6 (by omega) (by simpa using acc6) f6 (by omega)
  exact⟨j,cs',t1,t5,t2,by simpa using t3,fun id h1 h2 h3 h4=>by have:=t4 id h1 h2 h3 h4;simpa[h2] using this⟩
 ·have hno:noteG k.hs i i.l=k.hs:=by unfold noteG;rw[if_neg hop]
  have tacc:=hMb.acc
  by_cases h40:i.op=40
  ·obtain⟨o,ho⟩:=one_len (fits_hands hfs (.inr h40))
   have hk1':¬ o.kind=1:=fun h=>hop ⟨h40,by rw[ho];simpa using h⟩
   have hHb2:=hHb
   have hbr2:=hbr
   simp -implicitDefEqProofs [h40,ho] at hHb2 hbr2
   simp -implicitDefEqProofs [I28,d1,d2,←hHb2,hbr2,gMb,gHb,h40,ho,hk1',n1,n2,n3,n4,n5,hc1,hc2]
   refine step_app (lo':=lo) (acc_keep tacc (by simp<;>omega) ?_) (m:=1) (ys:=[.i .i64 i.op,.i .i64 i.n,.fs tl fl i.l.length (encs i.l),.s i.s,nv]) (by omega) (by simp<;>omega) (more_lit (cs:=[.i .i64 i.op,.i .i64 i.n,.fs tl fl i.l.length (encs i.l),.s i.s,nv]) (e:=5) (ro:=false) (by simp -implicitDefEqProofs [h40,ho]) (by simp) (by omega)) (by simp) (by omega) (by omega) (by omega) (by omega) ?_
   ·intro id a b hv
    have:=acc_lt tacc id a b hv
    exact get_push_lt (by omega)
   intro H6 hn6 acc6 hf6
   simp at hn6
   have f6:∀ id,id<Hb.next→(∀ j m c,ov=.sl j 0 m c→id≠j)→H6.get id=Hb.get id:=fun id h1 h2=>by rw[hf6 id (by simp;omega) h2];exact get_push_lt h1
   have rM:=(f6 b (by omega) fun j m c hj=>by have:=acc_lt tacc _ _ _ hj;omega).trans gMb
   simp -implicitDefEqProofs [rM,hc1]
   obtain⟨j,cs',t1,t5,t2,t3,t4⟩:=tail _ Hb hno hMb rfl hbn (fun _ _=>rfl) H6 (by omega) (by simpa using acc6) f6 (by omega)
   exact⟨j,cs',t1,t5,t2,by simpa using t3,fun id h1 h2 h3 h4=>by have:=t4 id h1 h2 h3 h4;simpa[h2] using this⟩
  ·simp -implicitDefEqProofs [I28,d1,d2,←hHb,hbr,gMb,gHb,h40,n1,n2,n3,n4,n5,hc1,hc2]
   refine step_app (lo':=lo) (acc_keep tacc (by simp<;>omega) ?_) (m:=1) (ys:=[.i .i64 i.op,.i .i64 i.n,.fs tl fl i.l.length (encs i.l),.s i.s,nv]) (by omega) (by simp<;>omega) (more_lit (cs:=[.i .i64 i.op,.i .i64 i.n,.fs tl fl i.l.length (encs i.l),.s i.s,nv]) (e:=5) (ro:=false) (by simp) (by simp) (by omega)) (by simp) (by omega) (by omega) (by omega) (by omega) ?_
   ·intro id a b hv
    have:=acc_lt tacc id a b hv
    exact get_push_lt (by omega)
   intro H6 hn6 acc6 hf6
   simp at hn6
   have f6:∀ id,id<Hb.next→(∀ j m c,ov=.sl j 0 m c→id≠j)→H6.get id=Hb.get id:=fun id h1 h2=>by rw[hf6 id (by simp;omega) h2];exact get_push_lt h1
   have rM:=(f6 b (by omega) fun j m c hj=>by have:=acc_lt tacc _ _ _ hj;omega).trans gMb
   simp -implicitDefEqProofs [rM,hc1]
   obtain⟨j,cs',t1,t5,t2,t3,t4⟩:=tail _ Hb hno hMb rfl hbn (fun _ _=>rfl) H6 (by omega) (by simpa using acc6) f6 (by omega)
   exact⟨j,cs',t1,t5,t2,by simpa using t3,fun id h1 h2 h3 h4=>by have:=t4 id h1 h2 h3 h4;simpa[h2] using this⟩
end
end Go.Proofs.YtkpgolcjiahdfaaDoor
namespace Go.Proofs.YtkpgolcjiahdfaaDoor
open Go Go.RI
section
variable {G:AHeap} (hG:G.next=2)
include hG
theorem t_bare(t l n:Bool)(k m:Int)(s:Str)(xs:List Val)(ns:List Str)(t1 t2:Bool):pureR IP G 86 [.ag [.b t,.b l,.b n],.ag [.i .i64 k,.i .i64 m,.s s,.fs t1 false xs.length (encs xs),.fs t2 false ns.length (encs ns)]]=some (.b (bareV t l n (.mk k m s xs ns))):=by
 refine pure_run ip86 rfl ?_
 simp -implicitDefEqProofs [I86,hG]
 repeat' ((first|refine guard_intro ?_ ?_|refine test_intro ?_ ?_)<;>intro h<;>(try simp -implicitDefEqProofs [h,hG]))
 all_goals ((try simp only[decide_eq_true_eq,decide_eq_false_iff_not] at *)<;>(try simp_all [bareV])<;>(try (intros;omega)))
theorem t_named(s:Str)(hs:s.length<4611686018427387904):pureR IP G 91 [.s s]=some (.b (named s)):=by
 refine pure_run ip91 rfl ?_
 simp -implicitDefEqProofs [I91,hG]
 repeat' ((first|refine guard_intro ?_ ?_|refine test_intro ?_ ?_)<;>intro h<;>(try simp -implicitDefEqProofs [h,hG]))
 ·simp_all [named]
 ·simp_all [named]
 refine wp_loop_list (l:=s) hs (fun i todo e H=>e=[(14,.sl 2 0 s.length none),(15,.i .i64 s.length),(16,.i .i64 i)]∧H=G.push (AObj.cells (List.map (fun b=>AVal.i IntKind.u8 ↑b.toNat) s) 1 false)∧namedL 0 s=namedL i todo) ?_ ?_ ?_
 ·rintro i x todo e H hx hd hlt hlt2 hlt3 ⟨rfl,rfl,hn⟩
  clear hlt
  simp -implicitDefEqProofs [L91a, *]
  repeat' ((first|refine guard_intro ?_ ?_|refine test_intro ?_ ?_)<;>intro h<;>(try simp -implicitDefEqProofs [h,hG,hx,hlt3]))
  all_goals clear hx hd hlt2 hlt3 hs
  all_goals ((try simp only[decide_eq_true_eq,decide_eq_false_iff_not] at *)<;>(try simp_all [named,namedL,badc,letter])<;>(try (intros;omega)))
 ·rintro e H ⟨rfl,rfl,hn⟩
  simp -implicitDefEqProofs [L91a, *]
  simp_all [named,namedL]
 ·simp
theorem t_rising(ns:List Str)(hs:ns.length<4611686018427387904)(hx:∀ s∈ns,s.length<4611686018427387904)(t f:Bool):pureR IP G 87 [.fs t f ns.length (encs ns)]=some (.b (rising [] ns)):=by
 refine pure_run ip87 rfl ?_
 simp -implicitDefEqProofs [I87,hG]
 refine wp_loop_list (l:=ns) hs (fun i todo e H=>∃ last,e=[(3,.s last),(6,.fs t f ns.length (encs ns)),(7,.i .i64 ns.length),(8,.i .i64 i)]∧H=G∧rising [] ns=rising last todo) ?_ ?_ ?_
 ·rintro i x todo e H hx2 hd hlt hlt2 hlt3 ⟨last,rfl,rfl,hn⟩
  have c1:=t_named hG x (hx x (List.mem_of_getElem? hx2))
  clear hlt
  simp -implicitDefEqProofs [L87a, *]
  repeat' ((first|refine guard_intro ?_ ?_|refine test_intro ?_ ?_)<;>intro h<;>(try simp -implicitDefEqProofs [h,hG,c1,hx2,hlt3]))
  all_goals ((try simp only[decide_eq_true_eq,decide_eq_false_iff_not] at *)<;>(try simp_all [rising])<;>(try (intros;omega)))
 ·rintro e H ⟨last,rfl,rfl,hn⟩
  simp -implicitDefEqProofs [L87a, *]
  simp_all [rising]
 ·simp
end
end Go.Proofs.YtkpgolcjiahdfaaDoor
namespace Go.Proofs.YtkpgolcjiahdfaaDoor
open Go Go.RI
section
variable {G:AHeap} (hG:G.next=2)
include hG
set_option maxHeartbeats 1000000 in
theorem t_own(k m:Int)(s:Str)(xs:List Val)(ns:List Str)(t1 t2:Bool)(hs:ns.length<4611686018427387904)(hx:∀ s∈ns,s.length<4611686018427387904):pureR IP G 81 [.ag [.i .i64 k,.i .i64 m,.s s,.fs t1 false xs.length (encs xs),.fs t2 false ns.length (encs ns)]]=some (.b (ownV (.mk k m s xs ns))):=by
 have c1:=t_rising hG ns hs hx
 have c2:=t_bare hG
 refine pure_run ip81 rfl ?_
 clear hs hx
 simp -implicitDefEqProofs [I81,hG]
 repeat' ((first|refine guard_intro ?_ ?_|refine test_intro ?_ ?_)<;>intro h<;>(try simp -implicitDefEqProofs [h,hG,c1,c2]))
 all_goals clear c1 c2
 all_goals ((try simp only[decide_eq_true_eq,decide_eq_false_iff_not] at *)<;>(try simp_all [ownV])<;>(try (intros;omega)))
end
end Go.Proofs.YtkpgolcjiahdfaaDoor
namespace Go.Proofs.YtkpgolcjiahdfaaDoor
open Go Go.RI
section
variable {G:AHeap} (hG:G.next=2)
include hG
set_option maxHeartbeats 1000000 in
theorem t_fits:∀(b:Nat) (v:Val),v.bulk≤b→b<1099511627776→∀(w left:Int),0≤w→w≤8→-2199023255552<left→left<2199023255552→∀ t1 t2:Bool,pureR IP G 77 [.ag [.i .i64 v.kind,.i .i64 v.n,.s v.s,.fs t1 false v.l.length (encs v.l),.fs t2 false v.names.length (encs v.names)],.i .i64 w,.i .i64 left]=some (.tu [.i .i64 (fitsV v w left).1,.b (fitsV v w left).2]):=by
  intro b
  induction b with
  | zero=>intro v h;have:=v.bulk_pos;omega
  | succ b ih =>
    intro v hv hb w left hw0 hw8 hl0 hl1 t1 t2
    have hv2:=hv
    rw[Val.bulk_eq] at hv2
    have hlen:=bulkL_len v.l
    have hlen2:=bulkS_len v.names
    have hlens:=lens_bulk v.names
    have c1:=t_own hG v.kind v.n v.s v.l v.names t1 t2 (by omega) (fun s hs=>by have:=bulkS_mem hs;omega)
    rw[Val.eta] at c1
    have w1:wrapI .i64 (1+(v.s.length:Int))=1+v.s.length:=wrap_ok (by omega) (by omega)
    have w2:wrapI .i64 (left-(1+(v.s.length:Int)))=left-(1+v.s.length):=wrap_ok (by omega) (by omega)
    refine pure_run ip77 rfl ?_
    simp -implicitDefEqProofs [I77,hG,w1,w2]
    refine wp_loop_list (l:=v.names) (by omega) (fun i todo e H=>e=[(1,.i .i64 w),(2,.i .i64 (left-(1+v.s.length)-(lens v.names-lens todo))),(3,.p 2 0),(19,.fs t2 false v.names.length (encs v.names)),(20,.i .i64 v.names.length),(21,.i .i64 i)]∧H=G.push (.cells [.i .i64 v.kind,.i .i64 v.n,.s v.s,.fs t1 false v.l.length (encs v.l),.fs t2 false v.names.length (encs v.names)] 1 false)∧0≤lens todo∧lens todo≤lens v.names) ?_ ?_ ?_
    · rintro i x todo e H hx hd hlt hlt2 hlt3 ⟨rfl,rfl,hn0,hn1⟩
      clear hlt
      have hl:=(lens_bulk todo).1
      simp only[lens] at hn0 hn1
      have w3:wrapI .i64 (left-(1+(v.s.length:Int))-(lens v.names-lens (x::todo))-x.length)=left-(1+v.s.length)-(lens v.names-lens todo):=by
        rw[wrap_ok]<;>simp only[lens]<;>omega
      simp -implicitDefEqProofs [L77a, *]
      omega
    · rintro e H ⟨rfl,rfl,hn0,hn1⟩
      simp only[lens,Int.sub_zero]
      have hf:∀ b,ownV v=b→fitsV v w left=if 8≤w∨left-(1+v.s.length)-lens v.names<0∨b=false then(0,false) else fitsL v.l (w+1) (left-(1+v.s.length)-lens v.names):=fun b hb=>by rw[fitsV_eq,hb]
      simp -implicitDefEqProofs [L77a, *]
      repeat' ((first|refine guard_intro ?_ ?_|refine test_intro ?_ ?_)<;>intro h<;>(try simp -implicitDefEqProofs [*]))
      · simp_all
      · simp_all
      · have hf:=hf _ h
        rw[if_neg (by simp_all)] at hf
        have w4:wrapI .i64 (w+1)=w+1:=wrap_ok (by omega) (by omega)
        have hw7:w+1≤8:=by simp_all;omega
        generalize hL0:left-(1+(v.s.length:Int))-lens v.names=L0 at *
        have hL:0≤L0:=by simp_all
        have hL1:L0≤left:=by omega
        clear hL0
        refine wp_loop_list (l:=v.l) (by omega) (fun i todo e H=>∃ q,0≤q∧q≤L0∧e=[(1,.i .i64 w),(2,.i .i64 q),(3,.p 2 0),(43,.i .i64 v.l.length),(44,.i .i64 i)]∧H=G.push (.cells [.i .i64 v.kind,.i .i64 v.n,.s v.s,.fs t1 false v.l.length (encs v.l),.fs t2 false v.names.length (encs v.names)] 1 false)∧fitsL v.l (w+1) L0=fitsL todo (w+1) q) ?_ ?_ ?_
        · rintro i x todo e H hx hd hlt hlt2 hlt3 ⟨q,hq0,hq1,rfl,rfl,hq⟩
          clear hlt
          have hm:=bulkL_mem (List.mem_of_getElem? hx)
          have c2:=ih x (by omega) (by omega) (w+1) q (by omega) hw7 (by omega) (by omega) false false
          have c3:=fitsV_le x (w+1) q
          rw[fitsL] at hq
          simp -implicitDefEqProofs [L77b, *]
          repeat' ((first|refine guard_intro ?_ ?_|refine test_intro ?_ ?_)<;>intro h<;>(try simp -implicitDefEqProofs [*]))
          have c3:=c3 h
          exact⟨_,c3.1,by omega,rfl,rfl⟩
        · rintro e H ⟨q,hq0,hq1,rfl,rfl,hq⟩
          simp -implicitDefEqProofs [L77b,hG]
          rw[if_neg (by omega),hq]
          simp -implicitDefEqProofs [fitsL]
        · exact⟨L0,by omega,by omega,rfl,rfl,rfl⟩
    · refine⟨?_,rfl,?_,?_⟩
      · simp
      · exact hlens.1
      · omega
theorem t_check(v:Val)(hv:v.bulk<1099511627776)(t1 t2:Bool):pureR IP G 67 [.ag [.i .i64 v.kind,.i .i64 v.n,.s v.s,.fs t1 false v.l.length (encs v.l),.fs t2 false v.names.length (encs v.names)]]=some (.i .i64 (if mayV v then 0 else 2)):=by
 have c1:=t_fits hG v.bulk v (Nat.le_refl _) hv 0 256 (by omega) (by omega) (by omega) (by omega)
 refine pure_run ip67 rfl ?_
 simp -implicitDefEqProofs [I67,hG,c1]
 repeat' ((first|refine guard_intro ?_ ?_|refine test_intro ?_ ?_)<;>intro h<;>(try simp -implicitDefEqProofs [h]))
 all_goals simp_all [mayV]
end
end Go.Proofs.YtkpgolcjiahdfaaDoor
namespace Go.Proofs.YtkpgolcjiahdfaaDoor
open Go Go.RI
section
variable {G:AHeap} (hG:G.next=2)
include hG
theorem t_pown_loop(v:Val)(hv:v.l.length<1099511627776)(lv nv:AVal)(H:AHeap)(hr:H.get 2=some (.cells [.i .i64 v.kind,.i .i64 v.n,.s v.s,lv,nv] 1 false))(hL:Hold H 4 lv 5 v.l.length (encs v.l))
  (ih:∀ x∈v.l,∀ t1 t2:Bool,pureR IP G 40 [.ag [.i .i64 x.kind,.i .i64 x.n,.s x.s,.fs t1 false x.l.length (encs x.l),.fs t2 false x.names.length (encs x.names)]]=some (.ag (Enc.cells x)))
  (Q:Post) (hQ:∀ b H',(∀ id,H'.get id=H.get id)→H'.next=H.next→Q (.exit 0) [(1,.p 2 0),(2,.p 3 0),(14,.i .i64 v.l.length),(15,.i .i64 v.l.length),(16,b)] H') :
  wp (theCalls IP G 2) 2 (.loop L40a) Q [(1,.p 2 0),(2,.p 3 0),(14,.i .i64 v.l.length),(15,.i .i64 0)] H:=by
 refine wp_loop_list (l:=v.l) (by omega) (fun i todo e H'=>e=[(1,.p 2 0),(2,.p 3 0),(14,.i .i64 v.l.length),(15,.i .i64 i)]∧(∀ id,H'.get id=H.get id)∧H'.next=H.next) ?_ ?_ ?_
 ·rintro i x todo e H' hx hd hlt hlt2 hlt3 ⟨rfl,hs,hn⟩
  have c1:=ih x (List.mem_of_getElem? hx) false false
  simp at c1
  rcases hL with⟨_,h0,_⟩|⟨id,c,rfl,hc,h1,h2,h3,h4⟩
  ·omega
  have hr':=(hs 2).trans hr
  have h3':=(hs id).trans h3
  have h5:i*5+5≤v.l.length*5:=by omega
  have hne:¬ id=2:=by omega
  have hp:=put_val hx
  simp at hp
  have hlo:2≤id:=by omega
  clear hlt
  simp -implicitDefEqProofs [L40a,hlt2,hlt3,hx,hr',h3',h5,c1,hne,hlo,hp]
  refine⟨fun j=>?_,hn⟩
  by_cases hj:j=id
  ·subst hj;simp -implicitDefEqProofs [h3]
  ·simp -implicitDefEqProofs [hj,hs]
 ·rintro e H' ⟨rfl,hs,hn⟩
  simp -implicitDefEqProofs [L40a]
  exact hQ _ _ hs hn
 ·simp
theorem t_pown1:∀ b,b<1099511627776→∀ v:Val,v.bulk≤b→∀ t1 t2:Bool,pureR IP G 40 [.ag [.i .i64 v.kind,.i .i64 v.n,.s v.s,.fs t1 false v.l.length (encs v.l),.fs t2 false v.names.length (encs v.names)]]=some (.ag (Enc.cells v)):=by
  intro b
  induction b with
  | zero=>intro _ v h;have:=v.bulk_pos;omega
  | succ b ih =>
    intro hb v hv t1 t2
    rw[Val.bulk_eq] at hv
    have hl1:=bulkL_len v.l
    have hl2:=bulkS_len v.names
    refine pure_run ip40 rfl ?_
    simp -implicitDefEqProofs [I40,hG]
    refine step_clone (lo':=4) (by simp) (by omega) (by omega) (by omega) (by simp -implicitDefEqProofs [hG]) ?_
    intro nv H1 hn1 hN hnew1 hf1
    have hg1:H1.get 2=_:=hf1 2 (by simp -implicitDefEqProofs [hG])
    have hg2:H1.get 3=_:=hf1 3 (by simp -implicitDefEqProofs [hG])
    simp -implicitDefEqProofs [hG] at hg1 hg2 hn1
    simp -implicitDefEqProofs [hg1]
    refine step_clone (lo':=4) (by simp) (by omega) (by omega) (by omega) (by omega) ?_
    intro lv H2 hn2 hL hnew2 hf2
    have hg3:H2.get 2=_:=(hf2 2 (by omega)).trans hg1
    have hg4:H2.get 3=_:=(hf2 3 (by omega)).trans hg2
    obtain⟨o1,o2⟩:=hold_one hN
    obtain⟨o3,o4⟩:=hold_one hL
    simp -implicitDefEqProofs [hg3,o1,o2,o3,o4,hold_len hL]
    have hN2:Hold H2 4 nv 1 v.names.length (encs v.names):=hold_keep hN hn2 fun id c h=>hf2 id (hold_lt hN _ _ _ h).2
    refine t_pown_loop hG v (by omega) lv nv _ (by simp) (hold_keep hL (by simp) fun id c h=>?_) (fun x hx t1 t2=>ih (by omega) x (by have:=bulkL_mem hx;omega) t1 t2) _ ?_
    · have:=hold_lt hL _ _ _ h
      simp -implicitDefEqProofs [show ¬ id=2 by omega]
    · intro b H3 hs hn3
      have e1:H3.get 2=_:=hs 2
      have e2:H3.get 3=_:=hs 3
      simp -implicitDefEqProofs [hg4] at e1 e2
      simp -implicitDefEqProofs [e1,e2]
      simp at hn3
      have f1:=fun o=>hold_frz (k:=14) (hold_in hL (H':=H3.put 3 o) (lo':=2) (by omega) (by simp;omega) fun id h1 h2=>by simp -implicitDefEqProofs [hs,show ¬ id=3 by omega,show ¬ id=2 by omega]) frz_encs
      have f2:=fun o=>hold_frz (k:=14) (hold_in hN2 (H':=H3.put 3 o) (lo':=2) (by omega) (by simp;omega) fun id h1 h2=>by simp -implicitDefEqProofs [hs,show ¬ id=3 by omega,show ¬ id=2 by omega]) frz_encs
      simp -implicitDefEqProofs [f1,f2]
theorem t_pownV(v:Val)(hv:v.bulk<1099511627776)(t1 t2:Bool):pureR IP G 40 [.ag [.i .i64 v.kind,.i .i64 v.n,.s v.s,.fs t1 false v.l.length (encs v.l),.fs t2 false v.names.length (encs v.names)]]=some (.ag (Enc.cells v)) :=
 t_pown1 hG v.bulk hv v (Nat.le_refl _) t1 t2
end
end Go.Proofs.YtkpgolcjiahdfaaDoor
namespace Go.Proofs.YtkpgolcjiahdfaaDoor
open Go Go.RI
section
variable {G:AHeap} (hG:G.next=2)
include hG
set_option maxHeartbeats 1000000 in
theorem t_pturn(l:List Opn)(hlen:l.length<1099511627776)(pl:List Opn)(h:∀ o∈l,o.kind=2→0≤o.n∧o.n<pl.length)(hb:∀ o∈l,(turnO pl o).v.bulk<1099511627776)(t f ta:Bool):pureR IP G 39 [.fs t f l.length (encs l),.fp [.fp [.fs ta false pl.length (encs pl)]]]=some (.fs false false l.length (encs (l.map (turnO pl)))):=by
 refine pure_run ip39 rfl ?_
 simp -implicitDefEqProofs [I39,hG]
 refine wp_loop_list (l:=l) (by omega) (fun i todo e H=>∃ lv,e=[(1,.fp [.fp [.fs ta false pl.length (encs pl)]]),(3,lv),(6,.fs t f l.length (encs l)),(7,.i .i64 l.length),(8,.i .i64 i)]∧2≤H.next∧Acc H 2 lv 7 i (encs ((l.take i).map (turnO pl)))) ?_ ?_ ?_
 ·rintro i o todo e H' hx hd hlt hlt2 hlt3 ⟨lv,rfl,n3,hL⟩
  have hk2:=h o (List.mem_of_getElem? hx)
  have c1:=t_pownV hG (turnO pl o).v (hb o (List.mem_of_getElem? hx)) false false
  clear hlt
  by_cases k2:o.kind=2
  ·obtain⟨a1,a2⟩:=hk2 k2
   obtain⟨p,hp⟩:=get_of_lt (l:=pl) (i:=o.n.toNat) (by omega)
   have hp2:∀ h,pl[o.n.toNat]'h=p:=fun h=>by rw[List.getElem?_eq_getElem h] at hp;exact Option.some.inj hp
   have hm:turnO pl o=p:=by unfold turnO;rw[if_pos k2,hp];rfl
   rw[hm] at c1
   simp at c1
   clear hk2
   simp -implicitDefEqProofs [L39a,hlt2,hlt3,hx,n3,c1,k2,a1,a2,hp,hp2]
   refine step_app (lo':=2) (acc_keep hL (by simp<;>omega) ?_) (m:=1) (ys:=Enc.cells (turnO pl o)) (by omega) (by simp<;>omega) (more_lit (cs:=Enc.cells (turnO pl o)) (e:=7) (ro:=false) (by simp -implicitDefEqProofs [hm]) (by simp) (by omega)) (by simp) (by omega) (by omega) (by omega) (by omega) ?_
   ·intro id a b hv
    have:=acc_lt hL id a b hv
    simp -implicitDefEqProofs [show ¬ id=H'.next+1 by omega,show ¬ id=H'.next by omega]
   intro H2 hn2 hL2 hf2
   simp at hn2 hL2
   simp -implicitDefEqProofs [hlt3]
   exact⟨by omega,by simpa[List.take_add_one,hx] using hL2⟩
  ·have hm:turnO pl o=o:=by unfold turnO;rw[if_neg k2]
   rw[hm] at c1
   simp at c1
   simp -implicitDefEqProofs [L39a,hlt2,hlt3,hx,n3,c1,k2]
   refine step_app (lo':=2) (acc_keep hL (by simp<;>omega) ?_) (m:=1) (ys:=Enc.cells (turnO pl o)) (by omega) (by simp<;>omega) (more_lit (cs:=Enc.cells (turnO pl o)) (e:=7) (ro:=false) (by simp -implicitDefEqProofs [hm]) (by simp) (by omega)) (by simp) (by omega) (by omega) (by omega) (by omega) ?_
   ·intro id a b hv
    have:=acc_lt hL id a b hv
    simp -implicitDefEqProofs [show ¬ id=H'.next+1 by omega,show ¬ id=H'.next by omega]
   intro H2 hn2 hL2 hf2
   simp at hn2 hL2
   simp -implicitDefEqProofs [hlt3]
   exact⟨by omega,by simpa[List.take_add_one,hx] using hL2⟩
 ·rintro e H' ⟨lv,rfl,hn,hL⟩
  rw[List.take_length] at hL
  have:=acc_frz (k:=15) hL frz_encs
  simp -implicitDefEqProofs [L39a,this]
 ·exact⟨.ns,by simp,by omega,acc_none⟩
end
end Go.Proofs.YtkpgolcjiahdfaaDoor
namespace Go.Proofs.YtkpgolcjiahdfaaDoor
open Go Go.RI
section
variable {G:AHeap} (hG:G.next=2)
include hG
theorem t_turner(H:AHeap)(a:Nat)(lo:Nat):theCalls IP G lo 20 [.p a 0] H=some (.fn (.func 39) [] [.p H.next 0],H.push (.cells [.p a 0] 1 false)):=by
 have bx:∀(H:AHeap) (a b:Nat),boxR H (.p a b)=some (some (.p H.next 0),H.push (.cells [.p a b] 1 false)):=fun _ _ _=>rfl
 refine calls_one ip20 rfl rfl ?_
 rw[ends_fin]
 simp -implicitDefEqProofs [I20,bx]
end
end Go.Proofs.YtkpgolcjiahdfaaDoor
namespace Go.Proofs.YtkpgolcjiahdfaaDoor
open Go Go.RI
def Rw(pv:AVal)(id:Nat):Prop:=∃ m c,pv=.sl id 0 m c
structure OnceI (d:Nat) (s:OS) (ov pv:AVal) (cs:List AVal) (PB:List OpB) (H:AHeap):Prop where
 mf:MkK (d+4) (d+3) (d+7) (Rw pv) s.k ov cs H
 g5:H.get (d+5)=some (.cells [pv] 1 false)
 g6:H.get (d+6)=some (.cells [.p (d+5) 0] 1 false)
 pb:PB.map OpB.o=s.pl
 ok:∀ b∈PB,okB b
 acc:Acc H (d+7) pv 7 PB.length (encs PB)
 dis:∀ i m c,ov=.sl i 0 m c→¬ Rw pv i
 nt:NoTmp cs
theorem hold_noTmp{H:AHeap}{lo esz n:Nat}{v:AVal}{cells:List AVal}(h:Hold H lo v esz n cells):NoTmp [v]:=by
 intro c hc t f n l he
 simp at hc
 subst hc
 rcases h with⟨h|h,_,_⟩|⟨id,c,h,_⟩
 ·rw[h] at he;cases he;rfl
 ·rw[h] at he;cases he
 ·rw[h] at he;cases he
section
variable {G:AHeap} (hG:G.next=2)
include hG
theorem mkk_snap{b h lo:Nat}{X:Nat→Prop}{k:KS}{ov:AVal}{cs:List AVal}{H:AHeap}(hM:MkK b h lo X k ov cs H)(n:Nat):∃ ta tb cs2,OutT cs2 k.l∧snapV H (n+4) ov=some (.fs ta false k.l.length cs2)∧snapV H (n+4) (.sl h 0 k.hs.length (some k.hs.length))=some (.fs tb false k.hs.length (encs k.hs)):=by
 obtain⟨gM,gH,nx,lt,acc,out⟩:=hM
 obtain⟨cs2,e1,e2⟩:=outS_snap (k:=n+1) _ _ out
 have s1:=acc_snap (k:=n+3) acc e1
 have s2:=hold_snap (k:=n+3) (H:=H) (lo:=h) (v:=.sl h 0 k.hs.length (some k.hs.length)) (esz:=1) (n:=k.hs.length) (cells:=encs k.hs) (.inr ⟨h,some k.hs.length,rfl,.inr rfl,Nat.le_refl _,by omega,gH,by rw[encs_len];simp -implicitDefEqProofs [Enc.sz]⟩) snap_encs
 exact⟨_,_,cs2,e2,s1,s2⟩
theorem mkk_row{b h lo:Nat}{X:Nat→Prop}{k:KS}{ov:AVal}{cs:List AVal}{H:AHeap}(hM:MkK b h lo X k ov cs H)(n:Nat):∃ cs2,OutT cs2 k.l∧snapV H (n+3) ov=some (.fs (decide (0<k.l.length)) false k.l.length cs2):=by
 obtain⟨cs2,e1,e2⟩:=outS_snap (k:=n) _ _ hM.out
 exact⟨cs2,e2,acc_snap (k:=n+2) hM.acc e1⟩
theorem once_box{d:Nat}{s:OS}{ov pv:AVal}{cs:List AVal}{PB:List OpB}{H H':AHeap}(hI:OnceI d s ov pv cs PB H)(hn:H.next≤H'.next)(hk:∀ id,id<H.next→H'.get id=H.get id):OnceI d s ov pv cs PB H' :=
 have nx:=hI.mf.nx
 { mf:=mkk_box hG hI.mf hn hk,g5:=(hk _ (by omega)).trans hI.g5,g6:=(hk _ (by omega)).trans hI.g6,pb:=hI.pb,ok:=hI.ok,acc:=acc_keep hI.acc hn fun id a b hv=>hk id (acc_lt hI.acc _ _ _ hv).2,dis:=hI.dis,nt:=hI.nt }
theorem once_place{d:Nat}{s:OS}{ov pv:AVal}{cs:List AVal}{PB:List OpB}{H H':AHeap}(hI:OnceI d s ov pv cs PB H)(y:OpB)(hy:okB y)(id0:Nat)(h0:H.next≤id0)(hn:H.next≤H'.next)(hacc:Acc H' (d+7) (.sl id0 0 (PB.length+1) none) 7 (PB.length+1) (encs PB++Enc.cells y))(hf:∀ id,id<H.next→(∀ id0 n0 c0,pv=.sl id0 0 n0 c0→id≠id0)→H'.get id=H.get id) :
  OnceI d ⟨s.k,s.pl++[y.o]⟩ ov (.sl id0 0 (PB.length+1) none) cs (PB++[y]) (H'.put (d+5) (some (.cells [.sl id0 0 (PB.length+1) none] 1 false))):=by
 have nx:=hI.mf.nx
 have hpl:∀ id,Rw pv id→d+7≤id:=fun id ⟨m,c,h⟩=>(acc_lt hI.acc _ _ _ h).1
 have hf2:∀ id,id<H.next→id≠d+5→¬ Rw pv id→(H'.put (d+5) (some (.cells [.sl id0 0 (PB.length+1) none] 1 false))).get id=H.get id:=fun id h1 h2 h3=>by
  simp -implicitDefEqProofs [h2]
  exact hf id h1 fun j n c h e=>h3 (by subst e;exact⟨n,c,h⟩)
 have hm:=hI.mf
 have hlt:=hI.mf.lt
 have n5:∀ i m c,ov=.sl i 0 m c→d+7≤i:=fun i m c h=>(acc_lt hm.acc _ _ _ h).1
 have r:∀ id,Rw (.sl id0 0 (PB.length+1) none) id→id=id0:=fun id ⟨m,c,h⟩=>by cases h;rfl
 refine{ mf:=?_,g5:=by simp,g6:=?_,pb:=by simp -implicitDefEqProofs [hI.pb],ok:=?_,acc:=?_,dis:=fun i m c h hr=>?_,nt:=hI.nt }
 ·exact{ gM:=(hf2 _ (by omega) (by omega) fun h=>by have:=hpl _ h;omega).trans hm.gM,gH:=(hf2 _ (by omega) (by omega) fun h=>by have:=hpl _ h;omega).trans hm.gH,nx:=by simp;omega,lt:=hlt,acc:=acc_keep hm.acc (by simpa using hn) fun id a b hv=>hf2 id (acc_lt hm.acc _ _ _ hv).2 (by have:=n5 _ _ _ hv;omega) (hI.dis _ _ _ hv),out:=outS_keep (by simpa using hn) (fun id h1 h2=>⟨hf2 id h2 (by have:=h1.1.1;omega) h1.1.2,⟨h1.1.1,fun h=>by have:=r _ h;omega⟩,h1.2⟩) _ _ hm.out }
 ·exact(hf2 _ (by omega) (by omega) fun h=>by have:=hpl _ h;omega).trans hI.g6
 ·intro b hb
  rcases List.mem_append.1 hb with hb|hb
  ·exact hI.ok b hb
  ·simp at hb;subst hb;exact hy
 ·have:=acc_keep (H':=H'.put (d+5) (some (.cells [.sl id0 0 (PB.length+1) none] 1 false))) hacc (by simp) fun id a b hv=>by have:=acc_lt hacc _ _ _ hv;simp -implicitDefEqProofs [show ¬ id=d+5 by omega]
  simpa using this
 ·have:=r _ hr
  have:=(acc_lt hm.acc _ _ _ h).2
  omega
theorem once_add{d jj:Nat}{s:OS}{k':KS}{ov pv:AVal}{cs cs':List AVal}{PB:List OpB}{H H':AHeap}(hI:OnceI d s ov pv cs PB H){n:Nat}(hM:MkK (d+4) (d+3) (d+7) (Rw pv) k' (.sl jj 0 n none) cs' H')(hj:H.next≤jj)(hn:H.next≤H'.next)(hnt:NoTmp cs')(hf:∀ id,id<H.next→id≠d+4→id≠d+3→(∀ j m c,ov=.sl j 0 m c→id≠j)→H'.get id=H.get id) :
  OnceI d ⟨k',s.pl⟩ (.sl jj 0 n none) pv cs' PB H':=by
 have nx:=hI.mf.nx
 have nov:∀ id,id<d+7→∀ j m c,ov=.sl j 0 m c→id≠j:=fun id h j m c hv=>by have:=acc_lt hI.mf.acc _ _ _ hv;omega
 refine{ mf:=hM,g5:=(hf _ (by omega) (by omega) (by omega) (nov _ (by omega))).trans hI.g5,g6:=(hf _ (by omega) (by omega) (by omega) (nov _ (by omega))).trans hI.g6,pb:=hI.pb,ok:=hI.ok,acc:=acc_keep hI.acc hn fun id a b hv=>hf id (acc_lt hI.acc _ _ _ hv).2 (by have:=acc_lt hI.acc _ _ _ hv;omega) (by have:=acc_lt hI.acc _ _ _ hv;omega) (fun j m c h e=>hI.dis _ _ _ h (by subst e;exact⟨a,b,hv⟩)),nt:=hnt,dis:=fun i m c h hr=>?_ }
 cases h
 obtain⟨m,c,h⟩:=hr
 have:=acc_lt hI.acc _ _ _ h
 omega
theorem once_snap{d:Nat}{s:OS}{ov pv:AVal}{cs:List AVal}{PB:List OpB}{H:AHeap}(hI:OnceI d s ov pv cs PB H):∃ tb,snapV H 16 (.p (d+6) 0)=some (.fp [.fp [.fs tb false s.pl.length (encs s.pl)]]):=by
 have s1:=acc_snap (k:=13) hI.acc (snap_B (k:=12) PB hI.ok)
 have e:PB.length=s.pl.length:=by rw[←hI.pb];simp
 rw[hI.pb] at s1
 refine⟨decide (0<PB.length),?_⟩
 simp at s1
 simp -implicitDefEqProofs [hI.g6,hI.g5,s1,e]
end
end Go.Proofs.YtkpgolcjiahdfaaDoor
namespace Go.Proofs.YtkpgolcjiahdfaaDoor
open Go Go.RI
section
variable {G:AHeap} (hG:G.next=2)
include hG
theorem t_pmakes(op n:Int)(lv nv:AVal)(s:Str):pureR IP G 75 [.ag [.i .i64 op,.i .i64 n,lv,.s s,nv]]=some (.i .i64 (makesI op n)):=by
 by_cases h0:op=6
 ·subst h0;refine pure_run ip75 rfl ?_;simp -implicitDefEqProofs [I75,hG,makesI]
 by_cases h1:op=8
 ·subst h1;refine pure_run ip75 rfl ?_;simp -implicitDefEqProofs [I75,hG,makesI]
 by_cases h2:op=10
 ·subst h2;refine pure_run ip75 rfl ?_;simp -implicitDefEqProofs [I75,hG,makesI]
 by_cases h3:op=11
 ·subst h3;refine pure_run ip75 rfl ?_;simp -implicitDefEqProofs [I75,hG,makesI]
 by_cases h4:op=12
 ·subst h4;refine pure_run ip75 rfl ?_;simp -implicitDefEqProofs [I75,hG,makesI]
 by_cases h5:op=13
 ·subst h5;refine pure_run ip75 rfl ?_;simp -implicitDefEqProofs [I75,hG,makesI]
 by_cases h6:op=41
 ·subst h6;refine pure_run ip75 rfl ?_;simp -implicitDefEqProofs [I75,hG,makesI]
 by_cases h7:op=43
 ·subst h7;refine pure_run ip75 rfl ?_;simp -implicitDefEqProofs [I75,hG,makesI]
 by_cases h8:op=44
 ·subst h8;refine pure_run ip75 rfl ?_;simp -implicitDefEqProofs [I75,hG,makesI]
 by_cases h9:op=45
 ·subst h9;refine pure_run ip75 rfl ?_;simp -implicitDefEqProofs [I75,hG,makesI]
 by_cases h10:op=48
 ·subst h10;refine pure_run ip75 rfl ?_;simp -implicitDefEqProofs [I75,hG,makesI]
 by_cases h11:op=7
 ·subst h11;refine pure_run ip75 rfl ?_;simp -implicitDefEqProofs [I75,hG,makesI]
 by_cases h12:op=14
 ·subst h12;refine pure_run ip75 rfl ?_;simp -implicitDefEqProofs [I75,hG,makesI]
 by_cases h13:op=15
 ·subst h13;refine pure_run ip75 rfl ?_;simp -implicitDefEqProofs [I75,hG,makesI]
 by_cases h14:op=16
 ·subst h14;refine pure_run ip75 rfl ?_;simp -implicitDefEqProofs [I75,hG,makesI]
 by_cases h15:op=17
 ·subst h15;refine pure_run ip75 rfl ?_;simp -implicitDefEqProofs [I75,hG,makesI]
 by_cases h16:op=42
 ·subst h16;refine pure_run ip75 rfl ?_;simp -implicitDefEqProofs [I75,hG,makesI]
 by_cases h17:op=46
 ·subst h17;refine pure_run ip75 rfl ?_;simp -implicitDefEqProofs [I75,hG,makesI]
 by_cases h18:op=47
 ·subst h18;refine pure_run ip75 rfl ?_;simp -implicitDefEqProofs [I75,hG,makesI]
 by_cases h19:op=49
 ·subst h19;refine pure_run ip75 rfl ?_;simp -implicitDefEqProofs [I75,hG,makesI]
 by_cases h20:op=20
 ·subst h20;refine pure_run ip75 rfl ?_;simp -implicitDefEqProofs [I75,hG,makesI]
 by_cases h21:op=18
 ·subst h21;refine pure_run ip75 rfl ?_;simp -implicitDefEqProofs [I75,hG,makesI]
 by_cases h22:op=21
 ·subst h22;refine pure_run ip75 rfl ?_;simp -implicitDefEqProofs [I75,hG,makesI]
 by_cases h23:op=40
 ·subst h23;refine pure_run ip75 rfl ?_;simp -implicitDefEqProofs [I75,hG,makesI]
 refine pure_run ip75 rfl ?_
 simp -implicitDefEqProofs [I75,hG,makesI,h0,h1,h2,h3,h4,h5,h6,h7,h8,h9,h10,h11,h12,h13,h14,h15,h16,h17,h18,h19,h20,h21,h22,h23]
theorem t_pkind(k:KS)(cs:List AVal)(hT:OutT cs k.l)(ta tb:Bool)(o:Opn)(h1:o.kind=1→0≤o.n∧o.n<k.hs.length)(h2:o.kind=2→0≤o.n∧o.n<k.l.length) :
  pureR IP G 64 [.fp [.fs ta false k.l.length cs,.fs tb false k.hs.length (encs k.hs)],.ag (Enc.cells o)]=some (.i .i64 (knownK k o)):=by
 unfold knownK knownI
 simp only
 by_cases k1:o.kind=1
 ·obtain⟨a1,a2⟩:=h1 k1
  obtain⟨x,hx⟩:=get_of_lt (l:=k.hs) (i:=o.n.toNat) (by omega)
  have hx2:k.hs[o.n.toNat]'(by omega)=x:=by rw[List.getElem?_eq_getElem (by omega)] at hx;exact Option.some.inj hx
  rw[if_pos k1,hx]
  clear h1 h2
  refine pure_run ip64 rfl ?_
  simp -implicitDefEqProofs [I64,hG,k1,a1,a2,hx,hx2]
 by_cases k2:o.kind=2
 ·obtain⟨a1,a2⟩:=h2 k2
  obtain⟨x,hx⟩:=get_of_lt (l:=k.l) (i:=o.n.toNat) (by omega)
  obtain⟨t1,f1,t2,f2,hc⟩:=hT.2 _ _ hx
  have c1:=t_pmakes hG x.op x.n (.fs t1 false x.l.length (encs x.l)) (.fs t2 false x.names.length (encs x.names)) x.s
  have hl:=hT.1
  have b1:5≤cs.length-o.n.toNat*5:=by omega
  rw[if_neg k1,if_pos k2,hx]
  clear h1 h2
  refine pure_run ip64 rfl ?_
  simp -implicitDefEqProofs [I64,hG,k2,a1,a2,hc,c1,b1,stpKind]
 ·rw[if_neg k1,if_neg k2]
  refine pure_run ip64 rfl ?_
  simp -implicitDefEqProofs [I64,hG,k1,k2]
end
end Go.Proofs.YtkpgolcjiahdfaaDoor
namespace Go.Proofs.YtkpgolcjiahdfaaDoor
open Go Go.RI
section
variable {G:AHeap} (hG:G.next=2)
include hG
theorem t_pidxO(g:Nat)(c1 c2:List AVal)(p:Opn→Bool)(hg:∀ lo l H,theCalls IP G lo g l H=given H ((snaps H l).bind (pureR IP G g)))(l:List Opn)(hl:l.length<1099511627776)(hp:∀ o∈l,pureR IP G g [.ag (Enc.cells o),.fp c1,.fp c2]=some (.b (p o)))(t:Bool):pureR IP G 69 [.fs t false l.length (encs l),.fn (.func g) [] [.fp c1,.fp c2]]=some (.i .i64 (idxF p l 0)):=by
 simp only[snaps_eq] at hg
 refine pure_run ip69 rfl ?_
 simp -implicitDefEqProofs [I69,hG]
 refine wp_loop_list (l:=l) (by omega) (fun i todo e H=>e=[(0,.fs t false l.length (encs l)),(1,.fn (.func g) [] [.fp c1,.fp c2]),(7,.i .i64 l.length),(8,.i .i64 i)]∧H=G∧idxF p l 0=idxF p todo i) ?_ ?_ ?_
 ·rintro i x todo e H hx hd hlt hlt2 hlt3 ⟨rfl,rfl,hn⟩
  have cc:=hp x (List.mem_of_getElem? hx)
  simp at cc
  rw[idxF] at hn
  clear hlt
  simp -implicitDefEqProofs [L69a,hlt2,hlt3,hx,hg,cc,hG]
  refine test_intro ?_ ?_<;>intro h2<;>simp -implicitDefEqProofs [hlt3,hG]
  ·rw[hn,h2];simp
  ·rw[hn,h2];simp
 ·rintro e H ⟨rfl,rfl,hn⟩
  simp -implicitDefEqProofs [L69a,hG]
  rw[hn];rfl
 ·simp -implicitDefEqProofs [hG]
theorem t_panyO(g:Nat)(c1 c2:List AVal)(p:Opn→Bool)(hg:∀ lo l H,theCalls IP G lo g l H=given H ((snaps H l).bind (pureR IP G g)))(l:List Opn)(hl:l.length<1099511627776)(hp:∀ o∈l,pureR IP G g [.ag (Enc.cells o),.fp c1,.fp c2]=some (.b (p o)))(t f:Bool):pureR IP G 52 [.fs t f l.length (encs l),.fn (.func g) [] [.fp c1,.fp c2]]=some (.b (l.any p)):=by
 have cc:=t_pidxO hG g c1 c2 p hg l hl hp
 refine pure_run ip52 rfl ?_
 simp -implicitDefEqProofs [I52,hG,cc]
 rw[←idxF_any _ l 0 (by omega)]
theorem t_pidxI(g:Nat)(c1 c2:List AVal)(p:Int→Bool)(hg:∀ lo l H,theCalls IP G lo g l H=given H ((snaps H l).bind (pureR IP G g)))(l:List Int)(hl:l.length<1099511627776)(hp:∀ o∈l,pureR IP G g [.i .i64 o,.fp c1,.fp c2]=some (.b (p o)))(t:Bool):pureR IP G 74 [.fs t false l.length (encs l),.fn (.func g) [] [.fp c1,.fp c2]]=some (.i .i64 (idxF p l 0)):=by
 simp only[snaps_eq] at hg
 refine pure_run ip74 rfl ?_
 simp -implicitDefEqProofs [I74,hG]
 refine wp_loop_list (l:=l) (by omega) (fun i todo e H=>e=[(0,.fs t false l.length (encs l)),(1,.fn (.func g) [] [.fp c1,.fp c2]),(7,.i .i64 l.length),(8,.i .i64 i)]∧H=G∧idxF p l 0=idxF p todo i) ?_ ?_ ?_
 ·rintro i x todo e H hx hd hlt hlt2 hlt3 ⟨rfl,rfl,hn⟩
  have cc:=hp x (List.mem_of_getElem? hx)
  rw[idxF] at hn
  clear hlt
  simp -implicitDefEqProofs [L74a,hlt2,hlt3,hx,hg,cc,hG]
  refine test_intro ?_ ?_<;>intro h2<;>simp -implicitDefEqProofs [hlt3,hG]
  ·rw[hn,h2];simp
  ·rw[hn,h2];simp
 ·rintro e H ⟨rfl,rfl,hn⟩
  simp -implicitDefEqProofs [L74a,hG]
  rw[hn];rfl
 ·simp -implicitDefEqProofs [hG]
theorem t_panyI(g:Nat)(c1 c2:List AVal)(p:Int→Bool)(hg:∀ lo l H,theCalls IP G lo g l H=given H ((snaps H l).bind (pureR IP G g)))(l:List Int)(hl:l.length<1099511627776)(hp:∀ o∈l,pureR IP G g [.i .i64 o,.fp c1,.fp c2]=some (.b (p o)))(t f:Bool):pureR IP G 61 [.fs t f l.length (encs l),.fn (.func g) [] [.fp c1,.fp c2]]=some (.b (l.any p)):=by
 have cc:=t_pidxI hG g c1 c2 p hg l hl hp
 refine pure_run ip61 rfl ?_
 simp -implicitDefEqProofs [I61,hG,cc]
 rw[←idxF_any _ l 0 (by omega)]
theorem t_pnot(k:KS)(cs:List AVal)(hT:OutT cs k.l)(ta tb:Bool)(o:Opn)(c:Int)(h:(o.kind=1→0≤o.n∧o.n<k.hs.length)∧(o.kind=2→0≤o.n∧o.n<k.l.length)) :
  pureR IP G 63 [.ag (Enc.cells o),.fp [.fp [.fs ta false k.l.length cs,.fs tb false k.hs.length (encs k.hs)]],.fp [.i .i64 c]]=some (.b (!decide (knownK k o=c))):=by
 have c1:=t_pkind hG k cs hT ta tb o h.1 h.2
 simp at c1
 refine pure_run ip63 rfl ?_
 simp -implicitDefEqProofs [I63,hG,c1]
theorem t_pall1(k:KS)(cs:List AVal)(hT:OutT cs k.l)(ta tb:Bool)(l:List Opn)(hl:l.length<1099511627776)(h:∀ o∈l,(o.kind=1→0≤o.n∧o.n<k.hs.length)∧(o.kind=2→0≤o.n∧o.n<k.l.length))(t f:Bool)(c:Int) :
  pureR IP G 62 [.i .i64 c,.fp [.fs t f l.length (encs l)],.fp [.fp [.fs ta false k.l.length cs,.fs tb false k.hs.length (encs k.hs)]]]=some (.b (allK k l c)):=by
 have c1:=t_panyO hG 63 [.fp [.fs ta false k.l.length cs,.fs tb false k.hs.length (encs k.hs)]] [.i .i64 c] (fun o=>!decide (knownK k o=c)) (by intro lo l H;simp) l hl (fun o ho=>t_pnot hG k cs hT ta tb o c (h o ho)) t false
 have e:(!l.any fun o=>!decide (knownK k o=c))=allK k l c:=by unfold allK;rw[List.all_eq_not_any_not]
 refine pure_run ip62 rfl ?_
 simp -implicitDefEqProofs [I62,hG,c1]
 simp at e
 rw[e]
theorem t_pall(k:KS)(cs:List AVal)(hT:OutT cs k.l)(ta tb:Bool)(l:List Opn)(hl:l.length<1099511627776)(h:∀ o∈l,(o.kind=1→0≤o.n∧o.n<k.hs.length)∧(o.kind=2→0≤o.n∧o.n<k.l.length))(ks:List Int)(hk:ks.length<1099511627776)(t f t2 f2:Bool) :
  pureR IP G 48 [.fp [.fs ta false k.l.length cs,.fs tb false k.hs.length (encs k.hs)],.fs t f l.length (encs l),.fs t2 f2 ks.length (encs ks)]=some (.b (ks.any (allK k l))):=by
 have c1:=t_panyI hG 62 [.fs t false l.length (encs l)] [.fp [.fs ta false k.l.length cs,.fs tb false k.hs.length (encs k.hs)]] (allK k l) (by intro lo l H;simp) ks hk (fun c _=>t_pall1 hG k cs hT ta tb l hl h t false c) t2 false
 refine pure_run ip48 rfl ?_
 have bx:∀(H:AHeap) (l:List AVal),boxR H (.fp l)=some (some (.p H.next 0),H.push (.cells [.fp l] 1 false)):=fun _ _=>rfl
 simp -implicitDefEqProofs [I48,hG,c1,bx]
set_option maxHeartbeats 1000000 in
theorem t_psure(k:KS)(cs:List AVal)(hT:OutT cs k.l)(ta tb:Bool)(i:Stp)(hl:i.l.length<1099511627776)(h:∀ o∈i.l,(o.kind=1→0≤o.n∧o.n<k.hs.length)∧(o.kind=2→0≤o.n∧o.n<k.l.length))(t1 t2:Bool) :
  pureR IP G 29 [.fp [.fs ta false k.l.length cs,.fs tb false k.hs.length (encs k.hs)],.ag [.i .i64 i.op,.i .i64 i.n,.fs t1 false i.l.length (encs i.l),.s i.s,.fs t2 false i.names.length (encs i.names)]]=some (.b (sureK k i)):=by
 obtain⟨op,n,l,s,names⟩:=i
 have cc:=fun ks hk tf=>t_pall hG k cs hT ta tb l hl h ks hk t1 false tf false
 have c1:=cc [1] (by simp) true
 have c2:=cc [2] (by simp) true
 have c34:=cc [3,4] (by simp) true
 have cn:=cc [n] (by simp) true
 clear cc
 simp -implicitDefEqProofs [Enc.cells] at c1 c2 c34 cn ⊢
 by_cases h14:op=14
 ·subst h14;refine pure_run ip29 rfl ?_;simp -implicitDefEqProofs [I29,hG,sureK,isInt]
 by_cases h15:op=15
 ·subst h15;refine pure_run ip29 rfl ?_;simp -implicitDefEqProofs [I29,hG,sureK,isInt]
 by_cases h40:op=40
 ·subst h40;refine pure_run ip29 rfl ?_;simp -implicitDefEqProofs [I29,hG,sureK,isInt,cn]
 by_cases h7:op=7
 ·subst h7;refine pure_run ip29 rfl ?_;simp -implicitDefEqProofs [I29,hG,sureK,isInt,c2]
 by_cases h42:op=42
 ·subst h42;refine pure_run ip29 rfl ?_;simp -implicitDefEqProofs [I29,hG,sureK,isInt,c2]
 by_cases h8:op=8
 ·subst h8;refine pure_run ip29 rfl ?_;simp -implicitDefEqProofs [I29,hG,sureK,isInt,c34]
 by_cases h6:op=6
 ·subst h6;refine pure_run ip29 rfl ?_;simp -implicitDefEqProofs [I29,hG,sureK,isInt,c1]
 by_cases h10:op=10
 ·subst h10;refine pure_run ip29 rfl ?_;simp -implicitDefEqProofs [I29,hG,sureK,isInt,c1]
 by_cases h11:op=11
 ·subst h11;refine pure_run ip29 rfl ?_;simp -implicitDefEqProofs [I29,hG,sureK,isInt,c1]
 by_cases h41:op=41
 ·subst h41;refine pure_run ip29 rfl ?_;simp -implicitDefEqProofs [I29,hG,sureK,isInt,c1]
 by_cases h43:op=43
 ·subst h43;refine pure_run ip29 rfl ?_;simp -implicitDefEqProofs [I29,hG,sureK,isInt,c1]
 by_cases h44:op=44
 ·subst h44;refine pure_run ip29 rfl ?_;simp -implicitDefEqProofs [I29,hG,sureK,isInt,c1]
 by_cases h45:op=45
 ·subst h45;refine pure_run ip29 rfl ?_;simp -implicitDefEqProofs [I29,hG,sureK,isInt,c1]
 by_cases h46:op=46
 ·subst h46;refine pure_run ip29 rfl ?_;simp -implicitDefEqProofs [I29,hG,sureK,isInt,c1]
 by_cases h47:op=47
 ·subst h47;refine pure_run ip29 rfl ?_;simp -implicitDefEqProofs [I29,hG,sureK,isInt,c1]
 by_cases h48:op=48
 ·subst h48;refine pure_run ip29 rfl ?_;simp -implicitDefEqProofs [I29,hG,sureK,isInt,c1]
 by_cases h49:op=49
 ·subst h49;refine pure_run ip29 rfl ?_;simp -implicitDefEqProofs [I29,hG,sureK,isInt,c1]
 refine pure_run ip29 rfl ?_
 simp -implicitDefEqProofs [I29,hG,sureK,isInt,h14,h15,h40,h7,h42,h8,h6,h10,h11,h41,h43,h44,h45,h46,h47,h48,h49]
end
end Go.Proofs.YtkpgolcjiahdfaaDoor
namespace Go.Proofs.YtkpgolcjiahdfaaDoor
open Go Go.RI
section
variable {G:AHeap} (hG:G.next=2)
include hG
theorem t_equalS(a b:List Str)(ha:a.length<4611686018427387904)(t1 f1 t2 f2:Bool):pureR IP G 56 [.fs t1 f1 a.length (encs a),.fs t2 f2 b.length (encs b)]=some (.b (decide (a=b))):=by
 refine pure_run ip56 rfl ?_
 simp -implicitDefEqProofs [I56,hG]
 refine test_intro ?_ ?_<;>intro h<;>simp -implicitDefEqProofs [hG]
 ·have hl:a.length=b.length:=by have:=of_decide_eq_true h;omega
  refine wp_loop_list (l:=a) ha (fun i todo e H=>e=[(0,.fs t1 f1 a.length (encs a)),(1,.fs t2 f2 b.length (encs b)),(12,.i .i64 a.length),(13,.i .i64 i)]∧H=G∧a.take i=b.take i) ?_ ?_ ?_
  ·rintro i x todo e H hx hd hlt hlt2 hlt3 ⟨rfl,rfl,hn⟩
   obtain⟨y,hy⟩:=get_of_lt (l:=b) (i:=i) (by omega)
   have hlt4:(i:Int)<(b.length:Int):=by omega
   clear hlt
   simp -implicitDefEqProofs [L56a,hlt2,hlt3,hlt4,hx,hy]
   refine test_intro ?_ ?_<;>intro h2<;>simp -implicitDefEqProofs [hlt3,hG]
   ·have:x=y:=by simpa using h2
    rw[List.take_add_one,List.take_add_one,hx,hy,hn,this]
   ·intro he
    subst he
    rw[hx] at hy;cases hy
    simp at h2
  ·rintro e H ⟨rfl,rfl,hn⟩
   simp -implicitDefEqProofs [L56a,hG]
   rw[hl] at hn
   rw[List.take_of_length_le (by omega),List.take_length] at hn
   exact hn
  ·simp
 ·intro he
  subst he
  simp at h
theorem t_sames:∀ b,b<1099511627776→(∀ v w:Val,v.bulk≤b→∀ t1 t2 t3 t4:Bool,pureR IP G 51 [.ag [.i .i64 v.kind,.i .i64 v.n,.s v.s,.fs t1 false v.l.length (encs v.l),.fs t2 false v.names.length (encs v.names)],.ag [.i .i64 w.kind,.i .i64 w.n,.s w.s,.fs t3 false w.l.length (encs w.l),.fs t4 false w.names.length (encs w.names)]]=some (.b (sameV v w))) ∧
    (∀ l m:List Val,bulkL l<b→∀ t1 t2:Bool,pureR IP G 68 [.fs t1 false l.length (encs l),.fs t2 false m.length (encs m),.fn (.func 51) [] []]=some (.b (sameVL l m))):=by
  intro b
  induction b with
  | zero=>intro _;exact⟨fun v w h=>by have:=v.bulk_pos;omega,fun l m h=>by omega⟩
  | succ b ih =>
    intro hb
    obtain⟨ih1,ih2⟩:=ih (by omega)
    have lists:∀ l m:List Val,bulkL l<b+1→∀ t1 t2:Bool,pureR IP G 68 [.fs t1 false l.length (encs l),.fs t2 false m.length (encs m),.fn (.func 51) [] []]=some (.b (sameVL l m)):=by
      intro l m hlm t1 t2
      have hll:=bulkL_len l
      refine pure_run ip68 rfl ?_
      simp -implicitDefEqProofs [I68,hG]
      refine test_intro ?_ ?_<;>intro h<;>simp -implicitDefEqProofs [hG]
      · have hl:l.length=m.length:=by have:=of_decide_eq_true h;omega
        refine wp_loop_list (l:=l) (by omega) (fun i todo e H=>e=[(1,.fs t2 false m.length (encs m)),(2,.fn (.func 51) [] []),(15,.fs t1 false l.length (encs l)),(16,.i .i64 l.length),(17,.i .i64 i)]∧2≤H.next∧sameVL l m=sameVL todo (m.drop i)) ?_ ?_ ?_
        · rintro i x todo e H hx hd hlt hlt2 hlt3 ⟨rfl,hH,hn⟩
          obtain⟨y,hy⟩:=get_of_lt (l:=m) (i:=i) (by omega)
          have hlt4:(i:Int)<(m.length:Int):=by omega
          rw[get_drop hy,sameVL] at hn
          obtain⟨d,hd2⟩:∃ d,H.next=d+2:=⟨H.next-2,by omega⟩
          have hm:=bulkL_mem (List.mem_of_getElem? hx)
          have c1:=fun t1 t2 t3 t4=>ih1 x y (by omega) t1 t2 t3 t4
          clear hlt
          simp -implicitDefEqProofs [L68a,hlt2,hlt3,hlt4,hx,hy,hd2,c1]
          refine test_intro ?_ ?_<;>intro h2<;>simp -implicitDefEqProofs [hlt3,hG,hd2]
          · rw[hn,h2];simp
          · rw[hn,h2];simp
        · rintro e H ⟨rfl,hH,hn⟩
          simp -implicitDefEqProofs [L68a,hG]
          rw[hn,hl,List.drop_length];rfl
        · simp -implicitDefEqProofs [hG]
      · have hl:¬ l.length=m.length:=by have:=of_decide_eq_false h;omega
        cases he:sameVL l m with
        | false=>rfl
        | true=>rw[(sameVL_iff _ _).1 he] at hl;exact absurd rfl hl
    refine⟨?_,lists⟩
    intro v w hv t1 t2 t3 t4
    rw[Val.bulk_eq] at hv
    have hnl:=bulkS_len v.names
    have c1:=t_equalS hG v.names w.names (by omega)
    have c2:=lists v.l w.l (by omega)
    rw[sameV_eq']
    refine pure_run ip51 rfl ?_
    simp -implicitDefEqProofs [I51,hG]
    repeat' ((first|refine guard_intro ?_ ?_|refine test_intro ?_ ?_)<;>intro h<;>(try simp -implicitDefEqProofs [h,hG,c1,c2]))
    all_goals (clear c1 c2;try simp_all)
theorem t_same(v w:Val)(hv:v.bulk<1099511627776)(t1 t2 t3 t4:Bool):pureR IP G 51 [.ag [.i .i64 v.kind,.i .i64 v.n,.s v.s,.fs t1 false v.l.length (encs v.l),.fs t2 false v.names.length (encs v.names)],.ag [.i .i64 w.kind,.i .i64 w.n,.s w.s,.fs t3 false w.l.length (encs w.l),.fs t4 false w.names.length (encs w.names)]]=some (.b (sameV v w)) :=
 (t_sames hG v.bulk hv).1 v w (Nat.le_refl _) t1 t2 t3 t4
end
end Go.Proofs.YtkpgolcjiahdfaaDoor
namespace Go.Proofs.YtkpgolcjiahdfaaDoor
open Go Go.RI
section
variable {G:AHeap} (hG:G.next=2)
include hG
theorem t_psames:∀ b,b<1099511627776→(∀ v w:Val,v.bulk≤b→∀ t1 t2 t3 t4:Bool,pureR IP G 70 [.ag [.i .i64 v.kind,.i .i64 v.n,.s v.s,.fs t1 false v.l.length (encs v.l),.fs t2 false v.names.length (encs v.names)],.ag [.i .i64 w.kind,.i .i64 w.n,.s w.s,.fs t3 false w.l.length (encs w.l),.fs t4 false w.names.length (encs w.names)]]=some (.b (sameV v w))) ∧
    (∀ l m:List Val,bulkL l<b→∀ t1 t2:Bool,pureR IP G 68 [.fs t1 false l.length (encs l),.fs t2 false m.length (encs m),.fn (.func 70) [] []]=some (.b (sameVL l m))):=by
  intro b
  induction b with
  | zero=>intro _;exact⟨fun v w h=>by have:=v.bulk_pos;omega,fun l m h=>by omega⟩
  | succ b ih =>
    intro hb
    obtain⟨ih1,ih2⟩:=ih (by omega)
    have lists:∀ l m:List Val,bulkL l<b+1→∀ t1 t2:Bool,pureR IP G 68 [.fs t1 false l.length (encs l),.fs t2 false m.length (encs m),.fn (.func 70) [] []]=some (.b (sameVL l m)):=by
      intro l m hlm t1 t2
      have hll:=bulkL_len l
      refine pure_run ip68 rfl ?_
      simp -implicitDefEqProofs [I68,hG]
      refine test_intro ?_ ?_<;>intro h<;>simp -implicitDefEqProofs [hG]
      · have hl:l.length=m.length:=by have:=of_decide_eq_true h;omega
        refine wp_loop_list (l:=l) (by omega) (fun i todo e H=>e=[(1,.fs t2 false m.length (encs m)),(2,.fn (.func 70) [] []),(15,.fs t1 false l.length (encs l)),(16,.i .i64 l.length),(17,.i .i64 i)]∧2≤H.next∧sameVL l m=sameVL todo (m.drop i)) ?_ ?_ ?_
        · rintro i x todo e H hx hd hlt hlt2 hlt3 ⟨rfl,hH,hn⟩
          obtain⟨y,hy⟩:=get_of_lt (l:=m) (i:=i) (by omega)
          have hlt4:(i:Int)<(m.length:Int):=by omega
          rw[get_drop hy,sameVL] at hn
          obtain⟨d,hd2⟩:∃ d,H.next=d+2:=⟨H.next-2,by omega⟩
          have hm:=bulkL_mem (List.mem_of_getElem? hx)
          have c1:=fun t1 t2 t3 t4=>ih1 x y (by omega) t1 t2 t3 t4
          clear hlt
          simp -implicitDefEqProofs [L68a,hlt2,hlt3,hlt4,hx,hy,hd2,c1]
          refine test_intro ?_ ?_<;>intro h2<;>simp -implicitDefEqProofs [hlt3,hG,hd2]
          · rw[hn,h2];simp
          · rw[hn,h2];simp
        · rintro e H ⟨rfl,hH,hn⟩
          simp -implicitDefEqProofs [L68a,hG]
          rw[hn,hl,List.drop_length];rfl
        · simp -implicitDefEqProofs [hG]
      · have hl:¬ l.length=m.length:=by have:=of_decide_eq_false h;omega
        cases he:sameVL l m with
        | false=>rfl
        | true=>rw[(sameVL_iff _ _).1 he] at hl;exact absurd rfl hl
    refine⟨?_,lists⟩
    intro v w hv t1 t2 t3 t4
    rw[Val.bulk_eq] at hv
    have hnl:=bulkS_len v.names
    have c1:=t_equalS hG v.names w.names (by omega)
    have c2:=lists v.l w.l (by omega)
    rw[sameV_eq']
    refine pure_run ip70 rfl ?_
    simp -implicitDefEqProofs [I70,hG]
    repeat' ((first|refine guard_intro ?_ ?_|refine test_intro ?_ ?_)<;>intro h<;>(try simp -implicitDefEqProofs [h,hG,c1,c2]))
    all_goals (clear c1 c2;try simp_all)
theorem t_psameV(v w:Val)(hv:v.bulk<1099511627776)(t1 t2 t3 t4:Bool):pureR IP G 70 [.ag [.i .i64 v.kind,.i .i64 v.n,.s v.s,.fs t1 false v.l.length (encs v.l),.fs t2 false v.names.length (encs v.names)],.ag [.i .i64 w.kind,.i .i64 w.n,.s w.s,.fs t3 false w.l.length (encs w.l),.fs t4 false w.names.length (encs w.names)]]=some (.b (sameV v w)) :=
 (t_psames hG v.bulk hv).1 v w (Nat.le_refl _) t1 t2 t3 t4
theorem t_psame(a b:Opn)(ha:a.v.bulk<1099511627776):pureR IP G 55 [.ag (Enc.cells a),.ag (Enc.cells b)]=some (.b (decide (a=b))):=by
 have c1:=t_psameV hG a.v b.v ha false false false false
 have e:decide (a=b)=(decide (a.kind=b.kind)&&(decide (a.n=b.n)&&sameV a.v b.v)):=by
  obtain⟨k1,n1,v1⟩:=a
  obtain⟨k2,n2,v2⟩:=b
  simp only[Opn.mk.injEq]
  by_cases h1:k1=k2<;>by_cases h2:n1=n2<;>simp -implicitDefEqProofs [h1,h2]
  cases h3:sameV v1 v2
  ·simp;intro h;rw[(sameV_iff _ _).2 h] at h3;cases h3
  ·simpa using (sameV_iff _ _).1 h3
 rw[e]
 refine pure_run ip55 rfl ?_
 simp -implicitDefEqProofs [I55,hG]
 repeat' ((first|refine guard_intro ?_ ?_|refine test_intro ?_ ?_)<;>intro h<;>(try simp -implicitDefEqProofs [h,hG,c1]))
 all_goals (clear c1;try simp_all)
theorem t_peqO(l m:List Opn)(hl0:l.length<1099511627776)(hb:∀ o∈l,o.v.bulk<1099511627776)(t1 t2:Bool):pureR IP G 54 [.fs t1 false l.length (encs l),.fs t2 false m.length (encs m),.fn (.func 55) [] []]=some (.b (decide (l=m))):=by
 refine pure_run ip54 rfl ?_
 simp -implicitDefEqProofs [I54,hG]
 refine test_intro ?_ ?_<;>intro h<;>simp -implicitDefEqProofs [hG]
 ·have hl:l.length=m.length:=by have:=of_decide_eq_true h;omega
  refine wp_loop_list (l:=l) (by omega) (fun i todo e H=>e=[(1,.fs t2 false m.length (encs m)),(2,.fn (.func 55) [] []),(15,.fs t1 false l.length (encs l)),(16,.i .i64 l.length),(17,.i .i64 i)]∧2≤H.next∧decide (l=m)=decide (todo=m.drop i)) ?_ ?_ ?_
  ·rintro i x todo e H hx hd hlt hlt2 hlt3 ⟨rfl,hH,hn⟩
   obtain⟨y,hy⟩:=get_of_lt (l:=m) (i:=i) (by omega)
   have hlt4:(i:Int)<(m.length:Int):=by omega
   rw[get_drop hy] at hn
   have hn2:decide (l=m)=(decide (x=y)&&decide (todo=m.drop (i+1))):=by rw[hn];simp only[List.cons.injEq];by_cases h1:x=y<;>simp -implicitDefEqProofs [h1]
   obtain⟨d,hd2⟩:∃ d,H.next=d+2:=⟨H.next-2,by omega⟩
   have c1:=t_psame hG x y (hb x (List.mem_of_getElem? hx))
   simp only[cells_opn] at c1
   clear hlt hn
   simp -implicitDefEqProofs [L54a,hlt2,hlt3,hlt4,hx,hy,hd2,c1]
   refine test_intro ?_ ?_<;>intro h2<;>simp -implicitDefEqProofs [hlt3,hG,hd2]
   ·rw[h2] at hn2;simpa using hn2
   ·rw[h2] at hn2;simpa using hn2
  ·rintro e H ⟨rfl,hH,hn⟩
   simp -implicitDefEqProofs [L54a,hG]
   rw[hl,List.drop_length] at hn
   simpa using hn
  ·simp -implicitDefEqProofs [hG]
 ·have hl:¬ l.length=m.length:=by have:=of_decide_eq_false h;omega
  have:¬ l=m:=fun e=>hl (by rw[e])
  simp -implicitDefEqProofs [this]
theorem t_palike(i j:Stp)(hl:i.l.length<1099511627776)(hn:i.names.length<1099511627776)(hb:∀ o∈i.l,o.v.bulk<1099511627776)(t1 t2 t3 t4:Bool) :
  pureR IP G 38 [.ag [.i .i64 i.op,.i .i64 i.n,.fs t1 false i.l.length (encs i.l),.s i.s,.fs t2 false i.names.length (encs i.names)],.ag [.i .i64 j.op,.i .i64 j.n,.fs t3 false j.l.length (encs j.l),.s j.s,.fs t4 false j.names.length (encs j.names)]]=some (.b (decide (i=j))):=by
 have c1:=t_peqO hG i.l j.l hl hb
 have c2:=t_equalS hG i.names j.names (by omega)
 have e:decide (i=j)=((decide (i.op=j.op)&&(decide (i.n=j.n)&&decide (i.s=j.s)))&&(decide (i.l=j.l)&&decide (i.names=j.names))):=by
  obtain⟨o1,n1,l1,s1,m1⟩:=i
  obtain⟨o2,n2,l2,s2,m2⟩:=j
  simp only[Stp.mk.injEq]
  by_cases h1:o1=o2<;>by_cases h2:n1=n2<;>by_cases h3:l1=l2<;>by_cases h4:s1=s2<;>simp -implicitDefEqProofs [h1,h2,h3,h4]
 rw[e]
 refine pure_run ip38 rfl ?_
 simp -implicitDefEqProofs [I38,hG]
 repeat' ((first|refine guard_intro ?_ ?_|refine test_intro ?_ ?_)<;>intro h<;>(try simp -implicitDefEqProofs [h,hG,c1,c2]))
 all_goals (clear c1 c2;try simp_all)
end
end Go.Proofs.YtkpgolcjiahdfaaDoor
namespace Go.Proofs.YtkpgolcjiahdfaaDoor
open Go Go.RI
section
variable {G:AHeap} (hG:G.next=2)
include hG
theorem t_ponce1(i j:Stp)(hl:i.l.length<1099511627776)(hn:i.names.length<1099511627776)(hb:∀ o∈i.l,o.v.bulk<1099511627776)(t1 t2 t3 t4:Bool) :
  pureR IP G 37 [.ag [.i .i64 j.op,.i .i64 j.n,.fs t3 false j.l.length (encs j.l),.s j.s,.fs t4 false j.names.length (encs j.names)],.fp [.i .i64 i.op,.i .i64 i.n,.fs t1 false i.l.length (encs i.l),.s i.s,.fs t2 false i.names.length (encs i.names)]]=some (.b (decide (i=j))):=by
 have c1:=t_palike hG i j hl hn hb t1 t2 t3 t4
 refine pure_run ip37 rfl ?_
 simp -implicitDefEqProofs [I37,hG,c1]
theorem t_pidxS(s:Stp)(hl:s.l.length<1099511627776)(hn:s.names.length<1099511627776)(hb:∀ o∈s.l,o.v.bulk<1099511627776)(t1 t2:Bool)(l:List Stp)(hll:l.length<1099511627776)(cs:List AVal)(hT:OutT cs l)(t:Bool) :
  pureR IP G 36 [.fs t false l.length cs,.fn (.func 37) [] [.fp [.i .i64 s.op,.i .i64 s.n,.fs t1 false s.l.length (encs s.l),.s s.s,.fs t2 false s.names.length (encs s.names)]]]=some (.i .i64 (idxS l s)):=by
 unfold idxS
 refine pure_run ip36 rfl ?_
 simp -implicitDefEqProofs [I36,hG]
 refine wp_loop_list (l:=l) (by omega) (fun i todo e H=>e=[(0,.fs t false l.length cs),(1,.fn (.func 37) [] [.fp [.i .i64 s.op,.i .i64 s.n,.fs t1 false s.l.length (encs s.l),.s s.s,.fs t2 false s.names.length (encs s.names)]]),(7,.i .i64 l.length),(8,.i .i64 i)]∧H=G∧idxF (fun t=>decide (s=t)) l 0=idxF (fun t=>decide (s=t)) todo i) ?_ ?_ ?_
 ·rintro i x todo e H hx hd hlt hlt2 hlt3 ⟨rfl,rfl,hn⟩
  obtain⟨u1,f1,u2,f2,hc⟩:=hT.2 _ _ hx
  have hcl:=hT.1
  have b1:5≤cs.length-i*5:=by omega
  have c1:=t_ponce1 hG s x hl (by assumption) hb t1 t2 u1 u2
  rw[idxF] at hn
  clear hlt
  simp -implicitDefEqProofs [L36a,hlt2,hlt3,hc,b1,c1,hG]
  refine test_intro ?_ ?_<;>intro h2<;>simp -implicitDefEqProofs [hlt3,hG]
  ·rw[hn,h2];simp
  ·rw[hn,h2];simp
 ·rintro e H ⟨rfl,rfl,hn⟩
  simp -implicitDefEqProofs [L36a,hG]
  rw[hn];rfl
 ·simp -implicitDefEqProofs [hG]
end
end Go.Proofs.YtkpgolcjiahdfaaDoor
