import Derived.Test.YtkpgolcjiahdfaaGreatDoorB10
import Derived.Test.YtkpgolcjiahdfaaGreatDoorB09
import Derived.Test.YtkpgolcjiahdfaaGreatDoorB08
import Derived.Test.YtkpgolcjiahdfaaGreatDoorB07
import Derived.Test.YtkpgolcjiahdfaaGreatDoorB06
import Derived.Test.YtkpgolcjiahdfaaGreatDoorB04
import Derived.ProofKit
set_option linter.unusedVariables false
set_option linter.unusedSimpArgs false
set_option linter.unusedSectionVars false
/- What a copy of a piece brings: the piece. Conditions: none. -/
namespace Go.Proofs.YtkpgolcjiahdfaaGreatDoor
open Go Go.RI
section
variable {G:AHeap} (hG:G.next=2)
include hG
set_option maxHeartbeats 1000000 in
theorem t_copyPce(x:Pce)(hx:okPce x)(t1 t2 t3 t4:Bool):pureR IP G 22 [.ag (pceC x t1 t2 t3 t4)]=some (.ag (Enc.cells x)):=by
 obtain⟨ho1,ho2,ho3,ho4,ho5⟩:=hx
 have c1:=t_copied hG x.sets ho3 ho4 t2 false
 have c2:=t_copyV hG x.cond.v ho5 t3 t4
 simp at c2
 refine pure_run ip22 rfl ?_
 simp -implicitDefEqProofs [I22,hG,pceC]
 refine wp_loop_list (l:=x.ins) (by omega) (fun i todo e H=>∃ lv,e=[(1,.p 2 0),(2,.p 3 0),(3,.p 4 0),(4,.i .i64 i)]∧H.get 2=some (.cells (pceC x t1 t2 t3 t4) 1 false) ∧
  (∃ z,H.get 3=some (.cells z 1 false)∧z.length=16)∧H.get 4=some (.cells ((pceC x t1 t2 t3 t4).set 4 lv) 1 false)∧4<H.next∧Acc H 5 lv 5 i (encs (x.ins.take i))) ?_ ?_ ?_
 ·rintro i s todo e H hs hd hlt hlt2 hlt3 ⟨lv,rfl,g1,⟨z,g2,hz⟩,g3,hn,hA⟩
  have c3:=t_copyIns hG s (ho1 s (List.mem_of_getElem? hs)) false false
  simp at c3
  obtain⟨d,hd2⟩:∃ d,H.next=d+5:=⟨H.next-5,by omega⟩
  simp only[pceC,List.set_cons_succ,List.set_cons_zero] at g1 g3
  clear hlt
  simp -implicitDefEqProofs [L22a,hlt2,hlt3,hs,g1,g3,c3,hd2]
  refine step_app (acc_keep hA (by simp) ?_) (lo':=5) (m:=1) (ys:=Enc.cells s) (by omega) (by simp<;>omega) (more_lit (cs:=Enc.cells s) (e:=5) (ro:=false) (by simp -implicitDefEqProofs [hd2]) (by simp) (by omega)) (by simp) (by omega) (by omega) (by omega) (by omega) ?_
  ·intro id a b hv
   have:=acc_lt hA id a b hv
   simp (disch:=(simp -implicitDefEqProofs [hd2];omega)) only[get_push_lt]
  intro H1 hn1 hA1 hf1
  have f1:∀ id,id<5→H1.get id=H.get id:=fun id h=>by
   rw[hf1 id (by simp;omega) (fun id2 a b hv=>by have:=acc_lt hA id2 a b hv;omega)]
   exact get_push_lt (by omega)
  simp -implicitDefEqProofs [hd2] at hn1 hA1
  clear hf1
  have e1:=(f1 2 (by omega)).trans g1
  have e2:=(f1 3 (by omega)).trans g2
  have e3:=(f1 4 (by omega)).trans g3
  simp -implicitDefEqProofs [hd2,hlt3,e1,e2,e3]
  refine⟨rfl,hz,_,rfl,by omega,acc_keep (by simpa[List.take_add_one,hs] using hA1) (by simp) fun id a b h=>?_⟩
  cases h
  simp
 ·rintro e H ⟨lv,rfl,g1,⟨z,g2,hz⟩,g3,hn,hA⟩
  simp only[pceC,List.set_cons_succ,List.set_cons_zero] at g1 g3
  obtain⟨z0,z1,z2,z3,z4,z5,z6,z7,z8,z9,z10,z11,z12,z13,z14,z15,rfl⟩:=list16 hz
  simp -implicitDefEqProofs [L22a,g1]
  simp -implicitDefEqProofs [hG,g1,g2,g3,c1,c2]
  rw[List.take_length] at hA
  have f1:=fun o p q=>hold_frz (k:=14) (hold_in hA.hold (H':=((H.put 4 p).put 4 q).put 3 o) (lo':=2) (by omega) (by simp) fun id h1 h2=>by simp -implicitDefEqProofs [show ¬ id=3 by omega,show ¬ id=4 by omega]) frz_encs
  simp -implicitDefEqProofs [f1]
 ·exact⟨.ns,rfl,by simp -implicitDefEqProofs [hG,pceC],⟨_,by simp -implicitDefEqProofs [hG];rfl,rfl⟩,by simp -implicitDefEqProofs [hG,pceC],by simp -implicitDefEqProofs [hG],acc_none⟩
end
end Go.Proofs.YtkpgolcjiahdfaaGreatDoor
namespace Go.Proofs.YtkpgolcjiahdfaaGreatDoor
open Go Go.RI
section
variable {G:AHeap} (hG:G.next=2)
include hG
def outC(x:Pce)(lv:AVal):List AVal:=[.i .i64 x.func,.i .i64 x.at_,.i .i64 x.many,.i .i64 x.homes,lv,.ns,.i .i64 x.exit,.i .i64 x.to,.i .i64 0,.i .i64 0,.i .i64 0,.i .i64 0,.s [],.ns,.ns,.i .i64 x.deep]
set_option maxHeartbeats 1000000 in
theorem t_meant(x:Pce)(hx:okPce x)(t1 t2 t3 t4:Bool):pureR IP G 7 [.ag (pceC x t1 t2 t3 t4)]=some (.ag (Enc.cells x)):=by
 have c0:=t_copyPce hG x hx t1 t2 t3 t4
 simp -implicitDefEqProofs [pceC] at c0
 obtain⟨ho1,ho2,ho3,ho4,ho5⟩:=hx
 have c1:=t_back hG x.sets ho3 ho4 false false
 refine pure_run ip7 rfl ?_
 simp -implicitDefEqProofs [I7,hG,pceC,c0]
 refine wp_loop_list (l:=x.ins) (by omega) (fun i todo e H=>∃ lv,e=[(2,.p 3 0),(3,.p 4 0),(4,.p 5 0),(5,.i .i64 i)]∧H.get 4=some (.cells (Enc.cells x) 1 false) ∧
  (∃ z,H.get 3=some (.cells z 1 false)∧z.length=16)∧H.get 5=some (.cells (outC x lv) 1 false)∧5<H.next∧Acc H 6 lv 5 i (encs (x.ins.take i))) ?_ ?_ ?_
 ·rintro i s todo e H hs hd hlt hlt2 hlt3 ⟨lv,rfl,g1,⟨z,g2,hz⟩,g3,hn,hA⟩
  obtain⟨a1,a2,a3,a4⟩:=ho1 s (List.mem_of_getElem? hs)
  have c3:=t_back hG s.l a3 a4 false false
  obtain⟨d,hd2⟩:∃ d,H.next=d+6:=⟨H.next-6,by omega⟩
  simp only[pceC,outC,cells_pce] at g1 g3
  clear hlt
  simp -implicitDefEqProofs [L7a,hlt2,hlt3,hs,g1,g3,c3,hd2]
  refine step_app (acc_keep hA (by simp) ?_) (lo':=6) (m:=1) (ys:=Enc.cells s) (by omega) (by simp<;>omega) (more_lit (cs:=Enc.cells s) (e:=5) (ro:=false) (by simp -implicitDefEqProofs [hd2]) (by simp) (by omega)) (by simp) (by omega) (by omega) (by omega) (by omega) ?_
  ·intro id a b hv
   have:=acc_lt hA id a b hv
   simp (disch:=(simp -implicitDefEqProofs [hd2];omega)) only[get_push_lt]
  intro H1 hn1 hA1 hf1
  have f1:∀ id,id<6→H1.get id=H.get id:=fun id h=>by
   rw[hf1 id (by simp;omega) (fun id2 a b hv=>by have:=acc_lt hA id2 a b hv;omega)]
   exact get_push_lt (by omega)
  simp -implicitDefEqProofs [hd2] at hn1 hA1
  clear hf1
  have e1:=(f1 4 (by omega)).trans g1
  have e2:=(f1 3 (by omega)).trans g2
  have e3:=(f1 5 (by omega)).trans g3
  simp -implicitDefEqProofs [hd2,hlt3,e1,e2,e3]
  refine⟨hz,_,rfl,by omega,acc_keep (by simpa[List.take_add_one,hs] using hA1) (by simp) fun id a b h=>?_⟩
  cases h
  simp
 ·rintro e H ⟨lv,rfl,g1,⟨z,g2,hz⟩,g3,hn,hA⟩
  simp only[pceC,outC,cells_pce] at g1 g3
  obtain⟨z0,z1,z2,z3,z4,z5,z6,z7,z8,z9,z10,z11,z12,z13,z14,z15,rfl⟩:=list16 hz
  simp -implicitDefEqProofs [L7a,g1]
  simp -implicitDefEqProofs [hG,g1,g2,g3,c1]
  rw[List.take_length] at hA
  have f1:=fun o p q=>hold_frz (k:=14) (hold_in hA.hold (H':=((H.put 5 p).put 5 q).put 3 o) (lo':=2) (by omega) (by simp) fun id h1 h2=>by simp -implicitDefEqProofs [show ¬ id=3 by omega,show ¬ id=5 by omega]) frz_encs
  simp -implicitDefEqProofs [f1]
 ·exact⟨.ns,rfl,by simp -implicitDefEqProofs [hG,pceC],⟨_,by simp -implicitDefEqProofs [hG];rfl,rfl⟩,by simp -implicitDefEqProofs [hG,outC],by simp -implicitDefEqProofs [hG],acc_none⟩
end
end Go.Proofs.YtkpgolcjiahdfaaGreatDoor
namespace Go.RI
open Go
end Go.RI
namespace Go.Proofs.YtkpgolcjiahdfaaGreatDoor
open Go Go.RI
theorem lessP_ok{x:Pce}(hx:okPce x)(n:Nat):okPce (lessP x n):=by
 obtain⟨h1,h2,h3,h4,h5⟩:=hx
 refine⟨fun t ht=>h1 t (List.mem_of_mem_take ht),?_,by simp -implicitDefEqProofs [lessP],fun o h=>by simp -implicitDefEqProofs [lessP] at h,?_⟩
 ·simp only[lessP,List.length_take];omega
 ·show zeroVal.bulk<_
  decide
theorem doR_some(x:Pce)(homes:List Val):(doR x homes).2.2=(doP x homes).isSome:=by
 unfold doR
 cases doP x homes<;>rfl
section
variable {G:AHeap} (hG:G.next=2)
include hG
set_option maxHeartbeats 1000000 in
theorem t_pruneSure(cw:pureR IP G 5 []=some (.b true))(c17:CheckOk G)(cN:NeedsOk G)(x:Pce)(hx:okPce x)(a:Int)(homes:List Val)(hb:bulkL homes<1099511627776) :
  ∃ H',Brings IP G G.next 4 [.ag (Enc.cells x),.i .i64 a,.fs false false homes.length (encs homes)] G (.b true) H':=by
 have c1:=t_meant hG x hx false false false false
 have c2:=t_pfails hG c17 x hx a false false false false
 simp only[pceC] at c1 c2
 refine law_brings ip4 rfl rfl ?_
 cases hf:failsP x a
 ·obtain⟨hc,h1,h2,h3⟩:=fails_not hf
  obtain⟨m,rfl⟩:∃ m:Nat,a=m:=⟨a.toNat,by omega⟩
  have hs:=sure_same hf homes
  rw[←doR_some,←doR_some] at hs
  have d1:=t_do hG c17 cN (lessP x m) (lessP_ok hx m) homes hb false false false
  have d2:=t_do hG c17 cN (lessP x (m+1)) (lessP_ok hx (m+1)) homes hb false false false
  have e1:(lessP x m).ins=x.ins.take m∧(lessP x (m+1)).ins=x.ins.take (m+1):=⟨rfl,rfl⟩
  have e2:∀ n,(lessP x n).func=x.func∧(lessP x n).at_=x.at_∧(lessP x n).many=x.many∧(lessP x n).homes=x.homes∧(lessP x n).sets=[]∧(lessP x n).exit=0∧(lessP x n).to=x.to∧(lessP x n).cond=⟨0,0,zeroVal⟩∧(lessP x n).deep=x.deep:=fun n=>⟨rfl,rfl,rfl,rfl,rfl,rfl,rfl,rfl,rfl⟩
  have hins:=hx.2.1
  have hm3:¬(m:Int)<0:=by omega
  have hm4:¬(x.ins.length:Int)≤m:=by omega
  have hm5:¬ x.ins.length≤m:=by omega
  have w1:wrapI .i64 ((m:Int)+1)=(m:Int)+1:=wrap_ok (by omega) (by omega)
  have w2:(0:Int)≤(m:Int)+1:=by omega
  have w3:((m:Int)+1).toNat=m+1:=by omega
  have l1:(x.ins.take m).length=m:=by rw[List.length_take];omega
  have l2:(x.ins.take (m+1)).length=m+1:=by rw[List.length_take];omega
  have s1:∀ H:AHeap,slR 5 H (some (.fs false false x.ins.length (encs x.ins))) (some none) (some (some m)) (some none)=some (some (.fs false false m (encs (x.ins.take m))),H):=fun H=>by rw[slR_to (by simp) (by omega),take_encs5 (by omega)];rfl
  have s2:∀ H:AHeap,slR 5 H (some (.fs false false x.ins.length (encs x.ins))) (some none) (some (some (m+1))) (some none)=some (some (.fs false false (m+1) (encs (x.ins.take (m+1)))),H):=fun H=>by rw[slR_to (by simp) (by omega),take_encs5 (by omega)];rfl
  rw[hf] at c2
  have hs2:(doR (lessP x m) homes).2.2=(doR (lessP x (m+1)) homes).2.2:=by simpa using hs
  simp only[pceC,e1,e2,l1,l2] at d1 d2
  simp -implicitDefEqProofs [zeroVal] at c1 c2 d1 d2
  simp -implicitDefEqProofs [I4,hG,cw,c1,c2,hm3,hm4,hm5,w1,w2,w3,s1,s2,d1,d2,hs2]
 ·rw[hf] at c2
  simp at c1 c2
  simp -implicitDefEqProofs [I4,hG,cw,c1,c2]
end
end Go.Proofs.YtkpgolcjiahdfaaGreatDoor
namespace Go.Proofs.YtkpgolcjiahdfaaGreatDoor
open Go
noncomputable def G1:RI.AHeap:=(RI.G0 2).put 0 (some (.cells [.i .i64 0,.s [],.b false] 1 true))
end Go.Proofs.YtkpgolcjiahdfaaGreatDoor
namespace Go.RI
open Go
theorem pure_closed{tab:List (Nat×IFunc)}{G:AHeap}{f k:Nat}{fn:IFunc}(hf:tabIP tab f=some fn)(hm:fn.mode=2)(h:isTrueP (callK (buildT tab) G k G.next f [] G)=true):pureR (tabIP tab) G f []=some (.b true):=by
 obtain⟨n,hn⟩:=closed_pure hf hm h G.next G
 simp only[acall,callI,callB,hf,hm] at hn
 simp only[mapO] at hn
 split at hn
 ·rename_i u H1 hb
  split at hn
  ·rename_i v' hv
   cases hn
   exact pureR_some ⟨fn,n,u,H1,hf,hb,hv⟩
  ·cases hn
 ·cases hn
end Go.RI
namespace Go.Proofs.YtkpgolcjiahdfaaGreatDoor
open Go
theorem works_run:RI.isTrueP (RI.callK (RI.buildT tab) G1 100000 2 5 [] G1)=true:=by kernel_rfl
theorem works_pure:RI.pureR IP G1 5 []=some (.b true):=RI.pure_closed ip5 rfl works_run
end Go.Proofs.YtkpgolcjiahdfaaGreatDoor
namespace Go.RI
open Go
def TyM(P:Program):Nat→TypeId→List AVal→Nat→Prop
  | 0,_,_,_=>False
  | n+1,t,l,m=>match P.underlying t with
    | some .bool=>∃ b,l=[.b b]
    | some (.int k)=>∃ i,l=[.i k i]∧(Lit.int k i).wf=true∧1≤m
    | some .string=>∃ s,l=[.s s]∧s.length+1≤m
    | some (.slice e)=>∃ es:List (List AVal×Nat),l=[.fs false false es.length (es.map (·.1)).flatten]∧(es.map (·.2)).sum+1≤m∧∀ x∈es,TyM P n e x.1 x.2∧x.1.length=P.cellsOf e
    | some (.struct fs)=>∃ xs:List (List AVal×Nat),l=(xs.map (·.1)).flatten∧xs.length=fs.toList.length∧(xs.map (·.2)).sum+1≤m∧∀(i:Nat) f x,fs.toList[i]?=some f→xs[i]?=some x→TyM P n f.type x.1 x.2∧x.1.length=P.cellsOf f.type
    | _=>False
structure Meas {H:Type} (μ:DataW H→Nat):Prop where
 one:∀ d,0+1≤μ d
 str:∀ s,s.length+1≤μ (.lit (.string s))
 sl:∀ l r,(l.map μ).sum+1≤μ (.slice l r)
 ag:∀ l,(l.map μ).sum+1≤μ (.agg l)
section
variable {w:World}
variable {H:Type} {enc:TypeId×Value→H} {P:Program} {base:Nat} {spare:Nat→Bool} {held:Bool}
variable {r:TypeId→List Value→Option (DataW H×List MemPlace)} {t:TypeId} {cs:List Value} {d:DataW H} {ps:List MemPlace}
theorem tile_rdM{n:Nat}{ts:List TypeId}{μ:DataW H→Nat}{cs:List Value}
    (ih:∀ t cs d ps,t∈ts→DataW.trod enc P w base spare held n t cs=some (d,ps)→∃ l,RdL w l cs∧TyM P n t l (μ d)) :
    ∀(fs:List Field) (o N:Nat) (ys:List (DataW H×List MemPlace)),tile P fs o N=true→(∀ f∈fs,f.type∈ts)→cs.length=N→fs.mapM (fun f=>DataW.trod enc P w base spare held n f.type ((cs.drop f.offset).take (P.cellsOf f.type)))=some ys→(∀ f∈fs,f.offset+P.cellsOf f.type≤N) →
      ∃ xs:List (List AVal×Nat),RdL w (xs.map (·.1)).flatten (cs.drop o)∧xs.length=fs.length∧(xs.map (·.2)).sum=((ys.map (·.1)).map μ).sum∧∀(i:Nat) f x,fs[i]?=some f→xs[i]?=some x→TyM P n f.type x.1 x.2∧x.1.length=P.cellsOf f.type:=by
  intro fs
  induction fs with
  | nil =>
    intro o N ys ht _ hl hm _
    simp only[tile,beq_iff_eq] at ht
    subst ht
    rw[List.mapM_nil] at hm
    cases hm
    refine⟨[],?_,rfl,rfl,fun i f x h=>by simp at h⟩
    rw[List.drop_of_length_le (by omega)]
    simp[RdL]
  | cons f fs ihf =>
    intro o N ys ht hts hl hm hb
    simp only[tile,Bool.and_eq_true,beq_iff_eq] at ht
    obtain⟨rfl,ht⟩:=ht
    rw[List.mapM_cons] at hm
    simp only[bind,Option.bind_eq_some_iff,pure] at hm
    obtain⟨⟨d,p⟩,h1,ys',h2,h3⟩:=hm
    cases h3
    obtain⟨x,hx,hty⟩:=ih f.type _ d p (hts f (by simp)) h1
    obtain⟨xs,hxs,hlen,hsum,hall⟩:=ihf (f.offset+P.cellsOf f.type) N ys' ht (fun g hg=>hts g (by simp[hg])) hl h2 (fun g hg=>hb g (by simp[hg]))
    have hxl:x.length=P.cellsOf f.type:=by
      rw[RdL_len hx,List.length_take,List.length_drop]
      have:=hb f (by simp)
      omega
    refine⟨(x,μ d)::xs,?_,by simp[hlen],by simp only[List.map_cons,List.sum_cons];rw[hsum],fun i g y hg hy=>?_⟩
    · have:cs.drop f.offset=(cs.drop f.offset).take (P.cellsOf f.type)++cs.drop (f.offset+P.cellsOf f.type):=by
        conv=>lhs;rw[←List.take_append_drop (P.cellsOf f.type) (cs.drop f.offset)]
        rw[List.drop_drop]
      rw[this,List.map_cons,List.flatten_cons]
      exact RdL_append hx hxs
    · cases i with
      | zero=>simp at hg hy;subst hg hy;exact⟨hty,hxl⟩
      | succ i=>exact hall i g y (by simpa using hg) (by simpa using hy)
theorem trod_rdM{ts:List TypeId}(hts:ts.all (okTy P ts)=true){μ:DataW H→Nat}(hsm:Meas μ)(hsp:∀ b,spare b=true) :
    ∀(n:Nat) (t:TypeId) (cs:List Value) (d:DataW H) (ps:List MemPlace),t∈ts→DataW.trod enc P w base spare held n t cs=some (d,ps)→∃ l,RdL w l cs∧TyM P n t l (μ d):=by
  intro n
  induction n with
  | zero=>intro t cs d ps _ h;simp[DataW.trod] at h
  | succ n ih =>
    intro t cs d ps ht h
    have hok:=List.all_eq_true.1 hts t ht
    unfold okTy at hok
    rw[DataW.trod_step] at h
    unfold TyM
    cases hu:P.underlying t with
    | none=>rw[hu] at hok;cases hok
    | some T =>
      rw[hu] at hok
      cases T<;>simp only at hok<;>try (cases hok;done)
      case bool =>
        obtain⟨b,rfl,rfl⟩:=step_bool hu h
        exact⟨[.b b],RdL_one (by simp[Rd,noId,one,ren]),b,rfl⟩
      case int k =>
        obtain⟨m,rfl,rfl,hw⟩:=step_int hu h
        exact⟨[.i k m],RdL_one (by simp[Rd,noId,one,ren]),m,rfl,hw,hsm.one _⟩
      case string =>
        obtain⟨s,rfl,rfl⟩:=step_string hu h
        exact⟨[.s s.data.toList],RdL_one (by simp[Rd,noId,one,ren]),_,rfl,hsm.str _⟩
      case slice e =>
        simp only[Bool.and_eq_true,decide_eq_true_eq,List.contains_iff_mem] at hok
        obtain⟨he,hc⟩:=hok
        rcases step_slice hu h with rfl|⟨a,len,cap,elems,rest,rfl,hlc,hel,hrest,rfl⟩
        · exact⟨[.fs false false 0 []],RdL_one (by simp[Rd]),[],rfl,hsm.one _,fun x hx=>by simp at hx⟩
        · have hB:=fun r=>hsm.sl (elems.map (·.1)) r
          have hlen:elems.length=len:=by simpa using mapM_some_length hel
          by_cases h0:len=0
          · subst h0
            refine⟨[.fs false false 0 []],RdL_one ?_,[],rfl,hsm.one _,fun x hx=>by simp at hx⟩
            simp only[Rd]
            refine⟨trivial,trivial,.inl ⟨trivial,trivial,.inr ?_⟩⟩
            by_cases hc0:cap=0
            · subst hc0;exact .inl ⟨a,rfl⟩
            · rw[hsp,if_pos rfl] at hrest
              obtain⟨b,hb,hfb⟩:=Go.Lib.mapM_at hrest 0 0 (by rw[List.getElem?_range (by omega)])
              simp only[Option.bind_eq_some_iff] at hfb
              obtain⟨c0,hc1,_⟩:=hfb
              have:=(cells_at hc1 hc).1
              have ha:a.add ((0+0)*P.cellsOf e)=a:=by simp[Addr.add]
              rw[ha] at this
              obtain⟨ab,ao,asp⟩:=a
              cases this
              exact .inr ⟨ab,ao,cap,rfl⟩
          · have el:∀ i,i<len→∃ csi x bd,(elems.map (·.1))[i]?=some bd∧w.cells? base (a.add (i*P.cellsOf e)) (P.cellsOf e)=some csi∧RdL w x csi∧TyM P n e x (μ bd):=fun i hi=>by
              obtain⟨b,hb,hfb⟩:=Go.Lib.mapM_at hel i i (by simp[hi])
              simp only[Option.bind_eq_some_iff] at hfb
              obtain⟨csi,h1,h2⟩:=hfb
              obtain⟨bd,bp⟩:=b
              obtain⟨x,h3,h4⟩:=ih e csi bd bp he h2
              exact⟨csi,x,bd,by rw[List.getElem?_map,hb];rfl,h1,h3,h4⟩
            obtain⟨cs0,_,_,_,hc0,_,_⟩:=el 0 (by omega)
            have ha0:a.add (0*P.cellsOf e)=a:=by simp[Addr.add]
            rw[ha0] at hc0
            obtain⟨hspot,C,ty,fz,hC,_,_⟩:=cells_at hc0 hc
            have row:∀ i,i<len→∃ x bd,(elems.map (·.1))[i]?=some bd∧RdL w x ((C.toList.drop (a.off+i*P.cellsOf e)).take (P.cellsOf e))∧TyM P n e x (μ bd)∧x.length=P.cellsOf e∧a.off+i*P.cellsOf e+P.cellsOf e≤C.size:=fun i hi=>by
              obtain⟨csi,x,bd,h0,h1,h2,h3⟩:=el i hi
              obtain⟨_,C',ty',fz',hC',hsz,hcs⟩:=cells_at h1 hc
              have hb:(a.add (i*P.cellsOf e)).block=a.block:=by unfold Addr.add;split<;>rfl
              have ho:(a.add (i*P.cellsOf e)).off=a.off+i*P.cellsOf e:=by unfold Addr.add;split<;>simp_all
              rw[hb,hC] at hC'
              cases hC'
              rw[ho] at hcs hsz
              subst hcs
              refine⟨x,bd,h0,h2,h3,?_,hsz⟩
              rw[RdL_len h2]
              simp only[List.length_take,List.length_drop,Array.length_toList]
              omega
            have:∃ es:List (List AVal×Nat),es.length=len∧∀(i:Nat) x,es[i]?=some x→RdL w x.1 ((C.toList.drop (a.off+i*P.cellsOf e)).take (P.cellsOf e))∧TyM P n e x.1 x.2∧x.1.length=P.cellsOf e∧∃ bd,(elems.map (·.1))[i]?=some bd∧x.2=μ bd:=by
              clear hlen hel hB hlc hrest h
              clear el
              have key:∀ m,m≤len→∃ es:List (List AVal×Nat),es.length=m∧∀(i:Nat) x,es[i]?=some x→RdL w x.1 ((C.toList.drop (a.off+i*P.cellsOf e)).take (P.cellsOf e))∧TyM P n e x.1 x.2∧x.1.length=P.cellsOf e∧∃ bd,(elems.map (·.1))[i]?=some bd∧x.2=μ bd:=by
                intro m
                induction m with
                | zero=>intro _;exact⟨[],rfl,fun i x hx=>by simp at hx⟩
                | succ m ihm =>
                  intro hm
                  obtain⟨es,h1,h2⟩:=ihm (by omega)
                  obtain⟨x,bd,g0,g1,g2,g3,_⟩:=row m (by omega)
                  refine⟨es++[(x,μ bd)],by simp[h1],fun i y hy=>?_⟩
                  by_cases hi:i<es.length
                  · rw[List.getElem?_append_left hi] at hy;exact h2 i y hy
                  · rw[List.getElem?_append_right (by omega)] at hy
                    have hi0:i-es.length=0:=by
                      rcases Nat.eq_zero_or_pos (i-es.length) with h|h
                      · exact h
                      · rw[List.getElem?_eq_none (by simp;omega)] at hy;cases hy
                    rw[hi0] at hy
                    simp at hy
                    subst hy
                    have:i=m:=by omega
                    subst this
                    exact⟨g1,g2,g3,bd,g0,rfl⟩
              exact key len (Nat.le_refl _)
            obtain⟨es,hes,hall2⟩:=this
            refine⟨[.fs false false len (es.map (·.1)).flatten],RdL_one ?_,es,by rw[hes],?_,?_⟩
            · simp only[Rd]
              have hfl:=flat_rd (w:=w) (c:=P.cellsOf e) C.toList (es.map (·.1)) a.off (fun i x hx=>by
                rw[List.getElem?_map] at hx
                obtain⟨y,hy,rfl⟩:=Option.map_eq_some_iff.1 hx
                exact⟨(hall2 i y hy).1,(hall2 i y hy).2.2.1⟩)
              rw[List.length_map] at hfl
              obtain⟨xl,_,_,_,_,_,hsz⟩:=row (len-1) (by omega)
              have hsz2:a.off+len*P.cellsOf e≤C.size:=by
                have:len*P.cellsOf e=(len-1)*P.cellsOf e+P.cellsOf e:=by
                  conv=>lhs;rw[show len=(len-1)+1 by omega,Nat.add_mul,Nat.one_mul]
                omega
              refine⟨trivial,trivial,.inr ⟨by omega,a.block,a.off,cap,P.cellsOf e,C,ty,fz,?_,hlc,hC,?_,hsz2,?_⟩⟩
              · obtain⟨ab,ao,asp⟩:=a;cases hspot;rfl
              · rw[RdL_len hfl,hes,List.length_take,List.length_drop];have:C.toList.length=C.size:=rfl;omega
              · rw[hes] at hfl;exact hfl
            · have hs:es.map (·.2)=(elems.map (·.1)).map μ:=by
                apply List.ext_getElem?
                intro i
                rw[List.getElem?_map,List.getElem?_map]
                rcases Nat.lt_or_ge i len with hi|hi
                · obtain⟨x,hx⟩:=List.getElem?_eq_some_iff.2 ⟨by omega,rfl⟩ |> fun h=>(⟨es[i]'(by omega),h⟩:∃ x,es[i]?=some x)
                  obtain⟨bd,h1,h2⟩:=(hall2 i x hx).2.2.2
                  rw[hx,h1]
                  simp[h2]
                · rw[List.getElem?_eq_none (by omega),List.getElem?_eq_none (by simp;omega)];rfl
              rw[hs]
              exact hB _
            · intro x hx
              obtain⟨i,hi⟩:=List.getElem?_of_mem hx
              exact⟨(hall2 i x hi).2.1,(hall2 i x hi).2.2.1⟩
      case struct fs =>
        simp only[Bool.and_eq_true,List.all_eq_true,List.contains_iff_mem] at hok
        obtain⟨hl,ys,hm,rfl⟩:=step_struct hu h
        obtain⟨xs,h1,h2,h3,h4⟩:=tile_rdM ih fs.toList 0 (P.cellsOf t) ys hok.1 hok.2 hl hm (tile_le _ _ _ hok.1).2
        exact⟨(xs.map (·.1)).flatten,by simpa using h1,xs,rfl,h2,by rw[h3];exact hsm.ag _,h4⟩
end
def TyVM(P:Program)(n:Nat)(t:TypeId)(x:AVal)(m:Nat):Prop:=∃ l,TyM P n t l m∧(match P.underlying t with
 | some (.struct _)=>x=.ag l
 | _=>l=[x])
section
variable {H:Type} {enc:TypeId×Value→H} {P:Program} {W W':World}
theorem arg_rdM{ts:List TypeId}(hts:ts.all (okTy P ts)=true){μ:DataW H→Nat}(hsm:Meas μ){t:TypeId}(ht:t∈ts){base:Nat}{v:Value}(hv:Value.okWide P W .any base t v){d:DataW H}{p:List MemPlace}
    (h:DataW.Trod enc P W 0 (fun _=>true) true t v d p):∃ n x,RdV W x v∧TyVM P n t x (μ d):=by
  obtain⟨n,hn⟩:=h
  obtain⟨l,h1,h2⟩:=trod_rdM hts hsm (fun _=>rfl) n t _ d p ht hn
  have hok:=List.all_eq_true.1 hts t ht
  unfold okTy at hok
  cases n with
  | zero=>simp[TyM] at h2
  | succ n =>
    have h2':=h2
    unfold TyM at h2
    unfold Value.okWide at hv
    cases hu:P.underlying t with
    | none=>rw[hu] at hok;cases hok
    | some T =>
      rw[hu] at hok h2 hv
      have leaf:∀ x,l=[x]→(∀ cs,v≠.agg cs)→(∀ l,x≠.ag l)→(match some T with|some (.struct _)=>x=.ag l|_=>l=[x])→∃ n x,RdV W x v∧TyVM P n t x (μ d):=by
        intro x hx hna hxa hm
        subst hx
        have:v.cells.toList=[v]:=by cases v<;>first|rfl|exact(hna _ rfl).elim
        rw[this] at h1
        simp only[RdL] at h1
        obtain⟨v',r,he,hr,_⟩:=h1
        cases he
        refine⟨n+1,x,?_,[x],h2',by rw[hu];exact hm⟩
        cases x<;>first|exact hr|exact(hxa _ rfl).elim
      cases T<;>simp only at hok<;>try (cases hok;done)
      case bool =>
        obtain⟨b,rfl⟩:=h2
        refine leaf _ rfl (fun cs e=>?_) (fun l e=>by cases e) rfl
        subst e
        simp[Cell.okWide,Cell.ok,hu] at hv
      case int k =>
        obtain⟨i,rfl,_⟩:=h2
        refine leaf _ rfl (fun cs e=>?_) (fun l e=>by cases e) rfl
        subst e
        simp[Cell.okWide,Cell.ok,hu] at hv
      case string =>
        obtain⟨s,rfl,_⟩:=h2
        refine leaf _ rfl (fun cs e=>?_) (fun l e=>by cases e) rfl
        subst e
        simp[Cell.okWide,Cell.ok,hu] at hv
      case slice e =>
        obtain⟨es,rfl,_⟩:=h2
        refine leaf _ rfl (fun cs e=>?_) (fun l e=>by cases e) rfl
        subst e
        simp[Cell.okWide,Cell.ok,hu] at hv
      case struct fs =>
        obtain⟨cs,rfl,_⟩:=hv
        exact⟨n+1,.ag l,⟨cs,rfl,h1⟩,l,h2',by rw[hu]⟩
end
end Go.RI
namespace Go.RI
open Go
structure PceTys (P:Program) (tI tS tV tLV tLS tO tLO tSt tLSt tP:TypeId):Prop where
 i:P.underlying tI=some (.int .i64)
 s:P.underlying tS=some .string
 v:∃ fs,P.underlying tV=some (.struct fs)∧fs.toList.map (·.type)=[tI,tI,tS,tLV,tLS]
 lv:P.underlying tLV=some (.slice tV)
 ls:P.underlying tLS=some (.slice tS)
 o:∃ fs,P.underlying tO=some (.struct fs)∧fs.toList.map (·.type)=[tI,tI,tV]
 lo:P.underlying tLO=some (.slice tO)
 st:∃ fs,P.underlying tSt=some (.struct fs)∧fs.toList.map (·.type)=[tI,tI,tLO,tS,tLS]
 lst:P.underlying tLSt=some (.slice tSt)
 p:∃ fs,P.underlying tP=some (.struct fs)∧fs.toList.map (·.type)=[tI,tI,tI,tI,tLSt,tLO,tI,tI,tO,tI]
section
variable {P:Program}
theorem tyM_int{t:TypeId}{n m:Nat}{l:List AVal}(hu:P.underlying t=some (.int .i64))(h:TyM P n t l m):∃ i,l=[.i .i64 i]:=by
 cases n with
 | zero=>cases h
 | succ n=>unfold TyM at h;rw[hu] at h;obtain⟨i,h1,_⟩:=h;exact⟨i,h1⟩
theorem tyM_str{t:TypeId}{n m:Nat}{l:List AVal}(hu:P.underlying t=some .string)(h:TyM P n t l m):∃ s:Str,l=Enc.cells s∧1+s.length≤m:=by
 cases n with
 | zero=>cases h
 | succ n=>unfold TyM at h;rw[hu] at h;obtain⟨s,h1,h2⟩:=h;exact⟨s,h1,by omega⟩
theorem tyM_slice{t e:TypeId}{n m:Nat}{l:List AVal}(hu:P.underlying t=some (.slice e)){α:Type}[Enc α](μ:α→Nat)(hx:∀ n x m,TyM P n e x m→∃ a:α,x=Enc.cells a∧μ a≤m)(h:TyM P n t l m):∃ bs:List α,l=[.fs false false bs.length (encs bs)]∧(bs.map μ).sum+1≤m:=by
  cases n with
  | zero=>cases h
  | succ n =>
    unfold TyM at h
    rw[hu] at h
    obtain⟨es,rfl,h1,h2⟩:=h
    have:∃ bs:List α,bs.length=es.length∧(es.map (·.1)).flatten=encs bs∧(bs.map μ).sum≤(es.map (·.2)).sum:=by
      clear h1
      induction es with
      | nil=>exact⟨[],rfl,rfl,Nat.le_refl _⟩
      | cons x es ih =>
        obtain⟨bs,g1,g2,g3⟩:=ih fun y hy=>h2 y (List.mem_cons_of_mem _ hy)
        obtain⟨a,g4,g5⟩:=hx _ _ _ (h2 x (List.mem_cons_self ..)).1
        exact⟨a::bs,by simp[g1],by simp[g2,g4],by simp only[List.map_cons,List.sum_cons];omega⟩
    obtain⟨bs,g1,g2,g3⟩:=this
    exact⟨bs,by rw[g1,g2],by omega⟩
theorem tyM_struct{t:TypeId}{n m:Nat}{l:List AVal}{ts:List TypeId}(hu:∃ fs,P.underlying t=some (.struct fs)∧fs.toList.map (·.type)=ts)(h:TyM P (n+1) t l m) :
  ∃ xs:List (List AVal×Nat),l=(xs.map (·.1)).flatten∧xs.length=ts.length∧(xs.map (·.2)).sum+1≤m∧∀(i:Nat) t x,ts[i]?=some t→xs[i]?=some x→TyM P n t x.1 x.2:=by
 obtain⟨fs,hu,rfl⟩:=hu
 unfold TyM at h
 rw[hu] at h
 obtain⟨xs,h1,h2,h3,h4⟩:=h
 refine⟨xs,h1,by simpa using h2,h3,fun i t x ht hx=>?_⟩
 rw[List.getElem?_map] at ht
 obtain⟨f,hf,rfl⟩:=Option.map_eq_some_iff.1 ht
 exact(h4 i f x hf hx).1
theorem sum_bulkS:∀ l:List Str,(l.map fun s=>1+s.length).sum=bulkS l
 | []=>rfl
 | s::l=>by simp only[List.map_cons,List.sum_cons,bulkS];rw[sum_bulkS l]
theorem sum_bulkL:∀ l:List Val,(l.map Val.bulk).sum=bulkL l
 | []=>rfl
 | v::l=>by simp only[List.map_cons,List.sum_cons,bulkL];rw[sum_bulkL l]
theorem list3{α:Type}{l:List α}(h:l.length=3):∃ a b c,l=[a,b,c]:=by
 match l,h with
 | [a,b,c],_=>exact⟨a,b,c,rfl⟩
theorem list5{α:Type}{l:List α}(h:l.length=5):∃ a b c d e,l=[a,b,c,d,e]:=by
 match l,h with
 | [a,b,c,d,e],_=>exact⟨a,b,c,d,e,rfl⟩
theorem list10{α:Type}{l:List α}(h:l.length=10):∃ a b c d e f g i j k,l=[a,b,c,d,e,f,g,i,j,k]:=by
 match l,h with
 | [a,b,c,d,e,f,g,i,j,k],_=>exact⟨a,b,c,d,e,f,g,i,j,k,rfl⟩
variable {tI tS tV tLV tLS tO tLO tSt tLSt tP:TypeId}
theorem tyM_strs(K:PceTys P tI tS tV tLV tLS tO tLO tSt tLSt tP){n m:Nat}{l:List AVal}(h:TyM P n tLS l m):∃ ns:List Str,l=[.fs false false ns.length (encs ns)]∧bulkS ns+1≤m:=by
 obtain⟨ns,h1,h2⟩:=tyM_slice K.ls (fun s:Str=>1+s.length) (fun n x m hx=>tyM_str K.s hx) h
 exact⟨ns,h1,by rw[←sum_bulkS];exact h2⟩
theorem tyM_val(K:PceTys P tI tS tV tLV tLS tO tLO tSt tLSt tP):∀(n m:Nat) (l:List AVal),TyM P n tV l m→∃ v:Val,l=Enc.cells v∧v.bulk≤m:=by
  intro n
  induction n using Nat.strongRecOn with
  | _ n ih =>
    intro m l h
    cases n with
    | zero=>cases h
    | succ n =>
      obtain⟨xs,rfl,h1,h2,h3⟩:=tyM_struct K.v h
      obtain⟨x0,x1,x2,x3,x4,rfl⟩:=list5 h1
      obtain⟨k,e0⟩:=tyM_int K.i (h3 0 tI x0 rfl rfl)
      obtain⟨i,e1⟩:=tyM_int K.i (h3 1 tI x1 rfl rfl)
      obtain⟨s,e2,b2⟩:=tyM_str K.s (h3 2 tS x2 rfl rfl)
      have h4:=h3 3 tLV x3 rfl rfl
      obtain⟨ns,e4,b4⟩:=tyM_strs K (h3 4 tLS x4 rfl rfl)
      have:∃ vs:List Val,x3.1=[.fs false false vs.length (encs vs)]∧(vs.map Val.bulk).sum+1≤x3.2:=by
        cases n with
        | zero=>cases h4
        | succ n =>
          unfold TyM at h4
          rw[K.lv] at h4
          obtain⟨es,g0,g1,g2⟩:=h4
          have:∃ bs:List Val,bs.length=es.length∧(es.map (·.1)).flatten=encs bs∧(bs.map Val.bulk).sum≤(es.map (·.2)).sum:=by
            clear g0 g1
            induction es with
            | nil=>exact⟨[],rfl,rfl,Nat.le_refl _⟩
            | cons x es ihe =>
              obtain⟨bs,f1,f2,f3⟩:=ihe fun y hy=>g2 y (List.mem_cons_of_mem _ hy)
              obtain⟨a,f4,f5⟩:=ih n (by omega) _ _ (g2 x (List.mem_cons_self ..)).1
              exact⟨a::bs,by simp[f1],by rw[List.map_cons,List.flatten_cons,f2,f4,encs_cons],by simp only[List.map_cons,List.sum_cons];omega⟩
          obtain⟨bs,f1,f2,f3⟩:=this
          exact⟨bs,by rw[g0,f1,f2],by omega⟩
      obtain⟨vs,e3,b3⟩:=this
      refine⟨.mk k i s vs ns,?_,?_⟩
      · simp only[List.map_cons,List.map_nil,List.flatten_cons,List.flatten_nil,e0,e1,e2,e3,e4,cells_val,cells_str]
        rfl
      · rw[sum_bulkL] at b3
        simp only[List.map_cons,List.map_nil,List.sum_cons,List.sum_nil] at h2
        simp only[Val.bulk]
        omega
def opnB(o:Opn):Nat:=1+o.v.bulk
def stpB(i:Stp):Nat:=(i.l.map opnB).sum+i.s.length+bulkS i.names+1
theorem tyM_opn(K:PceTys P tI tS tV tLV tLS tO tLO tSt tLSt tP)(n:Nat)(l:List AVal)(m:Nat)(h:TyM P n tO l m):∃ o:Opn,l=Enc.cells o∧1+o.v.bulk≤m:=by
  cases n with
  | zero=>cases h
  | succ n =>
    obtain⟨xs,rfl,h1,h2,h3⟩:=tyM_struct K.o h
    obtain⟨x0,x1,x2,rfl⟩:=list3 h1
    obtain⟨k,e0⟩:=tyM_int K.i (h3 0 tI x0 rfl rfl)
    obtain⟨i,e1⟩:=tyM_int K.i (h3 1 tI x1 rfl rfl)
    obtain⟨v,e2,b2⟩:=tyM_val K _ _ _ (h3 2 tV x2 rfl rfl)
    refine⟨⟨k,i,v⟩,?_,?_⟩
    · simp only[List.map_cons,List.map_nil,List.flatten_cons,List.flatten_nil,e0,e1,e2,cells_opn,cells_val]
      rfl
    · simp only[List.map_cons,List.map_nil,List.sum_cons,List.sum_nil] at h2
      show 1+v.bulk≤m
      omega
theorem sum_len{α:Type}(μ:α→Nat)(hp:∀ a,1≤μ a):∀ l:List α,l.length≤(l.map μ).sum
 | []=>Nat.le_refl _
 | a::l=>by have:=sum_len μ hp l;have:=hp a;simp only[List.map_cons,List.sum_cons,List.length_cons];omega
theorem sum_mem{α:Type}(μ:α→Nat):∀ {l:List α} {a:α},a∈l→μ a≤(l.map μ).sum
  | b::l,a,h=>by
    simp only[List.map_cons,List.sum_cons]
    rcases List.mem_cons.1 h with rfl|h
    · omega
    · have:=sum_mem μ h;omega
theorem tyM_opns(K:PceTys P tI tS tV tLV tLS tO tLO tSt tLSt tP){n m:Nat}{l:List AVal}(h:TyM P n tLO l m):∃ os:List Opn,l=[.fs false false os.length (encs os)]∧(os.map opnB).sum+1≤m :=
 tyM_slice K.lo opnB (fun n x m hx=>tyM_opn K n x m hx) h
theorem opns_ok{os:List Opn}(h:(os.map opnB).sum<549755813887):os.length<1099511627776∧∀ o∈os,okO o:=by
 refine⟨?_,fun o ho=>?_⟩
 ·have:=sum_len opnB (fun a=>by unfold opnB;omega) os
  omega
 ·have:=sum_mem opnB ho
  unfold okO
  unfold opnB at this h
  omega
theorem tyM_stp(K:PceTys P tI tS tV tLV tLS tO tLO tSt tLSt tP)(n:Nat)(l:List AVal)(m:Nat)(h:TyM P n tSt l m):∃ i:Stp,l=Enc.cells i∧stpB i≤m:=by
  cases n with
  | zero=>cases h
  | succ n =>
    obtain⟨xs,rfl,h1,h2,h3⟩:=tyM_struct K.st h
    obtain⟨x0,x1,x2,x3,x4,rfl⟩:=list5 h1
    simp only[List.map_cons,List.map_nil,List.sum_cons,List.sum_nil] at h2
    obtain⟨k,e0⟩:=tyM_int K.i (h3 0 tI x0 rfl rfl)
    obtain⟨i,e1⟩:=tyM_int K.i (h3 1 tI x1 rfl rfl)
    obtain⟨os,e2,b2⟩:=tyM_opns K (h3 2 tLO x2 rfl rfl)
    obtain⟨s,e3,b3⟩:=tyM_str K.s (h3 3 tS x3 rfl rfl)
    obtain⟨ns,e4,b4⟩:=tyM_strs K (h3 4 tLS x4 rfl rfl)
    refine⟨⟨k,i,os,s,ns⟩,?_,by show(os.map opnB).sum+s.length+bulkS ns+1≤m;omega⟩
    simp only[List.map_cons,List.map_nil,List.flatten_cons,List.flatten_nil,e0,e1,e2,e3,e4,cells_stp,cells_str]
    rfl
theorem stp_ok{i:Stp}(h:stpB i<549755813887):okStp i:=by
 unfold stpB at h
 have:=opns_ok (os:=i.l) (by omega)
 exact⟨by omega,by omega,this.1,this.2⟩
theorem tyM_pce(K:PceTys P tI tS tV tLV tLS tO tLO tSt tLSt tP)(n:Nat)(l:List AVal)(m:Nat)(h:TyM P n tP l m)(hm:m<549755813887):∃ x:Pce,l=Enc.cells x∧okPce x:=by
  cases n with
  | zero=>cases h
  | succ n =>
    obtain⟨xs,rfl,h1,h2,h3⟩:=tyM_struct K.p h
    obtain⟨x0,x1,x2,x3,x4,x5,x6,x7,x8,x9,rfl⟩:=list10 h1
    simp only[List.map_cons,List.map_nil,List.sum_cons,List.sum_nil] at h2
    obtain⟨a0,e0⟩:=tyM_int K.i (h3 0 tI x0 rfl rfl)
    obtain⟨a1,e1⟩:=tyM_int K.i (h3 1 tI x1 rfl rfl)
    obtain⟨a2,e2⟩:=tyM_int K.i (h3 2 tI x2 rfl rfl)
    obtain⟨a3,e3⟩:=tyM_int K.i (h3 3 tI x3 rfl rfl)
    obtain⟨ss,e4,b4⟩:=tyM_slice K.lst stpB (fun n x m hx=>tyM_stp K n x m hx) (h3 4 tLSt x4 rfl rfl)
    obtain⟨os,e5,b5⟩:=tyM_opns K (h3 5 tLO x5 rfl rfl)
    obtain⟨a6,e6⟩:=tyM_int K.i (h3 6 tI x6 rfl rfl)
    obtain⟨a7,e7⟩:=tyM_int K.i (h3 7 tI x7 rfl rfl)
    obtain⟨o,e8,b8⟩:=tyM_opn K _ _ _ (h3 8 tO x8 rfl rfl)
    obtain⟨a9,e9⟩:=tyM_int K.i (h3 9 tI x9 rfl rfl)
    have hs:=opns_ok (os:=os) (by omega)
    refine⟨⟨a0,a1,a2,a3,ss,os,a6,a7,o,a9⟩,?_,fun i hi=>stp_ok ?_,?_,hs.1,hs.2,?_⟩
    · simp only[List.map_cons,List.map_nil,List.flatten_cons,List.flatten_nil,e0,e1,e2,e3,e4,e5,e6,e7,e8,e9,cells_pce,cells_opn]
      rfl
    · have:=sum_mem stpB hi
      simp only at this
      omega
    · have:=sum_len stpB (fun a=>by unfold stpB;omega) ss
      show ss.length<_
      omega
    · show o.v.bulk<_
      omega
end
end Go.RI
