import Derived.Test.YtkpgolcjiahdfaaDoorM10
import Derived.Test.YtkpgolcjiahdfaaDoorM08
import Derived.Test.YtkpgolcjiahdfaaDoorM07
import Derived.Test.YtkpgolcjiahdfaaDoorM06
import Derived.Test.YtkpgolcjiahdfaaDoorM04
import Derived.ProofKit
import Derived.Test.YtkpgolcjiahdfaaDoorM09
set_option linter.unusedVariables false
set_option linter.unusedSimpArgs false
set_option linter.unusedSectionVars false
/- What the document's sameness of operands, steps and pieces brings. Conditions: none. -/
namespace Go.Proofs.YtkpgolcjiahdfaaDoor
open Go Go.RI
section
variable {G:AHeap} (hG:G.next=2)
include hG
theorem t_sameOpn(a b:Opn)(ha:okO a)(t1 t2 t3 t4:Bool):pureR IP G 46 [.ag [.i .i64 a.kind,.i .i64 a.n,.i .i64 a.v.kind,.i .i64 a.v.n,.s a.v.s,.fs t1 false a.v.l.length (encs a.v.l),.fs t2 false a.v.names.length (encs a.v.names)],.ag [.i .i64 b.kind,.i .i64 b.n,.i .i64 b.v.kind,.i .i64 b.v.n,.s b.v.s,.fs t3 false b.v.l.length (encs b.v.l),.fs t4 false b.v.names.length (encs b.v.names)]]=some (.b (decide (a=b))):=by
 have c1:=t_sameR hG a.v b.v ha t1 t2 t3 t4
 simp only[valC] at c1
 have e:decide (a=b)=(decide (a.kind=b.kind)&&decide (a.n=b.n)&&decide (a.v=b.v)):=by simp -implicitDefEqProofs [Opn.ext_iff',Bool.and_assoc]
 rw[e]
 refine pure_run ip46 rfl ?_
 simp -implicitDefEqProofs [I46,hG]
 repeat' ((first|refine guard_intro ?_ ?_|refine test_intro ?_ ?_)<;>intro h<;>(try simp -implicitDefEqProofs [h,hG,c1]))
 all_goals clear c1
 all_goals simp -implicitDefEqProofs [*]
theorem t_sameOpns(a b:List Opn)(ha:a.length<1099511627776)(ho:∀ o∈a,okO o)(t1 f1 t2 f2:Bool):pureR IP G 25 [.fs t1 f1 a.length (encs a),.fs t2 f2 b.length (encs b)]=some (.b (decide (a=b))):=by
 refine pure_run ip25 rfl ?_
 simp -implicitDefEqProofs [I25,hG]
 refine test_intro ?_ ?_<;>intro h<;>simp -implicitDefEqProofs [hG]
 ·have hl:a.length=b.length:=by have:=of_decide_eq_true h;omega
  refine wp_loop_list (l:=a) (by omega) (fun i todo e H=>e=[(0,.fs t1 f1 a.length (encs a)),(1,.fs t2 f2 b.length (encs b)),(5,.i .i64 i)]∧H=G∧a.take i=b.take i) ?_ ?_ ?_
  ·rintro i x todo e H hx hd hlt hlt2 hlt3 ⟨rfl,rfl,hn⟩
   obtain⟨y,hy⟩:=get_of_lt (l:=b) (i:=i) (by omega)
   have hlt4:(i:Int)<(b.length:Int):=by omega
   clear hlt
   have c1:=t_sameOpn hG x y (ho x (List.mem_of_getElem? hx)) false false false false
   simp -implicitDefEqProofs [L25a,hlt2,hlt3,hlt4,hx,hy,hG,c1]
   refine test_intro ?_ ?_<;>intro h2<;>simp -implicitDefEqProofs [hlt3,hG]
   ·have:x=y:=by simpa using h2
    subst this
    exact take_succ_eq hn hx hy
   ·intro he
    subst he
    rw[hx] at hy;cases hy
    simp at h2
  ·rintro e H ⟨rfl,rfl,hn⟩
   simp -implicitDefEqProofs [L25a,hG]
   exact eq_of_take hl hn
  ·simp
 ·intro he
  subst he
  simp at h
theorem t_eqTexts(a b:List Str)(ha:a.length<1099511627776)(t1 f1 t2 f2:Bool):pureR IP G 26 [.fs t1 f1 a.length (encs a),.fs t2 f2 b.length (encs b)]=some (.b (decide (a=b))):=by
 refine pure_run ip26 rfl ?_
 simp -implicitDefEqProofs [I26,hG]
 refine test_intro ?_ ?_<;>intro h<;>simp -implicitDefEqProofs [hG]
 ·have hl:a.length=b.length:=by have:=of_decide_eq_true h;omega
  refine wp_loop_list (l:=a) (by omega) (fun i todo e H=>e=[(0,.fs t1 f1 a.length (encs a)),(1,.fs t2 f2 b.length (encs b)),(5,.i .i64 i)]∧H=G∧a.take i=b.take i) ?_ ?_ ?_
  ·rintro i x todo e H hx hd hlt hlt2 hlt3 ⟨rfl,rfl,hn⟩
   obtain⟨y,hy⟩:=get_of_lt (l:=b) (i:=i) (by omega)
   have hlt4:(i:Int)<(b.length:Int):=by omega
   clear hlt
   simp -implicitDefEqProofs [L26a,hlt2,hlt3,hlt4,hx,hy,hG]
   refine test_intro ?_ ?_<;>intro h2<;>simp -implicitDefEqProofs [hlt3,hG]
   ·have:x=y:=by simpa using h2
    subst this
    exact take_succ_eq hn hx hy
   ·intro he
    subst he
    rw[hx] at hy;cases hy
    simp at h2
  ·rintro e H ⟨rfl,rfl,hn⟩
   simp -implicitDefEqProofs [L26a,hG]
   exact eq_of_take hl hn
  ·simp
 ·intro he
  subst he
  simp at h
theorem t_sameStp(a b:Stp)(ha:okStp a)(t1 t2 t3 t4:Bool):pureR IP G 8 [.ag [.i .i64 a.op,.i .i64 a.n,.fs t1 false a.l.length (encs a.l),.s a.s,.fs t2 false a.names.length (encs a.names)],.ag [.i .i64 b.op,.i .i64 b.n,.fs t3 false b.l.length (encs b.l),.s b.s,.fs t4 false b.names.length (encs b.names)]]=some (.b (decide (a=b))):=by
 obtain⟨a1,a2,a3,a4⟩:=ha
 have hl:=bulkS_len a.names
 have c1:=t_sameOpns hG a.l b.l a3 a4 t1 false t3 false
 have c2:=t_eqTexts hG a.names b.names (by omega) t2 false t4 false
 have e:decide (a=b)=(decide (a.op=b.op)&&decide (a.n=b.n)&&(a.s==b.s)&&decide (a.l=b.l)&&decide (a.names=b.names)):=by
  rw[Bool.eq_iff_iff];simp -implicitDefEqProofs [Stp.ext_iff',and_assoc]
 rw[e]
 refine pure_run ip8 rfl ?_
 simp -implicitDefEqProofs [I8,hG]
 repeat' ((first|refine guard_intro ?_ ?_|refine test_intro ?_ ?_)<;>intro h<;>(try simp -implicitDefEqProofs [h,hG,c1,c2]))
 all_goals clear c1 c2
 all_goals simp -implicitDefEqProofs [*]
end
end Go.Proofs.YtkpgolcjiahdfaaDoor
namespace Go.Proofs.YtkpgolcjiahdfaaDoor
open Go Go.RI
section
variable {G:AHeap} (hG:G.next=2)
include hG
theorem t_less_a(y:Pce)(hy:okPce y)(hone:∀(a b:Nat) (t:Stp),a<b→y.ins[a]?=some t→y.ins[b]?=some t→False)(i:Nat)(hi:i<y.ins.length)(Q:Post)(H:AHeap)(g2:H.get 4=some (.cells (Enc.cells y) 1 false))
  (hQ:∀ w,Q (.exit 2) [(1,.p 2 0),(3,.p 3 0),(5,.p 4 0),(6,.i .i64 i),(7,.i .i64 i),(33,w)] H) :
  wp (theCalls IP G 2) 2 (.loop L3a) Q [(1,.p 2 0),(3,.p 3 0),(5,.p 4 0),(6,.i .i64 i),(7,.i .i64 0)] H:=by
 have hyl:=hy.2.1
 have hti:(y.ins.take i).length=i:=by rw[List.length_take];omega
 simp at g2
 refine wp_loop_list (l:=y.ins.take i) (by omega) (fun j todo e H'=>e=[(1,.p 2 0),(3,.p 3 0),(5,.p 4 0),(6,.i .i64 i),(7,.i .i64 j)]∧H'=H) ?_ ?_ ?_
 ·rintro j t todo e H' ht hd hlt hlt2 hlt3 ⟨rfl,rfl⟩
  rw[hti] at hlt
  have hji:(j:Int)<(i:Int):=by omega
  have hjl:(j:Int)<(y.ins.length:Int):=by omega
  have hil:(i:Int)<(y.ins.length:Int):=by omega
  rw[List.getElem?_take,if_pos hlt] at ht
  obtain⟨s,hs⟩:=get_of_lt (l:=y.ins) (i:=i) hi
  have hne:¬ s=t:=fun e=>by subst e;exact hone j i s hlt ht hs
  have c1:=t_sameStp hG s t (hy.1 s (List.mem_of_getElem? hs)) false false false false
  rw[decide_eq_false hne] at c1
  clear hlt hlt2
  simp -implicitDefEqProofs [L3a,hji,hjl,hil,hlt3,g2,hs,ht,c1]
 ·rintro e H' ⟨rfl,rfl⟩
  rw[hti]
  simp -implicitDefEqProofs [L3a]
  exact hQ _
 ·simp
set_option maxHeartbeats 1000000 in
theorem t_less_b(y:Pce)(hy:okPce y)(hone:∀(a b:Nat) (t:Stp),a<b→y.ins[a]?=some t→y.ins[b]?=some t→False)(hneed:∀ i,i<y.ins.length→takesP y i=true∨failsP y i=true)
  (c4:∀ i,i<y.ins.length→pureR IP G 9 [.ag (pceC y false false false false),.i .i64 i]=some (.b (takesP y i))) (c5:∀ a,pureR IP G 10 [.ag (pceC y false false false false),.i .i64 a]=some (.b (failsP y a)))
  (Q:Post) (H:AHeap) (g1:H.get 3=some (.cells (Enc.cells y) 1 false)) (g2:H.get 4=some (.cells (Enc.cells y) 1 false))
  (hQ:∀ w,Q (.exit 0) [(1,.p 2 0),(3,.p 3 0),(5,.p 4 0),(6,.i .i64 y.ins.length),(28,w)] H) :
  wp (theCalls IP G 2) 2 (.loop L3b) Q [(1,.p 2 0),(3,.p 3 0),(5,.p 4 0),(6,.i .i64 0)] H:=by
 have hyl:=hy.2.1
 have g1':=g1
 have g2':=g2
 simp at g1' g2'
 simp only[pceC] at c4 c5
 refine wp_loop_list (l:=y.ins) (by omega) (fun i todo e H'=>e=[(1,.p 2 0),(3,.p 3 0),(5,.p 4 0),(6,.i .i64 i)]∧H'=H) ?_ ?_ ?_
 ·rintro i t todo e H' ht hd hlt hlt2 hlt3 ⟨rfl,rfl⟩
  have d4:=c4 i hlt
  have d5:=c5 i
  have hor:=hneed i hlt
  have ha:=t_less_a hG y hy hone i hlt
  have hw:wrapI .i64 ((i:Int)+1)=(i:Int)+1:=wrap_ok (by omega) (by omega)
  clear hlt
  simp -implicitDefEqProofs [L3b,hlt2,g1',g2']
  refine ha _ H' g2 ?_
  intro w
  rcases hor with h|h
  ·rw[h] at d4
   simp -implicitDefEqProofs [g1',d4,hw]
  ·rw[h] at d5
   cases h2:takesP y i
   ·rw[h2] at d4
    simp -implicitDefEqProofs [g1',d4,d5,hw]
   ·rw[h2] at d4
    simp -implicitDefEqProofs [g1',d4,hw]
 ·rintro e H' ⟨rfl,rfl⟩
  simp -implicitDefEqProofs [L3b,g2']
  exact hQ _
 ·simp
set_option maxHeartbeats 1000000 in
theorem t_pruneLess(cw:pureR IP G 4 []=some (.b true))(c17:CheckOk G)(x:Pce)(hx:okPce x) :
  ∃ H',Brings IP G G.next 3 [.ag (Enc.cells x)] G (.b true) H':=by
 have c1:=t_meant hG x hx false false false false
 have c2:=t_pruneOf hG c17 x hx false false
 simp only[pceC] at c1 c2
 refine law_brings ip3 rfl rfl ?_
 cases hc:checkP x
 ·rw[hc] at c2
  simp at c1 c2
  simp -implicitDefEqProofs [I3,hG,cw,c1,c2]
 ·rw[hc] at c2
  have hy:=pruneP_ok hc hx
  have hcy:=pruneP_check hc
  have hck:=checkP_iff.1 hcy
  have hnum:=hck.1
  unfold numsP at hnum
  have hfy:=check_fits hcy
  have hle:=prune_len hc
  have hone:∀(a b:Nat) (t:Stp),a<b→(pruneP x).ins[a]?=some t→(pruneP x).ins[b]?=some t→False:=fun a b t h1 h2 h3=>prune_once hc h1 h2 h3
  have hneed:∀ i,i<(pruneP x).ins.length→takesP (pruneP x) i=true∨failsP (pruneP x) i=true:=fun i h=>prune_needed hc h
  have c3:=t_told hG (pruneP x) hy false false
  have c4:=fun i hi=>t_needed hG (pruneP x) (by omega) (by omega) (fun t ht=>by obtain⟨n,hn⟩:=get_of_mem ht;exact fits_most (hfy n t hn)) i hi false false
  have c5:=fun a=>t_pfails hG c17 (pruneP x) hy a false false false false
  generalize pruneP x=y at c2 c3 c4 c5 hy hle hone hneed hnum
  have hyl:=hy.2.1
  have hxl:=hx.2.1
  have key:=t_less_b hG y hy hone hneed c4 c5
  have hli:(y.ins.length:Int)≤x.ins.length:=by omega
  simp only[pceC] at c3
  simp at c1 c2 c3
  simp -implicitDefEqProofs [I3,hG,cw,c1,c2,c3]
  refine key _ _ (by simp -implicitDefEqProofs [hG]) (by simp -implicitDefEqProofs [hG]) ?_
  intro w
  simp -implicitDefEqProofs [hG,hli,hle]
end
end Go.Proofs.YtkpgolcjiahdfaaDoor
namespace Go.Proofs.YtkpgolcjiahdfaaDoor
open Go
noncomputable def G1:RI.AHeap:=(RI.G0 2).put 0 (some (.cells [.i .i64 0,.s [],.b false] 1 true))
end Go.Proofs.YtkpgolcjiahdfaaDoor
namespace Go.RI
open Go
theorem pure_closed{tab:List (Nat×IFunc)}{G:AHeap}{f k:Nat}{fn:IFunc}(hf:tabIP tab f=some fn)(hm:fn.mode=2)(h:isTrueP (callK (buildT tab) G k G.next f [] G)=true):pureR (tabIP tab) G f []=some (.b true):=by
 obtain⟨n,hn⟩:=closed_pure hf hm h G.next G
 simp only[acall,callI,callB,hf,hm] at hn
 simp only[mapO] at hn
 split at hn
 ·rename_i u H1 hb
  split at hn
  ·rename_i v' hv
   cases hn
   exact pureR_some ⟨fn,n,u,H1,hf,hb,hv⟩
  ·cases hn
 ·cases hn
end Go.RI
namespace Go.Proofs.YtkpgolcjiahdfaaDoor
open Go
theorem works_run:RI.isTrueP (RI.callK (RI.buildT tab) G1 100000 2 4 [] G1)=true:=by kernel_rfl
theorem works_pure:RI.pureR IP G1 4 []=some (.b true):=RI.pure_closed ip4 rfl works_run
end Go.Proofs.YtkpgolcjiahdfaaDoor
namespace Go.Proofs.YtkpgolcjiahdfaaDoor
open Go Go.RI
section
variable {G:AHeap} (hG:G.next=2)
include hG
theorem t_hasPrefix0(s p:Str):pureR IP G 88 [.s s,.s p]=some (.b (pre p s)):=by
 refine pure_run ip88 rfl ?_
 by_cases h0:(p.length:Int)≤s.length
 ·have h1:p.length≤s.length:=by omega
  simp -implicitDefEqProofs [I88,hG,h0,h1,pre]
 ·simp -implicitDefEqProofs [I88,hG,h0,pre]
theorem t_hasPrefix(s p:Str):pureR IP G 82 [.s s,.s p]=some (.b (pre p s)):=by
 refine pure_run ip82 rfl ?_
 simp -implicitDefEqProofs [I82,hG,t_hasPrefix0 hG]
theorem t_cutPrefix0(s p:Str):pureR IP G 89 [.s s,.s p]=some (.tu [.s (cutP s p).1,.b (cutP s p).2]):=by
 refine pure_run ip89 rfl ?_
 simp -implicitDefEqProofs [I89,hG,t_hasPrefix0 hG]
 refine test_intro ?_ ?_<;>intro h
 ·have h1:p.length≤s.length:=by simp -implicitDefEqProofs [pre] at h;omega
  simp -implicitDefEqProofs [hG,h1,cutP,h]
 ·simp -implicitDefEqProofs [hG,cutP,h]
theorem t_cutPrefix(s p:Str):pureR IP G 83 [.s s,.s p]=some (.tu [.s (cutP s p).1,.b (cutP s p).2]):=by
 refine pure_run ip83 rfl ?_
 simp -implicitDefEqProofs [I83,hG,t_cutPrefix0 hG]
theorem t_indexByte(s:Str)(c:Int):pureR IP G 94 [.s s,.i .u8 c]=some (.i .i64 (idxL c.toNat.toUInt8 s 0)):=by
 refine pure_run ip94 rfl ?_
 simp -implicitDefEqProofs [I94,hG,idxB]
theorem t_index1(s:Str)(c:UInt8):pureR IP G 93 [.s s,.s [c]]=some (.i .i64 (idx s c)):=by
 refine pure_run ip93 rfl ?_
 simp -implicitDefEqProofs [I93,hG,t_indexByte hG,idx]
 refine test_intro ?_ ?_<;>intro h
 ·have:s=[c]:=by simpa using (beq_iff_eq.1 h).symm
  subst this
  simp -implicitDefEqProofs [hG,idxL]
 ·simp -implicitDefEqProofs [hG,t_indexByte hG]
theorem t_cut0(s:Str)(c:UInt8)(hs:s.length<4611686018427387904):pureR IP G 92 [.s s,.s [c]]=some (.tu [.s (cutC s c).1,.s (cutC s c).2.1,.b (cutC s c).2.2]):=by
 refine pure_run ip92 rfl ?_
 simp -implicitDefEqProofs [I92,hG,t_index1 hG]
 refine test_intro ?_ ?_<;>intro h
 ·have h0:0≤idx s c:=by simpa using h
  have h1:=idx_lt s c h0
  have h2:(idx s c).toNat≤s.length:=by omega
  have w:wrapI .i64 (idx s c+1)=idx s c+1:=wrap_ok (by omega) (by omega)
  have h3:(idx s c+1).toNat=(idx s c).toNat+1:=by omega
  have h4:0≤idx s c+1:=by omega
  have h5:(idx s c).toNat+1≤s.length:=by omega
  simp -implicitDefEqProofs [hG,h0,h2,w,h3,h4,h5,cutC]
 ·have h0:¬ 0≤idx s c:=by simpa using h
  simp -implicitDefEqProofs [hG,cutC,h0]
theorem t_cut(s:Str)(c:UInt8)(hs:s.length<4611686018427387904):pureR IP G 90 [.s s,.s [c]]=some (.tu [.s (cutC s c).1,.s (cutC s c).2.1,.b (cutC s c).2.2]):=by
 refine pure_run ip90 rfl ?_
 simp -implicitDefEqProofs [I90,hG,t_cut0 hG s c hs]
theorem t_kindOf(w:Str):pureR IP G 85 [.s w]=some (.i .i64 (kindOf w)):=by
 refine pure_run ip85 rfl ?_
 simp -implicitDefEqProofs [I85,hG]
 repeat' ((first|refine guard_intro ?_ ?_|refine test_intro ?_ ?_)<;>intro h<;>(try simp -implicitDefEqProofs [h,hG]))
 all_goals simp_all [kindOf]
end
end Go.Proofs.YtkpgolcjiahdfaaDoor
namespace Go.Proofs.YtkpgolcjiahdfaaDoor
open Go Go.RI
section
variable {G:AHeap} (hG:G.next=2)
include hG
theorem t_read_word(t:Str)(ht:t.length<1099511627776)(Q:Post)(H:AHeap)(hQ:∀ b,Q (.exit 1) [(0,.s t),(2,.p 2 0),(9,.i .i64 (wordN t)),(64,b)] H) :
  wp (theCalls IP G 2) 2 (.loop L80a) Q [(0,.s t),(2,.p 2 0),(9,.i .i64 0)] H:=by
 refine wp_loop_inv (fun k e H'=>∃ i:Nat,k=t.length-i∧i≤t.length∧wordN t=i+wordN (t.drop i)∧e=[(0,.s t),(2,.p 2 0),(9,.i .i64 i)]∧H'=H) ?_ t.length _ _ ⟨0,by omega,by omega,by simp,rfl,rfl⟩
 rintro k e H' ⟨i,hk,hi,hw,rfl,rfl⟩
 rcases Nat.lt_or_ge i t.length with hlt|hge
 ·have hx:t[i]?=some t[i]:=List.getElem?_eq_getElem hlt
  have hd:t.drop i=t[i]::t.drop (i+1):=List.drop_eq_getElem_cons hlt
  have hlt2:(i:Int)<(t.length:Int):=by omega
  have hlt3:i<4611686018427387904:=by omega
  generalize t[i]=c at hx hd
  rw[hd] at hw
  simp only[wordN] at hw
  clear hlt
  simp -implicitDefEqProofs [L80a,hlt2,hx]
  refine guard_intro ?_ ?_<;>intro h<;>simp -implicitDefEqProofs [h,hlt2,hx]
  ·refine test_intro ?_ ?_<;>intro h2<;>simp -implicitDefEqProofs [h,h2,hlt2,hlt3,hx]
   ·have hl:letter c=true:=by simp -implicitDefEqProofs [letter,h,h2]
    rw[if_pos hl] at hw
    exact⟨t.length-(i+1),by omega,i+1,rfl,by omega,by omega,by simp⟩
   ·have hl:letter c=false:=by simp -implicitDefEqProofs [letter,h,h2]
    rw[hl,if_neg (by simp)] at hw
    have:=hQ (.b false)
    rw[hw] at this;simpa using this
  ·have hl:letter c=false:=by simp -implicitDefEqProofs [letter,h]
   rw[hl,if_neg (by simp)] at hw
   have:=hQ (.b false)
   rw[hw] at this;simpa using this
 ·have:i=t.length:=by omega
  subst this
  rw[List.drop_length] at hw
  have:=hQ (.b false)
  rw[hw] at this
  simp -implicitDefEqProofs [L80a]
  simpa[wordN] using this
theorem t_read_of(f:Nat)(t:Str)(hlt:t.length<f+1)(ht:t.length<1099511627776)
  (ih:∀ t:Str,t.length<f→t.length<1099511627776→pureR IP G 80 [.s t]=some (.tu [.ag (Enc.cells (readF f t).1),.s (readF f t).2.1,.b (readF f t).2.2]))
  (ihr:∀ t:Str,t.length<f→t.length<1099511627776→pureR IP G 84 [.s t]=some (.tu [.ag (Enc.cells (recF f [] [] t).1),.s (recF f [] [] t).2.1,.b (recF f [] [] t).2.2])) :
  pureR IP G 80 [.s t]=some (.tu [.ag (Enc.cells (readF (f+1) t).1),.s (readF (f+1) t).2.1,.b (readF (f+1) t).2.2]):=by
 refine pure_run ip80 rfl ?_
 simp -implicitDefEqProofs [I80,hG,t_hasPrefix hG]
 refine test_intro ?_ ?_<;>intro h
 ·have hl:1≤t.length:=by simp -implicitDefEqProofs [pre] at h;omega
  have c1:=ih (t.drop 1) (by simp;omega) (by simp;omega)
  simp at c1
  simp -implicitDefEqProofs [hG,hl,c1,t_cutPrefix hG]
  have e1:readF (f+1) t=(⟨4,[],[(readF f (t.drop 1)).1]⟩,(cutP (readF f (t.drop 1)).2.1 [93]).1,(readF f (t.drop 1)).2.2&&(cutP (readF f (t.drop 1)).2.1 [93]).2):=by
   rw[readF,if_pos h]
  rw[e1]
  repeat' ((first|refine guard_intro ?_ ?_|refine test_intro ?_ ?_)<;>intro h<;>(try simp -implicitDefEqProofs [h,hG]))
  all_goals simp_all
 simp -implicitDefEqProofs [hG,t_hasPrefix hG,h]
 refine test_intro ?_ ?_<;>intro h2
 ·have hl:2≤t.length:=by simp -implicitDefEqProofs [pre] at h2;omega
  simp -implicitDefEqProofs [hG,hl]
  simp -implicitDefEqProofs [readF,h,h2]
 simp -implicitDefEqProofs [hG,t_hasPrefix hG]
 refine test_intro ?_ ?_<;>intro h3
 ·have hl:1≤t.length:=by simp -implicitDefEqProofs [pre] at h3;omega
  have c1:=ihr (t.drop 1) (by simp;omega) (by simp;omega)
  simp at c1
  simp -implicitDefEqProofs [hG,hl,c1]
  simp -implicitDefEqProofs [readF,h,h2,h3]
 simp -implicitDefEqProofs [hG]
 refine t_read_word hG t ht _ _ ?_
 intro b
 have hl:=wordN_le t
 simp -implicitDefEqProofs [hG,hl,t_kindOf hG]
 simp -implicitDefEqProofs [readF,h,h2,h3]
end
end Go.Proofs.YtkpgolcjiahdfaaDoor
namespace Go.Proofs.YtkpgolcjiahdfaaDoor
open Go Go.RI
section
variable {G:AHeap} (hG:G.next=2)
include hG
def recI(r:Shp×Str×Bool)(b fm:Nat)(k:Nat)(e:Env)(H:AHeap):Prop:=∃(g:Nat) (t:Str) (ns:List Str) (l:List Shp) (nv lv:AVal) (ex:Env),k=t.length∧t.length<g∧t.length+ns.length≤b∧l.length=ns.length∧(∀ s∈ns,s.length≤b) ∧
 e=(0,.s t)::(2,.p 2 0)::ex∧(ex=[]∨∃ c,ex=[(58,c)])∧2<H.next∧H.get 2=some (.cells [.i .i64 5,nv,lv] 1 false)∧Acc H (2+1) nv 1 ns.length (encs ns)∧Acc H (2+1) lv 3 l.length (encs l) ∧
 (∀ i j a a' b b',nv=.sl i 0 a b→lv=.sl j 0 a' b'→i≠j)∧r=recF g ns l t∧g≤fm
theorem t_rec_of(f:Nat)(t0:Str)(hlt:t0.length<f+1)(ht:t0.length<1099511627776)
  (ih:∀ g,g≤f→∀ t:Str,t.length<g→t.length<1099511627776→pureR IP G 80 [.s t]=some (.tu [.ag (Enc.cells (readF g t).1),.s (readF g t).2.1,.b (readF g t).2.2]))
  (h0:pureR IP G 80 [.s []]=some (.tu [.ag (Enc.cells (readF 1 []).1),.s (readF 1 []).2.1,.b (readF 1 []).2.2])) :
  pureR IP G 84 [.s t0]=some (.tu [.ag (Enc.cells (recF (f+1) [] [] t0).1),.s (recF (f+1) [] [] t0).2.1,.b (recF (f+1) [] [] t0).2.2]):=by
 refine pure_run ip84 rfl ?_
 simp -implicitDefEqProofs [I84,hG]
 refine wp_loop_inv (recI (recF (f+1) [] [] t0) t0.length (f+1)) ?_ t0.length _ _ ⟨f+1,t0,[],[],.ns,.ns,[],rfl,hlt,by simp,rfl,by simp,rfl,.inl rfl,by simp -implicitDefEqProofs [hG],by simp -implicitDefEqProofs [hG],acc_none,acc_none,(fun i j a a' b b' h=>by cases h),rfl,Nat.le_refl _⟩
 rintro k e H ⟨g,t,ns,l,nv,lv,ex,rfl,hg,hb,hl,hns,rfl,hex,hn,hrow,hA,hB,hne,hr,hgf⟩
 obtain⟨g,rfl⟩:∃ g',g=g'+1:=⟨g-1,by omega⟩
 have c1:=t_cut hG t 58 (by omega)
 have hhead:∀(P:Prop),(ex=[]→P)→(∀ c,ex=[(58,c)]→P)→P:=fun P h1 h2=>by rcases hex with h|⟨c,h⟩;exact h1 h;exact h2 c h
 have cl:=cutC_len t 58
 generalize hcut:cutC t 58=cc at c1 cl
 obtain⟨nm,bh,is⟩:=cc
 simp only at c1 cl
 obtain⟨x,rest,ok,c2,hx⟩:∃ x rest ok,pureR IP G 80 [.s bh]=some (.tu [.ag (Enc.cells x),.s rest,.b ok])∧(is=true→readF g bh=(x,rest,ok)):=by
  cases is with
  | true=>exact⟨_,_,_,ih g (by omega) bh (by have:=cl.2.2 rfl;omega) (by have:=cl.2.2 rfl;omega),fun _=>rfl⟩
  | false=>exact⟨_,_,_,(by rw[cl.2.1 rfl];exact h0),fun h=>by cases h⟩
 simp at c2
 suffices hs:run (theCalls IP G 2) 2 [] [] (seqP (theCalls IP G 2) 2 (match L84a with|.block _ (.seq _ b)=>b|c=>c) (inBlock (andThen (inBlock (fin [IRes.c 2 (some 3),IRes.t 3,IRes.t 4] fun u H1=>frzV H1 2 16 u=some (.tu [.ag (Enc.cells (recF (f+1) [] [] t0).1),.s (recF (f+1) [] [] t0).2.1,.b (recF (f+1) [] [] t0).2.2])) 0) fun e H=>∃ j,j<t.length∧recI (recF (f+1) [] [] t0) t0.length (f+1) j e H) 1)) [(2,.p 2 0),(5,.s nm),(6,.s bh),(7,.b is)] H by
  rcases hex with rfl|⟨c,rfl⟩<;>simpa[L84a,hG,c1] using hs
 obtain⟨d,hd⟩:∃ d,H.next=d+3:=⟨H.next-3,by omega⟩
 obtain⟨ids,ht1,ht2⟩:=acc_touch' hA
 have ht3:=ht2 2 (by omega)
 have ht4:=ht2 (d+3) (by omega)
 have hr1:recF (f+1) [] [] t0=_:=hr.trans (recF_succ g ns l t hcut hx)
 simp -implicitDefEqProofs [L84a,hG,c2,hd]
 repeat' ((first|refine guard_intro ?_ ?_|refine test_intro ?_ ?_)<;>intro h<;>(try simp -implicitDefEqProofs [h,hG,hd,hrow,ht1,ht3,ht4]))
 ·rw[hr1,h];simp
 ·refine step_app (acc_keep hA ?_ ?_) (lo':=3) (m:=1) (ys:=[AVal.s nm]) (by omega) (by simp<;>omega) (more_lit (cs:=[AVal.s nm]) (e:=1) (ro:=false) (by simp -implicitDefEqProofs [hd]) rfl (by omega)) rfl (by omega) (by omega) (by omega) (by omega) ?_
  ·simp;omega
  ·intro id a b hv
   have:=acc_lt hA id a b hv
   simp (disch:=(simp -implicitDefEqProofs [hd];omega)) only[get_push_lt,get_put_ne]
  intro H1 hn1 hA1 hf1
  have hx1:H1.get 2=some (.cells [.i .i64 5,nv,lv] 1 false):=by
   rw[hf1 2 (by simp -implicitDefEqProofs [hd]) (fun id a b hv=>by have:=acc_lt hA id a b hv;omega)]
   simp -implicitDefEqProofs [hd,hrow]
  have hx2:H1.get (d+3+1+1)=some (.cells (Enc.cells x) 3 false):=by
   rw[hf1 (d+3+1+1) (by simp -implicitDefEqProofs [hd]) (fun id a b hv=>by have:=acc_lt hA id a b hv;omega)]
   simp -implicitDefEqProofs [hd]
  have hB1:Acc H1 3 lv 3 l.length (encs l):=by
   refine acc_keep hB (by rw[hn1];simp;omega) ?_
   intro id a b hv
   have:=acc_lt hB id a b hv
   rw[hf1 id (by simp;omega) (fun id2 a2 b2 hv2=>fun e=>by subst e;exact hne _ _ _ _ _ _ hv2 hv rfl)]
   simp (disch:=(simp -implicitDefEqProofs [hd];omega)) only[get_push_lt,get_put_ne]
  simp -implicitDefEqProofs [hd] at hn1 hA1
  clear hf1
  simp -implicitDefEqProofs [hd,ht1,ht3,ht4]
  refine step_app hB1 (m:=1) (ys:=Enc.cells x) (by omega) (by rw[hn1];omega) (more_lit hx2 (by simp) (by omega)) (by simp) (by omega) (by omega) (by omega) (by omega) ?_
  intro H2 hn2 hB2 hf2
  have hx3:H2.get 2=some (.cells [.i .i64 5,nv,lv] 1 false):=by
   rw[hf2 2 (by omega) (fun id a b hv=>by have:=acc_lt hB id a b hv;omega),hx1]
  have hA2:Acc H2 3 (.sl (d+3+1+1+1) 0 (ns.length+1) none) 1 (ns.length+1) (encs ns++[AVal.s nm]):=by
   refine acc_keep hA1 (by omega) ?_
   intro id a b hv
   cases hv
   exact hf2 _ (by omega) (fun id a b hv=>by have:=acc_lt hB id a b hv;omega)
  obtain⟨ms,hms,hmc,hml⟩:∃ ms,ms=ns++[nm]∧encs ns++[AVal.s nm]=encs ms∧ns.length+1=ms.length:=⟨_,rfl,by simp,by simp⟩
  obtain⟨ls,hls,hlc,hll⟩:∃ ls,ls=l++[x]∧encs l++Enc.cells x=encs ls∧l.length+1=ls.length:=⟨_,rfl,by simp,by simp⟩
  rw[hmc,hml] at hA2
  rw[hlc,hll,hn1] at hB2
  have hg1:=acc_row hA2
  have hg2:=acc_row hB2
  have hm0:ms≠[]:=by rw[hms];simp
  have hl0:ls≠[]:=by rw[hls];simp
  have c3:=t_rising hG ms (by omega) (fun s hs=>by rw[hms] at hs;rcases List.mem_append.1 hs with hs|hs;exact Nat.lt_of_le_of_lt (hns s hs) (by omega);simp at hs;subst hs;omega)
  rw[hn1] at hn2
  clear hf2 hB1 hA1 hx1 hx2
  obtain⟨c,r,rfl⟩:∃ c r,rest=c::r:=by
   cases rest with
   | nil=>simp at h
   | cons c r=>exact⟨c,r,rfl⟩
  rename_i his hok
  have hx4:=hx his
  simp -implicitDefEqProofs [hx3,hml,hll,hn1]
  rw[his,hok] at hr1
  simp only[Bool.true_eq_false,Bool.false_eq_true,if_false,List.isEmpty_cons,List.head?_cons,List.drop_succ_cons,List.drop_zero] at hr1
  have hm2:(1:Nat)≤ms.length:=by omega
  refine test_intro ?_ ?_<;>intro hc<;>simp -implicitDefEqProofs [hx3,hG,hc,hg1,hg2,hm0,hl0,c3]
  ·have hc':c=125:=toNat_eq (by simpa using hc)
   subst hc'
   rw[if_pos rfl] at hr1
   rw[hr1,hms,hls]
   simp
  refine test_intro ?_ ?_<;>intro hc2<;>simp -implicitDefEqProofs [hx3,hG,hc,hg1,hg2,hm0]
  ·have hc':c=44:=toNat_eq (by simpa using hc2)
   subst hc'
   rw[if_neg (show ¬(some (44:UInt8)=some 125) by decide),if_pos rfl] at hr1
   have hrl:r.length+2≤bh.length+1:=by
    have:=readF_le g bh
    rw[hx4] at this
    simp at this
    omega
   have hbl:=cl.2.2 his
   refine⟨r.length,by omega,g,r,ms,ls,.sl (d+3+1+1+1) 0 ms.length none,.sl (d+3+1+1+1+1) 0 ls.length none,_,rfl,by omega,by omega,by omega,?_,rfl,.inr ⟨_,rfl⟩,?_,?_,?_,?_,?_,(by rw[hms,hls];exact hr1),by omega⟩
   ·intro s hs
    rw[hms] at hs
    rcases List.mem_append.1 hs with hs|hs
    ·exact hns s hs
    ·simp at hs;subst hs;omega
   ·simp -implicitDefEqProofs [hn2]
   ·simp
   ·exact acc_keep hA2 (by simp) (fun id a b hv=>by cases hv;simp)
   ·exact acc_keep hB2 (by simp) (fun id a b hv=>by cases hv;simp)
   ·intro i j a a' b b' h1 h2
    cases h1;cases h2
    omega
  ·have h1:c≠125:=fun he=>by subst he;revert hc;decide
   have h2:c≠44:=fun he=>by subst he;revert hc2;decide
   rw[if_neg (fun e=>h1 (Option.some.inj e)),if_neg (fun e=>h2 (Option.some.inj e))] at hr1
   rw[hr1];simp
 ·rw[hr1,h];simp
 ·rw[hr1,h];simp
theorem t_reads:∀ f,(∀ g,g≤f→∀ t:Str,t.length<g→t.length<1099511627776→pureR IP G 80 [.s t]=some (.tu [.ag (Enc.cells (readF g t).1),.s (readF g t).2.1,.b (readF g t).2.2])) ∧
    (∀ g,g≤f→∀ t:Str,t.length<g→t.length<1099511627776→pureR IP G 84 [.s t]=some (.tu [.ag (Enc.cells (recF g [] [] t).1),.s (recF g [] [] t).2.1,.b (recF g [] [] t).2.2])):=by
  have h0:pureR IP G 80 [.s []]=some (.tu [.ag (Enc.cells (readF 1 []).1),.s (readF 1 []).2.1,.b (readF 1 []).2.2]) :=
    t_read_of hG 0 [] (by simp) (by simp) (fun t h=>by omega) (fun t h=>by omega)
  intro f
  induction f with
  | zero=>exact⟨fun g hg t h=>by omega,fun g hg t h=>by omega⟩
  | succ f ih =>
    obtain⟨ih1,ih2⟩:=ih
    constructor
    · intro g hg t h ht
      rcases Nat.lt_or_ge g (f+1) with hlt|hge
      · exact ih1 g (by omega) t h ht
      · have:g=f+1:=by omega
        subst this
        exact t_read_of hG f t h ht (fun t=>ih1 f (Nat.le_refl _) t) (fun t=>ih2 f (Nat.le_refl _) t)
    · intro g hg t h ht
      rcases Nat.lt_or_ge g (f+1) with hlt|hge
      · exact ih2 g (by omega) t h ht
      · have:g=f+1:=by omega
        subst this
        exact t_rec_of hG f t h ht ih1 h0
theorem t_typed(t:Str)(ht:t.length<1099511627776):pureR IP G 76 [.s t]=some (.tu [.ag (Enc.cells (typedS t).1),.b (typedS t).2]):=by
 have c1:=(t_reads hG (t.length+1)).1 (t.length+1) (Nat.le_refl _) t (by omega) ht
 simp at c1
 refine pure_run ip76 rfl ?_
 simp -implicitDefEqProofs [I76,hG]
 refine test_intro ?_ ?_<;>intro h<;>simp -implicitDefEqProofs [hG,c1]
 ·rw[typedS,if_pos (of_decide_eq_true h)];simp
 ·rw[typedS,if_neg (of_decide_eq_false h)]
  repeat' ((first|refine guard_intro ?_ ?_|refine test_intro ?_ ?_)<;>intro h<;>(try simp -implicitDefEqProofs [h,hG]))
theorem t_fits_(t:Str)(ht:t.length<1099511627776):pureR IP G 66 [.s t]=some (.b (fitsS t)):=by
 have c1:=t_typed hG t ht
 simp at c1
 refine pure_run ip66 rfl ?_
 simp -implicitDefEqProofs [I66,hG,c1,fitsS]
end
end Go.Proofs.YtkpgolcjiahdfaaDoor
namespace Go.Proofs.YtkpgolcjiahdfaaDoor
open Go Go.RI
section
variable {G:AHeap} (hG:G.next=2)
include hG
theorem t_none(v:Val)(hv:v.bulk<1099511627776)(t1 t2:Bool):pureR IP G 33 [.ag [.i .i64 v.kind,.i .i64 v.n,.s v.s,.fs t1 false v.l.length (encs v.l),.fs t2 false v.names.length (encs v.names)]]=some (.b (noneV v)):=by
 have c1:=t_same hG v zeroVal hv t1 t2 false false
 simp -implicitDefEqProofs [zeroVal] at c1
 refine pure_run ip33 rfl ?_
 simp -implicitDefEqProofs [I33,hG,c1,noneV,zeroVal]
theorem t_mayBe(v:Val)(hv:v.bulk<1099511627776)(t1 t2:Bool):pureR IP G 50 [.ag [.i .i64 v.kind,.i .i64 v.n,.s v.s,.fs t1 false v.l.length (encs v.l),.fs t2 false v.names.length (encs v.names)]]=some (.b (mayV v)):=by
 have c1:=t_check hG v hv
 refine pure_run ip50 rfl ?_
 simp -implicitDefEqProofs [I50,hG,c1]
theorem t_record(ns:List Str)(hns:bulkS ns<549755813888)(t f:Bool):pureR IP G 65 [.fs t f ns.length (encs ns)]=some (.b (recordS ns)):=by
  have hl:=bulkS_len ns
  refine pure_run ip65 rfl ?_
  by_cases h:(ns.length:Int)≤8
  · have c1:=t_mayBe hG (.mk 5 0 [] (List.replicate ns.length zeroVal) ns) (by simp -implicitDefEqProofs [Val.bulk,bulk_rep];omega)
    have c1:=fun t1=>c1 t1 t
    simp only[Val.kind_mk,Val.n_mk,Val.s_mk,Val.l_mk,Val.names_mk,List.length_replicate] at c1
    have h1:ns.length≤8:=by omega
    have h2:(80:Int)*ns.length≤281474976710656:=by omega
    have h3:(0:Int)≤ns.length:=by omega
    cases hn:ns with
    | nil =>
      subst hn
      have c1:=c1 false
      simp at c1
      simp -implicitDefEqProofs [I65,hG,c1,recordS,repCells]
    | cons a l =>
      rw[←hn]
      have h0:ns≠[]:=by rw[hn];simp
      simp -implicitDefEqProofs [I65,hG,h,h1,h2,h0,rep_len,snap_rep,c1,recordS]
  · simp -implicitDefEqProofs [I65,hG,h,recordS]
theorem t_opn(o:Opn)(homes steps:Int)(ho:o.v.bulk<1099511627776)(t1 t2:Bool):pureR IP G 32 [.ag [.i .i64 o.kind,.i .i64 o.n,.i .i64 o.v.kind,.i .i64 o.v.n,.s o.v.s,.fs t1 false o.v.l.length (encs o.v.l),.fs t2 false o.v.names.length (encs o.v.names)],.i .i64 homes,.i .i64 steps]=some (.b (opnFits homes steps o)):=by
 have c1:=t_none hG o.v ho
 have c2:=t_mayBe hG o.v ho
 refine pure_run ip32 rfl ?_
 simp -implicitDefEqProofs [I32,hG]
 repeat' ((first|refine guard_intro ?_ ?_|refine test_intro ?_ ?_)<;>intro h<;>(try simp -implicitDefEqProofs [h,hG,c1,c2]))
 all_goals clear c1 c2
 all_goals ((try simp only[decide_eq_true_eq,decide_eq_false_iff_not] at *)<;>(try simp_all [opnFits])<;>(try (intros;omega)))
theorem t_opnNot(o:Opn)(homes steps:Int)(ho:o.v.bulk<1099511627776)(t1 t2:Bool):pureR IP G 53 [.ag [.i .i64 o.kind,.i .i64 o.n,.i .i64 o.v.kind,.i .i64 o.v.n,.s o.v.s,.fs t1 false o.v.l.length (encs o.v.l),.fs t2 false o.v.names.length (encs o.v.names)],.fp [.i .i64 homes],.fp [.i .i64 steps]]=some (.b (!opnFits homes steps o)):=by
 have c1:=t_opn hG o homes steps ho
 refine pure_run ip53 rfl ?_
 simp -implicitDefEqProofs [I53,hG,c1]
theorem t_idxNot(l:List Opn)(homes steps:Int)(hl:l.length<1099511627776)(ho:∀ o∈l,o.v.bulk<1099511627776)(t:Bool):pureR IP G 69 [.fs t false l.length (encs l),.fn (.func 53) [] [.fp [.i .i64 homes],.fp [.i .i64 steps]]]=some (.i .i64 (idxF (fun o=>!opnFits homes steps o) l 0)):=by
 refine pure_run ip69 rfl ?_
 simp -implicitDefEqProofs [I69,hG]
 refine wp_loop_list (l:=l) (by omega) (fun i todo e H=>e=[(0,.fs t false l.length (encs l)),(1,.fn (.func 53) [] [.fp [.i .i64 homes],.fp [.i .i64 steps]]),(7,.i .i64 l.length),(8,.i .i64 i)]∧H=G∧idxF (fun o=>!opnFits homes steps o) l 0=idxF (fun o=>!opnFits homes steps o) todo i) ?_ ?_ ?_
 ·rintro i x todo e H hx hd hlt hlt2 hlt3 ⟨rfl,rfl,hn⟩
  have c1:=t_opnNot hG x homes steps (ho x (List.mem_of_getElem? hx))
  rw[idxF] at hn
  clear hlt
  simp -implicitDefEqProofs [L69a,hlt2,hlt3,hx,c1,hG]
  refine test_intro ?_ ?_<;>intro h2<;>simp -implicitDefEqProofs [hlt3,hG]
  ·rw[hn,h2];simp
  ·rw[hn,h2];simp
 ·rintro e H ⟨rfl,rfl,hn⟩
  simp -implicitDefEqProofs [L69a,hG]
  rw[hn];rfl
 ·simp -implicitDefEqProofs [hG]
theorem t_anyNot(l:List Opn)(homes steps:Int)(hl:l.length<1099511627776)(ho:∀ o∈l,o.v.bulk<1099511627776)(t:Bool):pureR IP G 52 [.fs t false l.length (encs l),.fn (.func 53) [] [.fp [.i .i64 homes],.fp [.i .i64 steps]]]=some (.b (l.any fun o=>!opnFits homes steps o)):=by
 have c1:=t_idxNot hG l homes steps hl ho
 refine pure_run ip52 rfl ?_
 simp -implicitDefEqProofs [I52,hG,c1]
 rw[←idxF_any _ l 0 (by omega)]
theorem t_fit(l:List Opn)(homes steps:Int)(hl:l.length<1099511627776)(ho:∀ o∈l,o.v.bulk<1099511627776)(t f:Bool):pureR IP G 34 [.fs t f l.length (encs l),.i .i64 homes,.i .i64 steps]=some (.b (l.all (opnFits homes steps))):=by
 have c1:=t_anyNot hG l homes steps hl ho
 have e:(l.any fun o=>!opnFits homes steps o)=!(l.all (opnFits homes steps)):=by simp -implicitDefEqProofs [List.not_all_eq_any_not]
 rw[e] at c1
 refine pure_run ip34 rfl ?_
 simp -implicitDefEqProofs [I34,hG,c1]
end
end Go.Proofs.YtkpgolcjiahdfaaDoor
namespace Go.Proofs.YtkpgolcjiahdfaaDoor
open Go Go.RI
section
variable {G:AHeap} (hG:G.next=2) (hB:G.get 0=some (.cells [.i .i64 0,.s [],.b false] 1 true))
include hG hB
set_option maxHeartbeats 4000000 in
theorem t_needs(i:Stp)(hns:bulkS i.names<549755813888)(hs:i.s.length<549755813887)(t1 t2:Bool):pureR IP G 49 [.ag [.i .i64 i.op,.i .i64 i.n,.fs t1 false i.l.length (encs i.l),.s i.s,.fs t2 false i.names.length (encs i.names)]]=some (.tu [.i .i64 (needs i).1,.i .i64 (needs i).2.1,.b (needs i).2.2]):=by
 have c1:=t_record hG i.names hns
 have c2:=t_record hG [i.s] (by simp -implicitDefEqProofs [bulkS];omega)
 simp at c2
 have c3:=t_fits_ hG i.s (by omega)
 obtain⟨op,n,l,s,names⟩:=i
 simp only at *
 refine pure_run ip49 rfl ?_
 simp -implicitDefEqProofs [I49,hG,hB]
 repeat' ((first|refine guard_intro ?_ ?_|refine test_intro ?_ ?_)<;>intro h<;>(try simp -implicitDefEqProofs [h,hG,c1,c2,c3,hB]))
 all_goals clear c1 c2 c3
 all_goals try simp only[decide_eq_true_eq,decide_eq_false_iff_not] at *
 all_goals (simp only[needs];(repeat' split)<;>(first|omega|(simp_all [bareI,nmd];done)|(simp_all [bareI,nmd];intros;first|omega|(simp_all;done)|(simp_all;omega))))
theorem t_stpFits(i:Stp)(homes at_:Int)(hns:bulkS i.names<549755813888)(hs:i.s.length<549755813887)(hl:i.l.length<1099511627776)(ho:∀ o∈i.l,o.v.bulk<1099511627776)(t1 t2:Bool) :
  pureR IP G 31 [.ag [.i .i64 i.op,.i .i64 i.n,.fs t1 false i.l.length (encs i.l),.s i.s,.fs t2 false i.names.length (encs i.names)],.i .i64 homes,.i .i64 at_]=some (.b (stpFits homes at_ i)):=by
 have c1:=t_needs hG hB i hns hs
 have c2:=t_fit hG i.l homes at_ hl ho
 refine pure_run ip31 rfl ?_
 simp -implicitDefEqProofs [I31,hG,c1]
 repeat' ((first|refine guard_intro ?_ ?_|refine test_intro ?_ ?_)<;>intro h<;>(try simp -implicitDefEqProofs [h,hG,c2]))
 all_goals clear c1 c2
 all_goals ((try simp only[decide_eq_true_eq,decide_eq_false_iff_not] at *)<;>(try simp_all [stpFits])<;>(try (intros;omega)))
end
end Go.Proofs.YtkpgolcjiahdfaaDoor
namespace Go.Proofs.YtkpgolcjiahdfaaDoor
open Go Go.RI
section
variable {G:AHeap} (hG:G.next=2) (hB:G.get 0=some (.cells [.i .i64 0,.s [],.b false] 1 true))
include hG hB
theorem t_check_loop1(l:List Int)(hl:l.length<100)(Q:Post)(H:AHeap)(hr:H.get 3=some (.cells (encs l) 1 false))
  (h1:(l.all fun n=>decide (0≤n))=true→∀ b,Q (.exit 0) [(1,.p 2 0),(23,.sl 3 0 l.length (some l.length)),(24,.i .i64 l.length),(25,.i .i64 l.length),(26,b)] H)
  (h2:(l.all fun n=>decide (0≤n))=false→Q .ret [(2,.i .i64 2)] H) :
  wp (theCalls IP G 2) 2 (.loop L18a) Q [(1,.p 2 0),(23,.sl 3 0 l.length (some l.length)),(24,.i .i64 l.length),(25,.i .i64 0)] H:=by
 refine wp_loop_list (l:=l) (by omega) (fun i todo e H'=>e=[(1,.p 2 0),(23,.sl 3 0 l.length (some l.length)),(24,.i .i64 l.length),(25,.i .i64 i)]∧H'=H∧(l.all fun n=>decide (0≤n))=todo.all fun n=>decide (0≤n)) ?_ ?_ ?_
 ·rintro i x todo e H' hx hd hlt hlt2 hlt3 ⟨rfl,rfl,hn⟩
  clear hlt
  simp -implicitDefEqProofs [L18a,hlt2,hlt3,hx,hr]
  refine test_intro ?_ ?_<;>intro h<;>simp -implicitDefEqProofs [hlt3]
  ·refine h2 ?_
   have:¬ 0≤x:=by have:=of_decide_eq_true h;omega
   rw[hn];simp -implicitDefEqProofs [this]
  ·have:0≤x:=by have:=of_decide_eq_false h;omega
   simpa[this] using hn
 ·rintro e H' ⟨rfl,rfl,hn⟩
  simp -implicitDefEqProofs [L18a]
  exact h1 (by rw[hn];rfl) _
 ·simp
theorem t_check_loop2(x:Pce)(hx:okPce x)(t1 t2 t3 t4:Bool)(Q:Post)(H:AHeap)(hr:H.get 2=some (.cells (pceC x t1 t2 t3 t4) 1 false))(hn:2<H.next)
  (h1:stepsFit x.homes x.ins 0=true→∀ b H',H'.get 2=some (.cells (pceC x t1 t2 t3 t4) 1 false)→2<H'.next→Q (.exit 2) [(1,.p 2 0),(66,.fs t1 false x.ins.length (encs x.ins)),(67,.i .i64 x.ins.length),(68,.i .i64 x.ins.length),(69,b)] H')
  (h2:stepsFit x.homes x.ins 0=false→∀ H',Q .ret [(2,.i .i64 2)] H') :
  wp (theCalls IP G 2) 2 (.loop L18b) Q [(1,.p 2 0),(66,.fs t1 false x.ins.length (encs x.ins)),(67,.i .i64 x.ins.length),(68,.i .i64 0)] H:=by
 refine wp_loop_list (l:=x.ins) (by have:=hx.2.1;omega) (fun i todo e H'=>e=[(1,.p 2 0),(66,.fs t1 false x.ins.length (encs x.ins)),(67,.i .i64 x.ins.length),(68,.i .i64 i)]∧H'.get 2=some (.cells (pceC x t1 t2 t3 t4) 1 false)∧2<H'.next∧stepsFit x.homes x.ins 0=stepsFit x.homes todo i) ?_ ?_ ?_
 ·rintro i s todo e H' hs hd hlt hlt2 hlt3 ⟨rfl,hg,hn,he⟩
  clear hlt
  obtain⟨a1,a2,a3,a4⟩:=hx.1 s (List.mem_of_getElem? hs)
  have c1:=t_stpFits hG hB s x.homes i a1 a2 a3 a4 false false
  obtain⟨d,hd2⟩:∃ d,H'.next=d+3:=⟨H'.next-3,by omega⟩
  rw[stepsFit] at he
  simp -implicitDefEqProofs [L18b,hlt2,hlt3,hs,hg,hd2,c1,pceC]
  refine test_intro ?_ ?_<;>intro h<;>simp -implicitDefEqProofs [hlt3]
  ·rw[h] at he
   simp only[Bool.true_and] at he
   simpa[hg,hd2,pceC] using he
  ·rw[h] at he
   exact h2 (by rw[he];rfl) _
 ·rintro e H' ⟨rfl,hg,hn,he⟩
  simp -implicitDefEqProofs [L18b]
  exact h1 (by rw[he];rfl) _ _ hg hn
 ·exact⟨by simp,hr,hn,rfl⟩
set_option maxHeartbeats 4000000 in
theorem t_liftCheck(x:Pce)(hx:okPce x)(t1 t2 t3 t4:Bool):pureR IP G 18 [.ag (pceC x t1 t2 t3 t4)]=some (.i .i64 (if checkP x then 0 else 2)):=by
 obtain⟨ho1,ho2,ho3,ho4,ho5⟩:=hx
 have c1:=t_opn hG x.cond x.homes x.ins.length ho5 t3 t4
 have c2:=t_none hG x.cond.v ho5 t3 t4
 have c3:=t_fit hG x.sets x.homes x.ins.length ho3 ho4 t2 false
 refine pure_run ip18 rfl ?_
 simp -implicitDefEqProofs [I18,hG,pceC]
 refine t_check_loop1 hG hB [x.func,x.at_,x.many,x.homes,x.deep,x.exit,x.to] (by simp) _ _ (by simp -implicitDefEqProofs [hG]) ?_ ?_
 ·intro h0 b
  simp at h0
  obtain⟨h01,h02,h03,h04,h05,h06,h07⟩:=h0
  have no:∀ {P:Prop},(numsP x→¬ P)→P→checkP x=false:=fun h1 h2=>checkP_not fun h=>h1 h.1 h2
  simp -implicitDefEqProofs [hG]
  refine test_intro ?_ ?_<;>intro h1<;>simp -implicitDefEqProofs [hG]
  ·exact no (fun h=>by unfold numsP at h;omega) (of_decide_eq_true h1)
  refine guard_intro ?_ ?_<;>intro h2<;>simp -implicitDefEqProofs [hG,h2]
  ·exact no (fun h=>by unfold numsP at h;omega) (of_decide_eq_true h2)
  refine guard_intro ?_ ?_<;>intro h3<;>simp -implicitDefEqProofs [hG,h3]
  ·exact no (fun h=>by unfold numsP at h;omega) (of_decide_eq_true h3)
  refine guard_intro ?_ ?_<;>intro h4<;>simp -implicitDefEqProofs [hG,h4]
  ·exact no (fun h=>by unfold numsP at h;omega) (of_decide_eq_true h4)
  refine guard_intro ?_ ?_<;>intro h5<;>simp -implicitDefEqProofs [hG,h5]
  ·exact no (fun h=>by unfold numsP at h;omega) (of_decide_eq_true h5)
  refine test_intro ?_ ?_<;>intro h6<;>simp -implicitDefEqProofs [hG]
  ·exact no (fun h=>by unfold numsP at h;omega) (of_decide_eq_true h6)
  have hnum:numsP x:=by
   have h1:=of_decide_eq_false h1;have h2:=of_decide_eq_false h2;have h3:=of_decide_eq_false h3
   have h4:=of_decide_eq_false h4;have h5:=of_decide_eq_false h5;have h6:=of_decide_eq_false h6
   unfold numsP;omega
  refine t_check_loop2 hG hB x ⟨ho1,ho2,ho3,ho4,ho5⟩ t1 t2 t3 t4 _ _ (by simp -implicitDefEqProofs [hG,pceC]) (by simp -implicitDefEqProofs [hG]) ?_ ?_
  ·intro hs b H' hg hn
   simp only[pceC] at hg
   have e:checkP x=(condP x&&x.sets.all (opnFits x.homes x.ins.length)):=by
    rw[Bool.eq_iff_iff,checkP_iff,Bool.and_eq_true]
    exact⟨fun h=>h.2.2,fun h=>⟨hnum,hs,h⟩⟩
   rw[e]
   clear hnum no hs e h1 h2 h3 h4 h5 h6 h01 h02 h03 h04 h05 h06 h07 ho1 ho2 ho3 ho4 ho5
   simp -implicitDefEqProofs [hg]
   repeat' ((first|refine guard_intro ?_ ?_|refine test_intro ?_ ?_)<;>intro h<;>(try simp -implicitDefEqProofs [h,hG,hg,c1,c2,c3]))
   all_goals clear c1 c2 c3 hg
   all_goals ((try simp only[decide_eq_true_eq,decide_eq_false_iff_not] at *)<;>(try simp_all [condP])<;>(try (intros;omega)))
  ·intro hs H'
   have:checkP x=false:=checkP_not fun h=>by rw[hs] at h;exact absurd h.2.1 (by simp)
   simp -implicitDefEqProofs [this]
 ·intro h0
  have:checkP x=false:=checkP_not fun h=>by
   obtain⟨⟨⟨h1,h2,h3,h4,h5,h6,h7⟩,_⟩,_⟩:=h
   simp at h0
   omega
  simp -implicitDefEqProofs [hG,this]
end
end Go.Proofs.YtkpgolcjiahdfaaDoor
namespace Go.RI
open Go
def TyM(P:Program):Nat→TypeId→List AVal→Nat→Prop
  | 0,_,_,_=>False
  | n+1,t,l,m=>match P.underlying t with
    | some .bool=>∃ b,l=[.b b]
    | some (.int k)=>∃ i,l=[.i k i]∧(Lit.int k i).wf=true∧1≤m
    | some .string=>∃ s,l=[.s s]∧s.length+1≤m
    | some (.slice e)=>∃ es:List (List AVal×Nat),l=[.fs false false es.length (es.map (·.1)).flatten]∧(es.map (·.2)).sum+1≤m∧∀ x∈es,TyM P n e x.1 x.2∧x.1.length=P.cellsOf e
    | some (.struct fs)=>∃ xs:List (List AVal×Nat),l=(xs.map (·.1)).flatten∧xs.length=fs.toList.length∧(xs.map (·.2)).sum+1≤m∧∀(i:Nat) f x,fs.toList[i]?=some f→xs[i]?=some x→TyM P n f.type x.1 x.2∧x.1.length=P.cellsOf f.type
    | _=>False
structure Meas {H:Type} (μ:DataW H→Nat):Prop where
 one:∀ d,0+1≤μ d
 str:∀ s,s.length+1≤μ (.lit (.string s))
 sl:∀ l r,(l.map μ).sum+1≤μ (.slice l r)
 ag:∀ l,(l.map μ).sum+1≤μ (.agg l)
section
variable {w:World}
variable {H:Type} {enc:TypeId×Value→H} {P:Program} {base:Nat} {spare:Nat→Bool} {held:Bool}
variable {r:TypeId→List Value→Option (DataW H×List MemPlace)} {t:TypeId} {cs:List Value} {d:DataW H} {ps:List MemPlace}
theorem tile_rdM{n:Nat}{ts:List TypeId}{μ:DataW H→Nat}{cs:List Value}
    (ih:∀ t cs d ps,t∈ts→DataW.trod enc P w base spare held n t cs=some (d,ps)→∃ l,RdL w l cs∧TyM P n t l (μ d)) :
    ∀(fs:List Field) (o N:Nat) (ys:List (DataW H×List MemPlace)),tile P fs o N=true→(∀ f∈fs,f.type∈ts)→cs.length=N→fs.mapM (fun f=>DataW.trod enc P w base spare held n f.type ((cs.drop f.offset).take (P.cellsOf f.type)))=some ys→(∀ f∈fs,f.offset+P.cellsOf f.type≤N) →
      ∃ xs:List (List AVal×Nat),RdL w (xs.map (·.1)).flatten (cs.drop o)∧xs.length=fs.length∧(xs.map (·.2)).sum=((ys.map (·.1)).map μ).sum∧∀(i:Nat) f x,fs[i]?=some f→xs[i]?=some x→TyM P n f.type x.1 x.2∧x.1.length=P.cellsOf f.type:=by
  intro fs
  induction fs with
  | nil =>
    intro o N ys ht _ hl hm _
    simp only[tile,beq_iff_eq] at ht
    subst ht
    rw[List.mapM_nil] at hm
    cases hm
    refine⟨[],?_,rfl,rfl,fun i f x h=>by simp at h⟩
    rw[List.drop_of_length_le (by omega)]
    simp[RdL]
  | cons f fs ihf =>
    intro o N ys ht hts hl hm hb
    simp only[tile,Bool.and_eq_true,beq_iff_eq] at ht
    obtain⟨rfl,ht⟩:=ht
    rw[List.mapM_cons] at hm
    simp only[bind,Option.bind_eq_some_iff,pure] at hm
    obtain⟨⟨d,p⟩,h1,ys',h2,h3⟩:=hm
    cases h3
    obtain⟨x,hx,hty⟩:=ih f.type _ d p (hts f (by simp)) h1
    obtain⟨xs,hxs,hlen,hsum,hall⟩:=ihf (f.offset+P.cellsOf f.type) N ys' ht (fun g hg=>hts g (by simp[hg])) hl h2 (fun g hg=>hb g (by simp[hg]))
    have hxl:x.length=P.cellsOf f.type:=by
      rw[RdL_len hx,List.length_take,List.length_drop]
      have:=hb f (by simp)
      omega
    refine⟨(x,μ d)::xs,?_,by simp[hlen],by simp only[List.map_cons,List.sum_cons];rw[hsum],fun i g y hg hy=>?_⟩
    · have:cs.drop f.offset=(cs.drop f.offset).take (P.cellsOf f.type)++cs.drop (f.offset+P.cellsOf f.type):=by
        conv=>lhs;rw[←List.take_append_drop (P.cellsOf f.type) (cs.drop f.offset)]
        rw[List.drop_drop]
      rw[this,List.map_cons,List.flatten_cons]
      exact RdL_append hx hxs
    · cases i with
      | zero=>simp at hg hy;subst hg hy;exact⟨hty,hxl⟩
      | succ i=>exact hall i g y (by simpa using hg) (by simpa using hy)
theorem trod_rdM{ts:List TypeId}(hts:ts.all (okTy P ts)=true){μ:DataW H→Nat}(hsm:Meas μ)(hsp:∀ b,spare b=true) :
    ∀(n:Nat) (t:TypeId) (cs:List Value) (d:DataW H) (ps:List MemPlace),t∈ts→DataW.trod enc P w base spare held n t cs=some (d,ps)→∃ l,RdL w l cs∧TyM P n t l (μ d):=by
  intro n
  induction n with
  | zero=>intro t cs d ps _ h;simp[DataW.trod] at h
  | succ n ih =>
    intro t cs d ps ht h
    have hok:=List.all_eq_true.1 hts t ht
    unfold okTy at hok
    rw[DataW.trod_step] at h
    unfold TyM
    cases hu:P.underlying t with
    | none=>rw[hu] at hok;cases hok
    | some T =>
      rw[hu] at hok
      cases T<;>simp only at hok<;>try (cases hok;done)
      case bool =>
        obtain⟨b,rfl,rfl⟩:=step_bool hu h
        exact⟨[.b b],RdL_one (by simp[Rd,noId,one,ren]),b,rfl⟩
      case int k =>
        obtain⟨m,rfl,rfl,hw⟩:=step_int hu h
        exact⟨[.i k m],RdL_one (by simp[Rd,noId,one,ren]),m,rfl,hw,hsm.one _⟩
      case string =>
        obtain⟨s,rfl,rfl⟩:=step_string hu h
        exact⟨[.s s.data.toList],RdL_one (by simp[Rd,noId,one,ren]),_,rfl,hsm.str _⟩
      case slice e =>
        simp only[Bool.and_eq_true,decide_eq_true_eq,List.contains_iff_mem] at hok
        obtain⟨he,hc⟩:=hok
        rcases step_slice hu h with rfl|⟨a,len,cap,elems,rest,rfl,hlc,hel,hrest,rfl⟩
        · exact⟨[.fs false false 0 []],RdL_one (by simp[Rd]),[],rfl,hsm.one _,fun x hx=>by simp at hx⟩
        · have hB:=fun r=>hsm.sl (elems.map (·.1)) r
          have hlen:elems.length=len:=by simpa using mapM_some_length hel
          by_cases h0:len=0
          · subst h0
            refine⟨[.fs false false 0 []],RdL_one ?_,[],rfl,hsm.one _,fun x hx=>by simp at hx⟩
            simp only[Rd]
            refine⟨trivial,trivial,.inl ⟨trivial,trivial,.inr ?_⟩⟩
            by_cases hc0:cap=0
            · subst hc0;exact .inl ⟨a,rfl⟩
            · rw[hsp,if_pos rfl] at hrest
              obtain⟨b,hb,hfb⟩:=Go.Lib.mapM_at hrest 0 0 (by rw[List.getElem?_range (by omega)])
              simp only[Option.bind_eq_some_iff] at hfb
              obtain⟨c0,hc1,_⟩:=hfb
              have:=(cells_at hc1 hc).1
              have ha:a.add ((0+0)*P.cellsOf e)=a:=by simp[Addr.add]
              rw[ha] at this
              obtain⟨ab,ao,asp⟩:=a
              cases this
              exact .inr ⟨ab,ao,cap,rfl⟩
          · have el:∀ i,i<len→∃ csi x bd,(elems.map (·.1))[i]?=some bd∧w.cells? base (a.add (i*P.cellsOf e)) (P.cellsOf e)=some csi∧RdL w x csi∧TyM P n e x (μ bd):=fun i hi=>by
              obtain⟨b,hb,hfb⟩:=Go.Lib.mapM_at hel i i (by simp[hi])
              simp only[Option.bind_eq_some_iff] at hfb
              obtain⟨csi,h1,h2⟩:=hfb
              obtain⟨bd,bp⟩:=b
              obtain⟨x,h3,h4⟩:=ih e csi bd bp he h2
              exact⟨csi,x,bd,by rw[List.getElem?_map,hb];rfl,h1,h3,h4⟩
            obtain⟨cs0,_,_,_,hc0,_,_⟩:=el 0 (by omega)
            have ha0:a.add (0*P.cellsOf e)=a:=by simp[Addr.add]
            rw[ha0] at hc0
            obtain⟨hspot,C,ty,fz,hC,_,_⟩:=cells_at hc0 hc
            have row:∀ i,i<len→∃ x bd,(elems.map (·.1))[i]?=some bd∧RdL w x ((C.toList.drop (a.off+i*P.cellsOf e)).take (P.cellsOf e))∧TyM P n e x (μ bd)∧x.length=P.cellsOf e∧a.off+i*P.cellsOf e+P.cellsOf e≤C.size:=fun i hi=>by
              obtain⟨csi,x,bd,h0,h1,h2,h3⟩:=el i hi
              obtain⟨_,C',ty',fz',hC',hsz,hcs⟩:=cells_at h1 hc
              have hb:(a.add (i*P.cellsOf e)).block=a.block:=by unfold Addr.add;split<;>rfl
              have ho:(a.add (i*P.cellsOf e)).off=a.off+i*P.cellsOf e:=by unfold Addr.add;split<;>simp_all
              rw[hb,hC] at hC'
              cases hC'
              rw[ho] at hcs hsz
              subst hcs
              refine⟨x,bd,h0,h2,h3,?_,hsz⟩
              rw[RdL_len h2]
              simp only[List.length_take,List.length_drop,Array.length_toList]
              omega
            have:∃ es:List (List AVal×Nat),es.length=len∧∀(i:Nat) x,es[i]?=some x→RdL w x.1 ((C.toList.drop (a.off+i*P.cellsOf e)).take (P.cellsOf e))∧TyM P n e x.1 x.2∧x.1.length=P.cellsOf e∧∃ bd,(elems.map (·.1))[i]?=some bd∧x.2=μ bd:=by
              clear hlen hel hB hlc hrest h
              clear el
              have key:∀ m,m≤len→∃ es:List (List AVal×Nat),es.length=m∧∀(i:Nat) x,es[i]?=some x→RdL w x.1 ((C.toList.drop (a.off+i*P.cellsOf e)).take (P.cellsOf e))∧TyM P n e x.1 x.2∧x.1.length=P.cellsOf e∧∃ bd,(elems.map (·.1))[i]?=some bd∧x.2=μ bd:=by
                intro m
                induction m with
                | zero=>intro _;exact⟨[],rfl,fun i x hx=>by simp at hx⟩
                | succ m ihm =>
                  intro hm
                  obtain⟨es,h1,h2⟩:=ihm (by omega)
                  obtain⟨x,bd,g0,g1,g2,g3,_⟩:=row m (by omega)
                  refine⟨es++[(x,μ bd)],by simp[h1],fun i y hy=>?_⟩
                  by_cases hi:i<es.length
                  · rw[List.getElem?_append_left hi] at hy;exact h2 i y hy
                  · rw[List.getElem?_append_right (by omega)] at hy
                    have hi0:i-es.length=0:=by
                      rcases Nat.eq_zero_or_pos (i-es.length) with h|h
                      · exact h
                      · rw[List.getElem?_eq_none (by simp;omega)] at hy;cases hy
                    rw[hi0] at hy
                    simp at hy
                    subst hy
                    have:i=m:=by omega
                    subst this
                    exact⟨g1,g2,g3,bd,g0,rfl⟩
              exact key len (Nat.le_refl _)
            obtain⟨es,hes,hall2⟩:=this
            refine⟨[.fs false false len (es.map (·.1)).flatten],RdL_one ?_,es,by rw[hes],?_,?_⟩
            · simp only[Rd]
              have hfl:=flat_rd (w:=w) (c:=P.cellsOf e) C.toList (es.map (·.1)) a.off (fun i x hx=>by
                rw[List.getElem?_map] at hx
                obtain⟨y,hy,rfl⟩:=Option.map_eq_some_iff.1 hx
                exact⟨(hall2 i y hy).1,(hall2 i y hy).2.2.1⟩)
              rw[List.length_map] at hfl
              obtain⟨xl,_,_,_,_,_,hsz⟩:=row (len-1) (by omega)
              have hsz2:a.off+len*P.cellsOf e≤C.size:=by
                have:len*P.cellsOf e=(len-1)*P.cellsOf e+P.cellsOf e:=by
                  conv=>lhs;rw[show len=(len-1)+1 by omega,Nat.add_mul,Nat.one_mul]
                omega
              refine⟨trivial,trivial,.inr ⟨by omega,a.block,a.off,cap,P.cellsOf e,C,ty,fz,?_,hlc,hC,?_,hsz2,?_⟩⟩
              · obtain⟨ab,ao,asp⟩:=a;cases hspot;rfl
              · rw[RdL_len hfl,hes,List.length_take,List.length_drop];have:C.toList.length=C.size:=rfl;omega
              · rw[hes] at hfl;exact hfl
            · have hs:es.map (·.2)=(elems.map (·.1)).map μ:=by
                apply List.ext_getElem?
                intro i
                rw[List.getElem?_map,List.getElem?_map]
                rcases Nat.lt_or_ge i len with hi|hi
                · obtain⟨x,hx⟩:=List.getElem?_eq_some_iff.2 ⟨by omega,rfl⟩ |> fun h=>(⟨es[i]'(by omega),h⟩:∃ x,es[i]?=some x)
                  obtain⟨bd,h1,h2⟩:=(hall2 i x hx).2.2.2
                  rw[hx,h1]
                  simp[h2]
                · rw[List.getElem?_eq_none (by omega),List.getElem?_eq_none (by simp;omega)];rfl
              rw[hs]
              exact hB _
            · intro x hx
              obtain⟨i,hi⟩:=List.getElem?_of_mem hx
              exact⟨(hall2 i x hi).2.1,(hall2 i x hi).2.2.1⟩
      case struct fs =>
        simp only[Bool.and_eq_true,List.all_eq_true,List.contains_iff_mem] at hok
        obtain⟨hl,ys,hm,rfl⟩:=step_struct hu h
        obtain⟨xs,h1,h2,h3,h4⟩:=tile_rdM ih fs.toList 0 (P.cellsOf t) ys hok.1 hok.2 hl hm (tile_le _ _ _ hok.1).2
        exact⟨(xs.map (·.1)).flatten,by simpa using h1,xs,rfl,h2,by rw[h3];exact hsm.ag _,h4⟩
end
def TyVM(P:Program)(n:Nat)(t:TypeId)(x:AVal)(m:Nat):Prop:=∃ l,TyM P n t l m∧(match P.underlying t with
 | some (.struct _)=>x=.ag l
 | _=>l=[x])
section
variable {H:Type} {enc:TypeId×Value→H} {P:Program} {W W':World}
theorem arg_rdM{ts:List TypeId}(hts:ts.all (okTy P ts)=true){μ:DataW H→Nat}(hsm:Meas μ){t:TypeId}(ht:t∈ts){base:Nat}{v:Value}(hv:Value.okWide P W .any base t v){d:DataW H}{p:List MemPlace}
    (h:DataW.Trod enc P W 0 (fun _=>true) true t v d p):∃ n x,RdV W x v∧TyVM P n t x (μ d):=by
  obtain⟨n,hn⟩:=h
  obtain⟨l,h1,h2⟩:=trod_rdM hts hsm (fun _=>rfl) n t _ d p ht hn
  have hok:=List.all_eq_true.1 hts t ht
  unfold okTy at hok
  cases n with
  | zero=>simp[TyM] at h2
  | succ n =>
    have h2':=h2
    unfold TyM at h2
    unfold Value.okWide at hv
    cases hu:P.underlying t with
    | none=>rw[hu] at hok;cases hok
    | some T =>
      rw[hu] at hok h2 hv
      have leaf:∀ x,l=[x]→(∀ cs,v≠.agg cs)→(∀ l,x≠.ag l)→(match some T with|some (.struct _)=>x=.ag l|_=>l=[x])→∃ n x,RdV W x v∧TyVM P n t x (μ d):=by
        intro x hx hna hxa hm
        subst hx
        have:v.cells.toList=[v]:=by cases v<;>first|rfl|exact(hna _ rfl).elim
        rw[this] at h1
        simp only[RdL] at h1
        obtain⟨v',r,he,hr,_⟩:=h1
        cases he
        refine⟨n+1,x,?_,[x],h2',by rw[hu];exact hm⟩
        cases x<;>first|exact hr|exact(hxa _ rfl).elim
      cases T<;>simp only at hok<;>try (cases hok;done)
      case bool =>
        obtain⟨b,rfl⟩:=h2
        refine leaf _ rfl (fun cs e=>?_) (fun l e=>by cases e) rfl
        subst e
        simp[Cell.okWide,Cell.ok,hu] at hv
      case int k =>
        obtain⟨i,rfl,_⟩:=h2
        refine leaf _ rfl (fun cs e=>?_) (fun l e=>by cases e) rfl
        subst e
        simp[Cell.okWide,Cell.ok,hu] at hv
      case string =>
        obtain⟨s,rfl,_⟩:=h2
        refine leaf _ rfl (fun cs e=>?_) (fun l e=>by cases e) rfl
        subst e
        simp[Cell.okWide,Cell.ok,hu] at hv
      case slice e =>
        obtain⟨es,rfl,_⟩:=h2
        refine leaf _ rfl (fun cs e=>?_) (fun l e=>by cases e) rfl
        subst e
        simp[Cell.okWide,Cell.ok,hu] at hv
      case struct fs =>
        obtain⟨cs,rfl,_⟩:=hv
        exact⟨n+1,.ag l,⟨cs,rfl,h1⟩,l,h2',by rw[hu]⟩
end
end Go.RI
namespace Go.RI
open Go
structure PceTys (P:Program) (tI tS tV tLV tLS tO tLO tSt tLSt tP:TypeId):Prop where
 i:P.underlying tI=some (.int .i64)
 s:P.underlying tS=some .string
 v:∃ fs,P.underlying tV=some (.struct fs)∧fs.toList.map (·.type)=[tI,tI,tS,tLV,tLS]
 lv:P.underlying tLV=some (.slice tV)
 ls:P.underlying tLS=some (.slice tS)
 o:∃ fs,P.underlying tO=some (.struct fs)∧fs.toList.map (·.type)=[tI,tI,tV]
 lo:P.underlying tLO=some (.slice tO)
 st:∃ fs,P.underlying tSt=some (.struct fs)∧fs.toList.map (·.type)=[tI,tI,tLO,tS,tLS]
 lst:P.underlying tLSt=some (.slice tSt)
 p:∃ fs,P.underlying tP=some (.struct fs)∧fs.toList.map (·.type)=[tI,tI,tI,tI,tLSt,tLO,tI,tI,tO,tI]
section
variable {P:Program}
theorem tyM_int{t:TypeId}{n m:Nat}{l:List AVal}(hu:P.underlying t=some (.int .i64))(h:TyM P n t l m):∃ i,l=[.i .i64 i]:=by
 cases n with
 | zero=>cases h
 | succ n=>unfold TyM at h;rw[hu] at h;obtain⟨i,h1,_⟩:=h;exact⟨i,h1⟩
theorem tyM_str{t:TypeId}{n m:Nat}{l:List AVal}(hu:P.underlying t=some .string)(h:TyM P n t l m):∃ s:Str,l=Enc.cells s∧1+s.length≤m:=by
 cases n with
 | zero=>cases h
 | succ n=>unfold TyM at h;rw[hu] at h;obtain⟨s,h1,h2⟩:=h;exact⟨s,h1,by omega⟩
theorem tyM_slice{t e:TypeId}{n m:Nat}{l:List AVal}(hu:P.underlying t=some (.slice e)){α:Type}[Enc α](μ:α→Nat)(hx:∀ n x m,TyM P n e x m→∃ a:α,x=Enc.cells a∧μ a≤m)(h:TyM P n t l m):∃ bs:List α,l=[.fs false false bs.length (encs bs)]∧(bs.map μ).sum+1≤m:=by
  cases n with
  | zero=>cases h
  | succ n =>
    unfold TyM at h
    rw[hu] at h
    obtain⟨es,rfl,h1,h2⟩:=h
    have:∃ bs:List α,bs.length=es.length∧(es.map (·.1)).flatten=encs bs∧(bs.map μ).sum≤(es.map (·.2)).sum:=by
      clear h1
      induction es with
      | nil=>exact⟨[],rfl,rfl,Nat.le_refl _⟩
      | cons x es ih =>
        obtain⟨bs,g1,g2,g3⟩:=ih fun y hy=>h2 y (List.mem_cons_of_mem _ hy)
        obtain⟨a,g4,g5⟩:=hx _ _ _ (h2 x (List.mem_cons_self ..)).1
        exact⟨a::bs,by simp[g1],by simp[g2,g4],by simp only[List.map_cons,List.sum_cons];omega⟩
    obtain⟨bs,g1,g2,g3⟩:=this
    exact⟨bs,by rw[g1,g2],by omega⟩
theorem tyM_struct{t:TypeId}{n m:Nat}{l:List AVal}{ts:List TypeId}(hu:∃ fs,P.underlying t=some (.struct fs)∧fs.toList.map (·.type)=ts)(h:TyM P (n+1) t l m) :
  ∃ xs:List (List AVal×Nat),l=(xs.map (·.1)).flatten∧xs.length=ts.length∧(xs.map (·.2)).sum+1≤m∧∀(i:Nat) t x,ts[i]?=some t→xs[i]?=some x→TyM P n t x.1 x.2:=by
 obtain⟨fs,hu,rfl⟩:=hu
 unfold TyM at h
 rw[hu] at h
 obtain⟨xs,h1,h2,h3,h4⟩:=h
 refine⟨xs,h1,by simpa using h2,h3,fun i t x ht hx=>?_⟩
 rw[List.getElem?_map] at ht
 obtain⟨f,hf,rfl⟩:=Option.map_eq_some_iff.1 ht
 exact(h4 i f x hf hx).1
theorem sum_bulkS:∀ l:List Str,(l.map fun s=>1+s.length).sum=bulkS l
 | []=>rfl
 | s::l=>by simp only[List.map_cons,List.sum_cons,bulkS];rw[sum_bulkS l]
theorem sum_bulkL:∀ l:List Val,(l.map Val.bulk).sum=bulkL l
 | []=>rfl
 | v::l=>by simp only[List.map_cons,List.sum_cons,bulkL];rw[sum_bulkL l]
theorem list3{α:Type}{l:List α}(h:l.length=3):∃ a b c,l=[a,b,c]:=by
 match l,h with
 | [a,b,c],_=>exact⟨a,b,c,rfl⟩
theorem list5{α:Type}{l:List α}(h:l.length=5):∃ a b c d e,l=[a,b,c,d,e]:=by
 match l,h with
 | [a,b,c,d,e],_=>exact⟨a,b,c,d,e,rfl⟩
theorem list10{α:Type}{l:List α}(h:l.length=10):∃ a b c d e f g i j k,l=[a,b,c,d,e,f,g,i,j,k]:=by
 match l,h with
 | [a,b,c,d,e,f,g,i,j,k],_=>exact⟨a,b,c,d,e,f,g,i,j,k,rfl⟩
variable {tI tS tV tLV tLS tO tLO tSt tLSt tP:TypeId}
theorem tyM_strs(K:PceTys P tI tS tV tLV tLS tO tLO tSt tLSt tP){n m:Nat}{l:List AVal}(h:TyM P n tLS l m):∃ ns:List Str,l=[.fs false false ns.length (encs ns)]∧bulkS ns+1≤m:=by
 obtain⟨ns,h1,h2⟩:=tyM_slice K.ls (fun s:Str=>1+s.length) (fun n x m hx=>tyM_str K.s hx) h
 exact⟨ns,h1,by rw[←sum_bulkS];exact h2⟩
theorem tyM_val(K:PceTys P tI tS tV tLV tLS tO tLO tSt tLSt tP):∀(n m:Nat) (l:List AVal),TyM P n tV l m→∃ v:Val,l=Enc.cells v∧v.bulk≤m:=by
  intro n
  induction n using Nat.strongRecOn with
  | _ n ih =>
    intro m l h
    cases n with
    | zero=>cases h
    | succ n =>
      obtain⟨xs,rfl,h1,h2,h3⟩:=tyM_struct K.v h
      obtain⟨x0,x1,x2,x3,x4,rfl⟩:=list5 h1
      obtain⟨k,e0⟩:=tyM_int K.i (h3 0 tI x0 rfl rfl)
      obtain⟨i,e1⟩:=tyM_int K.i (h3 1 tI x1 rfl rfl)
      obtain⟨s,e2,b2⟩:=tyM_str K.s (h3 2 tS x2 rfl rfl)
      have h4:=h3 3 tLV x3 rfl rfl
      obtain⟨ns,e4,b4⟩:=tyM_strs K (h3 4 tLS x4 rfl rfl)
      have:∃ vs:List Val,x3.1=[.fs false false vs.length (encs vs)]∧(vs.map Val.bulk).sum+1≤x3.2:=by
        cases n with
        | zero=>cases h4
        | succ n =>
          unfold TyM at h4
          rw[K.lv] at h4
          obtain⟨es,g0,g1,g2⟩:=h4
          have:∃ bs:List Val,bs.length=es.length∧(es.map (·.1)).flatten=encs bs∧(bs.map Val.bulk).sum≤(es.map (·.2)).sum:=by
            clear g0 g1
            induction es with
            | nil=>exact⟨[],rfl,rfl,Nat.le_refl _⟩
            | cons x es ihe =>
              obtain⟨bs,f1,f2,f3⟩:=ihe fun y hy=>g2 y (List.mem_cons_of_mem _ hy)
              obtain⟨a,f4,f5⟩:=ih n (by omega) _ _ (g2 x (List.mem_cons_self ..)).1
              exact⟨a::bs,by simp[f1],by rw[List.map_cons,List.flatten_cons,f2,f4,encs_cons],by simp only[List.map_cons,List.sum_cons];omega⟩
          obtain⟨bs,f1,f2,f3⟩:=this
          exact⟨bs,by rw[g0,f1,f2],by omega⟩
      obtain⟨vs,e3,b3⟩:=this
      refine⟨.mk k i s vs ns,?_,?_⟩
      · simp only[List.map_cons,List.map_nil,List.flatten_cons,List.flatten_nil,e0,e1,e2,e3,e4,cells_val,cells_str]
        rfl
      · rw[sum_bulkL] at b3
        simp only[List.map_cons,List.map_nil,List.sum_cons,List.sum_nil] at h2
        simp only[Val.bulk]
        omega
def opnB(o:Opn):Nat:=1+o.v.bulk
def stpB(i:Stp):Nat:=(i.l.map opnB).sum+i.s.length+bulkS i.names+1
theorem tyM_opn(K:PceTys P tI tS tV tLV tLS tO tLO tSt tLSt tP)(n:Nat)(l:List AVal)(m:Nat)(h:TyM P n tO l m):∃ o:Opn,l=Enc.cells o∧1+o.v.bulk≤m:=by
  cases n with
  | zero=>cases h
  | succ n =>
    obtain⟨xs,rfl,h1,h2,h3⟩:=tyM_struct K.o h
    obtain⟨x0,x1,x2,rfl⟩:=list3 h1
    obtain⟨k,e0⟩:=tyM_int K.i (h3 0 tI x0 rfl rfl)
    obtain⟨i,e1⟩:=tyM_int K.i (h3 1 tI x1 rfl rfl)
    obtain⟨v,e2,b2⟩:=tyM_val K _ _ _ (h3 2 tV x2 rfl rfl)
    refine⟨⟨k,i,v⟩,?_,?_⟩
    · simp only[List.map_cons,List.map_nil,List.flatten_cons,List.flatten_nil,e0,e1,e2,cells_opn,cells_val]
      rfl
    · simp only[List.map_cons,List.map_nil,List.sum_cons,List.sum_nil] at h2
      show 1+v.bulk≤m
      omega
theorem sum_len{α:Type}(μ:α→Nat)(hp:∀ a,1≤μ a):∀ l:List α,l.length≤(l.map μ).sum
 | []=>Nat.le_refl _
 | a::l=>by have:=sum_len μ hp l;have:=hp a;simp only[List.map_cons,List.sum_cons,List.length_cons];omega
theorem sum_mem{α:Type}(μ:α→Nat):∀ {l:List α} {a:α},a∈l→μ a≤(l.map μ).sum
  | b::l,a,h=>by
    simp only[List.map_cons,List.sum_cons]
    rcases List.mem_cons.1 h with rfl|h
    · omega
    · have:=sum_mem μ h;omega
theorem tyM_opns(K:PceTys P tI tS tV tLV tLS tO tLO tSt tLSt tP){n m:Nat}{l:List AVal}(h:TyM P n tLO l m):∃ os:List Opn,l=[.fs false false os.length (encs os)]∧(os.map opnB).sum+1≤m :=
 tyM_slice K.lo opnB (fun n x m hx=>tyM_opn K n x m hx) h
theorem opns_ok{os:List Opn}(h:(os.map opnB).sum<549755813887):os.length<1099511627776∧∀ o∈os,okO o:=by
 refine⟨?_,fun o ho=>?_⟩
 ·have:=sum_len opnB (fun a=>by unfold opnB;omega) os
  omega
 ·have:=sum_mem opnB ho
  unfold okO
  unfold opnB at this h
  omega
theorem tyM_stp(K:PceTys P tI tS tV tLV tLS tO tLO tSt tLSt tP)(n:Nat)(l:List AVal)(m:Nat)(h:TyM P n tSt l m):∃ i:Stp,l=Enc.cells i∧stpB i≤m:=by
  cases n with
  | zero=>cases h
  | succ n =>
    obtain⟨xs,rfl,h1,h2,h3⟩:=tyM_struct K.st h
    obtain⟨x0,x1,x2,x3,x4,rfl⟩:=list5 h1
    simp only[List.map_cons,List.map_nil,List.sum_cons,List.sum_nil] at h2
    obtain⟨k,e0⟩:=tyM_int K.i (h3 0 tI x0 rfl rfl)
    obtain⟨i,e1⟩:=tyM_int K.i (h3 1 tI x1 rfl rfl)
    obtain⟨os,e2,b2⟩:=tyM_opns K (h3 2 tLO x2 rfl rfl)
    obtain⟨s,e3,b3⟩:=tyM_str K.s (h3 3 tS x3 rfl rfl)
    obtain⟨ns,e4,b4⟩:=tyM_strs K (h3 4 tLS x4 rfl rfl)
    refine⟨⟨k,i,os,s,ns⟩,?_,by show(os.map opnB).sum+s.length+bulkS ns+1≤m;omega⟩
    simp only[List.map_cons,List.map_nil,List.flatten_cons,List.flatten_nil,e0,e1,e2,e3,e4,cells_stp,cells_str]
    rfl
theorem stp_ok{i:Stp}(h:stpB i<549755813887):okStp i:=by
 unfold stpB at h
 have:=opns_ok (os:=i.l) (by omega)
 exact⟨by omega,by omega,this.1,this.2⟩
theorem tyM_pce(K:PceTys P tI tS tV tLV tLS tO tLO tSt tLSt tP)(n:Nat)(l:List AVal)(m:Nat)(h:TyM P n tP l m)(hm:m<549755813887):∃ x:Pce,l=Enc.cells x∧okPce x:=by
  cases n with
  | zero=>cases h
  | succ n =>
    obtain⟨xs,rfl,h1,h2,h3⟩:=tyM_struct K.p h
    obtain⟨x0,x1,x2,x3,x4,x5,x6,x7,x8,x9,rfl⟩:=list10 h1
    simp only[List.map_cons,List.map_nil,List.sum_cons,List.sum_nil] at h2
    obtain⟨a0,e0⟩:=tyM_int K.i (h3 0 tI x0 rfl rfl)
    obtain⟨a1,e1⟩:=tyM_int K.i (h3 1 tI x1 rfl rfl)
    obtain⟨a2,e2⟩:=tyM_int K.i (h3 2 tI x2 rfl rfl)
    obtain⟨a3,e3⟩:=tyM_int K.i (h3 3 tI x3 rfl rfl)
    obtain⟨ss,e4,b4⟩:=tyM_slice K.lst stpB (fun n x m hx=>tyM_stp K n x m hx) (h3 4 tLSt x4 rfl rfl)
    obtain⟨os,e5,b5⟩:=tyM_opns K (h3 5 tLO x5 rfl rfl)
    obtain⟨a6,e6⟩:=tyM_int K.i (h3 6 tI x6 rfl rfl)
    obtain⟨a7,e7⟩:=tyM_int K.i (h3 7 tI x7 rfl rfl)
    obtain⟨o,e8,b8⟩:=tyM_opn K _ _ _ (h3 8 tO x8 rfl rfl)
    obtain⟨a9,e9⟩:=tyM_int K.i (h3 9 tI x9 rfl rfl)
    have hs:=opns_ok (os:=os) (by omega)
    refine⟨⟨a0,a1,a2,a3,ss,os,a6,a7,o,a9⟩,?_,fun i hi=>stp_ok ?_,?_,hs.1,hs.2,?_⟩
    · simp only[List.map_cons,List.map_nil,List.flatten_cons,List.flatten_nil,e0,e1,e2,e3,e4,e5,e6,e7,e8,e9,cells_pce,cells_opn]
      rfl
    · have:=sum_mem stpB hi
      simp only at this
      omega
    · have:=sum_len stpB (fun a=>by unfold stpB;omega) ss
      show ss.length<_
      omega
    · show o.v.bulk<_
      omega
end
end Go.RI
