import Derived.Test.YtllfklgliaoojaaM10
import Derived.Test.YtllfklgliaoojaaM09
import Derived.Test.YtllfklgliaoojaaM08
import Derived.Test.YtllfklgliaoojaaM07
import Derived.Test.YtllfklgliaoojaaM05
import Derived.ProofKit
set_option linter.unusedVariables false
set_option linter.unusedSimpArgs false
set_option linter.unusedSectionVars false
/- What the loop of verify.function brings. Conditions: none. -/
namespace Go.Proofs.Ytllfklgliaoojaa
open Go Go.RI
def VI(code:List Ins3)(pl:List Plc)(lf:List Int)(odd:Bool):Prop:=(lf=[]∧odd=true)∨(odd=false∧KnownL code pl lf∧∀ p∈pl,p.tries.length≤8)
theorem looki_left{lo b r n:Nat}{pl:List Plc}{l0:List Int}{k:Int}{odd:Bool}{id:Nat}{cs:List AVal}{H:AHeap}(h:LookI lo b r n pl (l0++[k]) odd (.sl id 0 (l0.length+1) none) cs H):LookI lo b r n pl l0 odd (.sl id 0 l0.length none) cs (H.put b (some (.cells [.sl r 0 n (some n),.sl id 0 l0.length none,.b odd] 1 false))):=by
 obtain⟨gB,gR,len,nx,⟨lt1,lt2,lt3⟩,plc,lft⟩:=h
 have hid:=lf_lt lft id _ _ rfl
 have hL:Lf H lo (.sl id 0 l0.length none) l0:=by
  rcases lft with⟨h,_⟩|⟨id0,c,h1,h2,h3,h4,h5,h6⟩
  ·cases h
  ·have e0:id0=id:=by simp at h1;exact h1.symm
   subst e0
   refine .inr ⟨_,c,rfl,h2,h3,h4,by simp at h5;omega,?_⟩
   have e1:c.take l0.length=(c.take (l0++[k]).length).take l0.length:=by rw[List.take_take,Nat.min_eq_left (by simp)]
   rw[e1,h6,encs_append,List.take_append_of_le_length (by simp),List.take_of_length_le (by simp)]
 exact{ gB:=by simp,gR:=by simp -implicitDefEqProofs [show ¬ r=b by omega];exact gR,len:=len,nx:=by simpa using nx,lt:=⟨lt1,lt2,lt3⟩,plc:=plcs_keep (by simp) (fun i h1 h2=>⟨by simp -implicitDefEqProofs [show ¬ i=b by have:=h1.1;omega],h1.1,fun j m c h=>by cases h;exact h1.2 _ _ _ rfl⟩) _ _ plc,lft:=lf_keep hL (by simp) fun i m c h=>by cases h;simp -implicitDefEqProofs [show ¬ id=b by omega]}
def GoI(P:Prg)(f:Fnc)(t1 t2 t3:Bool)(k:Nat)(H:AHeap):Prop:=∃ pl lf odd lv cs,LookI 5 4 3 f.code.length pl lf odd lv cs H∧VI f.code pl lf odd∧2*dark pl+lf.length=k∧k≤2*f.code.length∧H.get 1=some (.cells [.fs t1 false P.funcs.length (encs P.funcs),.fs t2 false P.consts.length (encs P.consts)] 1 false)∧H.get 2=some (.cells [.s f.name,.i .i64 f.args,.i .i64 f.locals,.fs t3 false f.code.length (encs f.code)] 1 false)
section
variable {G:AHeap} (hG:G.next=1)
include hG
set_option maxHeartbeats 1000000 in
theorem t_vgo(P:Prg)(f:Fnc)(hf:f.code.length<100000)(hA:∀ x∈f.code,x.op=24∨x.op=25∨x.op=26→0≤x.a)(t1 t2 t3:Bool)(Q:Post)
    (hQ1:∀ pl odd lv cs H,LookI 5 4 3 f.code.length pl [] odd lv cs H→VI f.code pl [] odd→Q (.exit 0) [(2,.p 1 0),(3,.p 2 0),(6,.p 4 0),(22,.b false)] H)
    (hQ2:∀ pl lf lv cs H,LookI 5 4 3 f.code.length pl lf true lv cs H→Q (.exit 0) [(2,.p 1 0),(3,.p 2 0),(6,.p 4 0),(61,.b true)] H)
    {pl:List Plc} {lf:List Int} {odd:Bool} {lv:AVal} {cs:List AVal} {H:AHeap} (hI:LookI 5 4 3 f.code.length pl lf odd lv cs H) (hV:VI f.code pl lf odd) (hm:2*dark pl+lf.length≤2*f.code.length) (g0:H.get 1=some (.cells [.fs t1 false P.funcs.length (encs P.funcs),.fs t2 false P.consts.length (encs P.consts)] 1 false)) (g1:H.get 2=some (.cells [.s f.name,.i .i64 f.args,.i .i64 f.locals,.fs t3 false f.code.length (encs f.code)] 1 false)) :
    wp (theCalls IP G 1) 1 (.loop L16a) Q [(2,.p 1 0),(3,.p 2 0),(6,.p 4 0)] H:=by
  refine wp_loop_inv (fun k e H=>e=[(2,.p 1 0),(3,.p 2 0),(6,.p 4 0)]∧GoI P f t1 t2 t3 k H) ?_ (2*dark pl+lf.length) _ _ ⟨rfl,pl,lf,odd,lv,cs,hI,hV,rfl,hm,g0,g1⟩
  clear hI hV hm g0 g1
  rintro k e H ⟨rfl,pl,lf,odd,lv,cs,hI,hV,hk,hk2,g0,g1⟩
  have gB:=hI.gB
  have htl:=lf_len hI.lft
  by_cases h0:lf=[]
  · subst h0
    simp at htl
    simp -implicitDefEqProofs [L16a,gB,htl]
    exact hQ1 pl odd lv cs H hI hV
  rcases hV with⟨h,_⟩|⟨rfl,hK,hp⟩
  · exact absurd h h0
  obtain⟨l0,k0,rfl⟩:∃ l0 k0,lf=l0++[k0]:=⟨lf.dropLast,lf.getLast h0,(List.dropLast_concat_getLast h0).symm⟩
  obtain⟨a,rfl,hr⟩:=hK.left k0 (by simp)
  have han:a<f.code.length:=by rw[←hK.len];exact rch_lt hr
  obtain⟨x,hx⟩:=get_of_lt han
  rcases hI.lft with⟨_,h⟩|⟨id,c,rfl,k1,k2,k3,k4,k5⟩
  · exact absurd h h0
  simp at hI k4 k5 hk gB
  have w2:wrapI .i64 (l0.length:Int)=l0.length:=wrap_ok (by omega) (by omega)
  have hc:c[l0.length]?=some (.i .i64 a):=by
    rw[←List.getElem?_take_of_lt (show l0.length<l0.length+1 by omega),k5]
    simp
  have nb:¬ id=4:=by omega
  have hI1:=looki_left hI
  have sq:slqR 1 H (some (.sl id 0 (l0.length+1) none)) (some none) (some (some l0.length)) (some none)=some (some (.sl id 0 l0.length none),H):=by simp -implicitDefEqProofs [slqR,slV,k3,show l0.length≤c.length by omega]
  have ia:iaddrV 1 (.sl id 0 (l0.length+1) none) (.i .i64 l0.length)=some (.p id l0.length):=by simp -implicitDefEqProofs [iaddrV];omega
  obtain⟨v,H2,c2,rfl,pl',lf',odd',lv',cs',hI2,s1,s2,s3,s4⟩:=t_vstep hG hI1 (c0:=1) ⟨by omega,by omega,by omega⟩ hf (by omega) hp P t1 t2 x a han (hA x (List.mem_of_getElem? hx))
  have gB2:=hI2.gB
  have han2:(a:Int)<(f.code.length:Int):=by omega
  simp at c2
  simp -implicitDefEqProofs [L16a,gB,g0,g1,k3,hc,ia,sq,w2,nb,han2,hx,c2,gB2]
  cases odd' with
  | true =>
    simp
    exact hQ2 pl' lf' lv' cs' H2 hI2
  | false =>
    obtain⟨_,s5,s6⟩:=s1 rfl
    have s7:=all_dark s5
    simp
    refine⟨2*dark pl'+lf'.length,by omega,pl',lf',false,lv',cs',hI2,.inr ⟨rfl,known_step hK hx s5,s6⟩,rfl,by omega,?_,?_⟩
    · exact(s4 1 (by omega) (by omega) (by omega)).trans (by simpa using g0)
    · exact(s4 2 (by omega) (by omega) (by omega)).trans (by simpa using g1)
end
end Go.Proofs.Ytllfklgliaoojaa
namespace Go.RI
open Go
theorem tr_clone{H:AHeap}{P:Nat→Prop}{lo:Nat}{v:AVal}{l:List Hnd}(h:TrS H P v l)(hl:lo≤H.next)(hK:l.length≤1000):∃ v' H',cloneV H 2 16 v=some (v',H')∧H.next≤H'.next∧Hold H' lo v' 2 l.length (encs l)∧(v'.tup=false∧v'.cells=[v'])∧∀ id,id<H.next→H'.get id=H.get id:=by
 by_cases hn:l.length=0
 ·have hk:l=[]:=List.eq_nil_of_length_eq_zero hn
  subst hk
  refine⟨.fs false true 0 [],H,?_,Nat.le_refl _,.inl ⟨.inl rfl,rfl,rfl⟩,⟨rfl,rfl⟩,fun _ _=>rfl⟩
  rcases h with⟨rfl,_⟩|⟨id,c,rfl,_⟩<;>rfl
 ·rcases h with⟨_,rfl⟩|⟨id,c,rfl,h1,h2,h3,h4,h5⟩
  ·simp at hn
  have hr:rowAt H id 0 (l.length*2)=some (encs l):=by simp[rowAt,h3,h4,h5]
  have hm:moreV H 2 (.sl id 0 l.length (some l.length))=some (l.length,encs l):=by
   simp[moreV,hn,hr]
  obtain⟨m,hm2⟩:∃ m,l.length=m+1:=⟨l.length-1,by omega⟩
  refine⟨.sl H.next 0 l.length none,H.push (.cells (encs l) 2 false),?_,by simp,.inr ⟨H.next,none,rfl,.inl rfl,hl,by simp,by simp,by simp⟩,⟨rfl,rfl⟩,fun id hid=>get_push_lt hid⟩
  unfold cloneV
  rw[show isSl (.sl id 0 l.length (some l.length))=true from rfl,hm,hm2]
  simp only
  rw[if_pos (by simp[hm2];omega)]
def PlcH(H:AHeap)(lo:Nat):List AVal→List Plc→Prop
 | cs,[]=>cs=[]
 | cs,p::l=>∃ tv cs',cs=.b p.reached::.i .i64 p.height::tv::cs'∧Hold H lo tv 2 p.tries.length (encs p.tries)∧PlcH H lo cs' l
theorem plch_len{H:AHeap}{lo:Nat}:∀(l:List Plc) (cs:List AVal),PlcH H lo cs l→cs.length=l.length*3
  | [],cs,h=>by subst h;rfl
  | p::l,cs,⟨tv,cs',h,_,h2⟩=>by
    have:=plch_len l cs' h2
    subst h
    simp;omega
theorem plh_lt{H:AHeap}{lo esz n:Nat}{v:AVal}{cells:List AVal}(h:Hold H lo v esz n cells):∀ id c,v=.sl id 0 n c→lo≤id∧id<H.next:=by
 intro id c hv
 rcases h with⟨h|h,_⟩|⟨id0,c0,h,_,h1,h2,_⟩
 ·rw[h] at hv;cases hv
 ·rw[h] at hv;cases hv
 ·rw[h] at hv;cases hv;exact⟨h1,h2⟩
theorem plch_keep{H H':AHeap}{lo:Nat}(hn:H.next≤H'.next)(hk:∀ id,lo≤id→id<H.next→H'.get id=H.get id):∀(l:List Plc) (cs:List AVal),PlcH H lo cs l→PlcH H' lo cs l
 | [],cs,h=>h
 | p::l,cs,⟨tv,cs',h,h1,h3⟩=>⟨tv,cs',h,hold_keep h1 hn (fun id c hv=>hk id (plh_lt h1 id c hv).1 (plh_lt h1 id c hv).2),plch_keep hn hk l cs' h3⟩
theorem plch_snoc{H:AHeap}{lo:Nat}{q:Plc}{tv:AVal}(hq:Hold H lo tv 2 q.tries.length (encs q.tries)):∀(l:List Plc) (cs:List AVal),PlcH H lo cs l→PlcH H lo (cs++[.b q.reached,.i .i64 q.height,tv]) (l++[q])
  | [],cs,h=>by subst h;exact⟨tv,[],rfl,hq,rfl⟩
  | p::l,cs,⟨tv0,cs',h,h1,h3⟩=>by
    subst h
    exact⟨tv0,_,rfl,h1,plch_snoc hq l cs' h3⟩
theorem plch_frz{H:AHeap}{lo k:Nat}:∀(l:List Plc) (cs:List AVal),PlcH H lo cs l→mapO (frzV H lo (k+2)) cs=some (encs l)
  | [],cs,h=>by subst h;rfl
  | p::l,cs,⟨tv,cs',h,h1,h3⟩=>by
    subst h
    have e1:=plch_frz (k:=k) l cs' h3
    have e2:frzV H lo (k+2) tv=some (.fs false false p.tries.length (encs p.tries)):=hold_frz h1 frz_encs
    rw[encs_cons]
    have e3:mapO (frzV H lo (k+2)) [.b p.reached,.i .i64 p.height,tv]=some (Enc.cells p):=by
      have f1:frzV H lo (k+2) (.b p.reached)=some (.b p.reached):=rfl
      have f2:frzV H lo (k+2) (.i .i64 p.height)=some (.i .i64 p.height):=rfl
      simp only[mapO_cons,mapO_nil,e2,f1,f2]
      rfl
    exact mapO_append e3 e1
end Go.RI
namespace Go.Proofs.Ytllfklgliaoojaa
open Go Go.RI
section
variable {G:AHeap} (hG:G.next=1)
include hG
set_option maxHeartbeats 1000000 in
theorem t_vown(pl:List Plc)(hl:pl.length<100000)(hp:∀ p∈pl,p.tries.length≤8)(lv:AVal)(Q:Post)
  (hQ:∀ cs w H,H.get 4=some (.cells [.sl 3 0 pl.length (some pl.length),lv,.b false] 1 false)→H.get 3=some (.cells cs 3 false)→PlcH H 5 cs pl→5≤H.next→Q (.exit 2) [(6,.p 4 0),(70,.i .i64 pl.length),(71,.i .i64 pl.length),(72,w)] H)
  {cs:List AVal} {H:AHeap} (g3:H.get 4=some (.cells [.sl 3 0 pl.length (some pl.length),lv,.b false] 1 false)) (g2:H.get 3=some (.cells cs 3 false)) (hc:Plcs H (fun id=>5≤id) cs pl) (hn:5≤H.next) :
  wp (theCalls IP G 1) 1 (.loop L16b) Q [(6,.p 4 0),(70,.i .i64 pl.length),(71,.i .i64 0)] H:=by
 refine wp_loop_list (l:=pl) (by omega) (fun i todo e H=>e=[(6,.p 4 0),(70,.i .i64 pl.length),(71,.i .i64 i)]∧∃ ch ct,H.get 4=some (.cells [.sl 3 0 pl.length (some pl.length),lv,.b false] 1 false)∧H.get 3=some (.cells (ch++ct) 3 false)∧PlcH H 5 ch (pl.take i)∧Plcs H (fun id=>5≤id) ct (pl.drop i)∧5≤H.next) ?_ ?_ ?_
 ·rintro i p todo e H hx hd hlt hlt2 hlt3 ⟨rfl,ch,ct,g3,g2,hch,hct,hn⟩
  have hi:=lt_of_get hx
  have hdr:pl.drop i=p::pl.drop (i+1):=by rw[List.drop_eq_getElem_cons hi];rw[List.getElem?_eq_getElem hi] at hx;rw[Option.some.inj hx]
  rw[hdr] at hct
  obtain⟨tv,ct',rfl,hT,hct'⟩:=hct
  have lch:=plch_len _ _ hch
  rw[List.length_take,Nat.min_eq_left (by omega)] at lch
  obtain⟨v',H1,c1,n1,hH,⟨o1,o2⟩,f1⟩:=tr_clone (lo:=5) hT hn (by have:=hp p (List.mem_of_getElem? hx);omega)
  have cc:=fun x=>calls_clone (G:=G) (lo:=1) (x:=x) (H:=H) ip33 rfl (esz:=2) (bytes:=16) rfl
  have c2:=(cc tv).trans c1
  have e3:=(f1 4 (by omega)).trans g3
  have e2:=(f1 3 (by omega)).trans g2
  obtain⟨cs0,hcs0⟩:∃ cs0,cs0=ch++AVal.b p.reached::.i .i64 p.height::tv::ct':=⟨_,rfl⟩
  rw[←hcs0] at g2 e2
  have r1:cs0[i*3+2]?=some tv:=by rw[hcs0,List.getElem?_append_right (by omega),lch,show i*3+2-i*3=2 by omega];rfl
  have r2:cs0.set (i*3+2) v'=(ch++[.b p.reached,.i .i64 p.height,v'])++ct':=by
   rw[hcs0,List.set_append_right _ _ (by omega),lch,show i*3+2-i*3=2 by omega]
   simp
  have r3:i*3+2+1≤cs0.length:=by rw[hcs0];simp;omega
  have r4:i*3+2<cs0.length:=by omega
  clear hlt
  simp -implicitDefEqProofs [L16b,hlt2,hlt3,hi,g3,g2,r1,r2,c2,e3,e2,o1,o2]
  rw[if_pos r3]
  simp -implicitDefEqProofs [hlt2,hlt3,e3]
  have hch1:=plch_keep n1 (fun id h1 h2=>f1 id h2) _ _ hch
  have hct1:Plcs H1 (fun id=>5≤id) ct' (pl.drop (i+1)):=plcs_keep n1 (fun id h1 h2=>⟨f1 id h2,h1⟩) _ _ hct'
  refine⟨ch++[.b p.reached,.i .i64 p.height,v'],ct',by simp,?_,?_,by omega⟩
  ·rw[List.take_add_one,hx]
   refine plch_keep (by simp) (fun id h1 h2=>?_) _ _ (plch_snoc hH _ _ hch1)
   simp -implicitDefEqProofs [show ¬ id=3 by omega]
  ·refine plcs_keep (by simp) (fun id h1 h2=>⟨?_,h1⟩) _ _ hct1
   simp -implicitDefEqProofs [show ¬ id=3 by omega]
 ·rintro e H ⟨rfl,ch,ct,g3,g2,hch,hct,hn⟩
  rw[List.drop_length] at hct
  rw[List.take_length] at hch
  have hct:ct=[]:=hct
  subst hct
  simp at g2
  simp -implicitDefEqProofs [L16b]
  exact hQ ch _ H g3 g2 hch hn
 ·exact⟨rfl,[],cs,g3,g2,rfl,hc,hn⟩
end
end Go.Proofs.Ytllfklgliaoojaa
namespace Go.Proofs.Ytllfklgliaoojaa
open Go Go.RI
def IsFun(code:List Ins3)(v:AVal):Prop:=∃(e:Int) (pl:List Plc),v=.tu [.fs false false pl.length (encs pl),.i .i64 e]∧(e=0→Known code pl)
theorem isFun_no{code:List Ins3}{e:Int}(h:e≠0):IsFun code (.tu [.fs false false 0 [],.i .i64 e]):=⟨e,[],rfl,fun h2=>absurd h2 h⟩
theorem dark_rep:∀ n,dark (List.replicate n ⟨false,0,[]⟩)=n
 | 0=>rfl
 | n+1=>by rw[List.replicate_succ,dark,dark_rep n];simp;omega
theorem rch_rep{n i:Nat}:rch (List.replicate n ⟨false,0,[]⟩) i=false:=by
 unfold rch
 by_cases h:i<n
 ·simp -implicitDefEqProofs [h]
 ·simp -implicitDefEqProofs [h]
theorem known_start{code:List Ins3}{pl:List Plc}{lf:List Int}(h:Came (List.replicate code.length ⟨false,0,[]⟩) [] 0 pl lf):KnownL code pl lf:=by
 obtain⟨h1,⟨h2,_⟩|⟨_,p,h3,rfl,rfl⟩⟩:=h
 ·rw[rch_rep] at h2;cases h2
 ·have hr:∀ i,rch ((List.replicate code.length (⟨false,0,[]⟩:Plc)).set 0 p) i=true→i=0:=fun i hi=>by
   rw[rch_set h1] at hi
   by_cases h:i=0
   ·exact h
   ·rw[if_neg h,rch_rep] at hi;cases hi
  have h0:rch ((List.replicate code.length (⟨false,0,[]⟩:Plc)).set 0 p) 0=true:=by rw[rch_set h1,if_pos rfl];exact h3
  exact{ len:=by simp,zero:=h0,left:=fun k hk=>⟨0,by simpa using hk,h0⟩,on:=fun i x hx hi hn=>absurd (by rw[hr i hi];simp) hn,from_:=fun i hi h=>absurd (hr i hi) h }
theorem plch_mono{H:AHeap}{lo lo':Nat}(h:lo'≤lo):∀(l:List Plc) (cs:List AVal),PlcH H lo cs l→PlcH H lo' cs l
  | [],cs,h=>h
  | p::l,cs,⟨tv,cs',h1,h2,h3⟩=>by
    refine⟨tv,cs',h1,?_,plch_mono h l cs' h3⟩
    rcases h2 with h2|⟨id,c,e1,e2,e3,e4⟩
    · exact .inl h2
    · exact .inr ⟨id,c,e1,e2,by omega,e4⟩
section
variable {G:AHeap} (hG:G.next=1)
include hG
set_option maxHeartbeats 1000000 in
theorem t_vfun(P:Prg)(f:Fnc)(hf:f.code.length<100000)(hA:∀ x∈f.code,x.op=24∨x.op=25∨x.op=26→0≤x.a)(t1 t2 t3:Bool) :
    ∃ v,pureR IP G 16 [.ag [.fs t1 false P.funcs.length (encs P.funcs),.fs t2 false P.consts.length (encs P.consts)],.ag [.s f.name,.i .i64 f.args,.i .i64 f.locals,.fs t3 false f.code.length (encs f.code)]]=some v∧IsFun f.code v:=by
  have sz:40*(f.code.length:Int)≤281474976710656:=by omega
  have hn0:(0:Int)≤f.code.length:=by omega
  refine pure_ex ip16 rfl ?_
  simp -implicitDefEqProofs [I16,hG,sz]
  generalize hHH:AHeap.push _ _=H
  have nH:H.next=5:=by rw[←hHH];simp -implicitDefEqProofs [hG]
  have g0:H.get 1=some (.cells [.fs t1 false P.funcs.length (encs P.funcs),.fs t2 false P.consts.length (encs P.consts)] 1 false):=by rw[←hHH];simp -implicitDefEqProofs [hG]
  have g1:H.get 2=some (.cells [.s f.name,.i .i64 f.args,.i .i64 f.locals,.fs t3 false f.code.length (encs f.code)] 1 false):=by rw[←hHH];simp -implicitDefEqProofs [hG]
  have g2:H.get 3=some (.cells (repCells [.b false,.i .i64 0,.ns] f.code.length) 3 false):=by rw[←hHH];simp -implicitDefEqProofs [hG]
  have g3:H.get 4=some (.cells [.sl 3 0 f.code.length (some f.code.length),.ns,.b false] 1 false):=by rw[←hHH];simp -implicitDefEqProofs [hG]
  clear hHH
  have hI:LookI 5 4 3 f.code.length (List.replicate f.code.length ⟨false,0,[]⟩) [] false .ns (repCells [.b false,.i .i64 0,.ns] f.code.length) H:={ gB:=g3,gR:=g2,len:=by simp,nx:=by omega,lt:=⟨by omega,by omega,by omega⟩,plc:=plcs_rep _,lft:=.inl ⟨rfl,rfl⟩}
  obtain⟨v,H1,c1,rfl,pl,lf,odd,lv,cs,hI1,s1,s2,s3,s4,s5,s6,s7⟩:=t_come hG hI (c0:=1) ⟨by omega,by omega,by omega⟩ hf (by simp) 0 (by omega) 0 .ns [] (.inl ⟨rfl,rfl⟩) (by simp) fun p hp=>by rw[(List.mem_replicate.1 hp).2];simp
  have e0:=(s4 1 (by omega) (by omega) (by omega) (by simp)).trans g0
  have e1:=(s4 2 (by omega) (by omega) (by omega) (by simp)).trans g1
  have hV:VI f.code pl lf odd:=by
    cases odd with
    | true=>exact .inl ⟨(s7 rfl rfl).1,rfl⟩
    | false =>
      refine .inr ⟨rfl,known_start (s1 rfl).2,fun p hp=>?_⟩
      rcases s6 p hp with h|h
      · rw[(List.mem_replicate.1 h).2];simp
      · rw[h];simp
  have hm:2*dark pl+lf.length≤2*f.code.length:=by
    cases odd with
    | true =>
      obtain⟨rfl,rfl⟩:=s7 rfl rfl
      rw[dark_rep]
      simp
    | false =>
      have:=came_dark (s1 rfl).2
      rw[dark_rep] at this
      simpa using this
  simp -implicitDefEqProofs [c1]
  refine t_vgo hG P f hf hA t1 t2 t3 _ ?_ ?_ hI1 hV hm e0 e1
  · intro pl odd lv cs H hI hV
    have gB:=hI.gB
    rcases hV with⟨_,rfl⟩|⟨rfl,hK,hp⟩
    · simp -implicitDefEqProofs [gB]
      exact isFun_no (by decide)
    · have hkn:=known_of hK hA
      have len:=hI.len
      simp -implicitDefEqProofs [gB]
      have hpos:¬ f.code.length=0:=by have:=rch_lt hkn.zero;omega
      rw[←len] at gB ⊢
      refine t_vown hG pl (by omega) hp lv _ ?_ gB hI.gR (plcs_keep (Nat.le_refl _) (fun id h1 h2=>⟨rfl,h1.1⟩) _ _ hI.plc) hI.nx
      intro cs w H g3 g2 hc hn
      have e4:frzV H 1 15 (.sl 3 0 pl.length (some pl.length))=some (.fs false false pl.length (encs pl)):=frz_lit (by omega) (by omega) g2 (plch_len _ _ hc) (by simp) (plch_frz _ _ (plch_mono (by omega) _ _ hc))
      simp -implicitDefEqProofs [g3]
      rw[e4]
      exact⟨_,⟨_,rfl,rfl⟩,0,pl,rfl,fun _=>hkn⟩
  · intro pl lf lv cs H hI
    have gB:=hI.gB
    simp -implicitDefEqProofs [gB]
    exact isFun_no (by decide)
end
end Go.Proofs.Ytllfklgliaoojaa
namespace Go.Proofs.Ytllfklgliaoojaa
open Go Go.RI
def IsVF(P:Prg)(k:Int)(v:AVal):Prop:=∃(e:Int) (pl:List Plc),v=.tu [.fs false false pl.length (encs pl),.i .i64 e]∧(e=0→CodeOk P∧0≤k∧∃ f,P.funcs[k.toNat]?=some f∧Known f.code pl)
theorem isVF_no{P:Prg}{k e:Int}(h:e≠0):IsVF P k (.tu [.fs false false 0 [],.i .i64 e]):=⟨e,[],rfl,fun h2=>absurd h2 h⟩
section
variable {G:AHeap} (hG:G.next=1)
include hG
set_option maxHeartbeats 1000000 in
theorem t_vFunc(P:Prg)(hP:okPrg P)(k:Int)(t1 t2:Bool):∃ v,pureR IP G 7 [.ag (pcells P t1 t2),.i .i64 k]=some v∧IsVF P k v:=by
 obtain⟨v,c1,e,rfl,hk⟩:=t_ncheck hG P hP t1 t2
 simp only[pcells] at c1
 have hx1:G.next=1:=hG
 by_cases he:e=0
 rotate_left
 ·refine pure_ex ip7 rfl ?_
  simp -implicitDefEqProofs [I7,pcells,hG,c1,he]
  exact isVF_no he
 subst he
 have hC:=hk rfl
 by_cases k1:k<0
 ·refine pure_ex ip7 rfl ?_
  simp -implicitDefEqProofs [I7,pcells,hG,c1,k1]
  exact isVF_no (by decide)
 obtain⟨m,rfl⟩:∃ m:Nat,k=m:=⟨k.toNat,by omega⟩
 by_cases k2:(m:Int)<P.funcs.length
 rotate_left
 ·have k3:(P.funcs.length:Int)≤m:=by omega
  have k4:P.funcs.length≤m:=by omega
  refine pure_ex ip7 rfl ?_
  simp -implicitDefEqProofs [I7,pcells,hG,c1,k1,k2,k3,k4]
  exact isVF_no (by decide)
 obtain⟨f,hf⟩:=get_of_lt (l:=P.funcs) (i:=m) (by omega)
 obtain⟨w1,w2,w3⟩:=hC f (List.mem_of_getElem? hf)
 obtain⟨v,c2,e,pl,rfl,hE⟩:=t_vfun hG P f (by omega) w3 t1 t2 false
 have k3:¬(P.funcs.length:Int)≤m:=by omega
 have k4:¬ P.funcs.length≤m:=by omega
 have fin_:IsVF P m (.tu [.fs false false pl.length (encs pl),.i .i64 e]):=⟨e,pl,rfl,fun h=>⟨hC,by omega,f,by simpa using hf,hE h⟩⟩
 refine pure_ex ip7 rfl ?_
 simp -implicitDefEqProofs [I7,pcells,hG,c1,k1,k2,k3,hf,c2]
 exact fin_
end
end Go.Proofs.Ytllfklgliaoojaa
namespace Go.Proofs.Ytllfklgliaoojaa
open Go Go.RI
def BegI(code:List Ins3)(pl:List Plc)(h:Nat)(H0:AHeap)(i:Nat)(H:AHeap):Prop:=∃ ks,H.get h=some (.map (rowsK ks))∧begG code.length pl (code.drop i) i ks=begP code pl∧H0.next≤H.next∧∀ id,id<H0.next→id≠h→H.get id=H0.get id
section
variable {G:AHeap} (hG:G.next=1)
include hG
theorem t_cturn(x:Ins3):pureR IP G 22 [.ag (Enc.cells x)]=some (.b (turnI x)):=by
 unfold turnI
 by_cases h1:x.op=24
 ·refine pure_run ip22 rfl ?_
  simp -implicitDefEqProofs [I22,hG,h1]
 ·refine pure_run ip22 rfl ?_
  simp -implicitDefEqProofs [I22,hG,h1]
set_option maxHeartbeats 2000000 in
theorem t_cbegL(code:List Ins3)(hl:code.length<100000)(pl:List Plc)(hpl:pl.length=code.length)(t1 t2:Bool)(lo h:Nat)(hlo:lo≤h)(Q:Post)(H0:AHeap)(hh:h<H0.next)(hm:H0.get h=some (.map (rowsK [0])))
  (hQ:∀ w H,H.get h=some (.map (rowsK (begP code pl)))→H0.next≤H.next→(∀ id,id<H0.next→id≠h→H.get id=H0.get id)→Q (.exit 0) [(0,.fs t1 false code.length (encs code)),(1,.fs t2 false pl.length (encs pl)),(5,.m h),(10,.fs t1 false code.length (encs code)),(11,.i .i64 code.length),(12,.i .i64 code.length),(13,w)] H) :
  wp (theCalls IP G lo) lo (.loop L14a) Q [(0,.fs t1 false code.length (encs code)),(1,.fs t2 false pl.length (encs pl)),(5,.m h),(10,.fs t1 false code.length (encs code)),(11,.i .i64 code.length),(12,.i .i64 0)] H0:=by
 refine wp_loop_list (l:=code) (by omega) (fun i todo e H=>e=[(0,.fs t1 false code.length (encs code)),(1,.fs t2 false pl.length (encs pl)),(5,.m h),(10,.fs t1 false code.length (encs code)),(11,.i .i64 code.length),(12,.i .i64 i)]∧BegI code pl h H0 i H) ?_ ?_ ?_
 ·rintro i x todo e H hx hd hlt hlt2 hlt3 ⟨rfl,ks,hm,hb,hn,hf⟩
  have hi:=lt_of_get hx
  have hdr:code.drop i=x::code.drop (i+1):=by rw[List.drop_eq_getElem_cons hi];rw[List.getElem?_eq_getElem hi] at hx;rw[Option.some.inj hx]
  rw[hdr,begG] at hb
  have c1:=t_plain hG x.op
  have c2:=t_cturn hG x
  simp at c2
  obtain⟨p,hp⟩:=get_of_lt (l:=pl) (i:=i) (by omega)
  have hr:rch pl i=p.reached:=by unfold rch;rw[hp];rfl
  have nh:¬ h=H.next:=by omega
  have nl:lo≤H.next:=by omega
  have hi2:(i:Int)<(pl.length:Int):=by omega
  have mu:∀(H:AHeap) (k:Int),H.get h=some (.map (rowsK ks))→mapupV lo H false [1] (.i .i64 k) (.b true) (.m h)=some (H.put h (some (.map (rowsK (addI ks k))))):=fun H k hk=>mapup_K hk hlo
  have mu2:∀(H:AHeap) (k:Int),H.get h=some (.map (rowsK (addI ks x.a)))→mapupV lo H false [1] (.i .i64 k) (.b true) (.m h)=some (H.put h (some (.map (rowsK (addI (addI ks x.a) k))))):=fun H k hk=>mapup_K hk hlo
  have hpe:plainI x=(decide (1≤x.op)&&decide (x.op≤23)):=rfl
  rw[←hpe] at c1
  clear hlt
  have fin_:∀ ks' H2,begS code.length pl ks i x=ks'→H2.get h=some (.map (rowsK ks'))→H.next≤H2.next→(∀ id,id<H.next→id≠h→H2.get id=H.get id)→BegI code pl h H0 (i+1) H2:=fun ks' H2 e1 e2 e3 e4=>⟨ks',e2,by rw[←e1];exact hb,by omega,fun id h1 h2=>(e4 id (by omega) h2).trans (hf id h1 h2)⟩
  have hl1:(i:Int)+1<(pl.length:Int)→∃ p2,pl[i+1]?=some p2:=fun h=>get_of_lt (by omega)
  by_cases q1:plainI x=true
  ·rw[q1] at c1
   have eb:begS code.length pl ks i x=ks:=by unfold begS;rw[if_pos (.inl q1)]
   simp -implicitDefEqProofs [L14a,hlt2,hlt3,hx,nl,c1]
   exact fin_ _ _ eb (by simp -implicitDefEqProofs [nh];exact hm) (by simp) fun id h1 h2=>by simp -implicitDefEqProofs [show ¬ id=H.next by omega]
  have q1':plainI x=false:=by simpa using q1
  rw[q1'] at c1
  by_cases q2:p.reached=true
  rotate_left
  ·have q2':p.reached=false:=by simpa using q2
   have eb:begS code.length pl ks i x=ks:=by unfold begS;rw[if_pos (.inr (by rw[hr,q2']))]
   simp -implicitDefEqProofs [L14a,hlt2,hlt3,hx,nl,c1,hi2,hp,q2']
   exact fin_ _ _ eb (by simp -implicitDefEqProofs [nh];exact hm) (by simp) fun id h1 h2=>by simp -implicitDefEqProofs [show ¬ id=H.next by omega]
  have eb0:¬(plainI x=true∨rch pl i=false):=by rw[q1',hr,q2];simp
  by_cases q5:(i:Int)+1<code.length
  rotate_left
  ·have q5':¬ i+1<code.length:=by omega
   have q5'':(code.length:Int)≤(i:Int)+1:=by omega
   have q6'':code.length≤i+1:=by omega
   by_cases q3:turnI x=true
   ·rw[q3] at c2
    have eb:begS code.length pl ks i x=addI ks x.a:=by unfold begS;rw[if_neg eb0];simp -implicitDefEqProofs [q3,q5']
    simp -implicitDefEqProofs [L14a,hlt2,hlt3,hx,nl,nh,c1,hi2,hp,q2,c2,mu,hm,q5,q5',q5'',q6'']
    exact fin_ _ _ eb (by simp) (by simp) fun id h1 h2=>by simp -implicitDefEqProofs [h2,show ¬ id=H.next by omega]
   ·have q3':turnI x=false:=by simpa using q3
    rw[q3'] at c2
    by_cases q4:x.op=26
    ·rw[q4] at c1 c2
     have eb:begS code.length pl ks i x=addI ks x.a:=by unfold begS;rw[if_neg eb0];simp -implicitDefEqProofs [tryI,q3',q4,q5']
     simp -implicitDefEqProofs [L14a,hlt2,hlt3,hx,nl,nh,c1,hi2,hp,q2,c2,q4,mu,hm,q5,q5',q5'',q6'']
     exact fin_ _ _ eb (by simp) (by simp) fun id h1 h2=>by simp -implicitDefEqProofs [h2,show ¬ id=H.next by omega]
    ·have eb:begS code.length pl ks i x=ks:=by unfold begS;rw[if_neg eb0];simp -implicitDefEqProofs [tryI,q3',q4,q5']
     simp -implicitDefEqProofs [L14a,hlt2,hlt3,hx,nl,nh,c1,hi2,hp,q2,c2,q4,mu,hm,q5,q5',q5'',q6'']
     exact fin_ _ _ eb (by simp -implicitDefEqProofs [nh];exact hm) (by simp) fun id h1 h2=>by simp -implicitDefEqProofs [h2,show ¬ id=H.next by omega]
  have q5n:i+1<code.length:=by omega
  have q5p:(i:Int)+1<(pl.length:Int):=by omega
  have q5q:i+1<pl.length:=by omega
  obtain⟨p2,hp2⟩:=hl1 (by omega)
  have hr2:rch pl (i+1)=p2.reached:=by unfold rch;rw[hp2];rfl
  have ia:iaddrV 3 (.fs t2 false pl.length (encs pl)) (.i .i64 ((i:Int)+1))=some (.fp (.b p2.reached::.i .i64 p2.height::.fs false false p2.tries.length (encs p2.tries)::restE pl (i+1+1))):=by
   rw[iaddr_fs (by omega) q5p,show((i:Int)+1).toNat=i+1 by omega,drop_plc,hp2]
   rfl
  by_cases q6:p2.reached=true
  rotate_left
  ·have q6':p2.reached=false:=by simpa using q6
   clear q6
   rename p2.reached=false=>q6
   by_cases q3:turnI x=true
   ·rw[q3] at c2
    have eb:begS code.length pl ks i x=addI ks x.a:=by unfold begS;rw[if_neg eb0];simp -implicitDefEqProofs [q3,q5n,hr2,q6]
    simp -implicitDefEqProofs [L14a,hlt2,hlt3,hx,nl,nh,c1,hi2,hp,q2,c2,mu,mu2,hm,q5,q5p,ia,q6]
    exact fin_ _ _ eb (by simp) (by simp) fun id h1 h2=>by simp -implicitDefEqProofs [h2,show ¬ id=H.next by omega]
   have q3':turnI x=false:=by simpa using q3
   rw[q3'] at c2
   by_cases q4:x.op=26
   ·rw[q4] at c1 c2
    have eb:begS code.length pl ks i x=addI ks x.a:=by unfold begS;rw[if_neg eb0];simp -implicitDefEqProofs [tryI,q3',q4,q5n,hr2,q6]
    simp -implicitDefEqProofs [L14a,hlt2,hlt3,hx,nl,nh,c1,hi2,hp,q2,c2,mu,mu2,hm,q5,q5p,ia,q6,q4]
    exact fin_ _ _ eb (by simp) (by simp) fun id h1 h2=>by simp -implicitDefEqProofs [h2,show ¬ id=H.next by omega]
   have eb:begS code.length pl ks i x=ks:=by unfold begS;rw[if_neg eb0];simp -implicitDefEqProofs [tryI,q3',q4,q5n,hr2,q6]
   simp -implicitDefEqProofs [L14a,hlt2,hlt3,hx,nl,nh,c1,hi2,hp,q2,c2,mu,mu2,hm,q5,q5p,ia,q6,q4]
   exact fin_ _ _ eb (by simp -implicitDefEqProofs [nh];exact hm) (by simp) fun id h1 h2=>by simp -implicitDefEqProofs [h2,show ¬ id=H.next by omega]
  by_cases q3:turnI x=true
  ·rw[q3] at c2
   have eb:begS code.length pl ks i x=addI (addI ks x.a) ((i:Int)+1):=by unfold begS;rw[if_neg eb0];simp -implicitDefEqProofs [q3,q5n,hr2,q6]
   simp -implicitDefEqProofs [L14a,hlt2,hlt3,hx,nl,nh,c1,hi2,hp,q2,c2,mu,mu2,hm,q5,q5p,ia,q6]
   exact fin_ _ _ eb (by simp) (by simp) fun id h1 h2=>by simp -implicitDefEqProofs [h2,show ¬ id=H.next by omega]
  have q3':turnI x=false:=by simpa using q3
  rw[q3'] at c2
  by_cases q4:x.op=26
  ·rw[q4] at c1 c2
   have eb:begS code.length pl ks i x=addI (addI ks x.a) ((i:Int)+1):=by unfold begS;rw[if_neg eb0];simp -implicitDefEqProofs [tryI,q3',q4,q5n,hr2,q6]
   simp -implicitDefEqProofs [L14a,hlt2,hlt3,hx,nl,nh,c1,hi2,hp,q2,c2,mu,mu2,hm,q5,q5p,ia,q6,q4]
   exact fin_ _ _ eb (by simp) (by simp) fun id h1 h2=>by simp -implicitDefEqProofs [h2,show ¬ id=H.next by omega]
  have eb:begS code.length pl ks i x=addI (ks) ((i:Int)+1):=by unfold begS;rw[if_neg eb0];simp -implicitDefEqProofs [tryI,q3',q4,q5n,hr2,q6]
  simp -implicitDefEqProofs [L14a,hlt2,hlt3,hx,nl,nh,c1,hi2,hp,q2,c2,mu,mu2,hm,q5,q5p,ia,q6,q4]
  exact fin_ _ _ eb (by simp) (by simp) fun id h1 h2=>by simp -implicitDefEqProofs [h2,show ¬ id=H.next by omega]
 ·rintro e H ⟨rfl,ks,hm,hb,hn,hf⟩
  rw[List.drop_length,begG] at hb
  rw[hb] at hm
  simp -implicitDefEqProofs [L14a]
  exact hQ _ H hm hn hf
 ·exact⟨by simp,[0],hm,rfl,Nat.le_refl _,fun _ _ _=>rfl⟩
end
end Go.Proofs.Ytllfklgliaoojaa
namespace Go.Proofs.Ytllfklgliaoojaa
open Go Go.RI
section
variable {G:AHeap} (hG:G.next=1)
include hG
theorem t_cbeg(code:List Ins3)(hl:code.length<100000)(pl:List Plc)(hpl:pl.length=code.length)(t1 t2:Bool)(lo:Nat)(H:AHeap)(hlo:lo≤H.next) :
  ∃ v H',theCalls IP G lo 14 [.fs t1 false code.length (encs code),.fs t2 false pl.length (encs pl)] H=some (v,H')∧v=.m H.next∧H'.get H.next=some (.map (rowsK (begP code pl)))∧H.next<H'.next∧∀ id,id<H.next→H'.get id=H.get id:=by
 have m0:mapupV lo (H.push (.map [])) false [1] (.i .i64 0) (.b true) (.m H.next)=some ((H.push (.map [])).put H.next (some (.map (rowsK [0])))):=mapup_K (ks:=[]) (by simp -implicitDefEqProofs [rowsK]) hlo
 refine calls_nil_of ip14 rfl rfl ?_
 simp -implicitDefEqProofs [I14,m0]
 refine t_cbegL hG code hl pl hpl t1 t2 lo H.next hlo _ _ (by simp) (by simp) ?_
 intro w H1 g1 n1 f1
 simp at n1
 simp
 refine⟨g1,by omega,fun id h=>?_⟩
 rw[f1 id (by simp;omega) (by omega)]
 simp -implicitDefEqProofs [show ¬ id=H.next by omega]
end
end Go.Proofs.Ytllfklgliaoojaa
namespace Go.Proofs.Ytllfklgliaoojaa
open Go Go.RI
def bcells(b:Blk):List AVal:=[.i .i64 b.at_,.i .i64 b.many,.i .i64 b.exit,.i .i64 b.to]
def BlI(code:List Ins3)(ks:List Int)(at_ h o:Nat)(H0:AHeap)(i:Nat)(H:AHeap):Prop:=∃ many,at_+many=i∧H.get (o+1)=some (.cells (bcells ⟨at_,many,0,0⟩) 1 false)∧H.get o=some (.cells [.i .i64 0,.i .i64 0,.i .i64 0,.i .i64 0] 1 false)∧H.get h=some (.map (rowsK ks))∧blockG ks at_ (code.drop i) i many=blockP code ks at_∧H0.next≤H.next∧∀ id,id<o→H.get id=H0.get id
section
variable {G:AHeap} (hG:G.next=1)
include hG
set_option maxHeartbeats 2000000 in
theorem t_cblockL(code:List Ins3)(hl:code.length<100000)(ks:List Int)(at_ h o lo:Nat)(t:Bool)(ho:h<o∧lo≤o)(Q:Post)(H0:AHeap)(hn0:o+1<H0.next)
  (hQ1:∀ w i H,H.get (o+1)=some (.cells (bcells (blockP code ks at_)) 1 false)→H0.next≤H.next→(∀ id,id<o→H.get id=H0.get id)→H.get o=some (.cells [.i .i64 0,.i .i64 0,.i .i64 0,.i .i64 0] 1 false)→Q (.exit 0) [(0,.fs t false code.length (encs code)),(1,.m h),(2,.i .i64 at_),(6,.p o 0),(7,.p (o+1) 0),(8,i),(16,w)] H)
  (hQ2:∀ H,H.get o=some (.cells (bcells (blockP code ks at_)) 1 false)→H0.next≤H.next→(∀ id,id<o→H.get id=H0.get id)→Q .ret [(6,.p o 0)] H)
  (i:Nat) (hI:BlI code ks at_ h o H0 i H0) :
  wp (theCalls IP G lo) lo (.loop L21a) Q [(0,.fs t false code.length (encs code)),(1,.m h),(2,.i .i64 at_),(6,.p o 0),(7,.p (o+1) 0),(8,.i .i64 i)] H0:=by
 refine wp_loop_inv (fun k e H=>∃ i:Nat,k=code.length-i∧e=[(0,.fs t false code.length (encs code)),(1,.m h),(2,.i .i64 at_),(6,.p o 0),(7,.p (o+1) 0),(8,.i .i64 i)]∧BlI code ks at_ h o H0 i H) ?_ (code.length-i) _ _ ⟨i,rfl,rfl,hI⟩
 clear hI i
 rintro k e H ⟨i,hk,rfl,many,hm,gb,go,gh,hb,hn,hf⟩
 by_cases hi:i<code.length
 rotate_left
 ·have hi2:¬(i:Int)<code.length:=by omega
  have hi3:¬ i<code.length:=hi
  rw[List.drop_of_length_le (by omega),blockG] at hb
  rw[hb] at gb
  simp -implicitDefEqProofs [L21a,hi2,hi3]
  exact hQ1 _ _ H gb hn hf go
 obtain⟨x,hx⟩:=get_of_lt hi
 have hdr:code.drop i=x::code.drop (i+1):=by rw[List.drop_eq_getElem_cons hi];rw[List.getElem?_eq_getElem hi] at hx;rw[Option.some.inj hx]
 rw[hdr,blockG] at hb
 have hi2:(i:Int)<code.length:=by omega
 have c1:=t_plain hG x.op
 have hpe:plainI x=(decide (1≤x.op)&&decide (x.op≤23)):=rfl
 rw[←hpe] at c1
 have c2:=t_cturn hG x
 simp at c2
 have lk:∀(H:AHeap),H.get h=some (.map (rowsK ks))→lookV H false [1] (.b false) false (.m h) (.i .i64 i)=some (.b (decide ((i:Int)∈ks))):=fun H hh=>look_K hh
 have n1:¬ h=H.next:=by omega
 have n2:¬ o=H.next:=by omega
 have n3:¬ o+1=H.next:=by omega
 have n4:lo≤H.next:=by omega
 have n5:lo≤o+1:=by omega
 have n6:¬ h=o:=by omega
 have n7:¬ h=o+1:=by omega
 have n8:lo≤o:=ho.2
 have n9:¬ H.next=o+1:=by omega
 have n10:¬ H.next=o:=by omega
 have w1:wrapI .i64 ((many:Int)+1)=(many:Int)+1:=wrap_ok (by omega) (by omega)
 have w2:wrapI .i64 ((i:Int)+1)=(i:Int)+1:=wrap_ok (by omega) (by omega)
 simp only[bcells] at gb
 have fr:∀ id,id<o→id≠H.next:=fun id h=>by omega
 by_cases q1:at_<i∧isBeg ks i=true
 ·rw[if_pos q1] at hb
  have q1a:(at_:Int)<(i:Int):=Int.ofNat_lt.2 q1.1
  have q1b:(i:Int)∈ks:=by simpa[isBeg] using q1.2
  simp -implicitDefEqProofs [L21a,hi2,hx,n1,n2,n3,n4,n5,n6,n7,n8,n9,n10,c1,c2,gb,gh,go,lk,q1a,q1b,q1.1]
  exact hQ2 _ (by rw[←hb];simp -implicitDefEqProofs [bcells]) (by simp;omega) fun id h=>by simp -implicitDefEqProofs [fr id h,show ¬ id=o by omega,show ¬ id=o+1 by omega];exact hf id h
 rw[if_neg q1] at hb
 have nx:∀ H2:AHeap,blockG ks at_ (code.drop (i+1)) (i+1) (many+1)=blockP code ks at_→H2.get (o+1)=some (.cells (bcells ⟨at_,many+1,0,0⟩) 1 false)→H2.get o=some (.cells [.i .i64 0,.i .i64 0,.i .i64 0,.i .i64 0] 1 false)→H2.get h=some (.map (rowsK ks))→H0.next≤H2.next→(∀ id,id<o→H2.get id=H0.get id)→∃ j,j<k∧∃ i1:Nat,j=code.length-i1∧(i:Int)+1=i1∧BlI code ks at_ h o H0 i1 H2:=fun H2 e0 e1 e2 e3 e4 e5=>⟨code.length-(i+1),by clear w1 w2;omega,i+1,rfl,by simp,many+1,by clear w1 w2;omega,e1,e2,e3,e0,e4,e5⟩
 by_cases qa:at_<i
 ·have qai:(at_:Int)<(i:Int):=Int.ofNat_lt.2 qa
  have qb:¬(i:Int)∈ks:=fun h=>q1 ⟨qa,by simpa[isBeg] using h⟩
  by_cases q2:turnI x=true
  ·rw[if_pos q2] at hb
   rw[q2] at c2
   by_cases q5:x.op=25
   ·rw[q5] at c2
    rw[if_pos q5] at hb
    simp -implicitDefEqProofs [L21a,hi2,hx,n1,n2,n3,n4,n5,n6,n7,n8,n9,n10,c1,c2,gb,gh,go,lk,w1,w2,qa,qai,qb,q5]
    exact hQ2 _ (by rw[←hb];simp -implicitDefEqProofs [bcells]) (by simp;omega) fun id h=>by simp -implicitDefEqProofs [fr id h,show ¬ id=o by omega,show ¬ id=o+1 by omega];exact hf id h
   ·rw[if_neg q5] at hb
    simp -implicitDefEqProofs [L21a,hi2,hx,n1,n2,n3,n4,n5,n6,n7,n8,n9,n10,c1,c2,gb,gh,go,lk,w1,w2,qa,qai,qb,q5]
    exact hQ2 _ (by rw[←hb];simp -implicitDefEqProofs [bcells]) (by simp;omega) fun id h=>by simp -implicitDefEqProofs [fr id h,show ¬ id=o by omega,show ¬ id=o+1 by omega];exact hf id h
  rw[if_neg q2] at hb
  have q2':turnI x=false:=by simpa using q2
  rw[q2'] at c2
  by_cases q3:plainI x=false
  ·rw[if_pos q3] at hb
   rw[q3] at c1
   simp -implicitDefEqProofs [L21a,hi2,hx,n1,n2,n3,n4,n5,n6,n7,n8,n9,n10,c1,c2,gb,gh,go,lk,w1,w2,qa,qai,qb]
   exact hQ2 _ (by rw[←hb];simp -implicitDefEqProofs [bcells]) (by simp;omega) fun id h=>by simp -implicitDefEqProofs [fr id h,show ¬ id=o by omega,show ¬ id=o+1 by omega];exact hf id h
  rw[if_neg q3] at hb
  have q3':plainI x=true:=by simpa using q3
  rw[q3'] at c1
  simp -implicitDefEqProofs [L21a,hi2,hx,n1,n2,n3,n4,n5,n6,n7,n8,n9,n10,c1,c2,gb,gh,go,lk,w1,w2,qa,qai,qb]
  exact nx _ hb (by simp -implicitDefEqProofs [bcells]) (by simp -implicitDefEqProofs [n2];exact go) (by simp -implicitDefEqProofs [n1,n6,n7];exact gh) (by simp;omega) fun id h=>by simp -implicitDefEqProofs [fr id h,show ¬ id=o by omega,show ¬ id=o+1 by omega];exact hf id h
 have qai:¬(at_:Int)<(i:Int):=fun h=>qa (Int.ofNat_lt.1 h)
 by_cases q2:turnI x=true
 ·rw[if_pos q2] at hb
  rw[q2] at c2
  by_cases q5:x.op=25
  ·rw[q5] at c2
   rw[if_pos q5] at hb
   simp -implicitDefEqProofs [L21a,hi2,hx,n1,n2,n3,n4,n5,n6,n7,n8,n9,n10,c1,c2,gb,gh,go,lk,w1,w2,qa,qai,q5]
   exact hQ2 _ (by rw[←hb];simp -implicitDefEqProofs [bcells]) (by simp;omega) fun id h=>by simp -implicitDefEqProofs [fr id h,show ¬ id=o by omega,show ¬ id=o+1 by omega];exact hf id h
  ·rw[if_neg q5] at hb
   simp -implicitDefEqProofs [L21a,hi2,hx,n1,n2,n3,n4,n5,n6,n7,n8,n9,n10,c1,c2,gb,gh,go,lk,w1,w2,qa,qai,q5]
   exact hQ2 _ (by rw[←hb];simp -implicitDefEqProofs [bcells]) (by simp;omega) fun id h=>by simp -implicitDefEqProofs [fr id h,show ¬ id=o by omega,show ¬ id=o+1 by omega];exact hf id h
 rw[if_neg q2] at hb
 have q2':turnI x=false:=by simpa using q2
 rw[q2'] at c2
 by_cases q3:plainI x=false
 ·rw[if_pos q3] at hb
  rw[q3] at c1
  simp -implicitDefEqProofs [L21a,hi2,hx,n1,n2,n3,n4,n5,n6,n7,n8,n9,n10,c1,c2,gb,gh,go,lk,w1,w2,qa,qai]
  exact hQ2 _ (by rw[←hb];simp -implicitDefEqProofs [bcells]) (by simp;omega) fun id h=>by simp -implicitDefEqProofs [fr id h,show ¬ id=o by omega,show ¬ id=o+1 by omega];exact hf id h
 rw[if_neg q3] at hb
 have q3':plainI x=true:=by simpa using q3
 rw[q3'] at c1
 simp -implicitDefEqProofs [L21a,hi2,hx,n1,n2,n3,n4,n5,n6,n7,n8,n9,n10,c1,c2,gb,gh,go,lk,w1,w2,qa,qai]
 exact nx _ hb (by simp -implicitDefEqProofs [bcells]) (by simp -implicitDefEqProofs [n2];exact go) (by simp -implicitDefEqProofs [n1,n6,n7];exact gh) (by simp;omega) fun id h=>by simp -implicitDefEqProofs [fr id h,show ¬ id=o by omega,show ¬ id=o+1 by omega];exact hf id h
end
end Go.Proofs.Ytllfklgliaoojaa
namespace Go.Proofs.Ytllfklgliaoojaa
open Go Go.RI
section
variable {G:AHeap} (hG:G.next=1)
include hG
theorem t_cblock(code:List Ins3)(hl:code.length<100000)(ks:List Int)(at_ h lo:Nat)(t:Bool)(H:AHeap)(hh:h<H.next)(hlo:lo≤H.next)(hm:H.get h=some (.map (rowsK ks))) :
  ∃ v H',theCalls IP G lo 21 [.fs t false code.length (encs code),.m h,.i .i64 at_] H=some (v,H')∧v=.ag (Enc.cells (blockP code ks at_))∧H.next≤H'.next∧∀ id,id<H.next→H'.get id=H.get id:=by
 have n1:lo≤H.next+1:=by omega
 have n2:¬ H.next=H.next+1:=by omega
 refine calls_nil_of ip21 rfl rfl ?_
 simp -implicitDefEqProofs [I21,n1,n2]
 generalize hH1:AHeap.put _ _ _=H1
 have e1:H1.next=H.next+1+1:=by rw[←hH1];simp
 have e2:H1.get (H.next+1)=some (.cells (bcells ⟨at_,0,0,0⟩) 1 false):=by rw[←hH1];simp -implicitDefEqProofs [bcells]
 have e3:H1.get H.next=some (.cells [.i .i64 0,.i .i64 0,.i .i64 0,.i .i64 0] 1 false):=by rw[←hH1];simp -implicitDefEqProofs [n2]
 have e4:∀ id,id<H.next→H1.get id=H.get id:=fun id h=>by rw[←hH1];simp -implicitDefEqProofs [show ¬ id=H.next by omega,show ¬ id=H.next+1 by omega]
 clear hH1
 refine t_cblockL hG code hl ks at_ h H.next lo t ⟨hh,hlo⟩ _ H1 (by omega) ?_ ?_ at_ ⟨0,by omega,e2,e3,(e4 h hh).trans hm,rfl,Nat.le_refl _,fun _ _=>rfl⟩
 ·intro w i H2 g1 g2 g3 g4
  simp only[bcells] at g1
  simp -implicitDefEqProofs [g1,g4,hlo,n2]
  exact⟨by omega,fun id h=>by rw[if_neg (by omega)];exact(g3 id h).trans (e4 id h)⟩
 ·intro H2 g1 g2 g3
  simp only[bcells] at g1
  simp -implicitDefEqProofs [g1]
  exact⟨by omega,fun id h=>(g3 id h).trans (e4 id h)⟩
end
end Go.Proofs.Ytllfklgliaoojaa
namespace Go.Proofs.Ytllfklgliaoojaa
open Go Go.RI
theorem blocksG_append(code:List Ins3)(ks:List Int):∀ l m,blocksG code ks (l++m)=blocksG code ks l++blocksG code ks m
 | [],m=>rfl
 | i::l,m=>by rw[List.cons_append,blocksG,blocksG,blocksG_append code ks l m,List.append_assoc]
def OfI(code:List Ins3)(ks:List Int)(t:Bool)(h hb i:Nat)(H:AHeap):Prop:=∃ av,H.get 2=some (.cells [av] 1 false)∧Acc H (hb+2) av 4 (blocksG code ks (List.range i)).length (encs (blocksG code ks (List.range i)))∧H.get hb=some (.cells [.fs t false code.length (encs code)] 1 false)∧H.get (hb+1)=some (.cells [.m h] 1 false)∧H.get h=some (.map (rowsK ks))∧hb+2≤H.next∧(blocksG code ks (List.range i)).length≤i
section
variable {G:AHeap} (hG:G.next=1)
include hG
set_option maxHeartbeats 2000000 in
theorem t_cOfL(code:List Ins3)(hl:code.length<100000)(ks:List Int)(t:Bool)(h hb:Nat)(hh:3≤h∧h<hb)(a0 a1 a2 a4 a5 a6 a7 a8 a11 a12 a13 a14 a15 a16 a17 a18 a20 a21 a22 a23 a24 a25 a26 a27 a28 a29:AVal)(Q:Post)
  (hQ:∀ w H,OfI code ks t h hb code.length H→Q (.exit 0) [(0,a0),(1,a1),(2,a2),(4,a4),(5,a5),(6,a6),(7,a7),(8,a8),(9,.p 2 0),(11,a11),(12,a12),(13,a13),(14,a14),(15,a15),(16,a16),(17,a17),(18,a18),(20,a20),(21,a21),(22,a22),(23,a23),(24,a24),(25,a25),(26,a26),(27,a27),(28,a28),(29,a29),(37,.p hb 0),(38,.p (hb+1) 0),(46,.fs t false code.length (encs code)),(47,.i .i64 code.length),(48,.i .i64 code.length),(49,w)] H) (H:AHeap) (hI:OfI code ks t h hb 0 H) :
  wp (theCalls IP G 1) 1 (.loop (dsB 21)) Q [(0,a0),(1,a1),(2,a2),(4,a4),(5,a5),(6,a6),(7,a7),(8,a8),(9,.p 2 0),(11,a11),(12,a12),(13,a13),(14,a14),(15,a15),(16,a16),(17,a17),(18,a18),(20,a20),(21,a21),(22,a22),(23,a23),(24,a24),(25,a25),(26,a26),(27,a27),(28,a28),(29,a29),(37,.p hb 0),(38,.p (hb+1) 0),(46,.fs t false code.length (encs code)),(47,.i .i64 code.length),(48,.i .i64 0)] H:=by
 refine wp_loop_list (l:=code) (by omega) (fun i todo e H=>e=[(0,a0),(1,a1),(2,a2),(4,a4),(5,a5),(6,a6),(7,a7),(8,a8),(9,.p 2 0),(11,a11),(12,a12),(13,a13),(14,a14),(15,a15),(16,a16),(17,a17),(18,a18),(20,a20),(21,a21),(22,a22),(23,a23),(24,a24),(25,a25),(26,a26),(27,a27),(28,a28),(29,a29),(37,.p hb 0),(38,.p (hb+1) 0),(46,.fs t false code.length (encs code)),(47,.i .i64 code.length),(48,.i .i64 i)]∧OfI code ks t h hb i H) ?_ ?_ ?_
 ·rintro i x todo e H hx hd hlt hlt2 hlt3 ⟨rfl,av,g9,ha,g37,g38,gh,hn,hbl⟩
  have lk:=look_K (k:=(i:Int)) gh
  obtain⟨v,H1,c1,rfl,n1,f1⟩:=t_cblock hG code hl ks i h 1 t H (by omega) (by omega) gh
  have hr:List.range (i+1)=List.range i++[i]:=List.range_succ
  have e9:=(f1 2 (by omega)).trans g9
  have e37:=(f1 hb (by omega)).trans g37
  have e38:=(f1 (hb+1) (by omega)).trans g38
  have eh:=(f1 h (by omega)).trans gh
  have hbe:isBeg ks i=decide ((i:Int)∈ks):=rfl
  simp at c1
  clear hlt
  by_cases q1:(i:Int)∈ks
  rotate_left
  ·have eb:blocksG code ks (List.range (i+1))=blocksG code ks (List.range i):=by rw[hr,blocksG_append];simp -implicitDefEqProofs [blocksG,hbe,q1]
   simp -implicitDefEqProofs [dsB,hlt2,hlt3,g37,g38,lk,q1]
   exact⟨av,g9,by rw[eb];exact ha,g37,g38,gh,hn,by rw[eb];omega⟩
  have n5:1≤H1.next:=by omega
  have nb1:¬ 2=H1.next:=by omega
  have nb2:¬ hb=H1.next:=by omega
  have nb3:¬ hb+1=H1.next:=by omega
  have nb4:¬ h=H1.next:=by omega
  have ha1:Acc H1 (hb+2) av 4 (blocksG code ks (List.range i)).length (encs (blocksG code ks (List.range i))):=by
   rcases ha with ha|⟨id,k1,k2,k3,k4,k5⟩
   ·exact .inl ha
   ·exact .inr ⟨id,k1,k2,by omega,(f1 id k3).trans k4,k5⟩
  have nb5:¬ H1.next=1:=by omega
  have nb6:¬ H1.next=0:=by omega
  have ak:∀ H2:AHeap,H1.next≤H2.next→(∀ id,id<H1.next→H2.get id=H1.get id)→Acc H2 (hb+2) av 4 (blocksG code ks (List.range i)).length (encs (blocksG code ks (List.range i))):=fun H2 k1 k2=>by
   rcases ha1 with ha|⟨id,j1,j2,j3,j4,j5⟩
   ·exact .inl ha
   ·exact .inr ⟨id,j1,j2,by omega,(k2 id j3).trans j4,j5⟩
  by_cases q2:0<(blockP code ks i).many
  rotate_left
  ·have q2':(blockP code ks i).many=0:=by omega
   have eb:blocksG code ks (List.range (i+1))=blocksG code ks (List.range i):=by rw[hr,blocksG_append];simp -implicitDefEqProofs [blocksG,q2']
   simp -implicitDefEqProofs [dsB,hlt2,hlt3,g37,g38,lk,q1,c1,z4,n5,nb1,nb2,nb3,e37,e38,q2']
   refine⟨av,by simp -implicitDefEqProofs [nb1,nb5];exact e9,by rw[eb];exact ak _ (by simp) fun id h=>by simp -implicitDefEqProofs [show ¬ id=H1.next by omega],by simp -implicitDefEqProofs [nb2];exact e37,by simp -implicitDefEqProofs [nb3];exact e38,by simp -implicitDefEqProofs [nb4];exact eh,by simp;omega,by rw[eb];omega⟩
  simp -implicitDefEqProofs [dsB,hlt2,hlt3,g37,g38,lk,q1,c1,z4,n5,nb1,nb2,nb3,e9,e37,e38,q2,nb5,nb6]
  generalize hK:AHeap.push _ _=K
  have p1:K.next=H1.next+1+1+1:=by rw[←hK];simp
  have p2:K.get (H1.next+1+1)=some (.cells (Enc.cells (blockP code ks i)) 4 false):=by rw[←hK];simp
  have p3:∀ id,id<H1.next→K.get id=H1.get id:=fun id h=>by rw[←hK];simp -implicitDefEqProofs [show ¬ id=H1.next by omega,show ¬ id=H1.next+1 by omega,show ¬ id=H1.next+1+1 by omega]
  clear hK
  have hA:=ak K (by omega) p3
  have hlt4:∀ id n c,av=.sl id 0 n c→hb+2≤id:=fun id n c hv=>by
   rcases hA with⟨h,_⟩|⟨id0,h,h1,_⟩
   ·rw[h] at hv;cases hv
   ·rw[h] at hv;cases hv;exact h1
  refine step_app (lo':=hb+2) (m:=1) (ys:=Enc.cells (blockP code ks i)) hA (by omega) (by omega) (more_lit p2 (by simp) (by omega)) (by simp) (by omega) (by omega) (by omega) (by omega) fun H3 n3 A3 F3=>?_
  have fr:∀ id,id<hb+2→H3.get id=H.get id:=fun id h=>((F3 id (by omega) fun id0 n0 c0 hv=>by have:=hlt4 id0 n0 c0 hv;omega).trans (p3 id (by omega))).trans (f1 id (by omega))
  have g9':=(fr 2 (by omega)).trans g9
  simp -implicitDefEqProofs [g9',hlt2,hlt3]
  have eb:blocksG code ks (List.range (i+1))=blocksG code ks (List.range i)++[blockP code ks i]:=by rw[hr,blocksG_append];simp -implicitDefEqProofs [blocksG,hbe,q1,q2]
  refine⟨_,by simp;rfl,?_,by simp -implicitDefEqProofs [show ¬ hb=2 by omega];exact(fr hb (by omega)).trans g37,by simp -implicitDefEqProofs [show ¬ hb+1=2 by omega];exact(fr (hb+1) (by omega)).trans g38,by simp -implicitDefEqProofs [show ¬ h=2 by omega];exact(fr h (by omega)).trans gh,by simp;omega,by rw[eb];simp;omega⟩
  rw[eb,encs_append,List.length_append]
  rcases A3 with⟨h,_⟩|⟨id,j1,j2,j3,j4,j5⟩
  ·cases h
  ·exact .inr ⟨id,by simpa using j1,j2,by simpa using j3,by simp -implicitDefEqProofs [show ¬ id=2 by omega];simpa using j4,by simpa using j5⟩
 ·rintro e H ⟨rfl,hI⟩
  simp -implicitDefEqProofs [dsB]
  exact hQ _ H hI
 ·exact⟨by simp,hI⟩
end
end Go.Proofs.Ytllfklgliaoojaa
namespace Go.Proofs.Ytllfklgliaoojaa
open Go Go.RI
def IsOf(P:Prg)(k e:Int)(pl:List Plc)(l:List Blk):Prop:=(e≠0→l=[])∧(e=0→CodeOk P∧0≤k∧∃ f,P.funcs[k.toNat]?=some f∧Known f.code pl∧l=blocksP f.code (begP f.code pl))
section
variable {G:AHeap} (hG:G.next=1)
include hG
set_option maxHeartbeats 1000000 in
theorem t_cOf(P:Prg)(hP:okPrg P)(k:Int)(t1 t2:Bool):∃ e pl l,pureR IP G 7 [.ag (pcells P t1 t2),.i .i64 k]=some (.tu [.fs false false pl.length (encs pl),.i .i64 e])∧pureR IP G 6 [.ag (pcells P t1 t2),.i .i64 k]=some (.tu [.fs false false l.length (encs l),.i .i64 e])∧IsOf P k e pl l:=by
 obtain⟨v,c1,e,pl,rfl,hE⟩:=t_vFunc hG P hP k t1 t2
 have c0:=c1
 simp only[pcells] at c1
 by_cases he:e=0
 rotate_left
 ·refine⟨e,pl,[],c0,pure_run ip6 rfl ?_,fun _=>rfl,fun h=>absurd h he⟩
  simp -implicitDefEqProofs [I6,ofI,ofC,c0I,c1I,c2I,c4I,c5I,c6D,lpD,c9I,pcells,hG,c1,he]
 subst he
 obtain⟨hC,hk,f,hf,hK⟩:=hE rfl
 obtain⟨m,rfl⟩:∃ m:Nat,k=m:=⟨k.toNat,by omega⟩
 simp at hf
 obtain⟨w1,w2,w3⟩:=hC f (List.mem_of_getElem? hf)
 have hm:(m:Int)<P.funcs.length:=by have:=lt_of_get hf;omega
 obtain⟨Hp,hHp⟩:∃ Hp,Hp=(G.push (.cells [.fs t1 false P.funcs.length (encs P.funcs),.fs t2 false P.consts.length (encs P.consts)] 1 false)).push (.cells [.ns] 1 false):=⟨_,rfl⟩
 have bx:∀ H:AHeap,boxR H (.m 3)=some (some (.p H.next 0),H.push (.cells [.m 3] 1 false)):=fun _=>rfl
 have np:Hp.next=3:=by rw[hHp];simp -implicitDefEqProofs [hG]
 obtain⟨v,H1,c2,rfl,g1,n1,f1⟩:=t_cbeg hG f.code (by omega) pl hK.len false false 1 Hp (by omega)
 rw[hHp] at c2
 simp at c2
 refine⟨0,pl,_,c0,pure_run ip6 rfl ?_,fun h=>absurd rfl h,fun _=>⟨hC,hk,f,by simpa using hf,hK,rfl⟩⟩
 simp -implicitDefEqProofs [I6,ofI,ofC,c0I,c1I,c2I,c4I,c5I,c6D,lpD,c9I,pcells,hG,c1,hm,hf,c2,bx]
 rw[hHp] at f1
 have hH1:3<H1.next:=by omega
 refine t_cOfL hG f.code (by omega) (begP f.code pl) false 3 H1.next ⟨by omega,by omega⟩ _ _ _ _ _ _ _ _ _ _ _ _ _ _ _ _ _ _ _ _ _ _ _ _ _ _ _ ?_ _ ?_
 ·rintro w H2 ⟨av,g9,ha,g37,g38,gh,hn,hbl⟩
  have hH:Hold H2 1 av 4 (blocksP f.code (begP f.code pl)).length (encs (blocksP f.code (begP f.code pl))):=by
   rcases ha with⟨h1,h2,h3⟩|⟨id,j1,j2,j3,j4,j5⟩
   ·exact .inl ⟨.inr h1,h2,h3⟩
   ·exact .inr ⟨id,none,j1,.inl rfl,by omega,j3,j4,j5⟩
  have e4:=hold_frz (k:=14) hH frz_encs
  simp -implicitDefEqProofs [g9]
  rw[e4]
  simp
 ·have f2:=f1 2 (by rw[←hHp];omega)
  refine⟨.ns,?_,.inl ⟨rfl,rfl,rfl⟩,?_,?_,?_,?_,by simp -implicitDefEqProofs [blocksG]⟩
  ·simp -implicitDefEqProofs [show ¬ 2=H1.next by omega,show ¬ 2=H1.next+1 by omega,f2,hG]
  ·simp
  ·simp
  ·simp -implicitDefEqProofs [show ¬ 3=H1.next by omega,show ¬ 3=H1.next+1 by omega]
   rw[np] at g1
   exact g1
  ·simp
end
end Go.Proofs.Ytllfklgliaoojaa
namespace Go.RI
open Go
def inC(n:Nat)(c:Nat→Nat):List AVal:=(List.range n).map fun i=>AVal.i .i64 (c i:Int)
@[simp] theorem inC_len{n:Nat}{c:Nat→Nat}:(inC n c).length=n:=by simp[inC]
theorem inC_get{n:Nat}{c:Nat→Nat}{i:Nat}(h:i<n):(inC n c)[i]?=some (.i .i64 (c i:Int)):=by simp[inC,h]
theorem inC_set{n:Nat}{c:Nat→Nat}{i v:Nat}(h:i<n):(inC n c).set i (.i .i64 (v:Int))=inC n fun j=>if j=i then v else c j:=by
 apply List.ext_getElem?
 intro j
 by_cases hj:j<n
 ·by_cases e:j=i
  ·subst e
   rw[List.getElem?_set_self (by simpa using h),inC_get h];simp
  ·rw[List.getElem?_set_ne (fun x=>e x.symm),inC_get hj,inC_get hj,if_neg e]
 ·rw[List.getElem?_eq_none (by simp;omega),List.getElem?_eq_none (by simp;omega)]
theorem inC_congr{n:Nat}{c d:Nat→Nat}(h:∀ i,i<n→c i=d i):inC n c=inC n d:=by
 apply List.ext_getElem?
 intro j
 by_cases hj:j<n
 ·rw[inC_get hj,inC_get hj,h j hj]
 ·rw[List.getElem?_eq_none (by simp;omega),List.getElem?_eq_none (by simp;omega)]
theorem rep_inC:∀ n:Nat,repCells [AVal.i .i64 0] n=inC n fun _=>0:=by
 intro n
 have h:∀ n,repCells [AVal.i .i64 0] n=List.replicate n (AVal.i .i64 0):=by
  intro n
  induction n with
  | zero=>rfl
  | succ n ih=>rw[repCells,ih];rfl
 rw[h]
 apply List.ext_getElem?
 intro j
 by_cases hj:j<n
 ·rw[inC_get hj];simp[hj]
 ·rw[List.getElem?_eq_none (by simp;omega),List.getElem?_eq_none (by simp;omega)]
theorem cover_le(l:List Blk)(i:Nat):cover l i≤l.length:=by
  induction l with
  | nil=>simp[cover]
  | cons b l ih =>
    simp only[cover,List.length_cons]
    split<;>omega
theorem cover_snoc(l:List Blk)(b:Blk)(i:Nat):cover (l++[b]) i=cover l i+if inB b i=true then 1 else 0:=by
 rw[cover_app];simp[cover]
theorem blocksG_len{code:List Ins3}{ks:List Int}:∀ l:List Nat,(blocksG code ks l).length≤l.length
  | []=>Nat.le_refl _
  | i::l=>by
    have:=blocksG_len (code:=code) (ks:=ks) l
    rw[blocksG,List.length_append,List.length_cons]
    split<;>simp<;>omega
theorem blocks_len{code:List Ins3}{ks:List Int}:(blocksP code ks).length≤code.length:=by
 have:=blocksG_len (code:=code) (ks:=ks) (List.range code.length)
 rwa [List.length_range] at this
theorem take_snoc{α:Type}{l:List α}{i:Nat}{x:α}(h:l[i]?=some x):l.take (i+1)=l.take i++[x]:=by rw[List.take_add_one,h];rfl
theorem get_all{α:Type}{l:List α}{i:Nat}{x:α}(h:l[i]?=some x):∀ h,l[i]'h=x:=fun h2=>by rw[List.getElem?_eq_getElem h2] at h;exact Option.some.inj h
theorem wrap_add2{a b:Nat}(h:a+b<4611686018427387904):wrapI .i64 ((a:Int)+(b:Int))=(a:Int)+(b:Int):=by
 unfold wrapI;rw[if_pos (by omega)]
theorem wrap_sub2{a b:Nat}(h:a<4611686018427387904)(hb:b<4611686018427387904):wrapI .i64 ((a:Int)-(b:Int))=(a:Int)-(b:Int):=wrapI_i64 (by omega) (by omega)
theorem wrap_pred{a:Nat}(h:a<4611686018427387904):wrapI .i64 ((a:Int)+1-1)=(a:Int):=by
 rw[wrapI_i64 (by omega) (by omega)];omega
end Go.RI
namespace Go.Proofs.Ytllfklgliaoojaa
open Go Go.RI
section
variable {G:AHeap} (hG:G.next=1)
include hG
theorem t_cov_a(l:List Blk)(hl:l.length<100000)(j:Nat)(b:Blk)(hb:l[j]?=some b)(n:Nat)(hbn:b.at_+b.many≤n)(hn:n<100000)(c:Nat→Nat)(hc:∀ i,c i<1000000)(a7 a9:AVal)(r:Nat)(hr:1≤r)(Q:Post)(H:AHeap)(g:H.get r=some (.cells (inC n c) 1 false))
  (hQ:∀ w H',H'.get r=some (.cells (inC n fun i=>c i+if inB b i=true then 1 else 0) 1 false)→Q (.exit 2) [(5,.fs false false l.length (encs l)),(7,a7),(9,a9),(10,.sl r 0 n (some n)),(11,.i .i64 j),(12,.i .i64 ((b.at_+b.many:Nat):Int)),(137,w)] H') :
  wp (theCalls IP G 1) 1 (.loop L3a) Q [(5,.fs false false l.length (encs l)),(7,a7),(9,a9),(10,.sl r 0 n (some n)),(11,.i .i64 j),(12,.i .i64 (b.at_:Int))] H:=by
 have hjl:=lt_of_get hb
 have hj2:(j:Int)<(l.length:Int):=by omega
 have hw0:wrapI .i64 ((b.at_:Int)+(b.many:Int))=(b.at_:Int)+(b.many:Int):=wrap_ok (by omega) (by omega)
 have hb2:∀ h,l[j]'h=b:=fun h=>by rw[List.getElem?_eq_getElem h] at hb;exact Option.some.inj hb
 refine wp_loop_list (l:=List.range b.many) (by simp;omega) (fun d todo e H'=>e=[(5,.fs false false l.length (encs l)),(7,a7),(9,a9),(10,.sl r 0 n (some n)),(11,.i .i64 j),(12,.i .i64 ((b.at_+d:Nat):Int))]∧H'.get r=some (.cells (inC n fun i=>c i+if b.at_≤i∧i<b.at_+d then 1 else 0) 1 false)) ?_ ?_ ?_
 ·rintro d x todo e H' hx hd hlt hlt2 hlt3 ⟨rfl,g'⟩
  have hdm:d<b.many:=by simpa using hlt
  obtain⟨k,hk⟩:∃ k,k=b.at_+d:=⟨_,rfl⟩
  have hkn:k<n:=by omega
  have hk1:(k:Int)<(b.at_:Int)+(b.many:Int):=by omega
  have hk2:(k:Int)<(n:Int):=by omega
  have hkn1:k+1≤n:=hkn
  have e1:=inC_get (c:=fun i=>c i+if b.at_≤i∧i<b.at_+d then 1 else 0) hkn
  have hck:(c k+if b.at_≤k∧k<b.at_+d then 1 else 0)=c k:=by rw[if_neg (by omega)];omega
  rw[hck] at e1
  have hw1:wrapI .i64 ((c k:Int)+1)=(c k:Int)+1:=wrap_succ (Nat.lt_trans (hc k) (by decide))
  have hw2:wrapI .i64 ((k:Int)+1)=(k:Int)+1:=wrap_succ (Nat.lt_trans hkn (Nat.lt_trans hn (by decide)))
  have e2:=inC_set (c:=fun i=>c i+if b.at_≤i∧i<b.at_+d then 1 else 0) (v:=c k+1) hkn
  obtain⟨cs,hcs⟩:∃ cs,cs=inC n fun i=>c i+if b.at_≤i∧i<b.at_+d then 1 else 0:=⟨_,rfl⟩
  have hcl:cs.length=n:=by rw[hcs];simp
  rw[←hcs] at g' e1 e2
  have e3:∀ h,cs[k]'h=.i .i64 (c k:Int):=fun h=>by rw[List.getElem?_eq_getElem h] at e1;exact Option.some.inj e1
  have e2':cs.set k (.i .i64 ((c k:Int)+1))=inC n fun i=>c i+if b.at_≤i∧i<k+1 then 1 else 0:=by
   rw[show((c k:Int)+1)=((c k+1:Nat):Int) by omega,e2]
   clear hw0 hw1 hw2
   refine inC_congr fun i _=>?_
   by_cases h1:i=k
   ·subst h1;rw[if_pos rfl,if_pos (by omega)]
   ·rw[if_neg h1]
    by_cases h2:b.at_≤i∧i<b.at_+d
    ·rw[if_pos h2,if_pos (by omega)]
    ·rw[if_neg h2,if_neg (by omega)]
  rw[←hk]
  have hsucc:b.at_+(d+1)=k+1:=by omega
  rw[hsucc]
  clear hlt hlt2 hlt3 hx hd
  simp -implicitDefEqProofs [L3a,hjl,hj2,hb,hb2,hw0,hw1,hw2,hk1,hk2,hkn,g',e1,e2',e3,hcl,hr,hkn1]
  done
 ·rintro e H' ⟨rfl,g'⟩
  rw[List.length_range] at g'
  simp -implicitDefEqProofs [L3a,hjl,hj2,hb,hb2,hw0]
  have:=hQ (.b false) H' (by
   rw[g']
   congr 2
   refine inC_congr fun i _=>?_
   simp only[inB,Bool.and_eq_true,decide_eq_true_eq])
  simpa using this
 ·exact⟨by simp,by rw[g];congr 2;exact inC_congr fun i _=>by rw[if_neg (by omega)];omega⟩
end
end Go.Proofs.Ytllfklgliaoojaa
namespace Go.Proofs.Ytllfklgliaoojaa
open Go Go.RI
section
variable {G:AHeap} (hG:G.next=1)
include hG
set_option maxHeartbeats 4000000 in
set_option maxRecDepth 4000 in
theorem t_cov_b(code:List Ins3)(hcl:code.length≤512)(ks:List Int)(l:List Blk)(hl:l=blocksP code ks)(a7:AVal)(r:Nat)(hr:1≤r)(Q:Post)(H:AHeap)(g:H.get r=some (.cells (inC code.length fun _=>0) 1 false))
  (hQ:∀ w H',H'.get r=some (.cells (inC code.length (RI.cover l)) 1 false)→Q (.exit 0) [(5,.fs false false l.length (encs l)),(7,a7),(9,.fs false false code.length (encs code)),(10,.sl r 0 code.length (some code.length)),(11,.i .i64 l.length),(59,w)] H') :
  wp (theCalls IP G 1) 1 (.loop L3b) Q [(5,.fs false false l.length (encs l)),(7,a7),(9,.fs false false code.length (encs code)),(10,.sl r 0 code.length (some code.length)),(11,.i .i64 0)] H:=by
 have hll:l.length≤512:=by rw[hl];exact Nat.le_trans blocks_len hcl
 refine wp_loop_list (l:=l) (by omega) (fun j todo e H'=>e=[(5,.fs false false l.length (encs l)),(7,a7),(9,.fs false false code.length (encs code)),(10,.sl r 0 code.length (some code.length)),(11,.i .i64 j)]∧H'.get r=some (.cells (inC code.length (RI.cover (l.take j))) 1 false)) ?_ ?_ ?_
 ·rintro j b todo e H' hb hd hlt hlt2 hlt3 ⟨rfl,g'⟩
  have hb2:=get_all hb
  obtain⟨f1,f2⟩:=blocks_fit (code:=code) (ks:=ks) (b:=b) (by rw[←hl];exact List.mem_of_getElem? hb)
  have q1:¬(b.many:Int)<1:=by omega
  have q2:¬(b.at_:Int)<0:=by omega
  have q3:¬(code.length:Int)<b.at_:=by omega
  have q4:wrapI .i64 ((code.length:Int)-(b.at_:Int))=(code.length:Int)-(b.at_:Int):=wrap_sub2 (by omega) (by omega)
  have q5:¬(code.length:Int)-(b.at_:Int)<b.many:=by clear q4;omega
  have q6:(0<(j:Int)→∃(m:Nat) (b':Blk),j=m+1∧l[m]?=some b'∧b'.at_<b.at_):=fun h=>by
   obtain⟨m,rfl⟩:∃ m,j=m+1:=⟨j-1,by clear q4;omega⟩
   obtain⟨b',hb'⟩:=get_of_lt (l:=l) (i:=m) (by clear q4;omega)
   refine⟨m,b',rfl,hb',?_⟩
   rw[hl] at hb hb'
   exact blocks_rise hb' hb
  have hQ2:=fun Q' hq=>t_cov_a hG l (by clear q4;omega) j b hb code.length f2 (by clear q4;omega) (RI.cover (l.take j)) (fun i=>Nat.lt_of_le_of_lt (cover_le _ i) (by rw[List.length_take];clear q4;omega)) a7 (.fs false false code.length (encs code)) r hr Q' H' g' hq
  by_cases hj:0<j
  rotate_left
  ·have p0:¬ 0<(j:Int):=by clear q4;omega
   clear hlt
   simp -implicitDefEqProofs [L3b,hlt2,hlt3,hb,hb2,q1,q2,q3,q4,q5,hj,p0]
   refine hQ2 _ ?_
   intro w H2 g2
   simp -implicitDefEqProofs [hlt3]
   rw[g2]
   congr 2
   exact inC_congr fun i _=>by rw[take_snoc hb,cover_snoc]
  ·have p0:0<(j:Int):=by clear q4;omega
   obtain⟨m,b',hm,hb',hlt4⟩:=q6 p0
   have hb3:=get_all hb'
   have q7:¬(b.at_:Int)≤(b'.at_:Int):=by clear q4;omega
   have q8:wrapI .i64 ((j:Int)-1)=(m:Int):=by rw[hm];exact wrap_pred (a:=m) (by clear q4;omega)
   have q9:(m:Int)<l.length:=by clear q4 q8;omega
   clear hlt
   simp -implicitDefEqProofs [L3b,hlt2,hlt3,hb,hb2,hb',hb3,q1,q2,q3,q4,q5,q7,q8,q9,hj,p0]
   refine hQ2 _ ?_
   intro w H2 g2
   simp -implicitDefEqProofs [hlt3]
   rw[g2]
   congr 2
   exact inC_congr fun i _=>by rw[take_snoc hb,cover_snoc]
 ·rintro e H' ⟨rfl,g'⟩
  rw[List.take_length] at g'
  simp -implicitDefEqProofs [L3b]
  exact hQ _ H' g'
 ·exact⟨by simp,by rw[g];rfl⟩
end
end Go.Proofs.Ytllfklgliaoojaa
namespace Go.Proofs.Ytllfklgliaoojaa
open Go Go.RI
section
variable {G:AHeap} (hG:G.next=1)
include hG
set_option maxHeartbeats 4000000 in
set_option maxRecDepth 4000 in
theorem t_cov_c(code:List Ins3)(hcl:code.length≤512)(pl:List Plc)(hK:Known code pl)(r:Nat)(Q:Post)(H:AHeap)(g:H.get r=some (.cells (inC code.length (RI.cover (blocksP code (begP code pl)))) 1 false))
  (hQ:∀ w,Q (.exit 4) [(7,.fs false false pl.length (encs pl)),(9,.fs false false code.length (encs code)),(10,.sl r 0 code.length (some code.length)),(13,.i .i64 code.length),(155,w)] H) :
  wp (theCalls IP G 1) 1 (.loop L3c) Q [(7,.fs false false pl.length (encs pl)),(9,.fs false false code.length (encs code)),(10,.sl r 0 code.length (some code.length)),(13,.i .i64 0)] H:=by
 obtain⟨cs,hcs⟩:∃ cs,cs=inC code.length (RI.cover (blocksP code (begP code pl))):=⟨_,rfl⟩
 rw[←hcs] at g
 have hcsl:cs.length=code.length:=by rw[hcs];simp
 refine wp_loop_list (l:=code) (by omega) (fun j todo e H'=>e=[(7,.fs false false pl.length (encs pl)),(9,.fs false false code.length (encs code)),(10,.sl r 0 code.length (some code.length)),(13,.i .i64 j)]∧H'=H) ?_ ?_ ?_
 ·rintro j x todo e H' hx hd hlt hlt2 hlt3 ⟨rfl,rfl⟩
  have hx2:=get_all hx
  have hpl:j<pl.length:=by rw[hK.len];exact hlt
  have hpl2:(j:Int)<(pl.length:Int):=by omega
  obtain⟨p,hp⟩:=get_of_lt (l:=pl) (i:=j) hpl
  have hp2:=get_all hp
  have hr:rch pl j=p.reached:=by unfold rch;rw[hp];rfl
  have hcov:=cuts_cover hK hx
  have e1:=inC_get (c:=RI.cover (blocksP code (begP code pl))) hlt
  rw[hcov,hr,←hcs] at e1
  have c1:=t_plain hG x.op
  have hgood:goodI x=((decide (1≤x.op)&&decide (x.op≤23))||(decide (x.op=24)||decide (x.op=25))):=rfl
  rw[hgood] at e1
  have e3:=get_all e1
  clear hcov hgood
  generalize hP:(decide (1≤x.op)&&decide (x.op≤23))=P at *
  clear hlt
  cases hre:p.reached
  ·simp -implicitDefEqProofs [hre] at e1 e3
   simp -implicitDefEqProofs [L3c,hlt2,hlt3,hpl2,hp,hp2,hx,hx2,g,e1,e3,hre]
  ·cases P
   ·by_cases h24:x.op=24
    ·rw[h24] at c1
     simp -implicitDefEqProofs [hre,h24] at e1 e3
     simp -implicitDefEqProofs [L3c,hlt2,hlt3,hpl2,hp,hp2,hx,hx2,g,e1,e3,hre,c1,h24]
    ·by_cases h25:x.op=25
     ·rw[h25] at c1
      simp -implicitDefEqProofs [hre,h25] at e1 e3
      simp -implicitDefEqProofs [L3c,hlt2,hlt3,hpl2,hp,hp2,hx,hx2,g,e1,e3,hre,c1,h25]
     ·simp -implicitDefEqProofs [hre,h24,h25] at e1 e3
      simp -implicitDefEqProofs [L3c,hlt2,hlt3,hpl2,hp,hp2,hx,hx2,g,e1,e3,hre,c1,h24,h25]
   ·simp -implicitDefEqProofs [hre] at e1 e3
    simp -implicitDefEqProofs [L3c,hlt2,hlt3,hpl2,hp,hp2,hx,hx2,g,e1,e3,hre,c1]
 ·rintro e H' ⟨rfl,rfl⟩
  simp -implicitDefEqProofs [L3c]
  exact hQ _
 ·exact⟨by simp,rfl⟩
end
end Go.Proofs.Ytllfklgliaoojaa
namespace Go.Proofs.Ytllfklgliaoojaa
open Go Go.RI
section
variable {G:AHeap} (hG:G.next=1)
include hG
set_option maxHeartbeats 4000000 in
set_option maxRecDepth 4000 in
theorem t_cutsCover(cw:pureR IP G 5 []=some (.b true))(P:Prg)(hP:okPrg P)(k:Int) :
  ∃ H',Brings IP G G.next 3 [.ag (Enc.cells P),.i .i64 k] G (.b true) H':=by
 obtain⟨e,pl,l,c1,c2,hE,hO⟩:=t_cOf hG P hP k false false
 simp only[pcells] at c1 c2
 refine law_brings ip3 rfl rfl ?_
 by_cases he:e=0
 rotate_left
 ·have hl:=hE he
  subst hl
  simp -implicitDefEqProofs [I3,hG,cw,c1,c2,he]
 subst he
 obtain⟨hC,hk,f,hf,hK,rfl⟩:=hO rfl
 obtain⟨m,rfl⟩:∃ m:Nat,k=m:=⟨k.toNat,by omega⟩
 simp at hf
 obtain⟨w1,w2,w3⟩:=hC f (List.mem_of_getElem? hf)
 have hm0:=lt_of_get hf
 have hm:(m:Int)<P.funcs.length:=by omega
 have hm2:¬(P.funcs.length:Int)≤m:=by omega
 have hm4:¬ P.funcs.length≤m:=by omega
 have hm3:=get_all hf
 have hm5:¬(m:Int)<0:=by omega
 have hlen:=hK.len
 have key:=t_cov_b hG f.code w1 (begP f.code pl) _ rfl (.fs false false pl.length (encs pl)) 2 (by omega)
 have key2:=t_cov_c hG f.code w1 pl hK 2
 have hb1:(8:Int)*(f.code.length:Int)≤281474976710656:=by omega
 have hb2:8*f.code.length≤281474976710656:=by omega
 clear hE hO
 simp -implicitDefEqProofs [I3,hG,cw,c1,c2,hf,hm,hm0,hm2,hm3,hm4,hm5,hb1,hb2,rep_inC]
 refine key _ _ (by simp -implicitDefEqProofs [hG]) ?_
 intro w H1 g1
 simp
 refine key2 _ H1 g1 ?_
 intro w2
 simp -implicitDefEqProofs [hlen]
end
end Go.Proofs.Ytllfklgliaoojaa
namespace Go.Proofs.Ytllfklgliaoojaa
open Go
noncomputable def G1:RI.AHeap:=RI.G0 1
end Go.Proofs.Ytllfklgliaoojaa
namespace Go.RI
open Go
theorem pure_closed{tab:List (Nat×IFunc)}{G:AHeap}{f k:Nat}{fn:IFunc}(hf:tabIP tab f=some fn)(hm:fn.mode=2)(h:isTrueP (callK (buildT tab) G k G.next f [] G)=true):pureR (tabIP tab) G f []=some (.b true):=by
 obtain⟨n,hn⟩:=closed_pure hf hm h G.next G
 simp only[acall,callI,callB,hf,hm] at hn
 simp only[mapO] at hn
 split at hn
 ·rename_i u H1 hb
  split at hn
  ·rename_i v' hv
   cases hn
   exact pureR_some ⟨fn,n,u,H1,hf,hb,hv⟩
  ·cases hn
 ·cases hn
end Go.RI
namespace Go.Proofs.Ytllfklgliaoojaa
open Go
theorem works_run:RI.isTrueP (RI.callK (RI.buildT tab) G1 100000 1 5 [] G1)=true:=by kernel_rfl
theorem works_pure:RI.pureR IP G1 5 []=some (.b true):=RI.pure_closed ip5 rfl works_run
end Go.Proofs.Ytllfklgliaoojaa
namespace Go.RI
open Go
def TyM(P:Program):Nat→TypeId→List AVal→Nat→Prop
  | 0,_,_,_=>False
  | n+1,t,l,m=>match P.underlying t with
    | some .bool=>∃ b,l=[.b b]
    | some (.int k)=>∃ i,l=[.i k i]∧(Lit.int k i).wf=true∧1≤m
    | some .string=>∃ s,l=[.s s]∧s.length+1≤m
    | some (.slice e)=>∃ es:List (List AVal×Nat),l=[.fs false false es.length (es.map (·.1)).flatten]∧(es.map (·.2)).sum+1≤m∧∀ x∈es,TyM P n e x.1 x.2∧x.1.length=P.cellsOf e
    | some (.struct fs)=>∃ xs:List (List AVal×Nat),l=(xs.map (·.1)).flatten∧xs.length=fs.toList.length∧(xs.map (·.2)).sum+1≤m∧∀(i:Nat) f x,fs.toList[i]?=some f→xs[i]?=some x→TyM P n f.type x.1 x.2∧x.1.length=P.cellsOf f.type
    | _=>False
structure Meas {H:Type} (μ:DataW H→Nat):Prop where
 one:∀ d,0+1≤μ d
 str:∀ s,s.length+1≤μ (.lit (.string s))
 sl:∀ l r,(l.map μ).sum+1≤μ (.slice l r)
 ag:∀ l,(l.map μ).sum+1≤μ (.agg l)
section
variable {w:World}
variable {H:Type} {enc:TypeId×Value→H} {P:Program} {base:Nat} {spare:Nat→Bool} {held:Bool}
variable {r:TypeId→List Value→Option (DataW H×List MemPlace)} {t:TypeId} {cs:List Value} {d:DataW H} {ps:List MemPlace}
theorem tile_rdM{n:Nat}{ts:List TypeId}{μ:DataW H→Nat}{cs:List Value}
    (ih:∀ t cs d ps,t∈ts→DataW.trod enc P w base spare held n t cs=some (d,ps)→∃ l,RdL w l cs∧TyM P n t l (μ d)) :
    ∀(fs:List Field) (o N:Nat) (ys:List (DataW H×List MemPlace)),tile P fs o N=true→(∀ f∈fs,f.type∈ts)→cs.length=N→fs.mapM (fun f=>DataW.trod enc P w base spare held n f.type ((cs.drop f.offset).take (P.cellsOf f.type)))=some ys→(∀ f∈fs,f.offset+P.cellsOf f.type≤N) →
      ∃ xs:List (List AVal×Nat),RdL w (xs.map (·.1)).flatten (cs.drop o)∧xs.length=fs.length∧(xs.map (·.2)).sum=((ys.map (·.1)).map μ).sum∧∀(i:Nat) f x,fs[i]?=some f→xs[i]?=some x→TyM P n f.type x.1 x.2∧x.1.length=P.cellsOf f.type:=by
  intro fs
  induction fs with
  | nil =>
    intro o N ys ht _ hl hm _
    simp only[tile,beq_iff_eq] at ht
    subst ht
    rw[List.mapM_nil] at hm
    cases hm
    refine⟨[],?_,rfl,rfl,fun i f x h=>by simp at h⟩
    rw[List.drop_of_length_le (by omega)]
    simp[RdL]
  | cons f fs ihf =>
    intro o N ys ht hts hl hm hb
    simp only[tile,Bool.and_eq_true,beq_iff_eq] at ht
    obtain⟨rfl,ht⟩:=ht
    rw[List.mapM_cons] at hm
    simp only[bind,Option.bind_eq_some_iff,pure] at hm
    obtain⟨⟨d,p⟩,h1,ys',h2,h3⟩:=hm
    cases h3
    obtain⟨x,hx,hty⟩:=ih f.type _ d p (hts f (by simp)) h1
    obtain⟨xs,hxs,hlen,hsum,hall⟩:=ihf (f.offset+P.cellsOf f.type) N ys' ht (fun g hg=>hts g (by simp[hg])) hl h2 (fun g hg=>hb g (by simp[hg]))
    have hxl:x.length=P.cellsOf f.type:=by
      rw[RdL_len hx,List.length_take,List.length_drop]
      have:=hb f (by simp)
      omega
    refine⟨(x,μ d)::xs,?_,by simp[hlen],by simp only[List.map_cons,List.sum_cons];rw[hsum],fun i g y hg hy=>?_⟩
    · have:cs.drop f.offset=(cs.drop f.offset).take (P.cellsOf f.type)++cs.drop (f.offset+P.cellsOf f.type):=by
        conv=>lhs;rw[←List.take_append_drop (P.cellsOf f.type) (cs.drop f.offset)]
        rw[List.drop_drop]
      rw[this,List.map_cons,List.flatten_cons]
      exact RdL_append hx hxs
    · cases i with
      | zero=>simp at hg hy;subst hg hy;exact⟨hty,hxl⟩
      | succ i=>exact hall i g y (by simpa using hg) (by simpa using hy)
theorem trod_rdM{ts:List TypeId}(hts:ts.all (okTy P ts)=true){μ:DataW H→Nat}(hsm:Meas μ)(hsp:∀ b,spare b=true) :
    ∀(n:Nat) (t:TypeId) (cs:List Value) (d:DataW H) (ps:List MemPlace),t∈ts→DataW.trod enc P w base spare held n t cs=some (d,ps)→∃ l,RdL w l cs∧TyM P n t l (μ d):=by
  intro n
  induction n with
  | zero=>intro t cs d ps _ h;simp[DataW.trod] at h
  | succ n ih =>
    intro t cs d ps ht h
    have hok:=List.all_eq_true.1 hts t ht
    unfold okTy at hok
    rw[DataW.trod_step] at h
    unfold TyM
    cases hu:P.underlying t with
    | none=>rw[hu] at hok;cases hok
    | some T =>
      rw[hu] at hok
      cases T<;>simp only at hok<;>try (cases hok;done)
      case bool =>
        obtain⟨b,rfl,rfl⟩:=step_bool hu h
        exact⟨[.b b],RdL_one (by simp[Rd,noId,one,ren]),b,rfl⟩
      case int k =>
        obtain⟨m,rfl,rfl,hw⟩:=step_int hu h
        exact⟨[.i k m],RdL_one (by simp[Rd,noId,one,ren]),m,rfl,hw,hsm.one _⟩
      case string =>
        obtain⟨s,rfl,rfl⟩:=step_string hu h
        exact⟨[.s s.data.toList],RdL_one (by simp[Rd,noId,one,ren]),_,rfl,hsm.str _⟩
      case slice e =>
        simp only[Bool.and_eq_true,decide_eq_true_eq,List.contains_iff_mem] at hok
        obtain⟨he,hc⟩:=hok
        rcases step_slice hu h with rfl|⟨a,len,cap,elems,rest,rfl,hlc,hel,hrest,rfl⟩
        · exact⟨[.fs false false 0 []],RdL_one (by simp[Rd]),[],rfl,hsm.one _,fun x hx=>by simp at hx⟩
        · have hB:=fun r=>hsm.sl (elems.map (·.1)) r
          have hlen:elems.length=len:=by simpa using mapM_some_length hel
          by_cases h0:len=0
          · subst h0
            refine⟨[.fs false false 0 []],RdL_one ?_,[],rfl,hsm.one _,fun x hx=>by simp at hx⟩
            simp only[Rd]
            refine⟨trivial,trivial,.inl ⟨trivial,trivial,.inr ?_⟩⟩
            by_cases hc0:cap=0
            · subst hc0;exact .inl ⟨a,rfl⟩
            · rw[hsp,if_pos rfl] at hrest
              obtain⟨b,hb,hfb⟩:=Go.Lib.mapM_at hrest 0 0 (by rw[List.getElem?_range (by omega)])
              simp only[Option.bind_eq_some_iff] at hfb
              obtain⟨c0,hc1,_⟩:=hfb
              have:=(cells_at hc1 hc).1
              have ha:a.add ((0+0)*P.cellsOf e)=a:=by simp[Addr.add]
              rw[ha] at this
              obtain⟨ab,ao,asp⟩:=a
              cases this
              exact .inr ⟨ab,ao,cap,rfl⟩
          · have el:∀ i,i<len→∃ csi x bd,(elems.map (·.1))[i]?=some bd∧w.cells? base (a.add (i*P.cellsOf e)) (P.cellsOf e)=some csi∧RdL w x csi∧TyM P n e x (μ bd):=fun i hi=>by
              obtain⟨b,hb,hfb⟩:=Go.Lib.mapM_at hel i i (by simp[hi])
              simp only[Option.bind_eq_some_iff] at hfb
              obtain⟨csi,h1,h2⟩:=hfb
              obtain⟨bd,bp⟩:=b
              obtain⟨x,h3,h4⟩:=ih e csi bd bp he h2
              exact⟨csi,x,bd,by rw[List.getElem?_map,hb];rfl,h1,h3,h4⟩
            obtain⟨cs0,_,_,_,hc0,_,_⟩:=el 0 (by omega)
            have ha0:a.add (0*P.cellsOf e)=a:=by simp[Addr.add]
            rw[ha0] at hc0
            obtain⟨hspot,C,ty,fz,hC,_,_⟩:=cells_at hc0 hc
            have row:∀ i,i<len→∃ x bd,(elems.map (·.1))[i]?=some bd∧RdL w x ((C.toList.drop (a.off+i*P.cellsOf e)).take (P.cellsOf e))∧TyM P n e x (μ bd)∧x.length=P.cellsOf e∧a.off+i*P.cellsOf e+P.cellsOf e≤C.size:=fun i hi=>by
              obtain⟨csi,x,bd,h0,h1,h2,h3⟩:=el i hi
              obtain⟨_,C',ty',fz',hC',hsz,hcs⟩:=cells_at h1 hc
              have hb:(a.add (i*P.cellsOf e)).block=a.block:=by unfold Addr.add;split<;>rfl
              have ho:(a.add (i*P.cellsOf e)).off=a.off+i*P.cellsOf e:=by unfold Addr.add;split<;>simp_all
              rw[hb,hC] at hC'
              cases hC'
              rw[ho] at hcs hsz
              subst hcs
              refine⟨x,bd,h0,h2,h3,?_,hsz⟩
              rw[RdL_len h2]
              simp only[List.length_take,List.length_drop,Array.length_toList]
              omega
            have:∃ es:List (List AVal×Nat),es.length=len∧∀(i:Nat) x,es[i]?=some x→RdL w x.1 ((C.toList.drop (a.off+i*P.cellsOf e)).take (P.cellsOf e))∧TyM P n e x.1 x.2∧x.1.length=P.cellsOf e∧∃ bd,(elems.map (·.1))[i]?=some bd∧x.2=μ bd:=by
              clear hlen hel hB hlc hrest h
              clear el
              have key:∀ m,m≤len→∃ es:List (List AVal×Nat),es.length=m∧∀(i:Nat) x,es[i]?=some x→RdL w x.1 ((C.toList.drop (a.off+i*P.cellsOf e)).take (P.cellsOf e))∧TyM P n e x.1 x.2∧x.1.length=P.cellsOf e∧∃ bd,(elems.map (·.1))[i]?=some bd∧x.2=μ bd:=by
                intro m
                induction m with
                | zero=>intro _;exact⟨[],rfl,fun i x hx=>by simp at hx⟩
                | succ m ihm =>
                  intro hm
                  obtain⟨es,h1,h2⟩:=ihm (by omega)
                  obtain⟨x,bd,g0,g1,g2,g3,_⟩:=row m (by omega)
                  refine⟨es++[(x,μ bd)],by simp[h1],fun i y hy=>?_⟩
                  by_cases hi:i<es.length
                  · rw[List.getElem?_append_left hi] at hy;exact h2 i y hy
                  · rw[List.getElem?_append_right (by omega)] at hy
                    have hi0:i-es.length=0:=by
                      rcases Nat.eq_zero_or_pos (i-es.length) with h|h
                      · exact h
                      · rw[List.getElem?_eq_none (by simp;omega)] at hy;cases hy
                    rw[hi0] at hy
                    simp at hy
                    subst hy
                    have:i=m:=by omega
                    subst this
                    exact⟨g1,g2,g3,bd,g0,rfl⟩
              exact key len (Nat.le_refl _)
            obtain⟨es,hes,hall2⟩:=this
            refine⟨[.fs false false len (es.map (·.1)).flatten],RdL_one ?_,es,by rw[hes],?_,?_⟩
            · simp only[Rd]
              have hfl:=flat_rd (w:=w) (c:=P.cellsOf e) C.toList (es.map (·.1)) a.off (fun i x hx=>by
                rw[List.getElem?_map] at hx
                obtain⟨y,hy,rfl⟩:=Option.map_eq_some_iff.1 hx
                exact⟨(hall2 i y hy).1,(hall2 i y hy).2.2.1⟩)
              rw[List.length_map] at hfl
              obtain⟨xl,_,_,_,_,_,hsz⟩:=row (len-1) (by omega)
              have hsz2:a.off+len*P.cellsOf e≤C.size:=by
                have:len*P.cellsOf e=(len-1)*P.cellsOf e+P.cellsOf e:=by
                  conv=>lhs;rw[show len=(len-1)+1 by omega,Nat.add_mul,Nat.one_mul]
                omega
              refine⟨trivial,trivial,.inr ⟨by omega,a.block,a.off,cap,P.cellsOf e,C,ty,fz,?_,hlc,hC,?_,hsz2,?_⟩⟩
              · obtain⟨ab,ao,asp⟩:=a;cases hspot;rfl
              · rw[RdL_len hfl,hes,List.length_take,List.length_drop];have:C.toList.length=C.size:=rfl;omega
              · rw[hes] at hfl;exact hfl
            · have hs:es.map (·.2)=(elems.map (·.1)).map μ:=by
                apply List.ext_getElem?
                intro i
                rw[List.getElem?_map,List.getElem?_map]
                rcases Nat.lt_or_ge i len with hi|hi
                · obtain⟨x,hx⟩:=List.getElem?_eq_some_iff.2 ⟨by omega,rfl⟩ |> fun h=>(⟨es[i]'(by omega),h⟩:∃ x,es[i]?=some x)
                  obtain⟨bd,h1,h2⟩:=(hall2 i x hx).2.2.2
                  rw[hx,h1]
                  simp[h2]
                · rw[List.getElem?_eq_none (by omega),List.getElem?_eq_none (by simp;omega)];rfl
              rw[hs]
              exact hB _
            · intro x hx
              obtain⟨i,hi⟩:=List.getElem?_of_mem hx
              exact⟨(hall2 i x hi).2.1,(hall2 i x hi).2.2.1⟩
      case struct fs =>
        simp only[Bool.and_eq_true,List.all_eq_true,List.contains_iff_mem] at hok
        obtain⟨hl,ys,hm,rfl⟩:=step_struct hu h
        obtain⟨xs,h1,h2,h3,h4⟩:=tile_rdM ih fs.toList 0 (P.cellsOf t) ys hok.1 hok.2 hl hm (tile_le _ _ _ hok.1).2
        exact⟨(xs.map (·.1)).flatten,by simpa using h1,xs,rfl,h2,by rw[h3];exact hsm.ag _,h4⟩
end
def TyVM(P:Program)(n:Nat)(t:TypeId)(x:AVal)(m:Nat):Prop:=∃ l,TyM P n t l m∧(match P.underlying t with
 | some (.struct _)=>x=.ag l
 | _=>l=[x])
section
variable {H:Type} {enc:TypeId×Value→H} {P:Program} {W W':World}
theorem arg_rdM{ts:List TypeId}(hts:ts.all (okTy P ts)=true){μ:DataW H→Nat}(hsm:Meas μ){t:TypeId}(ht:t∈ts){base:Nat}{v:Value}(hv:Value.okWide P W .any base t v){d:DataW H}{p:List MemPlace}
    (h:DataW.Trod enc P W 0 (fun _=>true) true t v d p):∃ n x,RdV W x v∧TyVM P n t x (μ d):=by
  obtain⟨n,hn⟩:=h
  obtain⟨l,h1,h2⟩:=trod_rdM hts hsm (fun _=>rfl) n t _ d p ht hn
  have hok:=List.all_eq_true.1 hts t ht
  unfold okTy at hok
  cases n with
  | zero=>simp[TyM] at h2
  | succ n =>
    have h2':=h2
    unfold TyM at h2
    unfold Value.okWide at hv
    cases hu:P.underlying t with
    | none=>rw[hu] at hok;cases hok
    | some T =>
      rw[hu] at hok h2 hv
      have leaf:∀ x,l=[x]→(∀ cs,v≠.agg cs)→(∀ l,x≠.ag l)→(match some T with|some (.struct _)=>x=.ag l|_=>l=[x])→∃ n x,RdV W x v∧TyVM P n t x (μ d):=by
        intro x hx hna hxa hm
        subst hx
        have:v.cells.toList=[v]:=by cases v<;>first|rfl|exact(hna _ rfl).elim
        rw[this] at h1
        simp only[RdL] at h1
        obtain⟨v',r,he,hr,_⟩:=h1
        cases he
        refine⟨n+1,x,?_,[x],h2',by rw[hu];exact hm⟩
        cases x<;>first|exact hr|exact(hxa _ rfl).elim
      cases T<;>simp only at hok<;>try (cases hok;done)
      case bool =>
        obtain⟨b,rfl⟩:=h2
        refine leaf _ rfl (fun cs e=>?_) (fun l e=>by cases e) rfl
        subst e
        simp[Cell.okWide,Cell.ok,hu] at hv
      case int k =>
        obtain⟨i,rfl,_⟩:=h2
        refine leaf _ rfl (fun cs e=>?_) (fun l e=>by cases e) rfl
        subst e
        simp[Cell.okWide,Cell.ok,hu] at hv
      case string =>
        obtain⟨s,rfl,_⟩:=h2
        refine leaf _ rfl (fun cs e=>?_) (fun l e=>by cases e) rfl
        subst e
        simp[Cell.okWide,Cell.ok,hu] at hv
      case slice e =>
        obtain⟨es,rfl,_⟩:=h2
        refine leaf _ rfl (fun cs e=>?_) (fun l e=>by cases e) rfl
        subst e
        simp[Cell.okWide,Cell.ok,hu] at hv
      case struct fs =>
        obtain⟨cs,rfl,_⟩:=hv
        exact⟨n+1,.ag l,⟨cs,rfl,h1⟩,l,h2',by rw[hu]⟩
end
end Go.RI
namespace Go.RI
open Go
structure ValTys (P:Program) (tI tS tV tLV tLS:TypeId):Prop where
 i:P.underlying tI=some (.int .i64)
 s:P.underlying tS=some .string
 v:∃ fs,P.underlying tV=some (.struct fs)∧fs.toList.map (·.type)=[tI,tI,tS,tLV,tLS]
 lv:P.underlying tLV=some (.slice tV)
 ls:P.underlying tLS=some (.slice tS)
structure PceTys (P:Program) (tI tS tV tLV tLS tO tLO tSt tLSt tP:TypeId):Prop where
 i:P.underlying tI=some (.int .i64)
 s:P.underlying tS=some .string
 v:∃ fs,P.underlying tV=some (.struct fs)∧fs.toList.map (·.type)=[tI,tI,tS,tLV,tLS]
 lv:P.underlying tLV=some (.slice tV)
 ls:P.underlying tLS=some (.slice tS)
 o:∃ fs,P.underlying tO=some (.struct fs)∧fs.toList.map (·.type)=[tI,tI,tV]
 lo:P.underlying tLO=some (.slice tO)
 st:∃ fs,P.underlying tSt=some (.struct fs)∧fs.toList.map (·.type)=[tI,tI,tLO,tS,tLS]
 lst:P.underlying tLSt=some (.slice tSt)
 p:∃ fs,P.underlying tP=some (.struct fs)∧fs.toList.map (·.type)=[tI,tI,tI,tI,tLSt,tLO,tI,tI,tO,tI]
section
variable {P:Program}
theorem tyM_int{t:TypeId}{n m:Nat}{l:List AVal}(hu:P.underlying t=some (.int .i64))(h:TyM P n t l m):∃ i,l=[.i .i64 i]:=by
 cases n with
 | zero=>cases h
 | succ n=>unfold TyM at h;rw[hu] at h;obtain⟨i,h1,_⟩:=h;exact⟨i,h1⟩
theorem tyM_str{t:TypeId}{n m:Nat}{l:List AVal}(hu:P.underlying t=some .string)(h:TyM P n t l m):∃ s:Str,l=Enc.cells s∧1+s.length≤m:=by
 cases n with
 | zero=>cases h
 | succ n=>unfold TyM at h;rw[hu] at h;obtain⟨s,h1,h2⟩:=h;exact⟨s,h1,by omega⟩
theorem tyM_slice{t e:TypeId}{n m:Nat}{l:List AVal}(hu:P.underlying t=some (.slice e)){α:Type}[Enc α](μ:α→Nat)(hx:∀ n x m,TyM P n e x m→∃ a:α,x=Enc.cells a∧μ a≤m)(h:TyM P n t l m):∃ bs:List α,l=[.fs false false bs.length (encs bs)]∧(bs.map μ).sum+1≤m:=by
  cases n with
  | zero=>cases h
  | succ n =>
    unfold TyM at h
    rw[hu] at h
    obtain⟨es,rfl,h1,h2⟩:=h
    have:∃ bs:List α,bs.length=es.length∧(es.map (·.1)).flatten=encs bs∧(bs.map μ).sum≤(es.map (·.2)).sum:=by
      clear h1
      induction es with
      | nil=>exact⟨[],rfl,rfl,Nat.le_refl _⟩
      | cons x es ih =>
        obtain⟨bs,g1,g2,g3⟩:=ih fun y hy=>h2 y (List.mem_cons_of_mem _ hy)
        obtain⟨a,g4,g5⟩:=hx _ _ _ (h2 x (List.mem_cons_self ..)).1
        exact⟨a::bs,by simp[g1],by simp[g2,g4],by simp only[List.map_cons,List.sum_cons];omega⟩
    obtain⟨bs,g1,g2,g3⟩:=this
    exact⟨bs,by rw[g1,g2],by omega⟩
theorem tyM_struct{t:TypeId}{n m:Nat}{l:List AVal}{ts:List TypeId}(hu:∃ fs,P.underlying t=some (.struct fs)∧fs.toList.map (·.type)=ts)(h:TyM P (n+1) t l m) :
  ∃ xs:List (List AVal×Nat),l=(xs.map (·.1)).flatten∧xs.length=ts.length∧(xs.map (·.2)).sum+1≤m∧∀(i:Nat) t x,ts[i]?=some t→xs[i]?=some x→TyM P n t x.1 x.2:=by
 obtain⟨fs,hu,rfl⟩:=hu
 unfold TyM at h
 rw[hu] at h
 obtain⟨xs,h1,h2,h3,h4⟩:=h
 refine⟨xs,h1,by simpa using h2,h3,fun i t x ht hx=>?_⟩
 rw[List.getElem?_map] at ht
 obtain⟨f,hf,rfl⟩:=Option.map_eq_some_iff.1 ht
 exact(h4 i f x hf hx).1
theorem sum_bulkS:∀ l:List Str,(l.map fun s=>1+s.length).sum=bulkS l
 | []=>rfl
 | s::l=>by simp only[List.map_cons,List.sum_cons,bulkS];rw[sum_bulkS l]
theorem sum_bulkL:∀ l:List Val,(l.map Val.bulk).sum=bulkL l
 | []=>rfl
 | v::l=>by simp only[List.map_cons,List.sum_cons,bulkL];rw[sum_bulkL l]
theorem list3{α:Type}{l:List α}(h:l.length=3):∃ a b c,l=[a,b,c]:=by
 match l,h with
 | [a,b,c],_=>exact⟨a,b,c,rfl⟩
theorem list5{α:Type}{l:List α}(h:l.length=5):∃ a b c d e,l=[a,b,c,d,e]:=by
 match l,h with
 | [a,b,c,d,e],_=>exact⟨a,b,c,d,e,rfl⟩
variable {tI tS tV tLV tLS tO tLO tSt tLSt tP:TypeId}
theorem PceTys.val(K:PceTys P tI tS tV tLV tLS tO tLO tSt tLSt tP):ValTys P tI tS tV tLV tLS:=⟨K.i,K.s,K.v,K.lv,K.ls⟩
theorem tyM_strsV(K:ValTys P tI tS tV tLV tLS){n m:Nat}{l:List AVal}(h:TyM P n tLS l m):∃ ns:List Str,l=[.fs false false ns.length (encs ns)]∧bulkS ns+1≤m:=by
 obtain⟨ns,h1,h2⟩:=tyM_slice K.ls (fun s:Str=>1+s.length) (fun n x m hx=>tyM_str K.s hx) h
 exact⟨ns,h1,by rw[←sum_bulkS];exact h2⟩
theorem tyM_valV(K:ValTys P tI tS tV tLV tLS):∀(n m:Nat) (l:List AVal),TyM P n tV l m→∃ v:Val,l=Enc.cells v∧v.bulk≤m:=by
  intro n
  induction n using Nat.strongRecOn with
  | _ n ih =>
    intro m l h
    cases n with
    | zero=>cases h
    | succ n =>
      obtain⟨xs,rfl,h1,h2,h3⟩:=tyM_struct K.v h
      obtain⟨x0,x1,x2,x3,x4,rfl⟩:=list5 h1
      obtain⟨k,e0⟩:=tyM_int K.i (h3 0 tI x0 rfl rfl)
      obtain⟨i,e1⟩:=tyM_int K.i (h3 1 tI x1 rfl rfl)
      obtain⟨s,e2,b2⟩:=tyM_str K.s (h3 2 tS x2 rfl rfl)
      have h4:=h3 3 tLV x3 rfl rfl
      obtain⟨ns,e4,b4⟩:=tyM_strsV K (h3 4 tLS x4 rfl rfl)
      have:∃ vs:List Val,x3.1=[.fs false false vs.length (encs vs)]∧(vs.map Val.bulk).sum+1≤x3.2:=by
        cases n with
        | zero=>cases h4
        | succ n =>
          unfold TyM at h4
          rw[K.lv] at h4
          obtain⟨es,g0,g1,g2⟩:=h4
          have:∃ bs:List Val,bs.length=es.length∧(es.map (·.1)).flatten=encs bs∧(bs.map Val.bulk).sum≤(es.map (·.2)).sum:=by
            clear g0 g1
            induction es with
            | nil=>exact⟨[],rfl,rfl,Nat.le_refl _⟩
            | cons x es ihe =>
              obtain⟨bs,f1,f2,f3⟩:=ihe fun y hy=>g2 y (List.mem_cons_of_mem _ hy)
              obtain⟨a,f4,f5⟩:=ih n (by omega) _ _ (g2 x (List.mem_cons_self ..)).1
              exact⟨a::bs,by simp[f1],by rw[List.map_cons,List.flatten_cons,f2,f4,encs_cons],by simp only[List.map_cons,List.sum_cons];omega⟩
          obtain⟨bs,f1,f2,f3⟩:=this
          exact⟨bs,by rw[g0,f1,f2],by omega⟩
      obtain⟨vs,e3,b3⟩:=this
      refine⟨.mk k i s vs ns,?_,?_⟩
      · simp only[List.map_cons,List.map_nil,List.flatten_cons,List.flatten_nil,e0,e1,e2,e3,e4,cells_val,cells_str]
        rfl
      · rw[sum_bulkL] at b3
        simp only[List.map_cons,List.map_nil,List.sum_cons,List.sum_nil] at h2
        simp only[Val.bulk]
        omega
theorem sum_len{α:Type}(μ:α→Nat)(hp:∀ a,1≤μ a):∀ l:List α,l.length≤(l.map μ).sum
 | []=>Nat.le_refl _
 | a::l=>by have:=sum_len μ hp l;have:=hp a;simp only[List.map_cons,List.sum_cons,List.length_cons];omega
theorem sum_mem{α:Type}(μ:α→Nat):∀ {l:List α} {a:α},a∈l→μ a≤(l.map μ).sum
  | b::l,a,h=>by
    simp only[List.map_cons,List.sum_cons]
    rcases List.mem_cons.1 h with rfl|h
    · omega
    · have:=sum_mem μ h;omega
end
end Go.RI
namespace Go.RI
open Go
structure PrgTys (P:Program) (tI tS tV tLV tLS tX tLX tF tLF tP:TypeId):Prop extends ValTys P tI tS tV tLV tLS where
 x:∃ fs,P.underlying tX=some (.struct fs)∧fs.toList.map (·.type)=[tI,tI,tI]
 lx:P.underlying tLX=some (.slice tX)
 f:∃ fs,P.underlying tF=some (.struct fs)∧fs.toList.map (·.type)=[tS,tI,tI,tLX]
 lf:P.underlying tLF=some (.slice tF)
 p:∃ fs,P.underlying tP=some (.struct fs)∧fs.toList.map (·.type)=[tLF,tLV]
section
variable {P:Program} {tI tS tV tLV tLS tX tLX tF tLF tP:TypeId}
theorem list2{α:Type}{l:List α}(h:l.length=2):∃ a b,l=[a,b]:=by
 match l,h with
 | [a,b],_=>exact⟨a,b,rfl⟩
theorem list4{α:Type}{l:List α}(h:l.length=4):∃ a b c d,l=[a,b,c,d]:=by
 match l,h with
 | [a,b,c,d],_=>exact⟨a,b,c,d,rfl⟩
theorem tyM_ins3(K:PrgTys P tI tS tV tLV tLS tX tLX tF tLF tP)(n:Nat)(l:List AVal)(m:Nat)(h:TyM P n tX l m):∃ o:Ins3,l=Enc.cells o∧1≤m:=by
  cases n with
  | zero=>cases h
  | succ n =>
    obtain⟨xs,rfl,h1,h2,h3⟩:=tyM_struct K.x h
    obtain⟨x0,x1,x2,rfl⟩:=list3 h1
    obtain⟨a,e0⟩:=tyM_int K.i (h3 0 tI x0 rfl rfl)
    obtain⟨b,e1⟩:=tyM_int K.i (h3 1 tI x1 rfl rfl)
    obtain⟨c,e2⟩:=tyM_int K.i (h3 2 tI x2 rfl rfl)
    exact⟨⟨a,b,c⟩,by simp[e0,e1,e2],by omega⟩
def fncB(f:Fnc):Nat:=f.name.length+f.code.length+1
theorem tyM_fnc(K:PrgTys P tI tS tV tLV tLS tX tLX tF tLF tP)(n:Nat)(l:List AVal)(m:Nat)(h:TyM P n tF l m):∃ f:Fnc,l=Enc.cells f∧fncB f≤m:=by
  cases n with
  | zero=>cases h
  | succ n =>
    obtain⟨xs,rfl,h1,h2,h3⟩:=tyM_struct K.f h
    obtain⟨x0,x1,x2,x3,rfl⟩:=list4 h1
    obtain⟨s,e0,b0⟩:=tyM_str K.s (h3 0 tS x0 rfl rfl)
    obtain⟨a,e1⟩:=tyM_int K.i (h3 1 tI x1 rfl rfl)
    obtain⟨b,e2⟩:=tyM_int K.i (h3 2 tI x2 rfl rfl)
    obtain⟨c,e3,b3⟩:=tyM_slice K.lx (fun _:Ins3=>1) (fun n x m h=>tyM_ins3 K n x m h) (h3 3 tLX x3 rfl rfl)
    refine⟨⟨s,a,b,c⟩,by simp[e0,e1,e2,e3],?_⟩
    have:=sum_len (fun _:Ins3=>1) (fun _=>Nat.le_refl _) c
    simp only[List.map_cons,List.map_nil,List.sum_cons,List.sum_nil] at h2
    unfold fncB
    simp only
    omega
theorem tyM_prg(K:PrgTys P tI tS tV tLV tLS tX tLX tF tLF tP)(n:Nat)(l:List AVal)(m:Nat)(h:TyM P n tP l m)(hm:m≤1048576):∃ p:Prg,l=Enc.cells p∧okPrg p:=by
  cases n with
  | zero=>cases h
  | succ n =>
    obtain⟨xs,rfl,h1,h2,h3⟩:=tyM_struct K.p h
    obtain⟨x0,x1,rfl⟩:=list2 h1
    obtain⟨fs,e0,b0⟩:=tyM_slice K.lf fncB (fun n x m h=>tyM_fnc K n x m h) (h3 0 tLF x0 rfl rfl)
    obtain⟨vs,e1,b1⟩:=tyM_slice K.lv Val.bulk (fun n x m h=>tyM_valV K.toValTys n m x h) (h3 1 tLV x1 rfl rfl)
    simp only[List.map_cons,List.map_nil,List.sum_cons,List.sum_nil] at h2
    refine⟨⟨fs,vs⟩,by simp[e0,e1],?_⟩
    have q1:=sum_len fncB (fun f=>by unfold fncB;omega) fs
    have q2:vs.length≤(vs.map Val.bulk).sum:=sum_len Val.bulk (fun v=>by cases v;simp only[Val.bulk];omega) vs
    refine⟨by simp only;omega,by simp only;omega,fun f hf=>?_,fun v hv=>?_⟩
    · have hf:f∈fs:=hf
      have:=sum_mem fncB hf
      have e:fncB f=f.name.length+f.code.length+1:=rfl
      exact⟨by omega,by omega⟩
    · have hv:v∈vs:=hv
      have:=sum_mem Val.bulk hv
      omega
end
end Go.RI
namespace Go.Proofs.Ytllfklgliaoojaa
open Go Go.RI
section
variable {G:AHeap} (hG:G.next=1)
include hG
set_option maxHeartbeats 4000000 in
set_option maxRecDepth 4000 in
theorem t_into_a(l:List Blk)(hl:l.length<100000)(hb:∀ b∈l,b.at_+b.many<100000)(ts:List Int)(tn:Nat)(htn:tn=ts.length)(j:Nat)(to:Int)(hto:ts[j]?=some to)(hno:∀ b∈l,¬((b.at_:Int)<to∧to<(b.at_:Int)+b.many))(a7 a9 a10:AVal)(r:Nat)(cap:Option Nat)(Q:Post)(H:AHeap)(g:H.get r=some (.cells (ts.map (AVal.i .i64)) 1 false))
  (hQ:∀ w,Q (.exit 4) [(5,.fs false false l.length (encs l)),(7,a7),(9,a9),(10,a10),(11,.sl r 0 tn cap),(12,.i .i64 j),(13,.i .i64 l.length),(124,w)] H) :
  wp (theCalls IP G 1) 1 (.loop L4a) Q [(5,.fs false false l.length (encs l)),(7,a7),(9,a9),(10,a10),(11,.sl r 0 tn cap),(12,.i .i64 j),(13,.i .i64 0)] H:=by
 obtain⟨cs,hcs⟩:∃ cs,cs=ts.map (AVal.i .i64):=⟨_,rfl⟩
 have hjt:j<tn:=by rw[htn];exact lt_of_get hto
 have hjt2:(j:Int)<(tn:Int):=by omega
 have hcl:cs.length=tn:=by rw[hcs,htn];simp
 have e1:cs[j]?=some (.i .i64 to):=by rw[hcs,List.getElem?_map,hto];rfl
 have e2:=get_all e1
 rw[←hcs] at g
 refine wp_loop_list (l:=l) (by omega) (fun i todo e H'=>e=[(5,.fs false false l.length (encs l)),(7,a7),(9,a9),(10,a10),(11,.sl r 0 tn cap),(12,.i .i64 j),(13,.i .i64 i)]∧H'=H) ?_ ?_ ?_
 ·rintro i b todo e H' hx hd hlt hlt2 hlt3 ⟨rfl,rfl⟩
  have hx2:=get_all hx
  have hbm:=hb b (List.mem_of_getElem? hx)
  have hn:=hno b (List.mem_of_getElem? hx)
  have hw:=wrap_add2 (a:=b.at_) (b:=b.many) (by omega)
  clear hlt
  by_cases q1:(b.at_:Int)<to
  ·have q2:¬ to<(b.at_:Int)+b.many:=fun h=>hn ⟨q1,h⟩
   simp -implicitDefEqProofs [L4a,hlt2,hlt3,hjt,hjt2,hx,hx2,g,e1,e2,q1,q2,hw,hcl]
  ·simp -implicitDefEqProofs [L4a,hlt2,hlt3,hjt,hjt2,hx,hx2,g,e1,e2,q1,hcl]
 ·rintro e H' ⟨rfl,rfl⟩
  simp -implicitDefEqProofs [L4a]
  exact hQ _
 ·exact⟨by simp,rfl⟩
set_option maxHeartbeats 4000000 in
set_option maxRecDepth 4000 in
theorem t_into_b(l:List Blk)(hl:l.length<100000)(hb:∀ b∈l,b.at_+b.many<100000)(ts:List Int)(tn:Nat)(htn:tn=ts.length)(htl:tn<100)(hno:∀ to∈ts,∀ b∈l,¬((b.at_:Int)<to∧to<(b.at_:Int)+b.many))(a7 a9 a10:AVal)(r:Nat)(cap:Option Nat)(Q:Post)(H:AHeap)(g:H.get r=some (.cells (ts.map (AVal.i .i64)) 1 false))
  (hQ:∀ w,Q (.exit 2) [(5,.fs false false l.length (encs l)),(7,a7),(9,a9),(10,a10),(11,.sl r 0 tn cap),(12,.i .i64 tn),(118,w)] H) :
  wp (theCalls IP G 1) 1 (.loop L4b) Q [(5,.fs false false l.length (encs l)),(7,a7),(9,a9),(10,a10),(11,.sl r 0 tn cap),(12,.i .i64 0)] H:=by
 refine wp_loop_list (l:=ts) (by omega) (fun i todo e H'=>e=[(5,.fs false false l.length (encs l)),(7,a7),(9,a9),(10,a10),(11,.sl r 0 tn cap),(12,.i .i64 i)]∧H'=H) ?_ ?_ ?_
 ·rintro j to todo e H' hx hd hlt hlt2 hlt3 ⟨rfl,rfl⟩
  have key:=t_into_a hG l hl hb ts tn htn j to hx (hno to (List.mem_of_getElem? hx)) a7 a9 a10 r cap
  rw[←htn] at hlt hlt2
  clear hlt
  simp -implicitDefEqProofs [L4b,hlt2,hlt3]
  refine key _ H' g ?_
  intro w
  simp -implicitDefEqProofs [hlt3]
 ·rintro e H' ⟨rfl,rfl⟩
  rw[←htn]
  simp -implicitDefEqProofs [L4b]
  exact hQ _
 ·exact⟨by simp,rfl⟩
end
end Go.Proofs.Ytllfklgliaoojaa
namespace Go.Proofs.Ytllfklgliaoojaa
open Go Go.RI
section
variable {G:AHeap} (hG:G.next=1)
include hG
set_option maxHeartbeats 4000000 in
set_option maxRecDepth 4000 in
theorem t_into_c(code:List Ins3)(hcl:code.length≤512)(pl:List Plc)(hK:Known code pl)(l:List Blk)(hl:l=blocksP code (begP code pl))(Q:Post)(H0:AHeap)(hH0:2≤H0.next)
  (hQ:∀ w H,Q (.exit 0) [(5,.fs false false l.length (encs l)),(7,.fs false false pl.length (encs pl)),(9,.fs false false code.length (encs code)),(10,.i .i64 code.length),(65,w)] H) :
  wp (theCalls IP G 1) 1 (.loop L4c) Q [(5,.fs false false l.length (encs l)),(7,.fs false false pl.length (encs pl)),(9,.fs false false code.length (encs code)),(10,.i .i64 0)] H0:=by
 have hll:l.length≤512:=by rw[hl];exact Nat.le_trans blocks_len hcl
 have hbm:∀ b∈l,b.at_+b.many<100000:=fun b hb=>by have:=(blocks_fit (by rw[←hl];exact hb)).2;omega
 refine wp_loop_list (l:=code) (by omega) (fun i todo e H=>e=[(5,.fs false false l.length (encs l)),(7,.fs false false pl.length (encs pl)),(9,.fs false false code.length (encs code)),(10,.i .i64 i)]∧2≤H.next) ?_ ?_ ?_
 ·rintro i x todo e H hx hd hlt hlt2 hlt3 ⟨rfl,hH⟩
  have hx2:=get_all hx
  have hpl:i<pl.length:=by rw[hK.len];exact hlt
  have hpl2:(i:Int)<(pl.length:Int):=by omega
  obtain⟨p,hp⟩:=get_of_lt (l:=pl) (i:=i) hpl
  have hp2:=get_all hp
  have hr:rch pl i=p.reached:=by unfold rch;rw[hp];rfl
  have c1:=t_plain hG x.op
  have hpp:plainI x=(decide (1≤x.op)&&decide (x.op≤23)):=rfl
  have hno:rch pl i=true→plainI x=false→∀ to,to=(i:Int)+1∨((turnI x=true∨tryI x=true)∧to=x.a)→∀ b∈l,¬((b.at_:Int)<to∧to<(b.at_:Int)+b.many):=fun h1 h2 to h3 b hb=>cuts_into hx h1 h2 h3 (by rw[←hl];exact hb)
  rw[hr] at hno
  rw[←hpp] at c1
  clear hpp hlt
  cases hre:p.reached
  ·simp -implicitDefEqProofs [L4c,hlt2,hlt3,hpl2,hp,hp2,hx,hx2,hre]
   omega
  cases hP:plainI x
  rotate_left
  ·rw[hP] at c1
   simp -implicitDefEqProofs [L4c,hlt2,hlt3,hpl2,hp,hp2,hx,hx2,hre,c1]
   omega
  rw[hP] at c1
  have hno:=hno hre hP
  have n1:¬ 1=H.next:=by omega
  have n2:1≤H.next:=by omega
  by_cases ht:turnI x=true∨tryI x=true
  rotate_left
  ·have t1:¬ x.op=24:=fun h=>ht (.inl (by unfold turnI;simp -implicitDefEqProofs [h]))
   have t2:¬ x.op=25:=fun h=>ht (.inl (by unfold turnI;simp -implicitDefEqProofs [h]))
   have t3:¬ x.op=26:=fun h=>ht (.inr (by unfold tryI;simp -implicitDefEqProofs [h]))
   have key:=t_into_b hG l (by omega) hbm [(i:Int)+1] 1 rfl (by omega) (fun to h=>hno to (.inl (by simpa using h))) (.fs false false pl.length (encs pl)) (.fs false false code.length (encs code)) (.i .i64 i) H.next (some 1)
   simp -implicitDefEqProofs [L4c,hlt2,hlt3,hpl2,hp,hp2,hx,hx2,hre,c1,t1,t2,t3]
   refine key _ _ (by simp) ?_
   intro w
   simp -implicitDefEqProofs [hlt3]
   omega
  have t1:¬ x.op=24→¬ x.op=25→x.op=26:=fun h1 h2=>by
   unfold turnI tryI at ht
   simpa[h1,h2] using ht
  have ts2:∀ to∈[(i:Int)+1,x.a],∀ b∈l,¬((b.at_:Int)<to∧to<(b.at_:Int)+b.many):=fun to h=>hno to (by
   rcases List.mem_cons.1 h with h|h
   ·exact .inl h
   ·exact .inr ⟨ht,by simpa using h⟩)
  have t2:x.op=24∨x.op=25∨x.op=26:=by
   by_cases h1:x.op=24
   ·exact .inl h1
   ·by_cases h2:x.op=25
    ·exact .inr (.inl h2)
    ·exact .inr (.inr (t1 h1 h2))
  have key:=t_into_b hG l (by omega) hbm [(i:Int)+1,x.a] 2 rfl (by omega) ts2 (.fs false false pl.length (encs pl)) (.fs false false code.length (encs code)) (.i .i64 i) (H.next+2) none
  rcases t2 with h|h|h<;>rw[h] at c1<;>simp -implicitDefEqProofs [L4c,hlt2,hlt3,hpl2,hp,hp2,hx,hx2,hre,c1,h]
  all_goals
   refine step_appH (lo':=2) (n:=1) (m:=1) (cells:=[.i .i64 ((i:Int)+1)]) (ys:=[.i .i64 x.a]) (.inr ⟨H.next,some 1,rfl,.inr rfl,hH,by simp;omega,by simp,rfl⟩) (by omega) (by simp) (more_lit (cs:=[.i .i64 x.a]) (e:=1) (ro:=false) (by simp) (by simp) (by omega)) (by simp) (by omega) (by omega) (by omega) (by omega) ?_
   intro H3 n3 A3 F3
   have n4:H3.next=H.next+2+1:=by rw[n3];simp
   have g3:H3.get (H.next+2)=some (.cells (List.map (AVal.i .i64) [(i:Int)+1,x.a]) 1 false):=by
    rcases A3 with⟨h,_⟩|⟨id,k1,k2,k3,k4,k5⟩
    ·cases h
    ·have e:id=H.next+2:=by simp at k1;omega
     rw[←e];simpa using k4
   simp
   refine key _ H3 g3 ?_
   intro w
   simp -implicitDefEqProofs [hlt3]
   omega
 ·rintro e H ⟨rfl,hH⟩
  simp -implicitDefEqProofs [L4c]
  exact hQ _ H
 ·exact⟨by simp,hH0⟩
end
end Go.Proofs.Ytllfklgliaoojaa
namespace Go.Proofs.Ytllfklgliaoojaa
open Go Go.RI
section
variable {G:AHeap} (hG:G.next=1)
include hG
set_option maxHeartbeats 4000000 in
set_option maxRecDepth 4000 in
theorem t_cutsInto(cw:pureR IP G 5 []=some (.b true))(P:Prg)(hP:okPrg P)(k:Int) :
  ∃ H',Brings IP G G.next 4 [.ag (Enc.cells P),.i .i64 k] G (.b true) H':=by
 obtain⟨e,pl,l,c1,c2,hE,hO⟩:=t_cOf hG P hP k false false
 simp only[pcells] at c1 c2
 refine law_brings ip4 rfl rfl ?_
 by_cases he:e=0
 rotate_left
 ·have hl:=hE he
  subst hl
  simp -implicitDefEqProofs [I4,hG,cw,c1,c2,he]
 subst he
 obtain⟨hC,hk,f,hf,hK,rfl⟩:=hO rfl
 obtain⟨m,rfl⟩:∃ m:Nat,k=m:=⟨k.toNat,by omega⟩
 simp at hf
 obtain⟨w1,w2,w3⟩:=hC f (List.mem_of_getElem? hf)
 have hm0:=lt_of_get hf
 have hm:(m:Int)<P.funcs.length:=by omega
 have hm2:¬(P.funcs.length:Int)≤m:=by omega
 have hm4:¬ P.funcs.length≤m:=by omega
 have hm3:=get_all hf
 have hm5:¬(m:Int)<0:=by omega
 have key:=t_into_c hG f.code w1 pl hK _ rfl
 clear hE hO
 simp -implicitDefEqProofs [I4,hG,cw,c1,c2,hf,hm,hm0,hm2,hm3,hm4,hm5]
 refine key _ _ (by simp -implicitDefEqProofs [hG]) ?_
 intro w H
 simp
end
end Go.Proofs.Ytllfklgliaoojaa
