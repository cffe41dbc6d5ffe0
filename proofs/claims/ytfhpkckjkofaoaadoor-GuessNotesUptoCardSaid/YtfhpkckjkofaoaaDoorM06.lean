import Derived.Test.YtfhpkckjkofaoaaDoorM05
import Derived.Test.YtfhpkckjkofaoaaDoorM04
import Derived.ReadAgain
import Derived.OpenShut
set_option linter.unusedVariables false
set_option linter.unusedSimpArgs false
set_option linter.unusedSectionVars false
/- RI, part TM: slices.Clone, whose body tests for nil, at the plain level. Conditions: none. -/
namespace Go.RI
open Go
theorem moreV_push{A:AHeap}(hw:Wf A){esz:Nat}{u:AVal}{r:Nat×List AVal}(h:moreV A esz u=some r)(o:AObj):moreV (A.push o) esz u=some r:=by
 unfold moreV at h ⊢
 cases u<;>simp only at h ⊢<;>try (exact h)
 case sl id off len cap =>
  split at h
  ·rename_i h0;rw[if_pos h0];exact h
  ·rename_i h0
   rw[if_neg h0]
   rw[Option.map_eq_some_iff] at h
   obtain⟨l,hl,he⟩:=h
   have:rowAt (A.push o) id off (len*esz)=some l:=by
    unfold rowAt at hl ⊢
    have hid:id≠A.next:=fun e=>by subst e;rw[hw _ (Nat.le_refl _)] at hl;cases hl
    rw[AHeap.get_push,if_neg hid];exact hl
   rw[this];exact congrArg some he
def CloneX(exA:ExI):Prop:=∀(lo nt md esz bytes:Nat) (u:AVal) (A:AHeap) (n:Nat) (cells:List AVal),0<esz→0<bytes→cells.length=n*esz→(n≠0→(2*n+192)*bytes≤281474976710656)→Wf A →
 (u=.ns∨(∃ a,u=.es a)∨∃ id off len cap,u=.sl id off len cap)→moreV A esz u=some (n,cells) →
 ∃ v A',bodyI exA ⟨cloneCode esz bytes,nt,1,[.t 2],md⟩ lo [u] A=some (v,A') ∧
  (n=0→(v=.ns∧A'=A)∨(v=.sl A.next 0 0 (some 0)∧A'=A.push (.cells [] esz false))) ∧
  (n≠0→v=.sl (A.next+1) 0 n none∧A'=(A.push (.cells [] esz false)).push (.cells cells esz false))
theorem clone_exec(IP:FuncId→Option IFunc)(G:AHeap)(f:Nat):CloneX (exec IP G (f+6)):=by
 intro lo nt md esz bytes u A n cells he hb hl hbd hw hu hm
 have hm2:=moreV_push hw hm (.cells [] esz false)
 have hc:cells.length=n*esz∧0<esz∧0<bytes:=⟨hl,he,hb⟩
 have hnx:(A.push (.cells [] esz false)).next=A.next+1:=rfl
 have hnil:u=.ns∨(u≠.ns∧eqNilV 0 u .ns=some false):=by
  rcases hu with rfl|⟨a,rfl⟩|⟨id,off,len,cap,rfl⟩
  ·exact .inl rfl
  ·exact .inr ⟨by simp,rfl⟩
  ·exact .inr ⟨by simp,rfl⟩
 rcases hnil with rfl|⟨hne,hnil⟩
 ·have h0:n=0:=by simp only[moreV,Option.some.injEq,Prod.mk.injEq] at hm;exact hm.1.symm
  subst h0
  refine⟨.ns,A,?_,fun _=>.inl ⟨rfl,rfl⟩,fun h=>absurd rfl h⟩
  simp[bodyI,cloneCode,exec,itemsI,itemI,opI,aop,wantedI,putD,Env.put,Env.get,initEnv,Opd.eval,reOk,skipI,Env.kill,eqNilV,nilV,resI,tupI]
 ·have happ:∃ v A',appV lo (A.push (.cells [] esz false)) esz bytes (.sl A.next 0 0 (some 0)) u=some (v,A') ∧
    (n=0→v=.sl A.next 0 0 (some 0)∧A'=A.push (.cells [] esz false))∧(n≠0→v=.sl (A.next+1) 0 n none∧A'=(A.push (.cells [] esz false)).push (.cells cells esz false)):=by
   by_cases h0:n=0
   ·refine⟨_,_,?_,fun _=>⟨rfl,rfl⟩,fun h=>absurd h0 h⟩
    subst h0
    simp[appV,hm2,hc]
   ·refine⟨_,_,?_,fun h=>absurd h h0,fun _=>⟨rfl,rfl⟩⟩
    have:=hbd h0
    simp[appV,hm2,hc,h0,this,hnx]
  obtain⟨v,A',h1,h2,h3⟩:=happ
  refine⟨v,A',?_,fun h=>.inr (h2 h),h3⟩
  simp[bodyI,cloneCode,exec,itemsI,itemI,opI,aop,wantedI,putD,Env.put,Env.get,initEnv,Opd.eval,reOk,skipI,Env.kill,hnil,resI,tupI,evalParts,fillA,h1]
end Go.RI
namespace Go.RI
open Go
noncomputable def frzS(n:Nat)(S:Stab)(A:AHeap):Stab:=fun id=>if n≤id then rowsOf A id else S id
section
variable {G:AHeap} {ρ:Nat→Nat} {S T:Stab} {H A:AHeap}
theorem frzT{S0 T0:Stab}{m:Nat}(h:TR G ρ S T H A)(hS:∀ id,id<m→S id=S0 id)(hnew:∀ i,G.next≤i→i<H.next→m≤ρ i){ρ0:Nat→Nat}{N0:Nat}:∀(n:Nat) (v w u:AVal),RV ρ H.next S T v 2 u→frzV H G.next n v=some w→RV ρ0 N0 (frzS m S0 A) T0 w 0 u:=by
  have hle:LeS 0 S T (frzS m S0 A) T0:=⟨fun id x hx=>by
    unfold frzS
    split
    · obtain⟨c,esz⟩:=x
      obtain⟨_,ro,h2⟩:=h.stab id c esz (by unfold look;rw[hx])
      simp[rowsOf,h2]
    · rename_i hlt;rw[←hS id (by omega)];exact hx,fun hk=>by omega⟩
  intro n
  induction n with
  | zero=>intro v w u _ hs;simp[frzV] at hs
  | succ n ih =>
    intro v w u hv hs
    cases v<;>simp only[frzV] at hs
    case p id off=>cases hs
    case fp l=>cases hs
    case ns =>
      cases hs
      simp only[RV] at hv
      subst hv
      simp[RV]
    case es ad =>
      cases hs
      simp only[RV] at hv
      subst hv
      simp[RV]
    case sl id off len cap =>
      simp only[RV] at hv
      obtain⟨_,hid,rfl⟩:=hv
      split at hs
      · rename_i h0
        cases hs
        subst h0
        simp[RV]
      · rename_i h0
        split at hs
        · rename_i hcap
          split at hs
          · rename_i l hl
            rw[Option.map_eq_some_iff] at hs
            obtain⟨k,hm,rfl⟩:=hs
            obtain⟨c,c',esz,ro,g1,g2,g3,g4,g5⟩:=rowO_T h hid hl
            have h3:=mapO_rel (fun v w u=>ih v w u) g5 hm
            have hmr:=hnew id hcap.1 hid
            simp only[RV]
            refine⟨fun e=>(by cases e),.inr ⟨by omega,ρ id,off,cap,c',esz,rfl,(fun e=>by cases e),?_,?_,by rw[mapO_len hm];exact g4,g3,h3⟩⟩
            · intro m' hm'
              have:=hcap.2
              rw[hm'] at this
              simpa[capOk] using this
            · unfold look frzS
              rw[if_pos hmr]
              simp[rowsOf,g2]
          · cases hs
        · cases hs
    case fn f a c =>
      simp only[RV] at hv
      obtain⟨a',c',rfl,h1,h2⟩:=hv
      split at hs
      · rename_i a2 ha
        split at hs
        · rename_i c2 hc
          cases hs
          simp only[RV]
          exact⟨a',c',rfl,mapO_rel (fun v w u=>ih v w u) h1 ha,mapO_rel (fun v w u=>ih v w u) h2 hc⟩
        · cases hs
      · cases hs
    case ag l =>
      rw[Option.map_eq_some_iff] at hs
      obtain⟨m,hm,rfl⟩:=hs
      simp only[RV] at hv
      obtain⟨l',rfl,h1⟩:=hv
      exact RV_ag (mapO_rel (fun v w u=>ih v w u) h1 hm)
    case tu l =>
      rw[Option.map_eq_some_iff] at hs
      obtain⟨m,hm,rfl⟩:=hs
      simp only[RV] at hv
      obtain⟨l',rfl,h1⟩:=hv
      exact RV_tu (mapO_rel (fun v w u=>ih v w u) h1 hm)
    case m id=>cases hs
    case ifc t v =>
      rw[Option.map_eq_some_iff] at hs
      obtain⟨m,hm,rfl⟩:=hs
      simp only[RV] at hv
      obtain⟨v',rfl,h1⟩:=hv
      simp only[RV]
      exact⟨v',rfl,ih _ _ _ h1 hm⟩
    case fs tmp full len l =>
      split at hs
      · cases hs
      · rename_i htmp
        cases hs
        have:tmp=false:=by simpa using htmp
        subst this
        simp only[RV] at hv ⊢
        obtain⟨_,hv⟩:=hv
        refine⟨fun e=>(by cases e),?_⟩
        rcases hv with⟨h1,h2,h3⟩|⟨h1,id,off,cap,c,esz,h2,h3,h4,h5,h6,h7,h8⟩
        · refine .inl ⟨h1,h2,?_⟩
          rcases h3 with h3|h3|⟨id,off,cap,h3,_⟩
          · exact .inl h3
          · exact .inr (.inl h3)
          · exact .inr (.inr ⟨id,off,cap,h3,fun e=>by cases e⟩)
        · exact .inr ⟨h1,id,off,cap,c,esz,h2,fun e=>(by cases e),h4,hle.look (tmp:=false) (fun e=>by cases e) h5,h6,h7,RVL_mono (k:=0) (k':=0) (fun e=>absurd e (by omega)) hle (Nat.le_refl _) (by omega) _ _ h8⟩
    all_goals
      cases hs
      simp only[RV] at hv ⊢
      exact hv
end
def ExT(G:AHeap)(ex exA:ExI):Prop:=∀ lo loA c ρ S T H A e a x e' H',G.next≤lo→ckC G.next c=true→TR G ρ S T H A→LoT ρ H lo loA→loA≤A.next→ER ρ H.next S T e a→ex lo c e H=some (x,e',H') →
 ∃ ρ' S' a' A',exA loA c a A=some (x,a',A')∧TR G ρ' S' T H' A'∧Mono ρ S H A ρ' S' H' A'∧ER ρ' H'.next S' T e' a'
section
variable {G:AHeap} {ρ:Nat→Nat} {S T:Stab} {H A:AHeap} {e a:Env} {lo loA:Nat}
theorem initT{N:Nat}:∀ {l l':List AVal} (k:Nat),RVL ρ N S T l 2 l'→ER ρ N S T (initEnv k l) (initEnv k l'):=by
  intro l
  induction l with
  | nil=>intro l' k h t v hv;simp[initEnv,Env.get] at hv
  | cons x l ih =>
    intro l' k h t v hv
    simp only[RVL] at h
    obtain⟨u,r,rfl,h1,h2⟩:=h
    simp only[initEnv,Env.get] at hv ⊢
    split at hv
    · rename_i ht;cases hv;exact⟨u,by rw[if_pos ht],h1⟩
    · rename_i ht;obtain⟨u',h3,h4⟩:=ih (k+1) h2 t v hv;exact⟨u',by rw[if_neg ht];exact h3,h4⟩
theorem resT(h:TR G ρ S T H A)(he:ER ρ H.next S T e a):∀ {l:List IRes} {vs:List AVal},resI e H l=some vs→∃ us,resI a A l=some us∧RVL ρ H.next S T vs 2 us:=by
  intro l
  induction l with
  | nil=>intro vs hs;simp only[resI,Option.some.injEq] at hs;subst hs;exact⟨[],rfl,by simp[RVL]⟩
  | cons x l ih =>
    intro vs hs
    cases x with
    | t n =>
      simp only[resI] at hs ⊢
      split at hs
      · rename_i v vs' h1 h2
        cases hs
        obtain⟨u,e1,e2⟩:=he n v h1
        obtain⟨us,e3,e4⟩:=ih h2
        rw[e1,e3]
        exact⟨_,rfl,RVL_cons e2 e4⟩
      · cases hs
    | c n k =>
      simp only[resI] at hs ⊢
      split at hs
      · rename_i p hp
        obtain⟨u,e1,e2⟩:=he n p hp
        rw[e1]
        simp only
        split at hs
        · rename_i v vs' h1 h2
          cases hs
          obtain⟨w,e5,e6⟩:=loadT h e2 h1
          obtain⟨us,e3,e4⟩:=ih h2
          rw[e5,e3]
          exact⟨_,rfl,RVL_cons e6 e4⟩
        · cases hs
      · cases hs
theorem tupT{N:Nat}{vs us:List AVal}(h:RVL ρ N S T vs 2 us):RV ρ N S T (tupI vs) 2 (tupI us):=by
  match vs,h with
  | [],h=>simp only[RVL] at h;subst h;exact RV_noId _ rfl
  | [v],h =>
    simp only[RVL] at h
    obtain⟨u,r,rfl,h1,rfl⟩:=h
    exact h1
  | v::v2::vs,h =>
    have h0:=h
    simp only[RVL] at h
    obtain⟨u,r,rfl,h1,u2,r2,rfl,h2⟩:=h
    exact RV_tu h0
theorem bodyT{ex exA:ExI}(hx:ExT G ex exA){fn:IFunc}(hck:ckC G.next fn.body=true)(hg:G.next≤lo)(h:TR G ρ S T H A)(hlo:LoT ρ H lo loA)(hA:loA≤A.next){args args':List AVal}(ha:RVL ρ H.next S T args 2 args'){v:AVal}{H':AHeap}(hs:bodyI ex fn lo args H=some (v,H')) :
  ∃ ρ' S' v' A',bodyI exA fn loA args' A=some (v',A')∧TR G ρ' S' T H' A'∧Mono ρ S H A ρ' S' H' A'∧RV ρ' H'.next S' T v 2 v':=by
 unfold bodyI at hs ⊢
 split at hs
 ·rename_i hl
  rw[if_pos (by rw[RVL_len ha];exact hl)]
  split at hs
  ·cases hs
  ·rename_i x e1 H1 hne hex
   obtain⟨ρ',S',a',A',k1,k2,k3,k4⟩:=hx _ _ _ _ _ _ _ _ _ _ _ _ _ hg hck h hlo hA (initT 0 ha) hex
   rw[k1]
   split at hs
   ·rename_i vs hvs
    cases hs
    obtain⟨us,e3,e4⟩:=resT k2 k4 hvs
    cases x with
    | exit id=>exact(hne id rfl).elim
    | normal=>simp only;rw[e3];exact⟨ρ',S',_,A',rfl,k2,k3,tupT e4⟩
    | ret=>simp only;rw[e3];exact⟨ρ',S',_,A',rfl,k2,k3,tupT e4⟩
   ·cases hs
  ·cases hs
 ·cases hs
def GOK(G:AHeap):Prop:=Wf G∧∀ g o,G.get g=some o→∃ c e,o=.cells c e true∧noIdL c=true
def pmode(b:ICode)(m:Nat):Nat:=match m with
  | 0=>0
  | 1=>1
  | 2=>1
  | 3=>1
  | _+4=>match isSkip b with
    | true=>4
    | false=>1
theorem pmode_zero{b:ICode}{m:Nat}(h:pmode b m=0):m=0:=by
 match m with
 | 0=>rfl
 | 1|2|3=>simp[pmode] at h
 | m+4=>simp only[pmode] at h;split at h<;>cases h
def plainP(IP:FuncId→Option IFunc):FuncId→Option IFunc:=fun f=>(IP f).map fun fn=>{ fn with mode:=pmode fn.body fn.mode }
def TabCk(g:Nat)(IP:FuncId→Option IFunc):Prop:=∀ f fn,IP f=some fn→ckC g fn.body=true∧(4≤fn.mode→isSkip fn.body=false→fn.np=1∧fn.res=[.t 2]∧∃ esz bytes,0<esz∧0<bytes∧fn.body=cloneCode esz bytes)
theorem TR.inner(hG:GOK G)(h:TR G ρ S T H A):TR G (fun i=>i) S (rowsOf A) G A where
  inj:=fun i j _ _ e=>e
  lt:=fun i hi=>Nat.lt_of_lt_of_le hi h.gA
  glob:=fun g hg=>⟨rfl,rfl,(h.glob g hg).2.2⟩
  gH:=Nat.le_refl _
  gA:=h.gA
  obj:=fun i o hi ho=>by
    obtain⟨c,e,rfl,hn⟩:=hG.2 i o ho
    exact⟨_,((h.glob i hi).2.2).trans ho,RO_cells (RV_noId.RVL_noId c hn)⟩
  stab:=fun id c esz hl=>by
    cases hS:S id with
    | some x =>
      have:look true S T id=some x:=by unfold look;rw[hS]
      rw[look,hS] at hl;cases hl
      exact h.stab id c esz this
    | none =>
      rw[look,hS] at hl
      simp only[if_true,rowsOf] at hl
      split at hl
      · rename_i c' e' ro hg
        cases hl
        refine⟨?_,ro,hg⟩
        rcases Nat.lt_or_ge id A.next with hlt|hge
        · exact hlt
        · rw[h.wfA id hge] at hg;cases hg
      · cases hl
  excl:=fun i o hi ho hw=>by
    obtain⟨c,e,rfl,hn⟩:=hG.2 i o ho
    simp[AObj.wr] at hw
  wfH:=hG.1
  wfA:=h.wfA
theorem TR.outer(h:TR G ρ S T H A){ρ1:Nat→Nat}{S1 T1:Stab}{H1 A1:AHeap}(h1:TR G ρ1 S1 T1 H1 A1)(m:Mono (fun i=>i) S G A ρ1 S1 H1 A1) :
    TR G ρ (frzS A.next S A1) T H A1∧Mono ρ S H A ρ (frzS A.next S A1) H A1:=by
  have same:∀ id,id<A.next→A1.get id=A.get id:=fun id hid=>by
    rcases Nat.lt_or_ge id G.next with hl|hge
    · rw[(h.glob id hl).2.2,(h1.glob id hl).2.2]
    · exact m.frame id hid fun i hi e=>by have:i=id:=e;omega
  have hlow:∀ id,id<A.next→frzS A.next S A1 id=S id:=fun id hid=>by unfold frzS;rw[if_neg (by omega)]
  have hS:∀ id x,S id=some x→id<A.next:=fun id x hx=>by
    obtain⟨c,esz⟩:=x
    exact(h.stab id c esz (by unfold look;rw[hx])).1
  have hlk:∀ id,id<A.next→look true (frzS A.next S A1) T id=look true S T id:=fun id hid=>by unfold look;rw[hlow id hid]
  have hlt:∀ id x,look true S T id=some x→id<A.next:=fun id x hx=>by obtain⟨c,esz⟩:=x;exact(h.stab id c esz hx).1
  have hle:LeS 2 S T (frzS A.next S A1) T:=⟨fun id x hx=>by rw[hlow id (hS id x hx)];exact hx,fun _ id x hx=>by rw[hlk id (hlt id x hx)];exact hx⟩
  constructor
  · exact{
      inj:=h.inj
      lt:=fun i hi=>Nat.lt_of_lt_of_le (h.lt i hi) m.nextA
      glob:=fun g hg=>⟨(h.glob g hg).1,(h.glob g hg).2.1,(h1.glob g hg).2.2⟩
      gH:=h.gH
      gA:=h1.gA
      obj:=fun i o hi ho=>by
        obtain⟨o',e1,e2⟩:=h.obj i o hi ho
        exact⟨o',by rw[same _ (h.lt i hi)];exact e1,RO_mono (fun id hid=>⟨hid,rfl⟩) hle e2⟩
      stab := fun id c esz hl => by
        rcases Nat.lt_or_ge id A.next with hid|hid
        · rw[hlk id hid] at hl
          obtain⟨a,ro,b⟩:=h.stab id c esz hl
          exact⟨Nat.lt_of_lt_of_le a m.nextA,ro,by rw[same id hid];exact b⟩
        · unfold look frzS at hl
          rw[if_pos hid] at hl
          cases hr:rowsOf A1 id with
          | none =>
            rw[hr] at hl
            simp only[if_true] at hl
            have:look true S T id=some (c,esz):=by
              unfold look
              cases hS2:S id with
              | none=>simpa using hl
              | some x=>have:=hS id x hS2;omega
            have:=hlt id _ this;omega
          | some x =>
            rw[hr] at hl
            cases hl
            unfold rowsOf at hr
            split at hr
            · rename_i c' e' ro hg
              cases hr
              refine⟨?_,ro,hg⟩
              rcases Nat.lt_or_ge id A1.next with hlt2|hge
              · exact hlt2
              · rw[h1.wfA id hge] at hg;cases hg
            · cases hr
      excl:=fun i o hi ho hw=>by rw[hlk _ (h.lt i hi)];exact h.excl i o hi ho hw
      wfH:=h.wfH
      wfA:=h1.wfA }
  · exact{
      rho:=fun _ _=>rfl
      nextH:=Nat.le_refl _
      nextA:=m.nextA
      new:=fun i h1 h2=>by omega
      frame:=fun id hid _=>same id hid
      ss:=hle.s
      ssn:=hlow }
mutual
theorem RV_below{ρ':Nat→Nat}{N N' k:Nat}(hρ:∀ id,id<N→ρ' id=ρ id):∀(v u:AVal),below N v=true→RV ρ' N' S T v k u→RV ρ N S T v k u
  | .p id off,u,hb,h=>by simp only[RV,below,decide_eq_true_eq] at *;exact⟨h.1,hb,by rw[←hρ id hb];exact h.2.2⟩
  | .sl id off len cap,u,hb,h=>by simp only[RV,below,decide_eq_true_eq] at *;exact⟨h.1,hb,by rw[←hρ id hb];exact h.2.2⟩
  | .m id,u,hb,h=>by simp only[RV,below,decide_eq_true_eq] at *;exact⟨h.1,hb,by rw[←hρ id hb];exact h.2.2⟩
  | .fn f a c,u,hb,h=>by
    simp only[RV,below,Bool.and_eq_true] at *
    obtain⟨a',c',h1,h2,h3⟩:=h
    exact⟨a',c',h1,RVL_below hρ a a' hb.1 h2,RVL_below hρ c c' hb.2 h3⟩
  | .ag l,u,hb,h=>by simp only[RV,below] at *;obtain⟨l',h1,h2⟩:=h;exact⟨l',h1,RVL_below hρ l l' hb h2⟩
  | .tu l,u,hb,h=>by simp only[RV,below] at *;obtain⟨l',h1,h2⟩:=h;exact⟨l',h1,RVL_below hρ l l' hb h2⟩
  | .ifc t v,u,hb,h=>by simp only[RV,below] at *;obtain⟨v',h1,h2⟩:=h;exact⟨v',h1,RV_below hρ v v' hb h2⟩
  | .fs tmp full len l,u,hb,h=>by
    simp only[RV] at *
    obtain⟨h0,h1⟩:=h
    refine⟨h0,?_⟩
    rcases h1 with h1|⟨h1,id,off,cap,c,esz,h2,h3,h4,h5,h6,h7,h8⟩
    · exact .inl h1
    · have hlv:lv tmp≤1:=by cases tmp<;>simp[lv]
      exact .inr ⟨h1,id,off,cap,c,esz,h2,h3,h4,h5,h6,h7,RVL_mono (fun e=>absurd e (by omega)) (LeS.refl _ _ _) (Nat.le_refl _) (by omega) l _ h8⟩
  | .fp l,u,hb,h=>by
    simp only[RV] at *
    obtain⟨h0,id,off,c,esz,h1,h2,h3,h4⟩:=h
    exact⟨h0,id,off,c,esz,h1,h2,h3,RVL_mono (k:=1) (k':=1) (fun e=>absurd e (by omega)) (LeS.refl _ _ _) (Nat.le_refl _) (by omega) l _ h4⟩
  | .b _,_,_,h|.i _ _,_,_,h|.s _,_,_,h|.np,_,_,h|.ns,_,_,h|.nf,_,_,h|.nm,_,_,h|.nif,_,_,h|.es _,_,_,h=>by simp only[RV] at *;exact h
theorem RVL_below{ρ':Nat→Nat}{N N' k:Nat}(hρ:∀ id,id<N→ρ' id=ρ id):∀(l l':List AVal),belowL N l=true→RVL ρ' N' S T l k l'→RVL ρ N S T l k l'
  | [],l',_,h=>by simp only[RVL] at *;exact h
  | v::l,l',hb,h=>by
    simp only[RVL,belowL,Bool.and_eq_true] at *
    obtain⟨u,r,h1,h2,h3⟩:=h
    exact⟨u,r,h1,RV_below hρ v u hb.1 h2,RVL_below hρ l r hb.2 h3⟩
end
theorem TR.back(h:TR G ρ S T H A){ρ1:Nat→Nat}{S1:Stab}{H1 A1:AHeap}(h1:TR G ρ1 S1 T H1 A1)(m:Mono ρ S H A ρ1 S1 H1 A1)(same:∀ id,id<A.next→A1.get id=A.get id) :
  TR G ρ S1 T H A1∧Mono ρ S H A ρ S1 H A1:=by
 have hlk:∀ id,id<A.next→look true S1 T id=look true S T id:=fun id hid=>by unfold look;rw[m.ssn id hid]
 have hlt:∀ id x,look true S T id=some x→id<A.next:=fun id x hx=>by obtain⟨c,esz⟩:=x;exact(h.stab id c esz hx).1
 have hle:LeS 2 S T S1 T:=⟨m.ss,fun _ id x hx=>by rw[hlk id (hlt id x hx)];exact hx⟩
 constructor
 ·exact{
   inj:=h.inj
   lt:=fun i hi=>Nat.lt_of_lt_of_le (h.lt i hi) m.nextA
   glob:=fun g hg=>⟨(h.glob g hg).1,(h.glob g hg).2.1,(h1.glob g hg).2.2⟩
   gH:=h.gH
   gA:=h1.gA
   obj:=fun i o hi ho=>by
    obtain⟨o',e1,e2⟩:=h.obj i o hi ho
    exact⟨o',by rw[same _ (h.lt i hi)];exact e1,RO_mono (fun id hid=>⟨hid,rfl⟩) hle e2⟩
   stab:=h1.stab
   excl:=fun i o hi ho hw=>by rw[hlk _ (h.lt i hi)];exact h.excl i o hi ho hw
   wfH:=h.wfH
   wfA:=h1.wfA }
 ·exact{
   rho:=fun _ _=>rfl
   nextH:=Nat.le_refl _
   nextA:=m.nextA
   new:=fun i h1 h2=>by omega
   frame:=fun id hid _=>same id hid
   ss:=m.ss
   ssn:=m.ssn }
theorem callT{IP:FuncId→Option IFunc}(hG:GOK G)(hck:TabCk G.next IP){ex exA:ExI}(hx:ExT G ex exA)(hlow:LowX exA)(hcl:CloneX exA)(hg:G.next≤lo):CallT G lo loA (callI ex IP G lo) (callI exA (plainP IP) G loA) where
  pu := by
    funext f
    simp only[callI,pureB,plainP]
    cases hf:IP f with
    | none=>rfl
    | some fn =>
      simp only[Option.map_some]
      cases hm:fn.mode with
      | zero=>simp[pmode]
      | succ k =>
        cases hp:pmode fn.body (k+1) with
        | zero=>exact absurd (pmode_zero hp) (by omega)
        | succ j=>rfl
  sim:=by
    intro f args H v H' hs ρ S T A args' h hlo hA ha
    simp only[callI,callB] at hs ⊢
    cases hf:IP f with
    | none=>rw[hf] at hs;cases hs
    | some fn =>
      rw[hf] at hs
      simp only at hs
      simp only[plainP,hf,Option.map_some]
      cases hm:fn.mode with
      | zero =>
        rw[hm] at hs
        simp only at hs
        simp only[show pmode fn.body 0=0 from rfl]
        exact bodyT (fn:={ fn with mode:=0 }) hx (hck f fn hf).1 hg h hlo hA ha hs
      | succ k =>
        rw[hm] at hs
        cases k with
        | zero =>
          simp only[show pmode fn.body (0+1)=1 from rfl]
          simp only at hs
          exact bodyT (fn:={ fn with mode:=1 }) hx (hck f fn hf).1 h.gH h (fun i h1 h2=>by omega) (Nat.le_refl _) ha hs
        | succ k =>
          cases k with
          | succ k =>
           cases k with
           | succ k =>
            simp only at hs
            cases hsk:isSkip fn.body with
            | true =>
              simp only[show pmode fn.body (k+1+1+1+1)=4 from by simp[pmode,hsk]]
              simp only[cloneB,hsk] at hs ⊢
              rw[Option.map_eq_some_iff] at hs
              obtain⟨r,hr,he⟩:=hs
              cases he
              have hargs:args'=args:=by
                unfold idxB at hr
                split at hr
                · rename_i x c
                  simp only[RVL] at ha
                  obtain⟨u,r1,rfl,h1,u2,r2,rfl,h2,rfl⟩:=ha
                  rw[strT h1,intT h2]
                · cases hr
              rw[hargs,hr]
              refine⟨ρ,S,v,A,rfl,h,Mono.refl _ _ _ _,?_⟩
              unfold idxB at hr
              split at hr
              · cases hr;exact RV_i
              · cases hr
            | false =>
            simp only[show pmode fn.body (k+1+1+1+1)=1 from by simp[pmode,hsk]]
            obtain⟨hnp,hres,esz,bytes,he,hby,hbody⟩:=(hck f fn hf).2 (by omega) hsk
            rw[hbody] at hs
            obtain⟨x,x',rfl,rfl,hxx⟩:∃ x x',args=[x]∧args'=[x']∧RV ρ H.next S T x 2 x':=by
              cases args with
              | nil=>simp[cloneB,cloneCode,isSkip] at hs
              | cons x r =>
                cases r with
                | nil=>simp only[RVL] at ha;obtain⟨u,r,rfl,h1,rfl⟩:=ha;exact⟨x,u,rfl,rfl,h1⟩
                | cons y r=>simp[cloneB,cloneCode,isSkip] at hs
            have hs2:cloneV H esz bytes x=some (v,H'):=hs
            have hxs:isSl x=true→(x'=.ns∨(∃ a,x'=.es a)∨∃ id off len cap,x'=.sl id off len cap):=fun hsl=>by
              cases x<;>simp only[isSl] at hsl<;>(try (cases hsl;done))<;>simp only[RV] at hxx
              case ns=>exact .inl hxx
              case es=>exact .inr (.inl ⟨_,hxx⟩)
              case sl=>exact .inr (.inr ⟨_,_,_,_,hxx.2.2⟩)
              case fs =>
                obtain⟨_,⟨_,_,h1|⟨a,h1⟩|⟨_,_,_,h1,_⟩⟩|⟨_,_,_,_,_,_,h1,_⟩⟩:=hxx
                · exact .inl h1
                · exact .inr (.inl ⟨_,h1⟩)
                · exact .inr (.inr ⟨_,_,_,_,h1⟩)
                · exact .inr (.inr ⟨_,_,_,_,h1⟩)
            have hfn:({ fn with mode:=1 }:IFunc)=⟨cloneCode esz bytes,fn.nt,1,[.t 2],1⟩:=by cases fn;simp_all
            rw[hfn]
            unfold cloneV at hs2
            split at hs2
            · rename_i c0 hsl hm0
              cases hs2
              obtain⟨ys',h1,h2⟩:=moreT h hxx hm0
              have hy0:ys'.length=0*esz:=by
                rcases hxs hsl with rfl|⟨a,rfl⟩|⟨id,off,len,cap,rfl⟩
                · simp only[moreV,Option.some.injEq,Prod.mk.injEq] at h1;rw[←h1.2];simp
                · simp only[moreV,Option.some.injEq,Prod.mk.injEq] at h1;rw[←h1.2];simp
                · simp only[moreV] at h1
                  split at h1
                  · simp only[Option.some.injEq,Prod.mk.injEq] at h1;rw[←h1.2];simp
                  · rename_i hl0
                    rw[Option.map_eq_some_iff] at h1
                    obtain⟨l,_,h3⟩:=h1
                    simp only[Prod.mk.injEq] at h3
                    exact absurd h3.1 hl0
              obtain⟨v',A',k1,k2,_⟩:=hcl A.next fn.nt 1 esz bytes x' A 0 ys' he hby hy0 (fun h=>absurd rfl h) h.wfA (hxs hsl) h1
              rcases k2 rfl with⟨rfl,rfl⟩|⟨rfl,rfl⟩
              · exact⟨ρ,S,_,_,k1,h,Mono.refl _ _ _ _,by simp[RV]⟩
              · obtain⟨g1,g2⟩:=h.ghost (A':=A.push (.cells [] esz false)) (o:=some (.cells [] esz false)) rfl (fun i=>AHeap.get_push _ _ _)
                exact⟨ρ,S,_,_,k1,g1,g2,by simp[RV]⟩
            · rename_i n cells hsl hm0
              split at hs2
              · rename_i hcc
                cases hs2
                obtain⟨ys',h1,h2⟩:=moreT h hxx hm0
                obtain⟨v',A',k1,_,k3⟩:=hcl A.next fn.nt 1 esz bytes x' A (n+1) ys' he hby (by rw[RVL_len h2];exact hcc.1) (fun _=>hcc.2.2.2) h.wfA (hxs hsl) h1
                obtain⟨rfl,rfl⟩:=k3 (by omega)
                obtain⟨g1,g2⟩:=h.ghost (A':=A.push (.cells [] esz false)) (o:=some (.cells [] esz false)) rfl (fun i=>AHeap.get_push _ _ _)
                obtain⟨g3,g4⟩:=pushT (esz:=esz) g1 h2
                exact⟨_,S,_,_,k1,g3,g2.trans g4,newSl (A:=A.push (.cells [] esz false))⟩
              · cases hs2
            · cases hs2
           | zero =>
            simp only[show pmode fn.body (0+1+1+1)=1 from rfl]
            simp only at hs
            split at hs
            · rename_i v1 H1 hb
              split at hs
              · rename_i hbl
                cases hs
                obtain⟨ρ1,S1,v',A1,k1,k2,k3,k4⟩:=bodyT (lo:=H.next) (loA:=A.next) (fn:={ fn with mode:=1 }) hx (hck f fn hf).1 h.gH h (fun i h1 h2=>by omega) (Nat.le_refl _) ha hb
                have hlA:=bodyI_low hlow k1
                obtain⟨k5,k6⟩:=h.back k2 k3 (fun id hid=>hlA.get id hid hid)
                exact⟨ρ,S1,v',A1,k1,k5,k6,RV_below k3.rho v v' hbl k4⟩
              · cases hs
            · cases hs
          | zero =>
            simp only[show pmode fn.body (0+1+1)=1 from rfl]
            simp only at hs
            split at hs
            · rename_i args2 hsn
              split at hs
              · rename_i v1 H1 hb
                split at hs
                · rename_i w hfz
                  cases hs
                  have hin:=h.inner hG
                  have ha2:RVL (fun i=>i) G.next S (rowsOf A) args2 2 args':=RVL_mono (ρ:=ρ) (N:=H.next) (k:=1) (fun e=>by omega) (LeS.refl _ _ _) (by omega) (Nat.le_refl _) _ _
                    (mapO_rel (ρ':=ρ) (N':=H.next) (fun v w u=>snapT h 16 v w u) ha hsn)
                  obtain⟨ρ1,S1,v',A1,k1,k2,k3,k4⟩:=bodyT (lo:=G.next) (loA:=A.next) (fn:={ fn with mode:=1 }) hx (hck f fn hf).1 (Nat.le_refl _) hin (fun i h1 h2=>by omega) (Nat.le_refl _) ha2 hb
                  obtain⟨k5,k6⟩:=h.outer k2 k3
                  refine⟨ρ,frzS A.next S A1,v',A1,k1,k5,k6,?_⟩
                  exact RV_mono (ρ:=ρ) (N:=H.next) (k:=0) (fun e=>by omega) (LeS.refl _ _ _) (by omega) (Nat.le_refl _) _ _ (frzT (ρ0:=ρ) (N0:=H.next) k2 k3.ssn (fun i h1 h2=>k3.new i h1 h2) 16 v1 _ v' k4 hfz)
                · cases hs
              · cases hs
            · cases hs
theorem execT{IP:FuncId→Option IFunc}(hG:GOK G)(hck:TabCk G.next IP):∀ f,ExT G (exec IP G f) (exec (plainP IP) G (f+6)):=by
  intro f
  induction f with
  | zero=>intro lo loA c ρ S T H A e a x e' H' _ _ _ _ _ _ h;simp[exec] at h
  | succ f ih =>
    intro lo loA c ρ S T H A e a x e' H' hg hc h hlo hA he hs
    rw[show f+1+6=(f+6)+1 by omega]
    cases c<;>rw[exec] at hs ⊢
    case skip=>cases hs;exact⟨ρ,S,a,A,rfl,h,Mono.refl _ _ _ _,he⟩
    case exit id=>cases hs;exact⟨ρ,S,a,A,rfl,h,Mono.refl _ _ _ _,he⟩
    case ret=>cases hs;exact⟨ρ,S,a,A,rfl,h,Mono.refl _ _ _ _,he⟩
    case region items kill =>
      simp only[ckC] at hc
      try simp only at hs ⊢
      split at hs
      · rename_i e1 H1 hi
        cases hs
        obtain⟨ρ',S',a',A',k1,k2,k3,k4⟩:=itemsT (callT (lo:=lo) (loA:=loA) hG hck ih (exec_low _ _ _) (clone_exec _ _ _) hg) hg hc h hlo hA he hi
        rw[k1]
        exact⟨ρ',S',_,A',rfl,k2,k3,k4.kill _⟩
      · cases hs
    case seq c1 c2 =>
      simp only[ckC,Bool.and_eq_true] at hc
      try simp only at hs ⊢
      split at hs
      · rename_i e1 H1 h1
        obtain⟨ρ',S',a',A',k1,k2,k3,k4⟩:=ih _ _ _ _ _ _ _ _ _ _ _ _ _ hg hc.1 h hlo hA he h1
        rw[k1]
        obtain⟨ρ2,S2,a2,A2,g1,g2,g3,g4⟩:=ih _ _ _ _ _ _ _ _ _ _ _ _ _ hg hc.2 k2 (hlo.mono hA k3) (Nat.le_trans hA k3.nextA) k4 hs
        exact⟨ρ2,S2,a2,A2,g1,g2,k3.trans g3,g4⟩
      · rename_i hne
        obtain⟨ρ',S',a',A',k1,k2,k3,k4⟩:=ih _ _ _ _ _ _ _ _ _ _ _ _ _ hg hc.1 h hlo hA he hs
        rw[k1]
        cases x with
        | normal=>exact(hne _ _ hs).elim
        | exit id=>exact⟨ρ',S',a',A',rfl,k2,k3,k4⟩
        | ret=>exact⟨ρ',S',a',A',rfl,k2,k3,k4⟩
    case cond x0 c1 c2 =>
      simp only[ckC,Bool.and_eq_true] at hc
      try simp only at hs ⊢
      split at hs
      · rename_i hv
        obtain⟨u,e1,e2⟩:=opdT h he hc.1 hv
        rw[e1,boolT e2]
        exact ih _ _ _ _ _ _ _ _ _ _ _ _ _ hg hc.2.1 h hlo hA he hs
      · rename_i hv
        obtain⟨u,e1,e2⟩:=opdT h he hc.1 hv
        rw[e1,boolT e2]
        exact ih _ _ _ _ _ _ _ _ _ _ _ _ _ hg hc.2.2 h hlo hA he hs
      · cases hs
    case block id b =>
      simp only[ckC] at hc
      try simp only at hs ⊢
      split at hs
      · rename_i id' e1 H1 h1
        obtain⟨ρ',S',a',A',k1,k2,k3,k4⟩:=ih _ _ _ _ _ _ _ _ _ _ _ _ _ hg hc h hlo hA he h1
        rw[k1]
        simp only
        split at hs
        · rename_i hid;cases hs;exact⟨ρ',S',a',A',by rw[if_pos hid],k2,k3,k4⟩
        · rename_i hid;cases hs;exact⟨ρ',S',a',A',by rw[if_neg hid],k2,k3,k4⟩
      · rename_i hne
        obtain⟨ρ',S',a',A',k1,k2,k3,k4⟩:=ih _ _ _ _ _ _ _ _ _ _ _ _ _ hg hc h hlo hA he hs
        rw[k1]
        cases x with
        | exit id'=>exact(hne _ _ _ hs).elim
        | normal=>exact⟨ρ',S',a',A',rfl,k2,k3,k4⟩
        | ret=>exact⟨ρ',S',a',A',rfl,k2,k3,k4⟩
    case loop b =>
      simp only[ckC] at hc
      try simp only at hs ⊢
      split at hs
      · rename_i e1 H1 h1
        obtain⟨ρ',S',a',A',k1,k2,k3,k4⟩:=ih _ _ _ _ _ _ _ _ _ _ _ _ _ hg hc h hlo hA he h1
        rw[k1]
        obtain⟨ρ2,S2,a2,A2,g1,g2,g3,g4⟩:=ih _ _ _ _ _ _ _ _ _ _ _ _ _ hg (by simpa only[ckC] using hc) k2 (hlo.mono hA k3) (Nat.le_trans hA k3.nextA) k4 hs
        exact⟨ρ2,S2,a2,A2,g1,g2,k3.trans g3,g4⟩
      · rename_i hne
        obtain⟨ρ',S',a',A',k1,k2,k3,k4⟩:=ih _ _ _ _ _ _ _ _ _ _ _ _ _ hg hc h hlo hA he hs
        rw[k1]
        cases x with
        | normal=>exact(hne _ _ hs).elim
        | exit id=>exact⟨ρ',S',a',A',rfl,k2,k3,k4⟩
        | ret=>exact⟨ρ',S',a',A',rfl,k2,k3,k4⟩
theorem acallT{IP:FuncId→Option IFunc}(hG:GOK G)(hck:TabCk G.next IP)(f:Nat)(hg:G.next≤lo):CallT G lo loA (acall IP G f lo) (acall (plainP IP) G (f+6) loA) :=
 callT hG hck (execT hG hck f) (exec_low _ _ _) (clone_exec _ _ _) hg
end
end Go.RI
namespace Go.RI
open Go
mutual
def Rd(w:World):AVal→Value→Prop
  | .fs tmp full len l,v=>tmp=false∧full=false ∧
      ((len=0∧l=[]∧(v=.slice none 0 0∨(∃ a,v=.slice (some a) 0 0)∨∃ b o cap,v=.slice (some ⟨b,o,none⟩) 0 cap)) ∨
       (0<len∧∃ b o cap esz C e fz,v=.slice (some ⟨b,o,none⟩) len cap∧len≤cap∧w.heap[b]?=some (.cells C e fz)∧l.length=len*esz∧o+len*esz≤C.size ∧
         RdL w l ((C.toList.drop o).take (len*esz))))
  | x,v=>noId x=true∧one x=true∧v=ren rho0 x
def RdL(w:World):List AVal→List Value→Prop
 | [],vs=>vs=[]
 | x::l,vs=>∃ v r,vs=v::r∧Rd w x v∧RdL w l r
end
structure Lay (G:AHeap) (ρ:Ren) (A:AHeap) (w:World):Prop where
 rel:HRel G ρ (fun id=>id<A.next) A w
 ro:∀ id o,A.get id=some o→o.wr=false
structure LExt (ρ:Ren) (A:AHeap) (ρ':Ren) (A':AHeap):Prop where
 next:A.next≤A'.next
 same:∀ id,id<A.next→ρ' id=ρ id∧A'.get id=A.get id
theorem LExt.refl(ρ:Ren)(A:AHeap):LExt ρ A ρ A:=⟨Nat.le_refl _,fun _ _=>⟨rfl,rfl⟩⟩
theorem LExt.trans{ρ ρ1 ρ2:Ren}{A A1 A2:AHeap}(a:LExt ρ A ρ1 A1)(b:LExt ρ1 A1 ρ2 A2):LExt ρ A ρ2 A2 :=
 ⟨Nat.le_trans a.next b.next,fun id h=>⟨((b.same id (Nat.lt_of_lt_of_le h a.next)).1).trans (a.same id h).1,((b.same id (Nat.lt_of_lt_of_le h a.next)).2).trans (a.same id h).2⟩⟩
noncomputable def layS(G A:AHeap):Stab:=fun id=>if G.next≤id then rowsOf A id else none
def noS:Stab:=fun _=>none
theorem layS_le{G:AHeap}{ρ ρ':Ren}{A A':AHeap}{w:World}(h:Lay G ρ A w)(x:LExt ρ A ρ' A'):LeS 0 (layS G A) noS (layS G A') noS:=by
 refine⟨fun id y hy=>?_,fun hk=>by omega⟩
 unfold layS rowsOf at hy ⊢
 split at hy
 ·rename_i hg
  rw[if_pos hg]
  have hlt:id<A.next:=by
   rcases Nat.lt_or_ge id A.next with h1|h1
   ·exact h1
   ·rw[h.rel.wf id h1] at hy;simp at hy
  rw[(x.same id hlt).2];exact hy
 ·cases hy
section
variable {G:AHeap} {w:World}
noncomputable def pushO(A:AHeap)(o:Option AObj):AHeap:=⟨A.next+1,A.tbl.put o (A.next+1) A.next⟩
def updR(ρ:Ren)(n:Nat)(L:Loc):Ren:=fun i=>if i=n then L else ρ i
theorem get_pushO(A:AHeap)(o:Option AObj)(j:Nat):(pushO A o).get j=if j=A.next then o else A.get j:=Trie.get_put _ _ _ _ _ (Nat.lt_succ_self A.next)
theorem CellsAt.mono{ρ ρ':Ren}{D D':Nat→Prop}{L:Loc}{c:List AVal}{esz:Nat}{ro:Bool}(h:CellsAt ρ D L c esz ro w)(hm:∀ id,D id→D' id∧ρ' id=ρ id):CellsAt ρ' D' L c esz ro w where
 esz_eq:=h.esz_eq
 len:=h.len
 at_:=by
  obtain⟨C,e,fz,h1,h2,h3,h4⟩:=h.at_
  refine⟨C,e,fz,h1,h2,fun j v hj=>?_,h4⟩
  rw[h3 j v hj,ren_congr (fun id hd=>(hm id hd).2) v (okL_iff.1 h.ok v (List.mem_of_getElem? hj))]
 ok:=okL_mono hm c h.ok
 one:=h.one
theorem Lay.push{ρ:Ren}{A:AHeap}(h:Lay G ρ A w)(L:Loc){o:Option AObj}(ho:∀ x,o=some x→∃ c esz,x=.cells c esz true∧CellsAt ρ (fun id=>id<A.next) L c esz true w) :
  Lay G (updR ρ A.next L) (pushO A o) w∧LExt ρ A (updR ρ A.next L) (pushO A o):=by
 have hold:∀ id,id<A.next→id<(pushO A o).next∧updR ρ A.next L id=ρ id:=fun id hid=>⟨Nat.lt_succ_of_lt hid,by unfold updR;rw[if_neg (by omega)]⟩
 have ro':∀ id x,(pushO A o).get id=some x→x.wr=false:=fun id x hx=>by
  rw[get_pushO] at hx
  split at hx
  ·obtain⟨c,esz,rfl,_⟩:=ho x hx;rfl
  ·exact h.ro id x hx
 refine⟨⟨{ lt:=fun _ hd=>hd,cells:=?_,maps:=?_,apart:=?_,glob:=?_,gnext:=?_,wf:=?_ },ro'⟩,⟨Nat.le_succ _,fun id hid=>⟨(hold id hid).2,by rw[get_pushO,if_neg (by omega)]⟩⟩⟩
 ·intro id c esz ro hd hx
  rw[get_pushO] at hx
  split at hx
  ·rename_i hid
   subst hid
   obtain⟨c',esz',he,hc⟩:=ho _ hx
   cases he
   have:updR ρ A.next L A.next=L:=by simp[updR]
   rw[this]
   exact hc.mono hold
  ·rename_i hid
   have hlt:id<A.next:=by have:id<A.next+1:=hd;omega
   rw[(hold id hlt).2]
   exact(h.rel.cells id c esz ro hlt hx).mono hold
 ·intro id es hd hx
  have:=ro' id _ hx
  simp[AObj.wr] at this
 ·intro id id' o1 o2 _ _ _ h1 _ hw
  rw[ro' id o1 h1] at hw;cases hw
 ·intro g hg
  have hlt:g<A.next:=Nat.lt_of_lt_of_le hg h.rel.gnext
  obtain⟨a,b,c,d⟩:=h.rel.glob g hg
  exact⟨(hold g hlt).1,by rw[(hold g hlt).2];exact b,by rw[(hold g hlt).2];exact c,by rw[get_pushO,if_neg (by omega)];exact d⟩
 ·exact Nat.le_trans h.rel.gnext (Nat.le_succ _)
 ·intro id hid
  have:A.next+1≤id:=hid
  rw[get_pushO,if_neg (by omega)]
  exact h.rel.wf id (by omega)
def Laid(G:AHeap)(w:World)(ρ:Ren)(A:AHeap)(x:AVal)(v:Value):Prop :=
 ∃ ρ' A' u,LExt ρ A ρ' A'∧Lay G ρ' A' w∧ok ρ' (fun id=>id<A'.next) u∧one u=true∧ren ρ' u=v∧RV (fun i=>i) G.next (layS G A') noS x 0 u
def LaidL(G:AHeap)(w:World)(ρ:Ren)(A:AHeap)(l:List AVal)(vs:List Value):Prop :=
 ∃ ρ' A' us,LExt ρ A ρ' A'∧Lay G ρ' A' w∧okL ρ' (fun id=>id<A'.next) us∧oneL us=true∧renL ρ' us=vs∧RVL (fun i=>i) G.next (layS G A') noS l 0 us
theorem lay_leaf{ρ:Ren}{A:AHeap}(h:Lay G ρ A w){x:AVal}{v:Value}(h1:noId x=true)(h2:one x=true)(h3:v=ren rho0 x):Laid G w ρ A x v :=
 ⟨ρ,A,x,LExt.refl _ _,h,noId_ok _ _ x h1,h2,by rw[h3];exact ren_congr (ρ:=rho0) (D:=fun _=>False) (fun _ h=>h.elim) x (noId_ok _ _ x h1),RV_noId x h1⟩
theorem RV_up{A A':AHeap}{ρ ρ':Ren}(h:Lay G ρ A w)(x:LExt ρ A ρ' A'){t u:AVal}(hv:RV (fun i=>i) G.next (layS G A) noS t 0 u):RV (fun i=>i) G.next (layS G A') noS t 0 u :=
 RV_mono (fun e=>by omega) (layS_le h x) (Nat.le_refl _) (by omega) t u hv
theorem RVL_up'{A A':AHeap}{ρ ρ':Ren}(h:Lay G ρ A w)(x:LExt ρ A ρ' A'){t u:List AVal}(hv:RVL (fun i=>i) G.next (layS G A) noS t 0 u):RVL (fun i=>i) G.next (layS G A') noS t 0 u :=
 RVL_mono (fun e=>by omega) (layS_le h x) (Nat.le_refl _) (by omega) t u hv
mutual
theorem lay_val:∀(x:AVal) (v:Value),Rd w x v→∀(ρ:Ren) (A:AHeap),Lay G ρ A w→Laid G w ρ A x v
  | .fs tmp full len l,v,hr,ρ,A,h=>by
    simp only[Rd] at hr
    obtain⟨rfl,rfl,⟨rfl,rfl,rfl|⟨a,rfl⟩|⟨b,o,cap,rfl⟩⟩|⟨h0,b,o,cap,esz,C,e,fz,rfl,hcap,hC,hl,hoff,hrow⟩⟩:=hr
    · exact⟨ρ,A,.ns,LExt.refl _ _,h,by simp[ok],rfl,rfl,by simp[RV]⟩
    · exact⟨ρ,A,.es a,LExt.refl _ _,h,by simp[ok],rfl,rfl,by simp[RV]⟩
    · obtain⟨h1,h2⟩:=h.push ⟨b,o,0,1⟩ (o:=none) (fun x hx=>by cases hx)
      refine⟨_,_,.sl A.next 0 0 (some cap),h2,h1,?_,rfl,?_,?_⟩
      · simp only[ok];exact⟨Nat.lt_succ_self _,fun e=>by cases e⟩
      · simp[ren,updR]
      · simp[RV]
    · obtain⟨ρ1,A1,us,x1,l1,ok1,one1,ren1,rv1⟩:=lay_list l _ hrow ρ A h
      have hul:us.length=len*esz:=(RVL_len rv1).trans hl
      obtain⟨h1,h2⟩:=l1.push ⟨b,o,len*esz,esz⟩ (o:=some (.cells us esz true)) (fun x hx=>by
        cases hx
        refine⟨us,esz,rfl,{ esz_eq:=rfl,len:=Nat.le_of_eq hul,at_:=⟨C,e,fz,hC,hoff,fun j v hj=>?_,fun hf=>by cases hf⟩,ok:=ok1,one:=one1 }⟩
        have hjl:j<len*esz:=by
          rcases Nat.lt_or_ge j us.length with hlt|hge
          · omega
          · rw[List.getElem?_eq_none hge] at hj;cases hj
        have:(renL ρ1 us)[j]?=some (ren ρ1 v):=by rw[renL_get,hj];rfl
        rw[ren1,List.getElem?_take,if_pos hjl,List.getElem?_drop,Array.getElem?_toList] at this
        exact this)
      refine⟨_,_,.sl A1.next 0 len (some cap),x1.trans h2,h1,?_,rfl,?_,?_⟩
      · simp only[ok];exact⟨Nat.lt_succ_self _,fun e=>by cases e⟩
      · simp[ren,updR]
      · simp only[RV]
        refine⟨fun e=>(by cases e),.inr ⟨h0,A1.next,0,some cap,us,esz,rfl,fun e=>(by cases e),fun m hm=>(by cases hm;exact hcap),?_,hl,by omega,?_⟩⟩
        · have hg:G.next≤A1.next:=l1.rel.gnext
          simp only[look,layS,rowsOf,get_pushO,if_pos hg,if_true]
        · have:=RVL_up' l1 h2 rv1
          simp only[List.drop_zero]
          rw[List.take_of_length_le (by omega)]
          exact this
  | .b _,v,hr,ρ,A,h|.i _ _,v,hr,ρ,A,h|.s _,v,hr,ρ,A,h|.np,v,hr,ρ,A,h|.p _ _,v,hr,ρ,A,h|.ns,v,hr,ρ,A,h|.sl _ _ _ _,v,hr,ρ,A,h|.fn _ _ _,v,hr,ρ,A,h|.nf,v,hr,ρ,A,h|.ag _,v,hr,ρ,A,h
  | .tu _,v,hr,ρ,A,h|.nm,v,hr,ρ,A,h|.m _,v,hr,ρ,A,h|.ifc _ _,v,hr,ρ,A,h|.nif,v,hr,ρ,A,h|.fp _,v,hr,ρ,A,h|.es _,v,hr,ρ,A,h=>by
    simp only[Rd] at hr
    exact lay_leaf h hr.1 hr.2.1 hr.2.2
theorem lay_list:∀(l:List AVal) (vs:List Value),RdL w l vs→∀(ρ:Ren) (A:AHeap),Lay G ρ A w→LaidL G w ρ A l vs
  | [],vs,hr,ρ,A,h=>by
    simp only[RdL] at hr
    subst hr
    exact⟨ρ,A,[],LExt.refl _ _,h,by simp[okL],rfl,rfl,by simp[RVL]⟩
  | x::l,vs,hr,ρ,A,h=>by
    simp only[RdL] at hr
    obtain⟨v,r,rfl,h1,h2⟩:=hr
    obtain⟨ρ1,A1,u,x1,l1,ok1,one1,ren1,rv1⟩:=lay_val x v h1 ρ A h
    obtain⟨ρ2,A2,us,x2,l2,ok2,one2,ren2,rv2⟩:=lay_list l r h2 ρ1 A1 l1
    have hold:∀ id,id<A1.next→id<A2.next∧ρ2 id=ρ1 id:=fun id hid=>⟨Nat.lt_of_lt_of_le hid x2.next,(x2.same id hid).1⟩
    refine⟨ρ2,A2,u::us,x1.trans x2,l2,?_,?_,?_,RVL_cons (RV_up l1 x2 rv1) rv2⟩
    · simp only[okL];exact⟨ok_mono hold u ok1,ok2⟩
    · simp[oneL,one1,one2]
    · simp only[renL,ren2,ren_congr (fun id hd=>(hold id hd).2) u ok1,ren1]
end
def RdV(w:World):AVal→Value→Prop
 | .ag l,v=>∃ cs,v=.agg cs∧RdL w l cs.toList
 | x,v=>Rd w x v
def RdVs(w:World):List AVal→List Value→Prop
 | [],vs=>vs=[]
 | x::l,vs=>∃ v r,vs=v::r∧RdV w x v∧RdVs w l r
theorem lay_arg{x:AVal}{v:Value}(hr:RdV w x v){ρ:Ren}{A:AHeap}(h:Lay G ρ A w) :
  ∃ ρ' A' u,LExt ρ A ρ' A'∧Lay G ρ' A' w∧ok ρ' (fun id=>id<A'.next) u∧ren ρ' u=v∧RV (fun i=>i) G.next (layS G A') noS x 0 u:=by
 have plain:Rd w x v→∃ ρ' A' u,LExt ρ A ρ' A'∧Lay G ρ' A' w∧ok ρ' (fun id=>id<A'.next) u∧ren ρ' u=v∧RV (fun i=>i) G.next (layS G A') noS x 0 u:=fun hr=>by
  obtain⟨ρ',A',u,a,b,c,_,d,e⟩:=lay_val x v hr ρ A h
  exact⟨ρ',A',u,a,b,c,d,e⟩
 cases x
 case ag l =>
  obtain⟨cs,rfl,hl⟩:=hr
  obtain⟨ρ',A',us,a,b,c,o,d,e⟩:=lay_list l _ hl ρ A h
  refine⟨ρ',A',.ag us,a,b,?_,?_,RV_ag e⟩
  ·simp only[ok];exact⟨c,o⟩
  ·simp only[ren,d]
 all_goals exact plain hr
theorem lay_args:∀ {l:List AVal} {vs:List Value},RdVs w l vs→∀ {ρ:Ren} {A:AHeap},Lay G ρ A w →
    ∃ ρ' A' us,LExt ρ A ρ' A'∧Lay G ρ' A' w∧okL ρ' (fun id=>id<A'.next) us∧renL ρ' us=vs∧RVL (fun i=>i) G.next (layS G A') noS l 0 us:=by
  intro l
  induction l with
  | nil=>intro vs hr ρ A h;simp only[RdVs] at hr;subst hr;exact⟨ρ,A,[],LExt.refl _ _,h,by simp[okL],rfl,by simp[RVL]⟩
  | cons x l ih =>
    intro vs hr ρ A h
    simp only[RdVs] at hr
    obtain⟨v,r,rfl,h1,h2⟩:=hr
    obtain⟨ρ1,A1,u,x1,l1,ok1,ren1,rv1⟩:=lay_arg h1 h
    obtain⟨ρ2,A2,us,x2,l2,ok2,ren2,rv2⟩:=ih h2 l1
    have hold:∀ id,id<A1.next→id<A2.next∧ρ2 id=ρ1 id:=fun id hid=>⟨Nat.lt_of_lt_of_le hid x2.next,(x2.same id hid).1⟩
    refine⟨ρ2,A2,u::us,x1.trans x2,l2,?_,?_,RVL_cons (RV_up l1 x2 rv1) rv2⟩
    · simp only[okL];exact⟨ok_mono hold u ok1,ok2⟩
    · simp only[renL,ren2,ren_congr (fun id hd=>(hold id hd).2) u ok1,ren1]
theorem tree_calls{P:Program}(hm:P.follows .mixedOrders=true){IP:FuncId→Option IFunc}(htab:TabOK P (plainP IP))(hck:TabCk G.next IP)(hG:GOK G)(hn:G.next=P.globals.size)(hGh:GHolds P.globals.size G w)
    {f:FuncId} {args:List AVal} {b:Bool} {H':AHeap} (h:Brings IP G G.next f args G (.b b) H') {vs:List Value} (ha:RdVs w args vs):Calls P f vs.toArray w fun e w'=>e=.returned (.bool b)∧Kept w w':=by
  obtain⟨k,hk⟩:=h
  have h0:Lay G (rhoG G) G w:=⟨by have:=hGh.rel hn hG.1;rw[←hn] at this;exact this,fun id o ho=>by obtain⟨c,e,rfl,_⟩:=hG.2 id o ho;rfl⟩
  obtain⟨ρ,A,us,x1,l1,ok1,ren1,rv1⟩:=lay_args ha h0
  have htr:TR G (fun i=>i) (layS G A) noS G A:={
    inj:=fun i j _ _ e=>e
    lt:=fun i hi=>Nat.lt_of_lt_of_le hi l1.rel.gnext
    glob:=fun g hg=>⟨rfl,rfl,(l1.rel.glob g hg).2.2.2⟩
    gH:=Nat.le_refl _
    gA:=l1.rel.gnext
    obj:=fun i o hi ho=>by
      obtain⟨c,e,rfl,hc⟩:=hG.2 i o ho
      exact⟨_,(l1.rel.glob i hi).2.2.2.trans ho,RO_cells (RV_noId.RVL_noId c hc)⟩
    stab := fun id c esz hl => by
      unfold look layS noS rowsOf at hl
      simp only[if_true] at hl
      split at hl
      · rename_i x hx
        cases hl
        split at hx
        · split at hx
          · rename_i c' e' ro hg
            cases hx
            refine⟨?_,ro,hg⟩
            rcases Nat.lt_or_ge id A.next with hlt|hge
            · exact hlt
            · rw[l1.rel.wf id hge] at hg;cases hg
          · cases hx
        · cases hx
      · cases hl
    excl:=fun i o hi ho hw=>by obtain⟨c,e,rfl,hc⟩:=hG.2 i o ho;simp[AObj.wr] at hw
    wfH:=hG.1
    wfA:=l1.rel.wf }
  have rv2:RVL (fun i=>i) G.next (layS G A) noS args 2 us:=RVL_mono (fun e=>by omega) (LeS.refl _ _ _) (by omega) (Nat.le_refl _) _ _ rv1
  obtain⟨ρ1,S1,v',A',k1,k2,k3,k4⟩:=(acallT (lo:=G.next) (loA:=A.next) hG hck k (Nat.le_refl _)).sim _ _ _ _ _ hk _ _ _ _ _ htr (fun i h1 h2=>by omega) (Nat.le_refl _) rv2
  have hv':=boolT k4
  subst hv'
  have hc:=acall_sim hm htab (G:=G) hn hGh.ok (k+6) (lo:=A.next) l1.rel.gnext
  rw[←ren1]
  have hb:HasBody P f:=by
    rcases hc.body _ _ _ _ k1 with hb|⟨i,hi,_⟩
    · exact hb
    · cases hi
  refine(hc.calls f us _ _ _ k1 hb ρ _ w l1.rel ok1).mono ?_
  rintro e w' ⟨ρ',D',rfl,hst,_,_⟩
  exact⟨rfl,hst.grown fun id o _ ho=>l1.ro id o ho⟩
end
end Go.RI
namespace Go.RI
open Go
def tile(P:Program):List Field→Nat→Nat→Bool
 | [],o,n=>o==n
 | f::fs,o,n=>f.offset==o&&tile P fs (o+P.cellsOf f.type) n
def okTy(P:Program)(ts:List TypeId)(t:TypeId):Bool :=
 match P.underlying t with
 | some .bool|some (.int _)|some .string=>true
 | some (.slice e)=>ts.contains e&&decide (0<P.cellsOf e)
 | some (.struct fs)=>tile P fs.toList 0 (P.cellsOf t)&&fs.toList.all (fun f=>ts.contains f.type)
 | _=>false
structure Small {H:Type} (B:Nat) (sm:DataW H→Prop):Prop where
 str:∀ s,sm (.lit (.string s))→s.length≤B
 sl:∀ l r,sm (.slice l r)→l.length≤B∧∀ d∈l,sm d
 ag:∀ l,sm (.agg l)→∀ d∈l,sm d
section
variable {w:World}
theorem RdL_len:∀ {l:List AVal} {vs:List Value},RdL w l vs→l.length=vs.length:=by
 intro l
 induction l with
 | nil=>intro vs h;simp only[RdL] at h;subst h;rfl
 | cons x l ih=>intro vs h;simp only[RdL] at h;obtain⟨v,r,rfl,_,h2⟩:=h;simp[ih h2]
theorem RdL_append:∀ {l m:List AVal} {vs us:List Value},RdL w l vs→RdL w m us→RdL w (l++m) (vs++us):=by
 intro l
 induction l with
 | nil=>intro m vs us h g;simp only[RdL] at h;subst h;exact g
 | cons x l ih=>intro m vs us h g;simp only[RdL] at h;obtain⟨v,r,rfl,h1,h2⟩:=h;simp only[List.cons_append,RdL];exact⟨v,r++us,rfl,h1,ih h2 g⟩
theorem RdL_one{x:AVal}{v:Value}(h:Rd w x v):RdL w [x] [v]:=by simp only[RdL];exact⟨v,[],rfl,h,rfl⟩
theorem flat_rd{c:Nat}(L:List Value):∀(es:List (List AVal)) (o:Nat),(∀(i:Nat) x,es[i]?=some x→RdL w x ((L.drop (o+i*c)).take c)∧x.length=c)→RdL w es.flatten ((L.drop o).take (es.length*c)):=by
  intro es
  induction es with
  | nil=>intro o _;simp[RdL]
  | cons x es ih =>
    intro o h
    have h0:=h 0 x rfl
    have h1:=ih (o+c) fun i y hy=>by
      have:=h (i+1) y (by simpa using hy)
      rw[show o+(i+1)*c=o+c+i*c by rw[Nat.add_mul];omega] at this
      exact this
    have hx:=RdL_len h0.1
    simp only[Nat.zero_mul,Nat.add_zero] at h0
    have:(L.drop o).take ((x::es).length*c)=(L.drop o).take c++(L.drop (o+c)).take (es.length*c):=by
      simp only[List.length_cons,Nat.add_mul,Nat.one_mul]
      rw[Nat.add_comm (es.length*c) c,List.take_add,List.drop_drop]
    rw[this,List.flatten_cons]
    exact RdL_append h0.1 h1
theorem cells_at{base:Nat}{a:Addr}{n:Nat}{cs:List Value}(h:w.cells? base a n=some cs)(hn:0<n):a.spot=none∧∃ C e fz,w.heap[a.block]?=some (.cells C e fz)∧a.off+n≤C.size∧cs=(C.toList.drop a.off).take n:=by
 unfold World.cells? at h
 split at h
 case isFalse=>cases h
 have hlen:cs.length=n:=by simpa using mapM_some_length h
 have at_:∀ i,i<n→∃ v,cs[i]?=some v∧w.cell? (a.add i)=some v:=fun i hi=>by
  obtain⟨b,hb,hfb⟩:=Go.Lib.mapM_at h i i (by simp[hi])
  exact⟨b,hb,hfb⟩
 obtain⟨v0,_,hv0⟩:=at_ 0 hn
 have ha0:a.add 0=a:=by simp[Addr.add]
 rw[ha0] at hv0
 simp only[World.cell?] at hv0
 split at hv0
 ·rename_i C e fz hC
  split at hv0
  ·cases hv0
  ·rename_i hs
   have hspot:a.spot=none:=by cases hsp:a.spot<;>simp_all
   have val:∀ i,i<n→∃ v,cs[i]?=some v∧C[a.off+i]?=some v:=fun i hi=>by
    obtain⟨v,h1,h2⟩:=at_ i hi
    refine⟨v,h1,?_⟩
    unfold Addr.add at h2
    split at h2
    ·rename_i hi0;subst hi0
     simp only[World.cell?,hC,hspot] at h2
     simpa using h2
    ·simp only[World.cell?,hC] at h2
     simpa using h2
   refine⟨hspot,C,e,fz,hC,?_,?_⟩
   ·obtain⟨v,_,h2⟩:=val (n-1) (by omega)
    obtain⟨hlt,_⟩:=Array.getElem?_eq_some_iff.1 h2
    omega
   ·apply List.ext_getElem?
    intro i
    by_cases hi:i<n
    ·obtain⟨v,h1,h2⟩:=val i hi
     rw[h1,List.getElem?_take,if_pos hi,List.getElem?_drop,Array.getElem?_toList,h2]
    ·rw[List.getElem?_eq_none (by omega),List.getElem?_take,if_neg hi]
 ·cases hv0
variable {H:Type} {enc:TypeId×Value→H} {P:Program} {base:Nat} {spare:Nat→Bool} {held:Bool}
theorem tile_le{P:Program}:∀(fs:List Field) (o N:Nat),tile P fs o N=true→o≤N∧∀ f∈fs,f.offset+P.cellsOf f.type≤N:=by
  intro fs
  induction fs with
  | nil=>intro o N h;simp only[tile,beq_iff_eq] at h;exact⟨by omega,fun f hf=>by simp at hf⟩
  | cons f fs ih =>
    intro o N h
    simp only[tile,Bool.and_eq_true,beq_iff_eq] at h
    obtain⟨rfl,h⟩:=h
    obtain⟨h1,h2⟩:=ih _ _ h
    refine⟨by omega,fun g hg=>?_⟩
    rcases List.mem_cons.1 hg with rfl|hg
    · exact h1
    · exact h2 g hg
section
variable {r:TypeId→List Value→Option (DataW H×List MemPlace)} {t:TypeId} {cs:List Value} {d:DataW H} {ps:List MemPlace}
theorem step_bool(hu:P.underlying t=some .bool)(h:DataW.trodStep enc P w base spare held r t cs=some (d,ps)):∃ b,cs=[.bool b]∧d=.lit (.bool b):=by
 unfold DataW.trodStep at h
 split at h
 all_goals first|(exfalso;simp_all;done)|skip
 rename_i b _
 cases h
 exact⟨b,rfl,rfl⟩
theorem step_int{k:IntKind}(hu:P.underlying t=some (.int k))(h:DataW.trodStep enc P w base spare held r t cs=some (d,ps)):∃ m,cs=[.int k m]∧d=.lit (.int k m)∧(Lit.int k m).wf=true:=by
 unfold DataW.trodStep at h
 split at h
 all_goals first|(exfalso;simp_all;done)|skip
 rename_i k1 k2 m heq
 rw[hu] at heq
 cases heq
 split at h
 ·rename_i hc;cases h;exact⟨m,by rw[hc.1],rfl,hc.2⟩
 ·cases h
theorem step_string(hu:P.underlying t=some .string)(h:DataW.trodStep enc P w base spare held r t cs=some (d,ps)):∃ s,cs=[.string s]∧d=.lit (.string s.data.toList):=by
 unfold DataW.trodStep at h
 split at h
 all_goals first|(exfalso;simp_all;done)|skip
 rename_i s _
 split at h
 ·cases h;exact⟨s,rfl,rfl⟩
 ·cases h
theorem step_slice{e:TypeId}(hu:P.underlying t=some (.slice e))(h:DataW.trodStep enc P w base spare held r t cs=some (d,ps)) :
  (cs=[.slice none 0 0])∨∃ a len cap elems rest,cs=[.slice (some a) len cap]∧len≤cap∧(List.range len).mapM (fun i=>(w.cells? base (a.add (i*P.cellsOf e)) (P.cellsOf e)).bind (r e))=some elems ∧
   (if spare a.block then(List.range (cap-len)).mapM fun j=>(w.cells? base (a.add ((len+j)*P.cellsOf e)) (P.cellsOf e)).bind (r e) else some [])=some rest∧d=.slice (elems.map (·.1)) (rest.map (·.1)):=by
 unfold DataW.trodStep at h
 split at h
 all_goals first|(exfalso;simp_all;done)|skip
 ·exact .inl rfl
 ·rename_i e' a len cap heq
  rw[hu] at heq
  cases heq
  simp only at h
  split at h
  ·rename_i hc
   simp only[Option.map_eq_some_iff,Option.bind_eq_some_iff] at h
   obtain⟨elems,he,rest,hr,hx⟩:=h
   cases hx
   exact .inr ⟨a,len,cap,elems,rest,rfl,hc.2.1,he,hr,rfl⟩
  ·cases h
theorem step_struct{fs:Array Field}(hu:P.underlying t=some (.struct fs))(h:DataW.trodStep enc P w base spare held r t cs=some (d,ps)) :
  cs.length=P.cellsOf t∧∃ ys,fs.toList.mapM (fun f=>r f.type ((cs.drop f.offset).take (P.cellsOf f.type)))=some ys∧d=.agg (ys.map (·.1)):=by
 unfold DataW.trodStep at h
 split at h
 all_goals first|(exfalso;simp_all;done)|skip
 rename_i fs' _ heq
 rw[hu] at heq
 cases heq
 split at h
 ·rename_i hc
  simp only[Option.map_eq_some_iff] at h
  obtain⟨ys,h1,h2⟩:=h
  cases h2
  exact⟨hc,ys,h1,rfl⟩
 ·cases h
end
end
end Go.RI
namespace Go.RI
open Go
section
variable {H:Type} {enc:TypeId×Value→H} {P:Program} {W W':World}
theorem Kept.sameAt(h:Kept W W'){p:MemPlace}(hp:p.block<W.heap.size):W.sameAt W' p:=by
  have h1:=h.1.2.2 p.block hp
  cases p with
  | cell b o =>
    simp only[MemPlace.block] at h1 hp
    simp only[World.sameAt,World.cell?]
    split at h1
    · rename_i c t fr c' t' fr' e1 e2
      obtain⟨_,_,_,h2⟩:=h1
      rw[e1,e2]
      simp only
      have:=h2 o (fun f=>f.elim)
      simpa using this
    · rename_i e1 e2;rw[e1,e2]
    · rename_i h2 h3
      rw[h1]
  | map b =>
    simp only[MemPlace.block] at h1 hp
    simp only[World.sameAt]
    split at h1
    · rename_i c t fr c' t' fr' e1 e2
      obtain⟨rfl,rfl,h3,h2⟩:=h1
      rw[e1,e2]
      have:c'=c:=by
        apply Array.ext_getElem?
        intro j
        exact h2 j (fun f=>f.elim)
      rw[this]
    · rename_i es cl es' cl' e1 e2
      rcases h1 with h1|⟨rfl,rfl⟩
      · exact h1.elim
      · rw[e1,e2]
    · exact h1
theorem trodAll_kept{base:Nat}{sp:Nat→Bool}{held:Bool}(hs:Kept W W'):∀ {ts:List TypeId} {vs:List Value} {ds:List (DataW H)} {ps:List MemPlace},DataW.TrodAll enc P W base sp held ts vs ds ps→(∀ p∈ps,p.block<W.heap.size)→DataW.TrodAll enc P W' base sp held ts vs ds ps
 | [],[],[],_,h,_=>h
 | _::_,_::_,_::_,_,⟨p,q,⟨n,h1⟩,h2,e⟩,hl=>⟨p,q,⟨n,DataW.trod_carry n _ _ _ h1 (fun x hx=>hs.sameAt (hl x (by rw[e];exact List.mem_append_left _ hx)))⟩,trodAll_kept hs h2 (fun x hx=>hl x (by rw[e];exact List.mem_append_right _ hx)),e⟩
theorem args_same(K:Kids P (·<P.types.size))(hz:∀ t e,t<P.types.size→P.underlying t=some (.slice e)→0<P.cellsOf e){ts:List TypeId}(hT:∀ t∈ts,t<P.types.size){vs:List Value}{ds:List (DataW H)}{ps:List MemPlace}
    (h:DataW.TrodAll enc P W 0 (fun _=>true) true ts vs ds ps) (hk:Kept W W') (sp:Nat→Bool) (hs:∀ q∈ps,sp q.block=true):DataW.TrodAll enc P W' 0 sp true ts vs ds ps :=
  DataW.TrodAll.respare K hz hT (trodAll_kept hk h h.lt) hs
end
end Go.RI
namespace Go.RI
open Go
def plain1(fn:IFunc):IFunc:={ fn with mode:=pmode fn.body fn.mode }
def plainT(tab:List (Nat×IFunc)):List (Nat×IFunc):=tab.map fun x=>(x.1,plain1 x.2)
theorem plainT_eq:∀ tab:List (Nat×IFunc),plainP (tabIP tab)=tabIP (plainT tab):=by
  intro tab
  funext f
  induction tab with
  | nil=>rfl
  | cons x l ih =>
    obtain⟨k,fn⟩:=x
    simp only[plainP,tabIP,plainT,List.map_cons] at ih ⊢
    by_cases h:k=f
    · simp[h,plain1]
    · simp only[if_neg h];exact ih
inductive CkAll (g:Nat):List (Nat×IFunc)→Prop
 | nil:CkAll g []
 | cons {k:Nat} {fn:IFunc} {l:List (Nat×IFunc)} (h1:ckC g fn.body=true) (h2:decide (fn.mode<4)=true) (h:CkAll g l):CkAll g ((k,fn)::l)
 | ext {k:Nat} {l:List (Nat×IFunc)} (h:CkAll g l):CkAll g ((k,extFn)::l)
 | clone {k esz bytes nt:Nat} {l:List (Nat×IFunc)} (h1:ckC g (cloneCode esz bytes)=true) (h2:decide (0<esz∧0<bytes)=true) (h:CkAll g l):CkAll g ((k,⟨cloneCode esz bytes,nt,1,[.t 2],4⟩)::l)
theorem CkAll.ck{g:Nat}{l:List (Nat×IFunc)}(h:CkAll g l):TabCk g (tabIP l):=by
  induction h with
  | nil=>intro f fn h;cases h
  | cons h1 h2 _ ih =>
    intro f fn h
    simp only[tabIP] at h
    split at h
    · cases h;exact⟨h1,fun h4 _=>by have:=of_decide_eq_true h2;omega⟩
    · exact ih f fn h
  | ext _ ih =>
    intro f fn h
    simp only[tabIP] at h
    split at h
    · cases h;exact⟨rfl,fun _ h=>by cases h⟩
    · exact ih f fn h
  | clone h1 h2 _ ih =>
    intro f fn h
    simp only[tabIP] at h
    split at h
    · cases h;exact⟨h1,fun _ _=>⟨rfl,rfl,_,_,(of_decide_eq_true h2).1,(of_decide_eq_true h2).2,rfl⟩⟩
    · exact ih f fn h
theorem TabAll.plain{P:Program}{tab:List (Nat×IFunc)}(h:TabAll P (plainT tab)):TabOK P (plainP (tabIP tab)):=by
 rw[plainT_eq];exact h.ok
end Go.RI
namespace Go.RI
open Go
section
variable {IP:FuncId→Option IFunc} {G:AHeap}
noncomputable def pureR(IP:FuncId→Option IFunc)(G:AHeap)(f:FuncId)(args:List AVal):Option AVal:=open Classical in
 if h:∃ v fn n u H1,IP f=some fn∧bodyI (exec IP G n) fn G.next args G=some (u,H1)∧frzV H1 G.next 16 u=some v then some h.choose else none
noncomputable def snaps(H:AHeap)(l:List AVal):Option (List AVal):=mapO (snapV H 16) l
theorem pure_unique{f:FuncId}{args:List AVal}{v v':AVal}(h:∃ fn n u H1,IP f=some fn∧bodyI (exec IP G n) fn G.next args G=some (u,H1)∧frzV H1 G.next 16 u=some v)
  (h':∃ fn n u H1,IP f=some fn∧bodyI (exec IP G n) fn G.next args G=some (u,H1)∧frzV H1 G.next 16 u=some v'):v=v':=by
 obtain⟨fn,n,u,H1,a1,a2,a3⟩:=h
 obtain⟨fn',n',u',H1',b1,b2,b3⟩:=h'
 rw[a1] at b1;cases b1
 have c1:=bodyI_mono (exec_mono (IP:=IP) (G:=G) (Nat.le_max_left n n')) a2
 have c2:=bodyI_mono (exec_mono (IP:=IP) (G:=G) (Nat.le_max_right n n')) b2
 rw[c1] at c2;cases c2
 rw[a3] at b3;cases b3
 rfl
theorem pureR_some{f:FuncId}{args:List AVal}{v:AVal}(h:∃ fn n u H1,IP f=some fn∧bodyI (exec IP G n) fn G.next args G=some (u,H1)∧frzV H1 G.next 16 u=some v):pureR IP G f args=some v:=by
 have hex:∃ v fn n u H1,IP f=some fn∧bodyI (exec IP G n) fn G.next args G=some (u,H1)∧frzV H1 G.next 16 u=some v:=⟨v,h⟩
 unfold pureR
 rw[dif_pos hex]
 exact congrArg some (pure_unique hex.choose_spec h)
theorem pure_of{f:FuncId}{fn:IFunc}(hf:IP f=some fn){args:List AVal}(hl:args.length=fn.np){v:AVal}
  (h:wp (theCalls IP G G.next) G.next fn.body (ends fn fun u H1=>frzV H1 G.next 16 u=some v) (initEnv 0 args) G):pureR IP G f args=some v:=by
 obtain⟨n,u,H1,hb,hv⟩:=body_wp (theCalls_knows _) hl h
 exact pureR_some ⟨fn,n,u,H1,hf,hb,hv⟩
noncomputable def given(H:AHeap)(r:Option AVal):Option (AVal×AHeap):=r.map fun v=>(v,H)
@[simp] theorem given_some{H:AHeap}{v:AVal}:given H (some v)=some (v,H):=rfl
theorem calls_pure{f:FuncId}{fn:IFunc}(hf:IP f=some fn)(hm:fn.mode=2){lo:Nat}{args args':List AVal}{H:AHeap}(hs:snaps H args=some args'){v:AVal}(h:pureR IP G f args'=some v) :
  theCalls IP G lo f args H=some (v,H):=by
 apply theCalls_of
 unfold pureR at h
 split at h
 ·rename_i hex
  obtain⟨fn',n,u,H1,a1,a2,a3⟩:=hex.choose_spec
  rw[Option.some.inj h] at a3
  rw[hf] at a1;cases a1
  refine⟨n,?_⟩
  simp only[acall,callI,callB,hf,hm]
  rw[show mapO (snapV H 16) args=some args' from hs]
  simp only[a2,a3]
 ·cases h
theorem calls_pureR{f:FuncId}{fn:IFunc}(hf:IP f=some fn)(hm:fn.mode=2){lo:Nat}{args:List AVal}{H:AHeap} :
    theCalls IP G lo f args H=given H ((snaps H args).bind (pureR IP G f)):=by
  cases hs:snaps H args with
  | some args' =>
    simp only[Option.bind_some]
    cases hp:pureR IP G f args' with
    | some v=>exact calls_pure hf hm hs hp
    | none =>
      cases hc:theCalls IP G lo f args H with
      | none=>rfl
      | some r =>
        obtain⟨v,H'⟩:=r
        obtain⟨n,hn⟩:=(theCalls_knows (IP:=IP) (G:=G) lo).brings _ _ _ _ _ hc
        simp only[acall,callI,callB,hf,hm] at hn
        rw[show mapO (snapV H 16) args=some args' from hs] at hn
        simp only at hn
        split at hn
        · rename_i u H1 hb
          split at hn
          · rename_i v' hv
            have:=pureR_some ⟨fn,n,u,H1,hf,hb,hv⟩
            rw[hp] at this;cases this
          · cases hn
        · cases hn
  | none =>
    cases hc:theCalls IP G lo f args H with
    | none=>rfl
    | some r =>
      obtain⟨v,H'⟩:=r
      obtain⟨n,hn⟩:=(theCalls_knows (IP:=IP) (G:=G) lo).brings _ _ _ _ _ hc
      simp only[acall,callI,callB,hf,hm] at hn
      rw[show mapO (snapV H 16) args=none from hs] at hn
      cases hn
def consO(v:Option AVal)(l:Option (List AVal)):Option (List AVal):=match v,l with
 | some v,some vs=>some (v::vs)
 | _,_=>none
@[simp] theorem consO_some{v:AVal}{l:List AVal}:consO (some v) (some l)=some (v::l):=rfl
@[simp] theorem snaps_eq{H:AHeap}{l:List AVal}:snaps H l=mapO (snapV H 16) l:=rfl
@[simp] theorem mapO_nil{f:AVal→Option AVal}:mapO f []=some []:=rfl
@[simp] theorem mapO_cons{f:AVal→Option AVal}{v:AVal}{l:List AVal}:mapO f (v::l)=consO (f v) (mapO f l):=by
 simp only[mapO]
 rcases f v with _|u
 ·rfl
 ·rcases mapO f l with _|us<;>rfl
section
variable {H:AHeap} {n g:Nat}
@[simp] theorem snap_i{k:IntKind}{m:Int}:snapV H (n+1) (.i k m)=some (.i k m):=rfl
@[simp] theorem snap_b{x:Bool}:snapV H (n+1) (.b x)=some (.b x):=rfl
@[simp] theorem snap_s{x:List UInt8}:snapV H (n+1) (.s x)=some (.s x):=rfl
@[simp] theorem snap_ns:snapV H (n+1) .ns=some (.fs false false 0 []):=rfl
@[simp] theorem snap_ag{l:List AVal}:snapV H (n+1) (.ag l)=(mapO (snapV H n) l).map .ag:=rfl
@[simp] theorem snap_tu{l:List AVal}:snapV H (n+1) (.tu l)=(mapO (snapV H n) l).map .tu:=rfl
@[simp] theorem snap_fs{t f:Bool}{len:Nat}{l:List AVal}:snapV H (n+1) (.fs t f len l)=some (.fs t false len l):=rfl
@[simp] theorem snap_fn0{f:Fn}:snapV H (n+1) (.fn f [] [])=some (.fn f [] []):=rfl
@[simp] theorem frz_i{k:IntKind}{m:Int}:frzV H g (n+1) (.i k m)=some (.i k m):=rfl
@[simp] theorem frz_b{x:Bool}:frzV H g (n+1) (.b x)=some (.b x):=rfl
@[simp] theorem frz_s{x:List UInt8}:frzV H g (n+1) (.s x)=some (.s x):=rfl
@[simp] theorem frz_ns:frzV H g (n+1) .ns=some (.fs false false 0 []):=rfl
@[simp] theorem frz_ag{l:List AVal}:frzV H g (n+1) (.ag l)=(mapO (frzV H g n) l).map .ag:=rfl
@[simp] theorem frz_tu{l:List AVal}:frzV H g (n+1) (.tu l)=(mapO (frzV H g n) l).map .tu:=rfl
@[simp] theorem frz_fs{f:Bool}{len:Nat}{l:List AVal}:frzV H g (n+1) (.fs false f len l)=some (.fs false false len l):=rfl
end
section
variable {call:CallI} {lo:Nat}
theorem upon_mono{r:Option (Env×AHeap)}{k k':Env→AHeap→Prop}(h:∀ e H,k e H→k' e H):upon r k→upon r k':=by
 cases r with
 | none=>exact id
 | some x=>exact h _ _
theorem rounds_mono{W:Post→Env→AHeap→Prop}(hW:∀ Q Q',(∀ x e H,Q x e H→Q' x e H)→∀ e H,W Q e H→W Q' e H){Q Q':Post}(h:∀ x e H,Q x e H→Q' x e H):∀ {n n':Nat},n≤n'→∀ e H,rounds W Q n e H→rounds W Q' n' e H:=by
  intro n
  induction n with
  | zero=>intro n' _ e H hr;exact hr.elim
  | succ n ih =>
    intro n' hn e H hr
    obtain⟨m,rfl⟩:∃ m,n'=m+1:=⟨n'-1,by omega⟩
    refine hW _ _ ?_ e H hr
    intro x e H hx
    cases x with
    | normal=>exact ih (by omega) e H hx
    | exit id=>exact h _ _ _ hx
    | ret=>exact h _ _ _ hx
theorem wp_mono:∀(c:ICode) (Q Q':Post),(∀ x e H,Q x e H→Q' x e H)→∀ e H,wp call lo c Q e H→wp call lo c Q' e H:=by
  intro c
  induction c with
  | skip=>intro Q Q' h e H hw;exact h _ _ _ hw
  | region xs kill=>intro Q Q' h e H hw;exact upon_mono (fun e H=>h _ _ _) hw
  | seq a b iha ihb =>
    intro Q Q' h e H hw
    refine iha _ _ ?_ e H hw
    intro x e H hx
    cases x with
    | normal=>exact ihb _ _ h e H hx
    | exit id=>exact h _ _ _ hx
    | ret=>exact h _ _ _ hx
  | cond x a b iha ihb =>
    intro Q Q' h e H hw
    simp only[wp,test] at hw ⊢
    split at hw
    · exact iha _ _ h e H hw
    · exact ihb _ _ h e H hw
    · exact hw.elim
  | block id b ih =>
    intro Q Q' h e H hw
    refine ih _ _ ?_ e H hw
    intro x e H hx
    cases x with
    | normal=>exact h _ _ _ hx
    | exit i =>
      simp only[inBlock] at hx ⊢
      split at hx
      · rename_i hi;rw[if_pos hi];exact h _ _ _ hx
      · rename_i hi;rw[if_neg hi];exact h _ _ _ hx
    | ret=>exact h _ _ _ hx
  | loop b ih =>
    intro Q Q' h e H hw
    obtain⟨n,hn⟩:=hw
    exact⟨n,rounds_mono (fun Q Q' h e H=>ih Q Q' h e H) h (Nat.le_refl _) e H hn⟩
  | exit id=>intro Q Q' h e H hw;exact h _ _ _ hw
  | ret=>intro Q Q' h e H hw;exact h _ _ _ hw
theorem wp_loop_inv{b:ICode}{Q:Post}(I:Nat→Env→AHeap→Prop)(step:∀ k e H,I k e H→wp call lo b (andThen Q fun e H=>∃ j,j<k∧I j e H) e H) :
    ∀(k:Nat) (e:Env) (H:AHeap),I k e H→wp call lo (.loop b) Q e H:=by
  have key:∀(n k:Nat),k≤n→∀ e H,I k e H→rounds (fun Q'=>wp call lo b Q') Q (n+1) e H:=by
    intro n
    induction n with
    | zero =>
      intro k hk e H h
      refine wp_mono b _ _ ?_ e H (step k e H h)
      intro x e H hx
      cases x with
      | normal=>obtain⟨j,hj,_⟩:=hx;omega
      | exit id=>exact hx
      | ret=>exact hx
    | succ n ih =>
      intro k hk e H h
      refine wp_mono b _ _ ?_ e H (step k e H h)
      intro x e H hx
      cases x with
      | normal=>obtain⟨j,hj,hI⟩:=hx;exact ih j (by omega) e H hI
      | exit id=>exact hx
      | ret=>exact hx
  intro k e H h
  exact⟨k+1,key k k (Nat.le_refl _) e H h⟩
theorem wp_loop_list{b:ICode}{Q:Post}{α:Type}{l:List α}(hb:l.length<4611686018427387904)(I:Nat→List α→Env→AHeap→Prop)
  (step:∀ i x todo e H,l[i]?=some x→l.drop i=x::todo→i<l.length→(i:Int)<(l.length:Int)→i<4611686018427387904→I i (x::todo) e H→wp call lo b (andThen Q fun e H=>I (i+1) todo e H) e H)
  (fin:∀ e H,I l.length [] e H→wp call lo b (andThen Q fun _ _=>False) e H) {e:Env} {H:AHeap} (h:I 0 l e H):wp call lo (.loop b) Q e H:=by
 refine wp_loop_inv (fun k e H=>∃ i,i≤l.length∧k=l.length-i∧I i (l.drop i) e H) ?_ l.length e H ⟨0,Nat.zero_le _,rfl,h⟩
 rintro k e H ⟨i,hi,hk,hI⟩
 rcases Nat.lt_or_ge i l.length with hlt|hge
 ·have hx:l[i]?=some l[i]:=List.getElem?_eq_getElem hlt
  have hd:l.drop i=l[i]::l.drop (i+1):=List.drop_eq_getElem_cons hlt
  rw[hd] at hI
  refine wp_mono b _ _ ?_ e H (step i l[i] (l.drop (i+1)) e H hx hd hlt (by omega) (by omega) hI)
  intro y e H hx
  cases y with
  | normal=>exact⟨l.length-(i+1),by omega,i+1,by omega,rfl,hx⟩
  | exit id=>exact hx
  | ret=>exact hx
 ·have:i=l.length:=by omega
  subst this
  rw[List.drop_length] at hI
  refine wp_mono b _ _ ?_ e H (fin e H hI)
  intro x e H hx
  cases x with
  | normal=>exact hx.elim
  | exit id=>exact hx
  | ret=>exact hx
end
def Acc(H:AHeap)(lo:Nat)(v:AVal)(esz n:Nat)(cells:List AVal):Prop :=
 (v=.ns∧n=0∧cells=[])∨(∃ id,v=.sl id 0 n none∧lo≤id∧id<H.next∧H.get id=some (.cells cells esz false)∧cells.length=n*esz)
end
end Go.RI
namespace Go.RI
open Go
mutual
def flat:AVal→Bool
 | .fs _ _ _ _=>false
 | .fp _=>false
 | .fn _ a c=>flatL a&&flatL c
 | .ag l=>flatL l
 | .tu l=>flatL l
 | .ifc _ v=>flat v
 | _=>true
def flatL:List AVal→Bool
 | []=>true
 | v::l=>flat v&&flatL l
end
mutual
theorem same_refl:∀ v:AVal,flat v=true→same v v=true
 | .b _,_|.i _ _,_|.s _,_|.np,_|.p _ _,_|.ns,_|.sl _ _ _ _,_|.nf,_|.nm,_|.m _,_|.nif,_|.es _,_=>by simp[same]
 | .fn _ a c,h=>by simp only[flat,Bool.and_eq_true] at h;simp[same,sameL_refl a h.1,sameL_refl c h.2]
 | .ag l,h=>by simp only[flat] at h;simp[same,sameL_refl l h]
 | .tu l,h=>by simp only[flat] at h;simp[same,sameL_refl l h]
 | .ifc _ v,h=>by simp only[flat] at h;simp[same,same_refl v h]
 | .fs _ _ _ _,h|.fp _,h=>by simp[flat] at h
theorem sameL_refl:∀ l:List AVal,flatL l=true→sameL l l=true
 | [],_=>rfl
 | v::l,h=>by simp only[flatL,Bool.and_eq_true] at h;simp[sameL,same_refl v h.1,sameL_refl l h.2]
end
section
variable {call:CallI} {lo:Nat} {e:Env} {H:AHeap} {Q:Post}
def run(call:CallI)(lo:Nat)(xs:List Item)(kill:List Nat)(Q:Post)(e:Env)(H:AHeap):Prop:=upon (itemsI call lo xs e H) fun e' H'=>Q .normal (e'.kill kill) H'
def seqP(call:CallI)(lo:Nat)(b:ICode)(Q:Post):Post:=andThen Q fun e' H'=>wp call lo b Q e' H'
def fin(res:List IRes)(R:AVal→AHeap→Prop):Post:=fun x e H=>match x with
  | .exit _=>False
  | _=>match resI e H res with
    | some vs=>R (tupI vs) H
    | none=>False
theorem ends_fin{fn:IFunc}{R:AVal→AHeap→Prop}:ends fn R=fin fn.res R:=rfl
def finR(R:AVal→AHeap→Prop)(H:AHeap):Option (List AVal)→Prop
 | some vs=>R (tupI vs) H
 | none=>False
@[simp] theorem finR_some{R:AVal→AHeap→Prop}{vs:List AVal}:finR R H (some vs)=R (tupI vs) H:=rfl
@[simp] theorem finR_none{R:AVal→AHeap→Prop}:finR R H none=False:=rfl
@[simp] theorem fin_normal{res:List IRes}{R:AVal→AHeap→Prop}:fin res R .normal e H=finR R H (resI e H res):=rfl
@[simp] theorem fin_ret{res:List IRes}{R:AVal→AHeap→Prop}:fin res R .ret e H=finR R H (resI e H res):=rfl
@[simp] theorem seqP_normal{b:ICode}:seqP call lo b Q .normal e H=wp call lo b Q e H:=rfl
@[simp] theorem seqP_exit{b:ICode}{id:Nat}:seqP call lo b Q (.exit id) e H=Q (.exit id) e H:=rfl
@[simp] theorem seqP_ret{b:ICode}:seqP call lo b Q .ret e H=Q .ret e H:=rfl
@[simp] theorem inBlock_normal{id:Nat}:inBlock Q id .normal e H=Q .normal e H:=rfl
@[simp] theorem inBlock_exit{id i:Nat}:inBlock Q id (.exit i) e H=if i=id then Q .normal e H else Q (.exit i) e H:=rfl
@[simp] theorem inBlock_ret{id:Nat}:inBlock Q id .ret e H=Q .ret e H:=rfl
@[simp] theorem andThen_normal{k:Env→AHeap→Prop}:andThen Q k .normal e H=k e H:=rfl
@[simp] theorem andThen_exit{k:Env→AHeap→Prop}{id:Nat}:andThen Q k (.exit id) e H=Q (.exit id) e H:=rfl
@[simp] theorem andThen_ret{k:Env→AHeap→Prop}:andThen Q k .ret e H=Q .ret e H:=rfl
@[simp] theorem wp_skip_eq:wp call lo .skip Q e H=Q .normal e H:=rfl
@[simp] theorem wp_region_eq{xs:List Item}{kill:List Nat}:wp call lo (.region xs kill) Q e H=run call lo xs kill Q e H:=rfl
@[simp] theorem wp_seq_eq{a b:ICode}:wp call lo (.seq a b) Q e H=wp call lo a (seqP call lo b Q) e H:=rfl
def testP(call:CallI)(lo:Nat)(a b:ICode)(Q:Post)(e:Env)(H:AHeap):Option AVal→Prop
 | some (.b true)=>wp call lo a Q e H
 | some (.b false)=>wp call lo b Q e H
 | _=>False
@[simp] theorem wp_cond_eq{c:Opd}{a b:ICode}:wp call lo (.cond c a b) Q e H=testP call lo a b Q e H (c.eval e):=by
 show test _ _ _=_
 rcases c.eval e with _|v
 ·rfl
 ·cases v<;>rfl
@[simp] theorem testP_t{a b:ICode}:testP call lo a b Q e H (some (.b true))=wp call lo a Q e H:=rfl
@[simp] theorem testP_f{a b:ICode}:testP call lo a b Q e H (some (.b false))=wp call lo b Q e H:=rfl
theorem test_intro{a b:ICode}{x:Bool}(h1:x=true→wp call lo a Q e H)(h2:x=false→wp call lo b Q e H):testP call lo a b Q e H (some (.b x)):=by
 cases x
 ·exact h2 rfl
 ·exact h1 rfl
@[simp] theorem wp_block_eq{id:Nat}{b:ICode}:wp call lo (.block id b) Q e H=wp call lo b (inBlock Q id) e H:=rfl
@[simp] theorem wp_exit_eq{id:Nat}:wp call lo (.exit id) Q e H=Q (.exit id) e H:=rfl
@[simp] theorem wp_ret_eq:wp call lo .ret Q e H=Q .ret e H:=rfl
@[simp] theorem run_nil{kill:List Nat}:run call lo [] kill Q e H=Q .normal (e.kill kill) H:=rfl
abbrev ReH:=List (AHeap×Nat×IOp×Option (Nat×Bool))
noncomputable def stillI(v:Option AVal)(r:Option (Option AVal×AHeap)):Bool:=match v,r with
 | some v,some (some v',_)=>same v v'
 | _,_=>false
@[simp] theorem stillI_some{v v':AVal}{H:AHeap}:stillI (some v) (some (some v',H))=same v v':=rfl
def guardR(g:Option Bool)(b:Bool):Bool:=match g with
 | some false=>true
 | some true=>b
 | none=>false
noncomputable def reH(lo:Nat)(dst:Option Nat)(e e':Env)(H':AHeap):ReH→Bool
 | []=>true
 | (H,t,o,g)::l=>guardR (wantedI e' g) ((dynE o e'||stillI (e'.get t) (aop lo o e' H'))||ldE o dst e H H')&&reH lo dst e e' H' l
theorem reH_eq{lo:Nat}{dst:Option Nat}{e e':Env}{H H':AHeap}:∀ re:List (Nat×IOp×Option (Nat×Bool)),reOk lo dst e H e' H' re=reH lo dst e e' H' (re.map fun x=>(H,x))
  | []=>rfl
  | (t,o,g)::l=>by
    simp only[reOk,List.map_cons,reH,reH_eq l,guardR,stillI]
    rcases wantedI e' g with _|b
    · rfl
    · cases b<;>rfl
noncomputable def stepP(call:CallI)(lo:Nat)(xs:List Item)(kill:List Nat)(Q:Post)(dst:Option Nat)(op:IOp)(re:ReH)(e:Env):Option (Option AVal×AHeap)→Prop
 | some (v,H')=>if skipI call e op||(keepI H' op (re.map fun x=>x.2) e (putD e dst (v.getD (.tu [])))||reH lo dst e (putD e dst (v.getD (.tu []))) H' re) then run call lo xs kill Q (putD e dst (v.getD (.tu []))) H' else False
 | none=>False
theorem map_back{H:AHeap}:∀(re:List (Nat×IOp×Option (Nat×Bool))),(re.map fun x=>(H,x)).map (fun x=>x.2)=re
 | []=>rfl
 | x::re=>by rw[List.map_cons,List.map_cons,map_back re]
theorem run_none{dst:Option Nat}{op:IOp}{re:List (Nat×IOp×Option (Nat×Bool))}{xs:List Item}{kill:List Nat}:run call lo (⟨dst,op,none,re⟩::xs) kill Q e H=stepP call lo xs kill Q dst op (re.map fun x=>(H,x)) e (opI call lo op e H):=by
 simp only[run,itemsI,itemI,wantedI]
 rcases opI call lo op e H with _|⟨_|v,H'⟩
 ·rfl
 ·simp only[stepP,Option.getD_none,map_back,reH_eq]
  split<;>rfl
 ·simp only[stepP,Option.getD_some,map_back,reH_eq]
  split<;>rfl
@[simp] theorem run_none_nil{dst:Option Nat}{op:IOp}{xs:List Item}{kill:List Nat}:run call lo (⟨dst,op,none,[]⟩::xs) kill Q e H=stepP call lo xs kill Q dst op [] e (opI call lo op e H):=run_none
@[simp] theorem run_none_re{dst:Option Nat}{op:IOp}{x:Nat×IOp×Option (Nat×Bool)}{re:List (Nat×IOp×Option (Nat×Bool))}{xs:List Item}{kill:List Nat}:run call lo (⟨dst,op,none,x::re⟩::xs) kill Q e H=stepP call lo xs kill Q dst op ((H,x)::re.map fun x=>(H,x)) e (opI call lo op e H):=run_none
@[simp] theorem stepP_nil{xs:List Item}{kill:List Nat}{dst:Option Nat}{op:IOp}{v:Option AVal}:stepP call lo xs kill Q dst op [] e (some (v,H))=run call lo xs kill Q (putD e dst (v.getD (.tu []))) H:=by simp[stepP,reH]
@[simp] theorem stepP_re{xs:List Item}{kill:List Nat}{dst:Option Nat}{op:IOp}{v:Option AVal}{x:AHeap×Nat×IOp×Option (Nat×Bool)}{re:ReH}:stepP call lo xs kill Q dst op (x::re) e (some (v,H)) =
  if skipI call e op||(keepI H op (x.2::re.map fun x=>x.2) e (putD e dst (v.getD (.tu [])))||reH lo dst e (putD e dst (v.getD (.tu []))) H (x::re)) then run call lo xs kill Q (putD e dst (v.getD (.tu []))) H else False:=rfl
@[simp] theorem stepP_none{xs:List Item}{kill:List Nat}{dst:Option Nat}{op:IOp}{re:ReH}:stepP call lo xs kill Q dst op re e none=False:=rfl
noncomputable def guardP(call:CallI)(lo:Nat)(xs:List Item)(kill:List Nat)(Q:Post)(dst:Option Nat)(op:IOp)(re:List (Nat×IOp×Option (Nat×Bool)))(want:Bool)(e:Env)(H:AHeap):Option AVal→Prop
 | some (.b x)=>if x=want then stepP call lo xs kill Q dst op (re.map fun x=>(H,x)) e (opI call lo op e H) else stepP call lo xs kill Q dst op (re.map fun x=>(H,x)) e (some (none,H))
 | some _=>stepP call lo xs kill Q dst op (re.map fun x=>(H,x)) e (some (none,H))
 | none=>False
@[simp] theorem run_some{dst:Option Nat}{op:IOp}{t:Nat}{want:Bool}{re:List (Nat×IOp×Option (Nat×Bool))}{xs:List Item}{kill:List Nat}:run call lo (⟨dst,op,some (t,want),re⟩::xs) kill Q e H=guardP call lo xs kill Q dst op re want e H (e.get t):=by
 have key:∀(r:Option (Option AVal×AHeap)),(match r with|some (some v,H')=>some (putD e dst v,H')|some (none,H')=>some (putD e dst (.tu []),H')|none=>none)=r.map fun x=>(putD e dst (x.1.getD (.tu [])),x.2):=by
  intro r;rcases r with _|⟨_|v,H'⟩<;>rfl
 have step:∀(r:Option (Option AVal×AHeap)),(upon (match (r.map fun x=>(putD e dst (x.1.getD (.tu [])),x.2)) with|some (e',H')=>if skipI call e op||(keepI H' op re e e'||reOk lo dst e H e' H' re) then itemsI call lo xs e' H' else none|none=>none) fun e' H'=>Q .normal (e'.kill kill) H')=stepP call lo xs kill Q dst op (re.map fun x=>(H,x)) e r:=by
  intro r
  rcases r with _|⟨v,H'⟩
  ·rfl
  ·simp only[Option.map_some,stepP,run,map_back,reH_eq]
   split<;>rfl
 simp only[run,itemsI,itemI,wantedI]
 rcases e.get t with _|v
 ·rfl
 ·cases v
  case b x =>
   simp only[guardP]
   cases hxw:(x==want)
   ·rw[if_neg (by simpa using hxw),←step];rfl
   ·rw[if_pos (by simpa using hxw),←step]
    rcases opI call lo op e H with _|⟨_|v,H'⟩<;>rfl
  all_goals (simp only[guardP];rw[←step];rfl)
@[simp] theorem guardP_tt{xs:List Item}{kill:List Nat}{dst:Option Nat}{op:IOp}{re:List (Nat×IOp×Option (Nat×Bool))}:guardP call lo xs kill Q dst op re true e H (some (.b true))=stepP call lo xs kill Q dst op (re.map fun x=>(H,x)) e (opI call lo op e H):=rfl
@[simp] theorem guardP_tf{xs:List Item}{kill:List Nat}{dst:Option Nat}{op:IOp}{re:List (Nat×IOp×Option (Nat×Bool))}:guardP call lo xs kill Q dst op re true e H (some (.b false))=stepP call lo xs kill Q dst op (re.map fun x=>(H,x)) e (some (none,H)):=rfl
@[simp] theorem guardP_ff{xs:List Item}{kill:List Nat}{dst:Option Nat}{op:IOp}{re:List (Nat×IOp×Option (Nat×Bool))}:guardP call lo xs kill Q dst op re false e H (some (.b false))=stepP call lo xs kill Q dst op (re.map fun x=>(H,x)) e (opI call lo op e H):=rfl
@[simp] theorem guardP_ft{xs:List Item}{kill:List Nat}{dst:Option Nat}{op:IOp}{re:List (Nat×IOp×Option (Nat×Bool))}:guardP call lo xs kill Q dst op re false e H (some (.b true))=stepP call lo xs kill Q dst op (re.map fun x=>(H,x)) e (some (none,H)):=rfl
theorem guard_intro{xs:List Item}{kill:List Nat}{dst:Option Nat}{op:IOp}{re:List (Nat×IOp×Option (Nat×Bool))}{want x:Bool}(h1:x=true→guardP call lo xs kill Q dst op re want e H (some (.b true)))(h2:x=false→guardP call lo xs kill Q dst op re want e H (some (.b false))):guardP call lo xs kill Q dst op re want e H (some (.b x)):=by
 cases x
 ·exact h2 rfl
 ·exact h1 rfl
@[simp] theorem guardP_tu{xs:List Item}{kill:List Nat}{dst:Option Nat}{op:IOp}{re:List (Nat×IOp×Option (Nat×Bool))}{want:Bool}{l:List AVal}:guardP call lo xs kill Q dst op re want e H (some (.tu l))=stepP call lo xs kill Q dst op (re.map fun x=>(H,x)) e (some (none,H)):=rfl
@[simp] theorem testP_not{a b:ICode}{x:Bool}:testP call lo a b Q e H (some (.b (!x)))=testP call lo b a Q e H (some (.b x)):=by cases x<;>rfl
@[simp] theorem guardP_not_t{xs:List Item}{kill:List Nat}{dst:Option Nat}{op:IOp}{re:List (Nat×IOp×Option (Nat×Bool))}{x:Bool}:guardP call lo xs kill Q dst op re true e H (some (.b (!x)))=guardP call lo xs kill Q dst op re false e H (some (.b x)):=by cases x<;>rfl
@[simp] theorem guardP_not_f{xs:List Item}{kill:List Nat}{dst:Option Nat}{op:IOp}{re:List (Nat×IOp×Option (Nat×Bool))}{x:Bool}:guardP call lo xs kill Q dst op re false e H (some (.b (!x)))=guardP call lo xs kill Q dst op re true e H (some (.b x)):=by cases x<;>rfl
@[simp] theorem keepI_app{n m:Nat}{x y:Opd}{re:List (Nat×IOp×Option (Nat×Bool))}{e e':Env}:keepI H (.app n m x y) re e e'=(match (x.eval e).bind touchV with|some ids=>keepL false ids e' re|none=>false):=by
 simp only[keepI,touch]
 cases x.eval e<;>rfl
@[simp] theorem touchV_ns:touchV .ns=some []:=rfl
@[simp] theorem touchV_sl{id off len:Nat}:touchV (.sl id off len none)=some [id]:=rfl
@[simp] theorem touchV_fs{t:Bool}{len:Nat}{l:List AVal}:touchV (.fs t true len l)=some []:=rfl
@[simp] theorem keepL_nil{fp:Bool}{ids:List Nat}{e:Env}:keepL fp ids e []=true:=rfl
@[simp] theorem keepL_load{fp:Bool}{ids:List Nat}{e:Env}{t:Nat}{n:Option Nat}{b:Opd}{g:Option (Nat×Bool)}{l:List (Nat×IOp×Option (Nat×Bool))}:keepL fp ids e ((t,.load n b,g)::l)=((match b.eval e with|some (.p id _)=>!ids.contains id|some (.fp _)=>fp|_=>false)&&keepL fp ids e l):=rfl
@[simp] theorem keepI_call{f:FuncId}{args:List Opd}{re:List (Nat×IOp×Option (Nat×Bool))}{e e':Env}:keepI H (.call f args) re e e'=false:=rfl
@[simp] theorem keepI_store{n:Nat}{x y:Opd}{re:List (Nat×IOp×Option (Nat×Bool))}{e e':Env}:keepI H (.store n x y) re e e'=(match x.eval e with|some (.p id _)=>keepL (wrO (H.get id)) [id] e' re|_=>false):=by
 simp only[keepI,touch]
 rcases x.eval e with _|v
 ·rfl
 ·cases v<;>first|rfl|simp[isSt]
@[simp] theorem keepI_callv{x:Opd}{args:List Opd}{re:List (Nat×IOp×Option (Nat×Bool))}{e e':Env}:keepI H (.callv x args) re e e'=false:=rfl
@[simp] theorem wrO_cells{c:List AVal}{esz:Nat}{ro:Bool}:wrO (some (.cells c esz ro))=!ro:=rfl
@[simp] theorem wrO_map{es:List (AVal×AVal)}:wrO (some (.map es))=true:=rfl
attribute [irreducible] guardP testP
@[simp] theorem putD_none{v:AVal}:putD e none v=e:=rfl
@[simp] theorem putD_some{t:Nat}{v:AVal}:putD e (some t) v=e.put t v:=rfl
@[simp] theorem reH_nil{dst:Option Nat}{e':Env}:reH lo dst e e' H []=true:=rfl
@[simp] theorem reH_cons{dst:Option Nat}{e':Env}{H':AHeap}{t:Nat}{o:IOp}{g:Option (Nat×Bool)}{l:ReH}:reH lo dst e e' H' ((H,t,o,g)::l)=(guardR (wantedI e' g) ((dynE o e'||stillI (e'.get t) (aop lo o e' H'))||ldE o dst e H H')&&reH lo dst e e' H' l):=rfl
def fpB(n:Option Nat):Option AVal→Bool
 | some (.fp l)=>(match n with|none=>(l[0]?).isSome|some n=>decide (0<n∧n≤l.length))
 | _=>false
@[simp] theorem fpB_fp{n:Option Nat}{l:List AVal}:fpB n (some (.fp l))=(match n with|none=>(l[0]?).isSome|some n=>decide (0<n∧n≤l.length)):=rfl
@[simp] theorem dynE_load{n:Option Nat}{x:Opd}:dynE (.load n x) e=false:=rfl
@[simp] theorem dynE_lenk{k:Nat}{x:Opd}:dynE (.lenk k x) e=false:=rfl
@[simp] theorem dynE_look{ag okf:Bool}{ks:List Nat}{z:AVal}{x k:Opd}:dynE (.look ag ks z okf x k) e=false:=rfl
def dynR(v:Option AVal)(l h m:Option (Option Nat)):Bool:=match v,l,h,m with
 | some v,some l,some h,some m=>dynS v l h m
 | _,_,_,_=>false
@[simp] theorem dynE_slq{esz:Nat}{x:Opd}{l h m:Option Opd}:dynE (.slq esz x l h m) e=dynR (x.eval e) (optI e l) (optI e h) (optI e m):=rfl
@[simp] theorem dynR_fs{t f:Bool}{n:Nat}{c:List AVal}{l h m:Option (Option Nat)}:dynR (some (.fs t f n c)) l h m=false:=by
 rcases l with _|l<;>rcases h with _|h<;>rcases m with _|m<;>rfl
@[simp] theorem guardR_f{b:Bool}:guardR (some false) b=true:=rfl
@[simp] theorem guardR_t{b:Bool}:guardR (some true) b=b:=rfl
def wantV(want:Bool):Option AVal→Option Bool
 | some (.b x)=>some (x==want)
 | some _=>some false
 | none=>none
@[simp] theorem wantV_b{want x:Bool}:wantV want (some (.b x))=some (x==want):=rfl
@[simp] theorem wantV_tu{want:Bool}{l:List AVal}:wantV want (some (.tu l))=some false:=rfl
@[simp] theorem wanted_some{t:Nat}{want:Bool}:wantedI e (some (t,want))=wantV want (e.get t):=by
 simp only[wantedI,wantV]
 rcases e.get t with _|v
 ·rfl
 ·cases v<;>rfl
@[simp] theorem wanted_none:wantedI e none=some true:=rfl
@[simp] theorem env_get_nil{s:Nat}:Env.get [] s=none:=rfl
@[simp] theorem env_get_cons{k s:Nat}{v:AVal}:Env.get ((k,v)::e) s=if k=s then some v else Env.get e s:=rfl
@[simp] theorem env_put_nil{t:Nat}{v:AVal}:Env.put [] t v=[(t,v)]:=rfl
@[simp] theorem env_put_cons{k t:Nat}{u v:AVal}:Env.put ((k,u)::e) t v=if t<k then(t,v)::(k,u)::e else if t=k then(t,v)::e else(k,u)::Env.put e t v:=rfl
@[simp] theorem env_del_nil{t:Nat}:Env.del [] t=[]:=rfl
@[simp] theorem env_del_cons{k t:Nat}{v:AVal}:Env.del ((k,v)::e) t=if k=t then Env.del e t else(k,v)::Env.del e t:=rfl
@[simp] theorem env_kill_nil:Env.kill e []=e:=rfl
@[simp] theorem env_kill_cons{t:Nat}{l:List Nat}:Env.kill e (t::l)=Env.kill (e.del t) l:=rfl
@[simp] theorem initEnv_nil{k:Nat}:initEnv k []=[]:=rfl
@[simp] theorem initEnv_cons{k:Nat}{v:AVal}{l:List AVal}:initEnv k (v::l)=(k,v)::initEnv (k+1) l:=rfl
@[simp] theorem eval_t{n:Nat}:(Opd.t n).eval e=e.get n:=rfl
@[simp] theorem eval_c{v:AVal}:(Opd.c v).eval e=some v:=rfl
@[simp] theorem eval_g{n:Nat}:(Opd.g n).eval e=some (.p n 0):=rfl
@[simp] theorem eval_f{n:Nat}:(Opd.f n).eval e=some (.fn (.func n) [] []):=rfl
@[simp] theorem resI_nil:resI e H []=some []:=rfl
def consR(v:Option AVal)(l:Option (List AVal)):Option (List AVal):=match v,l with
 | some v,some vs=>some (v::vs)
 | _,_=>none
@[simp] theorem consR_some{v:AVal}{l:List AVal}:consR (some v) (some l)=some (v::l):=rfl
@[simp] theorem resI_t{n:Nat}{l:List IRes}:resI e H (.t n::l)=consR (e.get n) (resI e H l):=rfl
@[simp] theorem resI_c{n:Nat}{k:Option Nat}{l:List IRes}:resI e H (.c n k::l)=consR ((e.get n).bind (loadV H k)) (resI e H l):=by
 simp only[resI]
 rcases e.get n with _|v
 ·rfl
 ·simp only[Option.bind_some]
  rcases loadV H k v with _|u
  ·rfl
  ·rcases resI e H l with _|l<;>rfl
@[simp] theorem tup_one{v:AVal}:tupI [v]=v:=rfl
@[simp] theorem tup_two{v u:AVal}{l:List AVal}:tupI (v::u::l)=.tu (v::u::l):=rfl
@[simp] theorem tup_no:tupI []=.tu []:=rfl
@[simp] theorem evals_nil:evals e []=some []:=rfl
@[simp] theorem evals_cons{x:Opd}{l:List Opd}:evals e (x::l)=consR (x.eval e) (evals e l):=by
 simp only[evals]
 rcases x.eval e with _|v
 ·rfl
 ·rcases evals e l with _|l<;>rfl
def callR(r:Option (AVal×AHeap)):Option (Option AVal×AHeap):=r.map fun x=>(some x.1,x.2)
@[simp] theorem callR_some{v:AVal}:callR (some (v,H))=some (some v,H):=rfl
@[simp] theorem op_call{f:FuncId}{args:List Opd}:opI call lo (.call f args) e H=(evals e args).bind fun vs=>callR (call f vs H):=by
 simp only[opI]
 rcases evals e args with _|vs
 ·rfl
 ·simp only[Option.bind_some]
  rcases call f vs H with _|⟨v,H'⟩<;>rfl
def val(H:AHeap)(v:Option AVal):Option (Option AVal×AHeap):=v.map fun v=>(some v,H)
@[simp] theorem val_some{v:AVal}:val H (some v)=some (some v,H):=rfl
@[simp] theorem val_none:val H none=none:=rfl
@[simp] theorem op_mov{x:Opd}:opI call lo (.mov x) e H=val H (x.eval e):=rfl
def pickV(c:Option AVal)(a b:Option AVal):Option AVal:=match c with
 | some (.b true)=>a
 | some (.b false)=>b
 | _=>none
def pk{α:Type}(x:Bool)(a b:α):α:=match x with
 | true=>a
 | false=>b
@[simp] theorem pk_true{α:Type}{a b:α}:pk true a b=a:=rfl
@[simp] theorem pk_false{α:Type}{a b:α}:pk false a b=b:=rfl
@[simp] theorem pickV_b{x:Bool}{a b:Option AVal}:pickV (some (.b x)) a b=pk x a b:=by cases x<;>rfl
@[simp] theorem op_pick{c a b:Opd}:opI call lo (.pick c a b) e H=val H (pickV (c.eval e) (a.eval e) (b.eval e)):=by
 simp only[opI,aop,pickV]
 rcases c.eval e with _|v
 ·rfl
 ·cases v<;>try rfl
  rename_i x;cases x<;>rfl
def two(f:AVal→AVal→Option AVal):Option AVal→Option AVal→Option AVal
 | some a,some b=>f a b
 | _,_=>none
@[simp] theorem two_some{f:AVal→AVal→Option AVal}{a b:AVal}:two f (some a) (some b)=f a b:=rfl
@[simp] theorem op_bin{op:BinOp}{x y:Opd}:opI call lo (.bin op x y) e H=val H (two (binV op) (x.eval e) (y.eval e)):=by
 simp only[opI,aop]
 rcases x.eval e with _|a<;>rcases y.eval e with _|b<;>rfl
@[simp] theorem bin_add{k:IntKind}{a b:Int}:binV .add (.i k a) (.i k b)=some (.i k (wrapI k (a+b))):=by simp[binV,binI]
@[simp] theorem bin_sub{k:IntKind}{a b:Int}:binV .sub (.i k a) (.i k b)=some (.i k (wrapI k (a-b))):=by simp[binV,binI]
@[simp] theorem bin_mul{k:IntKind}{a b:Int}:binV .mul (.i k a) (.i k b)=some (.i k (wrapI k (a*b))):=by simp[binV,binI]
@[simp] theorem bin_quo{k:IntKind}{a b:Int}:binV .quo (.i k a) (.i k b)=if b=0 then none else some (.i k (wrapI k (a.tdiv b))):=by simp[binV,binI]
@[simp] theorem bin_rem{k:IntKind}{a b:Int}:binV .rem (.i k a) (.i k b)=if b=0 then none else some (.i k (a.tmod b)):=by simp[binV,binI]
@[simp] theorem bin_eql{k:IntKind}{a b:Int}:binV .eql (.i k a) (.i k b)=some (.b (decide (a=b))):=by
 simp only[binV,binI,if_true];congr 2
@[simp] theorem bin_neq{k:IntKind}{a b:Int}:binV .neq (.i k a) (.i k b)=some (.b (!decide (a=b))):=by
 simp only[binV,binI,if_true];congr 2
@[simp] theorem bin_lss{k:IntKind}{a b:Int}:binV .lss (.i k a) (.i k b)=some (.b (decide (a<b))):=by simp[binV,binI]
@[simp] theorem bin_leq{k:IntKind}{a b:Int}:binV .leq (.i k a) (.i k b)=some (.b (decide (a≤b))):=by simp[binV,binI]
@[simp] theorem bin_gtr{k:IntKind}{a b:Int}:binV .gtr (.i k a) (.i k b)=some (.b (decide (b<a))):=by simp[binV,binI]
@[simp] theorem bin_geq{k:IntKind}{a b:Int}:binV .geq (.i k a) (.i k b)=some (.b (decide (b≤a))):=by simp[binV,binI]
@[simp] theorem bin_seql{a b:List UInt8}:binV .eql (.s a) (.s b)=some (.b (a==b)):=rfl
@[simp] theorem bin_sneq{a b:List UInt8}:binV .neq (.s a) (.s b)=some (.b (!(a==b))):=rfl
@[simp] theorem op_un{op:UnOp}{x:Opd}:opI call lo (.un op x) e H=val H ((x.eval e).bind (unV op)):=rfl
@[simp] theorem un_not{x:Bool}:unV .not (.b x)=some (.b (!x)):=rfl
@[simp] theorem un_neg{k:IntKind}{n:Int}:unV .neg (.i k n)=some (.i k (wrapI k (0-n))):=rfl
def convV(k:IntKind):AVal→Option AVal
 | .i _ n=>some (.i k (wrapI k n))
 | _=>none
@[simp] theorem convV_i{k k':IntKind}{n:Int}:convV k (.i k' n)=some (.i k (wrapI k n)):=rfl
@[simp] theorem op_conv{k:IntKind}{x:Opd}:opI call lo (.conv k x) e H=val H ((x.eval e).bind (convV k)):=by
 simp only[opI,aop]
 rcases x.eval e with _|v
 ·rfl
 ·cases v<;>rfl
@[simp] theorem op_alloc{z:List AVal}:opI call lo (.alloc z) e H=some (some (.p H.next 0),H.push (.cells z 1 false)):=rfl
@[simp] theorem aop_load{n:Option Nat}{x:Opd}:aop lo (.load n x) e H=val H ((x.eval e).bind (loadV H n)):=rfl
@[simp] theorem op_load{n:Option Nat}{x:Opd}:opI call lo (.load n x) e H=val H ((x.eval e).bind (loadV H n)):=rfl
noncomputable def boxR(H:AHeap)(v:AVal):Option (Option AVal×AHeap):=if v.tup=false then some (some (.p H.next 0),H.push (.cells v.cells 1 false)) else none
@[simp] theorem op_box{x:Opd}:opI call lo (.box x) e H=(x.eval e).bind (boxR H):=by
 simp only[opI,aop]
 rcases x.eval e with _|v<;>rfl
@[simp] theorem boxR_ag{l:List AVal}:boxR H (.ag l)=some (some (.p H.next 0),H.push (.cells l 1 false)):=rfl
@[simp] theorem boxR_i{k:IntKind}{n:Int}:boxR H (.i k n)=some (some (.p H.next 0),H.push (.cells [.i k n] 1 false)):=rfl
@[simp] theorem boxR_s{v:List UInt8}:boxR H (.s v)=some (some (.p H.next 0),H.push (.cells [.s v] 1 false)):=rfl
@[simp] theorem boxR_b{v:Bool}:boxR H (.b v)=some (some (.p H.next 0),H.push (.cells [.b v] 1 false)):=rfl
def loadO(n:Option Nat)(off:Nat):Option AObj→Option AVal
  | some (.cells c _ _)=>match n with
    | none=>c[off]?
    | some n=>if off+n≤c.length then some (.ag ((c.drop off).take n)) else none
  | _=>none
@[simp] theorem loadO_one{off esz:Nat}{c:List AVal}{ro:Bool}:loadO none off (some (.cells c esz ro))=c[off]?:=rfl
@[simp] theorem loadO_row{n off esz:Nat}{c:List AVal}{ro:Bool}:loadO (some n) off (some (.cells c esz ro))=if off+n≤c.length then some (.ag ((c.drop off).take n)) else none:=rfl
@[simp] theorem load_p{n:Option Nat}{id off:Nat}:loadV H n (.p id off)=loadO n off (H.get id):=by
  simp only[loadV,loadO,rowAt]
  cases n with
  | none=>rcases H.get id with _|⟨c,esz,ro⟩|es<;>rfl
  | some n =>
    rcases H.get id with _|⟨c,esz,ro⟩|es
    · rfl
    · simp only;split<;>rfl
    · rfl
noncomputable def storeR(lo n:Nat)(H:AHeap):Option AVal→Option AVal→Option (Option AVal×AHeap)
 | some a,some v=>(storeV lo H n a v).map fun H'=>(none,H')
 | _,_=>none
@[simp] theorem op_store{n:Nat}{x v:Opd}:opI call lo (.store n x v) e H=storeR lo n H (x.eval e) (v.eval e):=by
 simp only[opI,aop]
 rcases x.eval e with _|a<;>rcases v.eval e with _|b<;>rfl
noncomputable def storeO(lo id off n:Nat)(H:AHeap)(v:AVal):Option AObj→Option (Option AVal×AHeap)
 | some (.cells c esz ro)=>if lo≤id∧ro=false∧v.tup=false∧v.cells.length=n∧off+n≤c.length then some (none,H.put id (some (.cells (putCells c off v.cells) esz ro))) else none
 | _=>none
@[simp] theorem storeO_cells{id off n esz:Nat}{v:AVal}{c:List AVal}{ro:Bool}:storeO lo id off n H v (some (.cells c esz ro)) =
  if lo≤id∧ro=false∧v.tup=false∧v.cells.length=n∧off+n≤c.length then some (none,H.put id (some (.cells (putCells c off v.cells) esz ro))) else none:=rfl
@[simp] theorem storeR_p{id off n:Nat}{v:AVal}:storeR lo n H (some (.p id off)) (some v)=storeO lo id off n H v (H.get id):=by
 simp only[storeR,storeV,storeO]
 by_cases h:lo≤id
 ·rw[if_pos h]
  rcases H.get id with _|⟨c,esz,ro⟩|es
  ·rfl
  ·simp only
   split
   ·rename_i h2;rw[if_pos ⟨h,h2⟩];rfl
   ·rename_i h2;rw[if_neg (fun h3=>h2 h3.2)];rfl
  ·rfl
 ·rw[if_neg h]
  rcases H.get id with _|⟨c,esz,ro⟩|es
  ·rfl
  ·simp only;rw[if_neg (fun h3=>h h3.1)];rfl
  ·rfl
@[simp] theorem tup_i{k:IntKind}{n:Int}:(AVal.i k n).tup=false:=rfl
@[simp] theorem tup_b{x:Bool}:(AVal.b x).tup=false:=rfl
@[simp] theorem tup_s{x:List UInt8}:(AVal.s x).tup=false:=rfl
@[simp] theorem tup_ag{l:List AVal}:(AVal.ag l).tup=false:=rfl
@[simp] theorem tup_p{a b:Nat}:(AVal.p a b).tup=false:=rfl
@[simp] theorem tup_sl{a b c:Nat}{d:Option Nat}:(AVal.sl a b c d).tup=false:=rfl
@[simp] theorem tup_ns:AVal.ns.tup=false:=rfl
@[simp] theorem tup_np:AVal.np.tup=false:=rfl
@[simp] theorem cells_i{k:IntKind}{n:Int}:(AVal.i k n).cells=[.i k n]:=rfl
@[simp] theorem cells_b{x:Bool}:(AVal.b x).cells=[.b x]:=rfl
@[simp] theorem cells_s{x:List UInt8}:(AVal.s x).cells=[.s x]:=rfl
@[simp] theorem cells_ag{l:List AVal}:(AVal.ag l).cells=l:=rfl
@[simp] theorem cells_p{a b:Nat}:(AVal.p a b).cells=[.p a b]:=rfl
@[simp] theorem cells_sl{a b c:Nat}{d:Option Nat}:(AVal.sl a b c d).cells=[.sl a b c d]:=rfl
@[simp] theorem cells_ns:AVal.ns.cells=[.ns]:=rfl
@[simp] theorem cells_np:AVal.np.cells=[.np]:=rfl
@[simp] theorem putCells_nil{cs:List AVal}{off:Nat}:putCells cs off []=cs:=rfl
@[simp] theorem putCells_cons{cs l:List AVal}{off:Nat}{v:AVal}:putCells cs off (v::l)=putCells (cs.set off v) (off+1) l:=rfl
@[simp] theorem op_off{x:Opd}{k:Nat}:opI call lo (.off x k) e H=val H ((x.eval e).bind (offV k)):=rfl
@[simp] theorem off_p{id off k:Nat}:offV k (.p id off)=some (.p id (off+k)):=rfl
@[simp] theorem op_part{n:Option Nat}{x:Opd}{k:Nat}:opI call lo (.part n x k) e H=val H ((x.eval e).bind (partV n k)):=rfl
@[simp] theorem part_one{l:List AVal}{off:Nat}:partV none off (.ag l)=l[off]?:=rfl
@[simp] theorem part_row{l:List AVal}{off n:Nat}:partV (some n) off (.ag l)=if off+n≤l.length then some (.ag ((l.drop off).take n)) else none:=rfl
@[simp] theorem op_ext{x:Opd}{k:Nat}:opI call lo (.ext x k) e H=val H ((x.eval e).bind (extV k)):=rfl
@[simp] theorem ext_tu{l:List AVal}{k:Nat}:extV k (.tu l)=l[k]?:=rfl
@[simp] theorem parts_nil:evalParts e []=some []:=rfl
def consP(o n:Nat)(v:Option AVal)(l:Option (List (Nat×Nat×AVal))):Option (List (Nat×Nat×AVal)):=match v,l with
 | some v,some vs=>some ((o,n,v)::vs)
 | _,_=>none
@[simp] theorem consP_some{o n:Nat}{v:AVal}{l:List (Nat×Nat×AVal)}:consP o n (some v) (some l)=some ((o,n,v)::l):=rfl
@[simp] theorem parts_cons{o n:Nat}{x:Opd}{l:List (Nat×Nat×Opd)}:evalParts e ((o,n,x)::l)=consP o n (x.eval e) (evalParts e l):=by
 simp only[evalParts]
 rcases x.eval e with _|v
 ·rfl
 ·rcases evalParts e l with _|l<;>rfl
@[simp] theorem op_build{z:List AVal}{parts:List (Nat×Nat×Opd)}:opI call lo (.build z parts) e H=val H ((evalParts e parts).bind fun ps=>(fillA z ps).map .ag):=by
 simp only[opI,aop]
 rcases evalParts e parts with _|ps<;>rfl
@[simp] theorem fill_nil{cs:List AVal}:fillA cs []=some cs:=rfl
@[simp] theorem fill_cons{cs:List AVal}{off size:Nat}{v:AVal}{l:List (Nat×Nat×AVal)}:fillA cs ((off,size,v)::l)=if v.tup=false∧v.cells.length=size∧off+size≤cs.length then fillA (putCells cs off v.cells) l else none:=rfl
@[simp] theorem op_mm{mx:Bool}{x:Opd}{l:List Opd}:opI call lo (.mm mx x l) e H=val H ((x.eval e).bind fun a=>(evals e l).bind (mmV mx a)):=by
 simp only[opI,aop]
 rcases x.eval e with _|a
 ·rfl
 ·rcases evals e l with _|l<;>rfl
@[simp] theorem mm_min{k:IntKind}{a b:Int}:mmV false (.i k a) [.i k b]=some (.i k (min a b)):=by
 simp only[mmV,if_true]
 have:(if(if false=true then decide (b > a) else decide (b<a))=true then b else a)=min a b:=by
  by_cases h:b<a<;>simp[h]<;>omega
 rw[this]
@[simp] theorem mm_max{k:IntKind}{a b:Int}:mmV true (.i k a) [.i k b]=some (.i k (max a b)):=by
 simp only[mmV,if_true]
 have:(if decide (b > a)=true then b else a)=max a b:=by
  by_cases h:a<b<;>simp[h]<;>omega
 rw[this]
def eqBV(neg:Bool):AVal→AVal→Option AVal
 | .b a,.b b=>some (.b (if neg then !(a==b) else a==b))
 | _,_=>none
@[simp] theorem eqBV_b{neg a b:Bool}:eqBV neg (.b a) (.b b)=some (.b (if neg then !(a==b) else a==b)):=rfl
@[simp] theorem op_eqB{neg:Bool}{x y:Opd}:opI call lo (.eqB neg x y) e H=val H (two (eqBV neg) (x.eval e) (y.eval e)):=by
 simp only[opI,aop]
 rcases x.eval e with _|a
 ·rfl
 ·rcases y.eval e with _|b
  ·cases a<;>rfl
  ·cases a<;>cases b<;>rfl
@[simp] theorem op_lenk{k:Nat}{x:Opd}:opI call lo (.lenk k x) e H=val H (((x.eval e).bind (lenV H k)).map fun(m:Nat)=>AVal.i .i64 (m:Int)):=rfl
@[simp] theorem len_ns:lenV H 0 .ns=some 0:=rfl
@[simp] theorem len_sl{id off len:Nat}{cap:Option Nat}:lenV H 0 (.sl id off len cap)=some len:=rfl
@[simp] theorem len_s{v:List UInt8}:lenV H 1 (.s v)=some v.length:=rfl
@[simp] theorem op_iaddr{esz:Nat}{x i:Opd}:opI call lo (.iaddr esz x i) e H=val H (two (iaddrV esz) (x.eval e) (i.eval e)):=by
 simp only[opI,aop]
 rcases x.eval e with _|a<;>rcases i.eval e with _|b<;>rfl
@[simp] theorem iaddr_sl{esz id off len:Nat}{cap:Option Nat}{k:IntKind}{n:Int}(h0:0≤n)(h1:n<len):iaddrV esz (.sl id off len cap) (.i k n)=some (.p id (off+n.toNat*esz)):=by simp[iaddrV,h0,h1]
noncomputable def bslR(H:AHeap)(esz len:Nat):Option (List AVal)→Option (Option AVal×AHeap)
 | some cs=>some (some (.sl H.next 0 len (some len)),H.push (.cells cs esz false))
 | none=>none
@[simp] theorem bslR_some{esz len:Nat}{cs:List AVal}:bslR H esz len (some cs)=some (some (.sl H.next 0 len (some len)),H.push (.cells cs esz false)):=rfl
@[simp] theorem op_bsl{esz len:Nat}{z:List AVal}{parts:List (Nat×Nat×Opd)}:opI call lo (.bsl esz len z parts) e H=bslR H esz len ((evalParts e parts).bind fun ps=>fillA z ps):=by
 simp only[opI,aop]
 rcases evalParts e parts with _|ps
 ·rfl
 ·simp only[Option.bind_some]
  rcases fillA z ps with _|cs<;>rfl
noncomputable def s2bR(H:AHeap):AVal→Option (Option AVal×AHeap)
 | .s v=>some (some (.sl H.next 0 v.length none),H.push (.cells (v.map fun b=>.i .u8 b.toNat) 1 false))
 | _=>none
@[simp] theorem s2bR_s{v:List UInt8}:s2bR H (.s v)=some (some (.sl H.next 0 v.length none),H.push (.cells (v.map fun b=>.i .u8 b.toNat) 1 false)):=rfl
@[simp] theorem op_s2b{x:Opd}:opI call lo (.s2b x) e H=(x.eval e).bind (s2bR H):=by
 simp only[opI,aop]
 rcases x.eval e with _|v
 ·rfl
 ·cases v<;>rfl
@[simp] theorem op_idxS{x i:Opd}:opI call lo (.idxS x i) e H=val H (two idxSV (x.eval e) (i.eval e)):=by
 simp only[opI,aop]
 rcases x.eval e with _|a
 ·rfl
 ·rcases i.eval e with _|b<;>rfl
@[simp] theorem op_same{x:Opd}:opI call lo (.same x) e H=(match x.eval e with|some (.s v)=>val H (some (.s v))|_=>none):=rfl
def slSR(x:Option AVal)(l h:Option (Option Nat)):Option AVal:=match x,l,h with
 | some (.s v),some l,some h=>slSV v l h
 | _,_,_=>none
@[simp] theorem slSR_s{v:List UInt8}{l h:Option Nat}:slSR (some (.s v)) (some l) (some h)=slSV v l h:=rfl
@[simp] theorem op_slS{x:Opd}{l h:Option Opd}:opI call lo (.slS x l h) e H=val H (slSR (x.eval e) (optI e l) (optI e h)):=by
 simp only[opI,aop,slSR]
 rcases x.eval e with _|v
 ·rfl
 ·rcases optI e l with _|l
  ·cases v<;>rfl
  ·rcases optI e h with _|h
   ·cases v<;>rfl
   ·cases v<;>rfl
def optV:Option AVal→Option (Option Nat)
 | some (.i _ n)=>if 0≤n then some (some n.toNat) else none
 | _=>none
@[simp] theorem optI_none:optI e none=some none:=rfl
@[simp] theorem optI_some{x:Opd}:optI e (some x)=optV (x.eval e):=by
 simp only[optI,optV]
 rcases x.eval e with _|v
 ·rfl
 ·cases v<;>rfl
@[simp] theorem optV_i{k:IntKind}{n:Int}(h:0≤n):optV (some (.i k n))=some (some n.toNat):=by simp[optV,h]
@[simp] theorem slSV_hi{v:List UInt8}{n:Nat}(h:n≤v.length):slSV v none (some n)=some (.s (v.take n)):=by simp[slSV,h]
@[simp] theorem slSV_lo{v:List UInt8}{n:Nat}(h:n≤v.length):slSV v (some n) none=some (.s (v.drop n)):=by simp[slSV,h]
@[simp] theorem slSV_lohi{v:List UInt8}{n m:Nat}(h:m≤v.length)(h2:n≤m):slSV v (some n) (some m)=some (.s ((v.take m).drop n)):=by simp[slSV,h,h2]
@[simp] theorem idxS_s{v:List UInt8}{k:IntKind}{n:Int}(h:0≤n):idxSV (.s v) (.i k n)=(v[n.toNat]?).map (fun b=>.i .u8 b.toNat):=by simp[idxSV,h]
noncomputable def appR(lo:Nat)(H:AHeap)(esz bytes:Nat):Option AVal→Option AVal→Option (Option AVal×AHeap)
 | some a,some b=>(appV lo H esz bytes a b).map fun(v,H')=>(some v,H')
 | _,_=>none
@[simp] theorem op_app{esz bytes:Nat}{x y:Opd}:opI call lo (.app esz bytes x y) e H=appR lo H esz bytes (x.eval e) (y.eval e):=by
 simp only[opI,aop,appR]
 rcases x.eval e with _|a<;>rcases y.eval e with _|b<;>rfl
@[simp] theorem op_mksl{esz bytes:Nat}{z:List AVal}{l c:Opd}:opI call lo (.mksl esz bytes z l c) e H=(match l.eval e,c.eval e with
  | some (.i _ n),some (.i _ m)=>if 0≤n∧n≤m∧bytes*m≤281474976710656∧0<bytes then some (some (.sl H.next 0 n.toNat (some m.toNat)),H.push (.cells (repCells z m.toNat) esz false)) else none
  | _,_=>none):=rfl
@[simp] theorem get_mid{α:Type}{a b:List α}{x:α}{n:Nat}(h:n=a.length):(a++x::b)[n]?=some x:=by subst h;simp
@[simp] theorem wrap_succ{n:Nat}(h:n<4611686018427387904):wrapI .i64 ((n:Int)+1)=(n:Int)+1:=by
 unfold wrapI;rw[if_pos (by omega)]
@[simp] theorem len_fs{t f:Bool}{n:Nat}{l:List AVal}:lenV H 0 (.fs t f n l)=some n:=rfl
@[simp] theorem iaddr_fs{esz len:Nat}{t f:Bool}{l:List AVal}{k:IntKind}{n:Int}(h0:0≤n)(h1:n<len):iaddrV esz (.fs t f len l) (.i k n)=some (.fp (l.drop (n.toNat*esz))):=by simp[iaddrV,h0,h1]
@[simp] theorem load_fp{l:List AVal}{n:Option Nat}:loadV H n (.fp l)=(match n with|none=>l[0]?|some n=>if 0<n∧n≤l.length then some (.ag (l.take n)) else none):=rfl
@[simp] theorem off_fp{l:List AVal}{k:Nat}:offV k (.fp l)=some (.fp (l.drop k)):=rfl
@[simp] theorem tup_fs{t f:Bool}{n:Nat}{l:List AVal}:(AVal.fs t f n l).tup=false:=rfl
@[simp] theorem cells_fs{t f:Bool}{n:Nat}{l:List AVal}:(AVal.fs t f n l).cells=[.fs t f n l]:=rfl
@[simp] theorem skip_call{f:FuncId}{args:List Opd}:skipI call e (.call f args)=call.pure f:=rfl
@[simp] theorem heap_get_push{j:Nat}{o:AObj}:(H.push o).get j=if j=H.next then some o else H.get j:=AHeap.get_push H j o
@[simp] theorem heap_get_put{n j:Nat}{o:Option AObj}:(H.put n o).get j=if j=n then o else H.get j:=AHeap.get_put H n j o
@[simp] theorem heap_next_push{o:AObj}:(H.push o).next=H.next+1:=rfl
@[simp] theorem heap_next_put{n:Nat}{o:Option AObj}:(H.put n o).next=H.next:=rfl
@[simp] theorem same_self(v:AVal)(h:flat v=true):same v v=true:=same_refl v h
attribute [simp] flat flatL
theorem wrapI_i64{n:Int}(h1:-9223372036854775808≤n)(h2:n≤9223372036854775807):wrapI .i64 n=n:=by
 unfold wrapI;rw[if_pos ⟨h1,h2⟩]
theorem get_push_lt{H:AHeap}{o:AObj}{id:Nat}(h:id<H.next):(H.push o).get id=H.get id:=by simp[show id≠H.next by omega]
theorem acc_app{lo lo' esz bytes n m:Nat}{H:AHeap}{v y:AVal}{cells ys:List AVal}(h:Acc H lo' v esz n cells)(hll:lo≤lo')(hlo:lo'≤H.next)(hy:moreV H esz y=some (m,ys))(hl:ys.length=m*esz)(he:0<esz)(hb:0<bytes)(hs:(2*(n+m)+192)*bytes≤281474976710656)(hm:0<m) :
  ∃ H',appR lo H esz bytes (some v) (some y)=some (some (.sl H.next 0 (n+m) none),H')∧Acc H' lo' (.sl H.next 0 (n+m) none) esz (n+m) (cells++ys)∧H'.next=H.next+1 ∧
   ∀ id,id<H.next→(∀ id0 n0 c0,v=.sl id0 0 n0 c0→id≠id0)→H'.get id=H.get id:=by
 have hm0:m≠0:=by omega
 rcases h with⟨rfl,rfl,rfl⟩|⟨id0,rfl,h1,h2,h3,h4⟩
 ·refine⟨H.push (.cells ys esz false),?_,.inr ⟨H.next,rfl,hlo,by simp,by simp,by simpa using hl⟩,rfl,?_⟩
  ·have:(2*m+192)*bytes≤281474976710656:=by simpa using hs
   simp[appR,appV,hy,hl,he,hb,hm0,this]
  ·intro id hid _
   simp[show id≠H.next by omega]
 ·refine⟨(H.put id0 none).push (.cells (cells++ys) esz false),?_,.inr ⟨H.next,rfl,by omega,by simp,by simp,by simp[h4,hl,Nat.add_mul]⟩,rfl,?_⟩
  ·have ht:cells.take (n*esz)=cells:=List.take_of_length_le (by omega)
   have h1':lo≤id0:=by omega
   simp[appR,appV,hy,hl,he,hb,hm0,h1',hs,h3,h4,ht]
  ·intro id hid hne
   have:id≠id0:=hne id0 n none rfl
   simp[show id≠H.next by omega,this]
theorem step_app{call:CallI}{lo lo' esz bytes n m:Nat}{H:AHeap}{v y:AVal}{cells ys:List AVal}{xs:List Item}{kill:List Nat}{Q:Post}{dst:Option Nat}{op:IOp}{re:ReH}{e:Env}
  (h:Acc H lo' v esz n cells) (hll:lo≤lo') (hlo:lo'≤H.next) (hy:moreV H esz y=some (m,ys)) (hl:ys.length=m*esz) (he:0<esz) (hb:0<bytes) (hs:(2*(n+m)+192)*bytes≤281474976710656) (hm:0<m)
  (k:∀ H':AHeap,H'.next=H.next+1→Acc H' lo' (.sl H.next 0 (n+m) none) esz (n+m) (cells++ys)→(∀ id,id<H.next→(∀ id0 n0 c0,v=.sl id0 0 n0 c0→id≠id0)→H'.get id=H.get id)→stepP call lo xs kill Q dst op re e (some (some (.sl H.next 0 (n+m) none),H'))) :
  stepP call lo xs kill Q dst op re e (appR lo H esz bytes (some v) (some y)):=by
 obtain⟨H',h1,h2,h3,h4⟩:=acc_app h hll hlo hy hl he hb hs hm
 rw[h1]
 exact k H' h3 h2 h4
theorem acc_lt{H:AHeap}{lo esz n:Nat}{v:AVal}{cells:List AVal}(h:Acc H lo v esz n cells):∀ id a b,v=.sl id 0 a b→lo≤id∧id<H.next:=by
 intro id a b hv
 rcases h with⟨rfl,_,_⟩|⟨id0,rfl,h1,h2,_,_⟩
 ·cases hv
 ·cases hv;exact⟨h1,h2⟩
theorem acc_none{H:AHeap}{lo esz:Nat}:Acc H lo .ns esz 0 []:=.inl ⟨rfl,rfl,rfl⟩
theorem acc_len{H:AHeap}{lo esz n:Nat}{v:AVal}{cells:List AVal}(h:Acc H lo v esz n cells):cells.length=n*esz:=by
 rcases h with⟨rfl,rfl,rfl⟩|⟨_,_,_,_,_,h⟩
 ·simp
 ·exact h
theorem acc_keep{H H':AHeap}{lo esz n:Nat}{v:AVal}{cells:List AVal}(h:Acc H lo v esz n cells)(hn:H.next≤H'.next)(hk:∀ id n0 c0,v=.sl id 0 n0 c0→H'.get id=H.get id):Acc H' lo v esz n cells:=by
 rcases h with h|⟨id,rfl,h1,h2,h3,h4⟩
 ·exact .inl h
 ·exact .inr ⟨id,rfl,h1,by omega,by rw[hk id n none rfl];exact h3,h4⟩
theorem acc_frz{H:AHeap}{lo esz n k:Nat}{v:AVal}{cells cells':List AVal}(h:Acc H lo v esz n cells)(hc:mapO (frzV H lo k) cells=some cells'):frzV H lo (k+1) v=some (.fs false false n cells'):=by
 rcases h with⟨rfl,rfl,rfl⟩|⟨id,rfl,h1,h2,h3,h4⟩
 ·simp only[mapO_nil,Option.some.injEq] at hc
  subst hc;rfl
 ·show(if n=0 then _ else _)=_
  split
  ·rename_i hn
   subst hn
   have:cells=[]:=List.eq_nil_of_length_eq_zero (by simpa using h4)
   subst this
   simp only[mapO_nil,Option.some.injEq] at hc
   subst hc;rfl
  ·rw[if_pos ⟨h1,rfl⟩]
   have:rowO H id 0 n=some cells:=by
    simp only[rowO,h3]
    rw[if_pos (by omega)]
    simp only[List.drop_zero]
    rw[List.take_of_length_le (by omega)]
   rw[this]
   simp only[hc,Option.map_some]
theorem acc_snap{H:AHeap}{lo esz n k:Nat}{v:AVal}{cells cells':List AVal}(h:Acc H lo v esz n cells)(hc:mapO (snapV H k) cells=some cells'):snapV H (k+1) v=some (.fs (decide (0<n)) false n cells'):=by
 rcases h with⟨rfl,rfl,rfl⟩|⟨id,rfl,h1,h2,h3,h4⟩
 ·simp only[mapO_nil,Option.some.injEq] at hc
  subst hc;rfl
 ·show(if n=0 then _ else _)=_
  split
  ·rename_i hn
   subst hn
   have:cells=[]:=List.eq_nil_of_length_eq_zero (by simpa using h4)
   subst this
   simp only[mapO_nil,Option.some.injEq] at hc
   subst hc;rfl
  ·rename_i hn
   have hr:rowO H id 0 n=some cells:=by
    simp only[rowO,h3]
    rw[if_pos (by omega)]
    simp only[List.drop_zero]
    rw[List.take_of_length_le (by omega)]
   have h0:0<n:=by omega
   simp only[capOk,if_true,hr,hc,Option.map_some,h0,decide_true]
noncomputable def frzO(H:AHeap)(g n len:Nat):Option AObj→Option AVal
 | some (.cells c esz _)=>if len*esz≤c.length then(mapO (frzV H g n) (c.take (len*esz))).map (.fs false false len) else none
 | _=>none
@[simp] theorem frzO_cells{H:AHeap}{g n len esz:Nat}{c:List AVal}{ro:Bool}:frzO H g n len (some (.cells c esz ro))=if len*esz≤c.length then(mapO (frzV H g n) (c.take (len*esz))).map (.fs false false len) else none:=rfl
@[simp] theorem frz_sl{H:AHeap}{g n id len:Nat}{cap:Option Nat}(hn:len≠0)(hid:g≤id)(hc:capOk len cap=true):frzV H g (n+1) (.sl id 0 len cap)=frzO H g n len (H.get id):=by
 show(if len=0 then _ else _)=_
 rw[if_neg hn,if_pos ⟨hid,hc⟩]
 unfold rowO frzO
 rcases H.get id with _|⟨c,esz,ro⟩|es
 ·rfl
 ·simp only[Nat.zero_add,List.drop_zero]
  by_cases h:len*esz≤c.length
  ·rw[if_pos h,if_pos h]
  ·rw[if_neg h,if_neg h]
 ·rfl
@[simp] theorem capOk_some{a b:Nat}:capOk a (some b)=decide (a≤b):=rfl
@[simp] theorem capOk_none{a:Nat}:capOk a none=true:=rfl
noncomputable def snapO(H:AHeap)(n len:Nat):Option AObj→Option AVal
 | some (.cells c esz _)=>if len*esz≤c.length then(mapO (snapV H n) (c.take (len*esz))).map (.fs true false len) else none
 | _=>none
@[simp] theorem snapO_cells{H:AHeap}{n len esz:Nat}{c:List AVal}{ro:Bool}:snapO H n len (some (.cells c esz ro))=if len*esz≤c.length then(mapO (snapV H n) (c.take (len*esz))).map (.fs true false len) else none:=rfl
@[simp] theorem snap_sl{H:AHeap}{n id len:Nat}{cap:Option Nat}(hn:len≠0)(hc:capOk len cap=true):snapV H (n+1) (.sl id 0 len cap)=snapO H n len (H.get id):=by
 show(if len=0 then _ else _)=_
 rw[if_neg hn,hc]
 unfold rowO snapO
 simp only[if_true]
 rcases H.get id with _|⟨c,esz,ro⟩|es
 ·rfl
 ·simp only[Nat.zero_add,List.drop_zero]
  by_cases h:len*esz≤c.length
  ·rw[if_pos h,if_pos h]
  ·rw[if_neg h,if_neg h]
 ·rfl
theorem frz_lit{H:AHeap}{lo esz n k id:Nat}{cap:Option Nat}{ro:Bool}{cells cells':List AVal}(hn:n≠0)(hid:lo≤id)(hg:H.get id=some (.cells cells esz ro))(hl:cells.length=n*esz)(hcap:capOk n cap=true)(hc:mapO (frzV H lo k) cells=some cells') :
  frzV H lo (k+1) (.sl id 0 n cap)=some (.fs false false n cells'):=by
 show(if n=0 then _ else _)=_
 rw[if_neg hn,if_pos ⟨hid,hcap⟩]
 have:rowO H id 0 n=some cells:=by
  simp only[rowO,hg]
  rw[if_pos (by omega)]
  simp only[List.drop_zero]
  rw[List.take_of_length_le (by omega)]
 rw[this]
 simp only[hc,Option.map_some]
theorem snap_lit{H:AHeap}{esz n k id:Nat}{cap:Option Nat}{ro:Bool}{cells cells':List AVal}(hn:n≠0)(hg:H.get id=some (.cells cells esz ro))(hl:cells.length=n*esz)(hcap:capOk n cap=true)(hc:mapO (snapV H k) cells=some cells') :
  snapV H (k+1) (.sl id 0 n cap)=some (.fs true false n cells'):=by
 show(if n=0 then _ else _)=_
 rw[if_neg hn,hcap]
 have:rowO H id 0 n=some cells:=by
  simp only[rowO,hg]
  rw[if_pos (by omega)]
  simp only[List.drop_zero]
  rw[List.take_of_length_le (by omega)]
 simp only[if_true,this,hc,Option.map_some]
theorem calls_clone{IP:FuncId→Option IFunc}{G:AHeap}{f:FuncId}{fn:IFunc}(hf:IP f=some fn)(hm:fn.mode=4){esz bytes:Nat}(hb:cloneOf fn.body=some (esz,bytes)){lo:Nat}{x:AVal}{H:AHeap} :
    theCalls IP G lo f [x] H=cloneV H esz bytes x:=by
  have hs:isSkip fn.body=false:=by cases hbb:fn.body<;>simp[hbb,cloneOf] at hb<;>rfl
  have key:∀ n,acall IP G n lo f [x] H=cloneV H esz bytes x:=fun n=>by
    simp only[acall,callI,callB,hf,hm,cloneB,hb,hs]
  cases hc:cloneV H esz bytes x with
  | some r=>obtain⟨v,H'⟩:=r;exact theCalls_of ⟨0,(key 0).trans hc⟩
  | none =>
    cases hd:theCalls IP G lo f [x] H with
    | none=>rfl
    | some r =>
      obtain⟨v,H'⟩:=r
      obtain⟨n,hn⟩:=(theCalls_knows (IP:=IP) (G:=G) lo).brings _ _ _ _ _ hd
      rw[key,hc] at hn;cases hn
theorem calls_ext{IP:FuncId→Option IFunc}{G:AHeap}{f:FuncId}{fn:IFunc}(hf:IP f=some fn)(hm:fn.mode=4)(hs:isSkip fn.body=true){lo:Nat}{args:List AVal}{H:AHeap} :
    theCalls IP G lo f args H=given H (idxB args):=by
  have key:∀ n,acall IP G n lo f args H=given H (idxB args):=fun n=>by
    simp only[acall,callI,callB,hf,hm,cloneB,hs,given]
  cases hc:given H (idxB args) with
  | some r=>obtain⟨v,H'⟩:=r;exact theCalls_of ⟨0,(key 0).trans hc⟩
  | none =>
    cases hd:theCalls IP G lo f args H with
    | none=>rfl
    | some r =>
      obtain⟨v,H'⟩:=r
      obtain⟨n,hn⟩:=(theCalls_knows (IP:=IP) (G:=G) lo).brings _ _ _ _ _ hd
      rw[key,hc] at hn;cases hn
@[simp] theorem theCalls_pure{IP:FuncId→Option IFunc}{G:AHeap}{lo:Nat}{f:FuncId}:(theCalls IP G lo).pure f=pureB IP f:=rfl
theorem pure_run{IP:FuncId→Option IFunc}{G:AHeap}{f:FuncId}{fn:IFunc}(hf:IP f=some fn){args:List AVal}(hl:args.length=fn.np){v:AVal}
  (h:wp (theCalls IP G G.next) G.next fn.body (fin fn.res fun u H1=>frzV H1 G.next 16 u=some v) (initEnv 0 args) G):pureR IP G f args=some v:=pure_of hf hl h
end
end Go.RI
