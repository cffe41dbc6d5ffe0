import Derived.Test.YtfhpkckjkofaoaaDoorM02
import Derived.Test.YtfhpkckjkofaoaaDoorM03
import Derived.ChangeSame
import Derived.RowKit3
import Derived.LaidLaws
import Derived.Lib.LaidTab
set_option linter.unusedVariables false
set_option linter.unusedSimpArgs false
set_option linter.unusedSectionVars false
/- RI: more fuel does no harm. Conditions: none. -/
namespace Go.RI
open Go
structure LeC (c c':CallI):Prop where
 le:∀ f args H r,c f args H=some r→c' f args H=some r
 pu:c.pure=c'.pure
theorem LeC.pureV{c c':CallI}(h:LeC c c')(v:Option AVal):pureV c v=pureV c' v:=by unfold RI.pureV;rw[h.pu]
theorem LeC.skip{c c':CallI}(h:LeC c c')(e:Env)(o:IOp):skipI c e o=skipI c' e o:=by cases o<;>simp[skipI,h.pu,h.pureV]
abbrev ExI:=Nat→ICode→Env→AHeap→Option (AExit×Env×AHeap)
def LeX(x x':ExI):Prop:=∀ lo c e H r,x lo c e H=some r→x' lo c e H=some r
theorem opI_mono{c c':CallI}(h:LeC c c'){lo:Nat}{o:IOp}{e:Env}{H:AHeap}{r:Option AVal×AHeap}(hs:opI c lo o e H=some r):opI c' lo o e H=some r:=by
 cases o<;>simp only[opI] at hs ⊢<;>try (exact hs)
 case call f args =>
  split at hs
  ·rename_i vs hvs
   split at hs
   ·rename_i v H' hc
    rw[h.le _ _ _ _ hc];exact hs
   ·cases hs
  ·cases hs
 case callv x args =>
  split at hs
  ·rename_i f fst cap hx
   split at hs
   ·rename_i vs hvs
    split at hs
    ·rename_i v H' hc
     simp only[h.le _ _ _ _ hc];exact hs
    ·cases hs
   ·cases hs
  ·cases hs
 case inv x tbl args =>
  split at hs
  ·rename_i t v hx
   split at hs
   ·rename_i f vs hf hvs
    split at hs
    ·rename_i u H' hc
     simp only[h.le _ _ _ _ hc];exact hs
    ·cases hs
   ·cases hs
  ·cases hs
theorem itemI_mono{c c':CallI}(h:LeC c c'){lo:Nat}{x:Item}{e:Env}{H:AHeap}{r:Env×AHeap}(hs:itemI c lo x e H=some r):itemI c' lo x e H=some r:=by
 simp only[itemI] at hs ⊢
 split at hs
 ·cases hs
 ·exact hs
 ·split at hs
  ·rename_i v H' ho;rw[opI_mono h ho];exact hs
  ·rename_i H' ho;rw[opI_mono h ho];exact hs
  ·cases hs
theorem itemsI_mono{c c':CallI}(h:LeC c c'){lo:Nat}:∀ {xs:List Item} {e:Env} {H:AHeap} {r:Env×AHeap},itemsI c lo xs e H=some r→itemsI c' lo xs e H=some r:=by
  intro xs
  induction xs with
  | nil=>intro e H r hs;exact hs
  | cons x xs ih =>
    intro e H r hs
    simp only[itemsI] at hs ⊢
    split at hs
    · rename_i e' H' hi
      rw[itemI_mono h hi]
      simp only
      split at hs
      · rename_i hre;rw[←h.skip,if_pos hre];exact ih hs
      · cases hs
    · cases hs
theorem bodyI_mono{x x':ExI}(h:LeX x x'){fn:IFunc}{lo:Nat}{args:List AVal}{H:AHeap}{r:AVal×AHeap}(hs:bodyI x fn lo args H=some r):bodyI x' fn lo args H=some r:=by
 simp only[bodyI] at hs ⊢
 split at hs
 ·rename_i hl
  rw[if_pos hl]
  split at hs
  ·cases hs
  ·rename_i y e' H' hne hx
   have:=h _ _ _ _ _ hx
   rw[this]
   cases y with
   | exit id=>exact(hne id rfl).elim
   | normal=>exact hs
   | ret=>exact hs
  ·cases hs
 ·cases hs
theorem callI_mono{x x':ExI}(h:LeX x x')(IP:FuncId→Option IFunc)(G:AHeap)(lo:Nat):LeC (callI x IP G lo) (callI x' IP G lo):=by
 refine⟨?_,rfl⟩
 intro f args H r hs
 simp only[callI,callB] at hs ⊢
 split at hs
 ·cases hs
 ·split at hs
  ·exact bodyI_mono h hs
  ·exact bodyI_mono h hs
  ·split at hs
   ·split at hs
    ·rename_i v H' hb;rw[bodyI_mono h hb];exact hs
    ·cases hs
   ·cases hs
  ·split at hs
   ·rename_i v H' hb;rw[bodyI_mono h hb];exact hs
   ·cases hs
  ·exact hs
section
variable {IP:FuncId→Option IFunc} {G:AHeap}
theorem exec_succ:∀ f,LeX (exec IP G f) (exec IP G (f+1)):=by
  intro f
  induction f with
  | zero=>intro lo c e H r h;simp[exec] at h
  | succ f ih =>
    intro lo c e H r h
    cases c<;>rw[exec] at h ⊢
    case skip=>exact h
    case region items kill =>
      split at h
      · rename_i e' H' hi
        rw[itemsI_mono (callI_mono ih IP G lo) hi];exact h
      · cases h
    case seq a b =>
      split at h
      · rename_i e' H' ha
        rw[ih _ _ _ _ _ ha];exact ih _ _ _ _ _ h
      · rename_i hne
        rw[ih _ _ _ _ _ h]
        obtain⟨x,e',H'⟩:=r
        cases x with
        | normal=>exact(hne _ _ h).elim
        | exit id=>rfl
        | ret=>rfl
    case cond c a b =>
      split at h
      · exact ih _ _ _ _ _ h
      · exact ih _ _ _ _ _ h
      · cases h
    case block id b =>
      split at h
      · rename_i id' e' H' hb
        rw[ih _ _ _ _ _ hb];exact h
      · rename_i hne
        rw[ih _ _ _ _ _ h]
        obtain⟨x,e',H'⟩:=r
        cases x with
        | normal=>rfl
        | exit id=>exact(hne _ _ _ h).elim
        | ret=>rfl
    case loop b =>
      split at h
      · rename_i e' H' ha
        rw[ih _ _ _ _ _ ha];exact ih _ _ _ _ _ h
      · rename_i hne
        rw[ih _ _ _ _ _ h]
        obtain⟨x,e',H'⟩:=r
        cases x with
        | normal=>exact(hne _ _ h).elim
        | exit id=>rfl
        | ret=>rfl
    case exit id=>exact h
    case ret=>exact h
theorem exec_mono{f f':Nat}(hf:f≤f'):LeX (exec IP G f) (exec IP G f'):=by
 induction hf with
 | refl=>exact fun _ _ _ _ _ h=>h
 | step _ ih=>exact fun lo c e H r h=>exec_succ _ lo c e H r (ih lo c e H r h)
theorem acall_mono{f f':Nat}(hf:f≤f')(lo:Nat):LeC (acall IP G f lo) (acall IP G f' lo):=callI_mono (exec_mono hf) IP G lo
end
end Go.RI
namespace Go.RI
open Go
section
variable {IP:FuncId→Option IFunc} {G:AHeap}
def Brings(IP:FuncId→Option IFunc)(G:AHeap)(lo:Nat)(f:FuncId)(args:List AVal)(H:AHeap)(v:AVal)(H':AHeap):Prop:=∃ n,acall IP G n lo f args H=some (v,H')
structure Knows (IP:FuncId→Option IFunc) (G:AHeap) (lo:Nat) (call:CallI):Prop where
 brings:∀ f args H v H',call f args H=some (v,H')→Brings IP G lo f args H v H'
 pu:call.pure=pureB IP
abbrev Post:=AExit→Env→AHeap→Prop
def rounds(W:Post→Env→AHeap→Prop)(Q:Post):Nat→Env→AHeap→Prop
 | 0,_,_=>False
 | n+1,e,H=>W (fun x e H=>match x with|.normal=>rounds W Q n e H|x=>Q x e H) e H
def andThen(Q:Post)(k:Env→AHeap→Prop):Post:=fun x e H=>match x with|.normal=>k e H|x=>Q x e H
def inBlock(Q:Post)(id:Nat):Post:=fun x e H=>match x with|.exit i=>if i=id then Q .normal e H else Q (.exit i) e H|x=>Q x e H
def upon(r:Option (Env×AHeap))(k:Env→AHeap→Prop):Prop:=match r with|some (e,H)=>k e H|none=>False
def test(v:Option AVal)(a b:Prop):Prop:=match v with|some (.b true)=>a|some (.b false)=>b|_=>False
def wp(call:CallI)(lo:Nat):ICode→Post→Env→AHeap→Prop
 | .skip,Q,e,H=>Q .normal e H
 | .region xs kill,Q,e,H=>upon (itemsI call lo xs e H) fun e' H'=>Q .normal (e'.kill kill) H'
 | .seq a b,Q,e,H=>wp call lo a (andThen Q fun e' H'=>wp call lo b Q e' H') e H
 | .cond c a b,Q,e,H=>test (c.eval e) (wp call lo a Q e H) (wp call lo b Q e H)
 | .block id b,Q,e,H=>wp call lo b (inBlock Q id) e H
 | .loop b,Q,e,H=>∃ n,rounds (fun Q'=>wp call lo b Q') Q n e H
 | .exit id,Q,e,H=>Q (.exit id) e H
 | .ret,Q,e,H=>Q .ret e H
theorem items_fuel{call:CallI}{lo:Nat}(hk:Knows IP G lo call):∀ {xs:List Item} {e:Env} {H:AHeap} {r:Env×AHeap},itemsI call lo xs e H=some r→∃ n,itemsI (acall IP G n lo) lo xs e H=some r:=by
  have one:∀ {o:IOp} {e:Env} {H:AHeap} {r:Option AVal×AHeap},opI call lo o e H=some r→∃ n,opI (acall IP G n lo) lo o e H=some r:=by
    intro o e H r hs
    cases o<;>simp only[opI] at hs ⊢<;>try (exact⟨0,hs⟩)
    case call f args =>
      split at hs
      · rename_i vs hvs
        split at hs
        · rename_i v H' hc
          obtain⟨n,hn⟩:=hk.brings _ _ _ _ _ hc
          exact⟨n,by rw[hn];exact hs⟩
        · cases hs
      · cases hs
    case callv x args =>
      split at hs
      · rename_i f fst cap hx
        split at hs
        · rename_i vs hvs
          split at hs
          · rename_i v H' hc
            obtain⟨n,hn⟩:=hk.brings _ _ _ _ _ hc
            exact⟨n,by simp only[hn];exact hs⟩
          · cases hs
        · cases hs
      · cases hs
    case inv x tbl args =>
      split at hs
      · rename_i t v hx
        split at hs
        · rename_i f vs hf hvs
          split at hs
          · rename_i u H' hc
            obtain⟨n,hn⟩:=hk.brings _ _ _ _ _ hc
            exact⟨n,by simp only[hn];exact hs⟩
          · cases hs
        · cases hs
      · cases hs
  intro xs
  induction xs with
  | nil=>intro e H r hs;exact⟨0,hs⟩
  | cons x xs ih =>
    intro e H r hs
    simp only[itemsI] at hs
    split at hs
    · rename_i e' H' hi
      split at hs
      · rename_i hre
        obtain⟨n,hn⟩:=ih hs
        have:∃ m,itemI (acall IP G m lo) lo x e H=some (e',H'):=by
          simp only[itemI] at hi ⊢
          split at hi
          · cases hi
          · exact⟨0,hi⟩
          · split at hi
            · rename_i v H2 ho
              obtain⟨m,hm⟩:=one ho
              exact⟨m,by rw[hm];exact hi⟩
            · rename_i H2 ho
              obtain⟨m,hm⟩:=one ho
              exact⟨m,by rw[hm];exact hi⟩
            · cases hi
        obtain⟨m,hm⟩:=this
        refine⟨max n m,?_⟩
        simp only[itemsI]
        rw[itemI_mono (acall_mono (Nat.le_max_right n m) lo) hm]
        have hsk:skipI (acall IP G (max n m) lo) e x.op=skipI call e x.op:=by cases x.op<;>simp only[skipI,pureV,hk.pu]<;>rfl
        simp only[hsk,hre,if_true]
        exact itemsI_mono (acall_mono (Nat.le_max_left n m) lo) hn
      · cases hs
    · cases hs
theorem wp_exec{call:CallI}{lo:Nat}(hk:Knows IP G lo call):∀(c:ICode) (Q:Post) (e:Env) (H:AHeap),wp call lo c Q e H→∃ n x e' H',exec IP G n lo c e H=some (x,e',H')∧Q x e' H':=by
  intro c
  induction c with
  | skip=>intro Q e H h;exact⟨1,.normal,e,H,rfl,h⟩
  | region xs kill =>
    intro Q e H h
    simp only[wp,upon] at h
    split at h
    · rename_i e' H' hi
      obtain⟨n,hn⟩:=items_fuel hk hi
      refine⟨n+1,.normal,e'.kill kill,H',?_,h⟩
      rw[exec]
      show(match itemsI (acall IP G n lo) lo xs e H with|some (e',H')=>some (AExit.normal,e'.kill kill,H')|none=>none)=_
      rw[hn]
    · exact h.elim
  | seq a b iha ihb =>
    intro Q e H h
    obtain⟨n,x,e',H',hx,hq⟩:=iha _ e H h
    cases x with
    | normal =>
      obtain⟨m,y,e2,H2,hy,hq2⟩:=ihb Q e' H' hq
      refine⟨max n m+1,y,e2,H2,?_,hq2⟩
      rw[exec]
      simp only[exec_mono (Nat.le_max_left n m) _ _ _ _ _ hx]
      exact exec_mono (Nat.le_max_right n m) _ _ _ _ _ hy
    | exit id=>exact⟨n+1,.exit id,e',H',by rw[exec];simp only[hx],hq⟩
    | ret=>exact⟨n+1,.ret,e',H',by rw[exec];simp only[hx],hq⟩
  | cond c a b iha ihb =>
    intro Q e H h
    simp only[wp,test] at h
    split at h
    · rename_i hv
      obtain⟨n,x,e',H',hx,hq⟩:=iha Q e H h
      exact⟨n+1,x,e',H',by rw[exec];simp only[hv];exact hx,hq⟩
    · rename_i hv
      obtain⟨n,x,e',H',hx,hq⟩:=ihb Q e H h
      exact⟨n+1,x,e',H',by rw[exec];simp only[hv];exact hx,hq⟩
    · exact h.elim
  | block id b ih =>
    intro Q e H h
    obtain⟨n,x,e',H',hx,hq⟩:=ih _ e H h
    cases x with
    | normal=>exact⟨n+1,.normal,e',H',by rw[exec];simp only[hx],hq⟩
    | exit i =>
      simp only[inBlock] at hq
      split at hq
      · rename_i hi
        exact⟨n+1,.normal,e',H',by rw[exec];simp only[hx,if_pos hi],hq⟩
      · rename_i hi
        exact⟨n+1,.exit i,e',H',by rw[exec];simp only[hx,if_neg hi],hq⟩
    | ret=>exact⟨n+1,.ret,e',H',by rw[exec];simp only[hx],hq⟩
  | loop b ih =>
    intro Q e H h
    obtain⟨k,hk'⟩:=h
    induction k generalizing e H with
    | zero=>exact hk'.elim
    | succ k ihk =>
      obtain⟨n,x,e',H',hx,hq⟩:=ih _ e H hk'
      cases x with
      | normal =>
        obtain⟨m,y,e2,H2,hy,hq2⟩:=ihk e' H' hq
        refine⟨max n m+1,y,e2,H2,?_,hq2⟩
        rw[exec]
        simp only[exec_mono (Nat.le_max_left n m) _ _ _ _ _ hx]
        exact exec_mono (Nat.le_max_right n m) _ _ _ _ _ hy
      | exit id=>exact⟨n+1,.exit id,e',H',by rw[exec];simp only[hx],hq⟩
      | ret=>exact⟨n+1,.ret,e',H',by rw[exec];simp only[hx],hq⟩
  | exit id=>intro Q e H h;exact⟨1,.exit id,e,H,rfl,h⟩
  | ret=>intro Q e H h;exact⟨1,.ret,e,H,rfl,h⟩
def ends(fn:IFunc)(R:AVal→AHeap→Prop):Post:=fun x e H=>match x with
  | .exit _=>False
  | _=>match resI e H fn.res with
    | some vs=>R (tupI vs) H
    | none=>False
theorem body_wp{call:CallI}{lo:Nat}(hk:Knows IP G lo call){fn:IFunc}{args:List AVal}{H:AHeap}{R:AVal→AHeap→Prop}(hl:args.length=fn.np)(h:wp call lo fn.body (ends fn R) (initEnv 0 args) H) :
    ∃ n v H',bodyI (exec IP G n) fn lo args H=some (v,H')∧R v H':=by
  obtain⟨n,x,e',H',hx,hq⟩:=wp_exec hk _ _ _ _ h
  refine⟨n,?_⟩
  simp only[bodyI,if_pos hl,hx]
  unfold ends at hq
  cases x with
  | exit id=>exact hq.elim
  | normal =>
    simp only at hq ⊢
    split at hq
    · rename_i vs hvs;exact⟨tupI vs,H',by rw[hvs],hq⟩
    · exact hq.elim
  | ret =>
    simp only at hq ⊢
    split at hq
    · rename_i vs hvs;exact⟨tupI vs,H',by rw[hvs],hq⟩
    · exact hq.elim
noncomputable def theCallsB(IP:FuncId→Option IFunc)(G:AHeap)(lo:Nat)(f:FuncId)(args:List AVal)(H:AHeap):Option (AVal×AHeap):=open Classical in if h:∃ r:AVal×AHeap,Brings IP G lo f args H r.1 r.2 then some h.choose else none
noncomputable def theCalls(IP:FuncId→Option IFunc)(G:AHeap)(lo:Nat):CallI:=⟨theCallsB IP G lo,pureB IP⟩
theorem comes_unique{lo:Nat}{f:FuncId}{args:List AVal}{H:AHeap}{v v':AVal}{H1 H2:AHeap}(h:Brings IP G lo f args H v H1)(h':Brings IP G lo f args H v' H2):v=v'∧H1=H2:=by
 obtain⟨n,hn⟩:=h
 obtain⟨m,hm⟩:=h'
 have h1:=(acall_mono (Nat.le_max_left n m) lo).le _ _ _ _ hn
 have h2:=(acall_mono (Nat.le_max_right n m) lo).le _ _ _ _ hm
 rw[h1] at h2
 cases h2
 exact⟨rfl,rfl⟩
theorem theCalls_knows(lo:Nat):Knows IP G lo (theCalls IP G lo):=by
 refine⟨?_,rfl⟩
 intro f args H v H' h
 simp only[theCalls] at h
 unfold theCallsB at h
 split at h
 ·rename_i hex
  have:=hex.choose_spec
  rw[Option.some.inj h] at this
  exact this
 ·cases h
theorem theCalls_of{lo:Nat}{f:FuncId}{args:List AVal}{H:AHeap}{v:AVal}{H':AHeap}(h:Brings IP G lo f args H v H'):theCalls IP G lo f args H=some (v,H'):=by
 have hex:∃ r:AVal×AHeap,Brings IP G lo f args H r.1 r.2:=⟨(v,H'),h⟩
 simp only[theCalls]
 unfold theCallsB
 rw[dif_pos hex]
 obtain⟨h1,h2⟩:=comes_unique hex.choose_spec h
 exact congrArg some (Prod.ext h1 h2)
end
end Go.RI
namespace Go.RI
open Go
@[reducible] def It(d:Nat)(o:IOp):Item:=⟨some d,o,none,[]⟩
@[reducible] def Ig(d t:Nat)(w:Bool)(o:IOp):Item:=⟨some d,o,some (t,w),[]⟩
@[reducible] def Mv(d s:Nat):Item:=⟨some d,.mov (.t s),none,[]⟩
@[reducible] def Ld(d s:Nat):Item:=⟨some d,.load none (.t s),none,[]⟩
@[reducible] def Of(d s k:Nat):Item:=⟨some d,.off (.t s) k,none,[]⟩
@[reducible] def Ex(d s k:Nat):Item:=⟨some d,.ext (.t s) k,none,[]⟩
@[reducible] def i0:AVal:=.i .i64 0
@[simp] theorem Mv_eq{d s:Nat}:Mv d s=⟨some d,.mov (.t s),none,[]⟩:=rfl
@[simp] theorem Ld_eq{d s:Nat}:Ld d s=⟨some d,.load none (.t s),none,[]⟩:=rfl
@[simp] theorem Of_eq{d s k:Nat}:Of d s k=⟨some d,.off (.t s) k,none,[]⟩:=rfl
@[simp] theorem Ex_eq{d s k:Nat}:Ex d s k=⟨some d,.ext (.t s) k,none,[]⟩:=rfl
@[simp] theorem i0_eq:i0=.i .i64 0:=rfl
@[simp] theorem It_eq{d:Nat}{o:IOp}:It d o=⟨some d,o,none,[]⟩:=rfl
@[simp] theorem Ig_eq{d t:Nat}{w:Bool}{o:IOp}:Ig d t w o=⟨some d,o,some (t,w),[]⟩:=rfl
def G0(n:Nat):AHeap:=⟨n,.e⟩
def rho0:Ren:=fun g=>⟨g,0,0,1⟩
theorem G0_get(n id:Nat):(G0 n).get id=none:=by simp[G0,AHeap.get,Trie.get]
def Kept(w w':World):Prop:=w.keptBut w' (fun _=>False)∧(∀ a,a.block<w.heap.size→w'.frozen? a=w.frozen? a)∧w.heap.size≤w'.heap.size
theorem Kept.frame{w w':World}(h:Kept w w')(may:MemPlace→Prop):w.keptBut w' may:=World.keptBut_mono (fun _ f=>f.elim) h.1
theorem Step.grown{lo:Nat}{ρ ρ':Ren}{D D':Nat→Prop}{H H':AHeap}{w w':World}(s:Step lo ρ D H w ρ' D' H' w')(h:∀ id o,D id→H.get id=some o→o.wr=false):Kept w w':=by
 have hk:∀ k,k<w.heap.size→w'.heap[k]?=w.heap[k]?:=fun k hk=>s.frame k hk fun id o hd ho hw=>by rw[h id o hd ho] at hw;cases hw
 refine⟨⟨s.os,s.output,fun i hi=>?_⟩,s.froz,s.size⟩
 rw[hk i hi]
 split<;>rename_i h1 h2
 ·rw[h1] at h2;cases h2;exact⟨rfl,rfl,rfl,fun _ _=>rfl⟩
 ·rw[h1] at h2;cases h2;exact .inr ⟨rfl,rfl⟩
 ·rfl
theorem post_same{H:Type}{enc:TypeId×Value→H}{P:Program}{f:Func}{s:ChangeSpec}{apart fresh handsOn again:Bool}{W W':World}{args:Array Value}{v:Value}{ds gs:List (DataW H)}{before pa pv:List MemPlace}
    (hW:DataW.Whole enc P f.params.toList s.vars apart W args.toList ds gs before)
    (hres:∀(b:Nat) (sp:Nat→Bool) (hd:Bool),DataW.TrodAll enc P W' b sp hd f.resultTypes.toList (v.resultList f.resultTypes.size) (s.fn H (ds++gs)).results [])
    (hargs:∀ sp:Nat→Bool,(∀ p∈before,sp p.block=true)→DataW.TrodAll enc P W' 0 sp true f.params.toList args.toList (s.fn H (ds++gs)).args pa)
    (hvars:∀ sp:Nat→Bool,(∀ p∈before,sp p.block=true)→DataW.TrodVars enc P W' sp s.vars (s.fn H (ds++gs)).vars pv)
    (hps:before=pa++pv) (hk:W.keptBut W' (·∈before)) (hfz:∀ a,a.block<W.heap.size→W'.frozen? a=W.frozen? a)
    (hok:∀(j:Nat) (t:TypeId) (r:Value),f.resultTypes[j]?=some t→(v.resultList f.resultTypes.size)[j]?=some r→Value.okWide P W' .any 0 t r) :
    s.post enc P f apart fresh handsOn again W args v W':=by
  have hold:∀ p∈before,(fun b=>decide (b<W.heap.size)) p.block=true:=fun p hp=>by simpa using hW.lt p hp
  have hlt:=hW.lt
  refine⟨ds,gs,before,[],pa,pv,hW,hres _ _ _,hargs _ hold,hvars _ hold,World.keptBut_mono (fun p hp=>⟨hp,?_⟩) hk,fun _=>?_⟩
  · rw[hps,List.mem_append] at hp
    exact Or.inr hp
  · obtain⟨_,_,_,_,_,hz,hn⟩:=hW
    refine⟨hok,_,_,([]++pa)++pv,⟨[]++pa,pv,_root_.Go.ChangeShapes.trodAll_append (hargs _ (fun _ _=>rfl)) (hres _ _ _),hvars _ (fun _ _=>rfl),rfl,?_,?_⟩,?_⟩
    · intro b off hp
      have hp':MemPlace.cell b off∈before:=by rw[hps];simpa using hp
      rw[hfz _ (hlt _ hp')]
      exact hz b off hp'
    · intro ha
      have:=hn ha
      rw[hps] at this
      simpa using this
    · intro p hp _
      rw[hps]
      simpa using hp
def tabIP:List (Nat×IFunc)→FuncId→Option IFunc
 | [],_=>none
 | (k,fn)::l,f=>if k=f then some fn else tabIP l f
def extFn:IFunc:=⟨.skip,0,2,[],4⟩
inductive TabAll (P:Program):List (Nat×IFunc)→Prop
  | nil:TabAll P []
  | ext {k:Nat} {l:List (Nat×IFunc)} {fn:Func} (h1:P.funcs[k]?=some fn) (h2:(fn.name == "runtime.NumGoroutine")=false) (h3:fn.body.isNone=true) (h4:Extern.findNext fn=none) (h5:Extern.find fn=some Extern.BytealgIndexByte.indexByte) (h:TabAll P l):TabAll P ((k,extFn)::l)
  | cons {k:Nat} {ifn:IFunc} {l:List (Nat×IFunc)} {fn:Func} {hs:List Hint} {mode:Nat} (h1:P.funcs[k]?=some fn) (h2:trFunc P hs mode fn=some ifn) (h:TabAll P l):TabAll P ((k,ifn)::l)
theorem TabAll.two{P:Program}{l:List (Nat×IFunc)}(h:TabAll P l):∀ f ifn,tabIP l f=some ifn→TrOK P f ifn∨ExtOK P f ifn:=by
  induction h with
  | nil=>intro f ifn h;cases h
  | cons h1 h2 _ ih =>
    intro f ifn h
    simp only[tabIP] at h
    split at h
    · rename_i hk;subst hk;cases h;exact .inl ⟨_,_,_,h1,h2⟩
    · exact ih f ifn h
  | ext h1 h2 h3 h4 h5 _ ih =>
    intro f ifn h
    simp only[tabIP] at h
    split at h
    · rename_i hk;subst hk;cases h;exact .inr ⟨rfl,rfl,_,h1,h2,h3,h4,h5⟩
    · exact ih f ifn h
theorem TabAll.ok{P:Program}{l:List (Nat×IFunc)}(h:TabAll P l):TabOK P (tabIP l):=fun f ifn hf=>(h.two f ifn hf).imp id .inl
end Go.RI
namespace Go.RI
open Go
def GHolds(n:Nat)(G:AHeap)(w:World):Prop:=∀ g o,G.get g=some o→g<n∧∃ c C e fz,o=.cells c 1 true∧noIdL c=true∧oneL c=true∧w.heap[g]?=some (.cells C e fz)∧C.toList=renL rho0 c
noncomputable def rhoG(G:AHeap):Ren:=fun g=>⟨g,0,match G.get g with|some (.cells c _ _)=>c.length|_=>0,1⟩
theorem GHolds.rel{n:Nat}{G:AHeap}{w:World}(h:GHolds n G w)(hn:G.next=n)(hw:Wf G):HRel G (rhoG G) (fun id=>id<n) G w where
 lt:=fun _ h=>by rw[hn];exact h
 cells:=fun id c esz ro hd hg=>by
  obtain⟨_,c',C,e,fz,ho,h1,h2,h3,h4⟩:=h id _ hg
  cases ho
  have hl:C.size=c.length:=by rw[←Array.length_toList,h4,renL_length]
  refine{ esz_eq:=rfl,len:=?_,at_:=⟨C,e,fz,h3,?_,fun j v hj=>?_,fun hf=>by cases hf⟩,ok:=noIdL_ok _ _ _ h1,one:=h2 }
  ·simp[rhoG,hg]
  ·simp[rhoG,hg,hl]
  ·have:C[j]?=(renL rho0 c)[j]?:=by rw[←h4,Array.getElem?_toList]
   simp only[rhoG,Nat.zero_add,this,renL_get,hj,Option.map_some]
   exact congrArg some (ren_congr (D:=fun _=>False) (fun _ h=>h.elim) v (okL_iff.1 (noIdL_ok rho0 (fun _=>False) c h1) v (List.mem_of_getElem? hj))).symm
 maps:=fun id es _ hg=>by obtain⟨_,c',C,e,fz,ho,_⟩:=h id _ hg;cases ho
 apart:=fun id id' o o' _ _ _ hg _ hw=>by obtain⟨_,c',C,e,fz,ho,_⟩:=h id _ hg;subst ho;simp[AObj.wr] at hw
 glob:=fun g hg=>⟨by rw[←hn];exact hg,rfl,rfl,rfl⟩
 gnext:=Nat.le_refl _
 wf:=hw
theorem GHolds.ok{n:Nat}{G:AHeap}{w:World}(h:GHolds n G w):GOk G:=fun g o _ hg=>by
 obtain⟨_,c,C,e,fz,ho,h1,h2,_⟩:=h g o hg
 exact⟨c,1,ho,h1,h2⟩
def isTrue:Option (AVal×AHeap)→Bool
 | some (.b true,_)=>true
 | _=>false
theorem cell_lit{H:Type}{enc:TypeId×Value→H}{P:Program}{w:World}{base:Nat}{sp:Nat→Bool}{held:Bool}{fuel:Nat}{t:TypeId}{cs:List Value}{l:Lit}{p:List MemPlace}
    (h:DataW.trod enc P w base sp held fuel t cs=some (.lit l,p)):cs=[l.value]:=by
  cases fuel with
  | zero=>simp[DataW.trod] at h
  | succ fuel => 
    unfold DataW.trod at h
    split at h
    all_goals first
      | (cases h;done)
      | (cases h;rfl)
      | (split at h
         · rename_i hc;cases h;first|(obtain⟨rfl,_⟩:=hc;rfl)|rfl
         · cases h)
      | (exfalso;simp only[Option.map_eq_some_iff] at h;obtain⟨x,_,hx⟩:=h;cases hx;done)
      | (exfalso;split at h
         · simp only[Option.map_eq_some_iff,Option.bind_eq_some_iff] at h
           first
           | (obtain⟨x,_,hx⟩:=h;cases hx;done)
           | (obtain⟨x,_,y,_,hx⟩:=h;cases hx;done)
         · cases h)
      | (exfalso;split at h<;>first|(cases h;done)|(simp only[Option.map_eq_some_iff] at h;obtain⟨x,_,hx⟩:=h;cases hx;done))
      | skip
    exfalso
    split at h
    · split at h
      · simp only[Option.bind_eq_some_iff] at h
        obtain⟨x,_,hx⟩:=h
        split at hx
        · cases hx
        · cases hx
      · cases h
    · cases h
theorem cells_flat{H:Type}{enc:TypeId×Value→H}{P:Program}{w:World}{base:Nat}{sp:Nat→Bool}{held:Bool}{fuel:Nat}{t:TypeId}{fs:Array Field}{cs:List Value}{ls:List Lit}{p:List MemPlace}
    (ht:P.underlying t=some (.struct fs)) (hn:P.cellsOf t=ls.length) (hf:fs.toList.map (fun f=>(f.offset,P.cellsOf f.type))=(List.range ls.length).map fun i=>(i,1))
    (h:DataW.trod enc P w base sp held fuel t cs=some (.agg (ls.map .lit),p)):cs=ls.map Lit.value:=by
  cases fuel with
  | zero=>simp[DataW.trod] at h
  | succ fuel =>
    simp only[DataW.trod,ht] at h
    split at h
    · rename_i hl
      obtain⟨xs,hm,hx⟩:=Option.map_eq_some_iff.1 h
      have hxs:xs.map (·.1)=ls.map fun z=>(DataW.lit z:DataW H):=by
        have:=congrArg Prod.fst hx
        simpa using this
      have hlen:fs.toList.length=ls.length:=by have:=congrArg List.length hf;simpa using this
      apply List.ext_getElem?
      intro i
      by_cases hi:i<ls.length
      · have hfi:∃ f,fs.toList[i]?=some f:=⟨_,List.getElem?_eq_getElem (by omega)⟩
        obtain⟨f,hfi⟩:=hfi
        obtain⟨b,hb,hfb⟩:=Go.Lib.mapM_at hm i f hfi
        have hoff:f.offset=i∧P.cellsOf f.type=1:=by
          have:=congrArg (·[i]?) hf
          simp only[List.getElem?_map,hfi,Option.map_some,List.getElem?_range hi,Option.some.injEq,Prod.mk.injEq] at this
          exact this
        rw[hoff.1,hoff.2] at hfb
        have h2:(xs.map (·.1))[i]?=some b.1:=by simp[hb]
        rw[hxs,List.getElem?_map,Option.map_eq_some_iff] at h2
        obtain⟨l,hl2,he⟩:=h2
        obtain⟨b1,b2⟩:=b
        simp only at he
        subst he
        have h1:=cell_lit hfb
        have h3:cs[i]?=some l.value:=by
          have:=congrArg (·[0]?) h1
          simpa[List.getElem?_take,List.getElem?_drop] using this
        rw[h3,List.getElem?_map,hl2];rfl
      · rw[List.getElem?_eq_none (by omega),List.getElem?_eq_none (by simp;omega)]
    · cases h
theorem laid_one{P:Program}{W:World}{name:String}{g:Nat}{t:TypeId}{fs:Array Field}{ls:List Lit}
  (hg:P.globalNamed name=some g) (hty:(P.globals[g]?).map (·.type)=some t) (ht:P.underlying t=some (.struct fs)) (hn:P.cellsOf t=ls.length) (hf:fs.toList.map (fun f=>(f.offset,P.cellsOf f.type))=(List.range ls.length).map fun i=>(i,1))
  (h:laidMet P [(name,.agg (ls.map .lit))] W):∃ C e fz,W.heap[g]?=some (.cells C e fz)∧C.toList=ls.map Lit.value:=by
 obtain⟨ps,⟨g',t',cs,fuel,p,q,hg',ht',hvar,hd,_,_⟩,_⟩:=h
 obtain rfl:=Option.some.inj (hg.symm.trans hg')
 obtain rfl:=Option.some.inj (hty.symm.trans ht')
 have:=cells_flat ht hn hf hd
 simp only[World.var?,hg,Option.bind_some] at hvar
 split at hvar
 ·rename_i C e fz hh;simp only[Option.some.injEq] at hvar;subst hvar;exact⟨_,_,_,hh,this⟩
 ·cases hvar
end Go.RI
namespace Go.RI
open Go
def killsOf:ICode→List (List Nat)
 | .skip=>[[]]
 | .region _ k=>[k]
 | .seq a b=>killsOf a++killsOf b
 | .cond _ a b=>killsOf a++killsOf b
 | .block _ b=>killsOf b
 | .loop b=>killsOf b
 | _=>[]
def hzA(o:List (Nat×List Nat)):List (List Nat)→Nat→List Hint
 | [],_=>[]
 | k::l,i=>((match o.find? fun x=>x.1==i with|some x=>x.2|none=>[]),k)::hzA o l (i+1)
def hz(o:List (Nat×List Nat))(c:ICode):List Hint:=hzA o (killsOf c) 0
end Go.RI
namespace Go.RI
open Go
def Opd.evalG(e:Nat→Option AVal):Opd→Option AVal
 | .t n=>e n
 | .c v=>some v
 | .g n=>some (.p n 0)
 | .f n=>some (.fn (.func n) [] [])
def evalsG(e:Nat→Option AVal):List Opd→Option (List AVal)
  | []=>some []
  | x::l =>
    match x.evalG e with
    | some v =>
      match evalsG e l with
      | some vs=>some (v::vs)
      | none=>none
    | none=>none
def evalPartsG(e:Nat→Option AVal):List (Nat×Nat×Opd)→Option (List (Nat×Nat×AVal))
  | []=>some []
  | (o,n,x)::l =>
    match x.evalG e with
    | some v =>
      match evalPartsG e l with
      | some vs=>some ((o,n,v)::vs)
      | none=>none
    | none=>none
def optIG(e:Nat→Option AVal):Option Opd→Option (Option Nat)
  | none=>some none
  | some x=>match x.evalG e with
    | some (.i _ n)=>if 0≤n then some (some n.toNat) else none
    | _=>none
noncomputable def aopG(lo:Nat)(o:IOp)(e:Nat→Option AVal)(H:AHeap):Option (Option AVal×AHeap) :=
  let pure (v:Option AVal):Option (Option AVal×AHeap):=v.map fun v=>(some v,H)
  match o with
  | .mov x=>pure (x.evalG e)
  | .pick c a b=>match c.evalG e with
    | some (.b true)=>pure (a.evalG e)
    | some (.b false)=>pure (b.evalG e)
    | _=>none
  | .bin op x y=>match x.evalG e,y.evalG e with
    | some a,some b=>pure (binV op a b)
    | _,_=>none
  | .eqB neg x y=>match x.evalG e,y.evalG e with
    | some (.b a),some (.b b)=>pure (some (.b (if neg then !(a==b) else a==b)))
    | _,_=>none
  | .eqNil k neg x y=>match x.evalG e,y.evalG e with
    | some a,some b=>pure ((eqNilV k a b).map fun r=>.b (if neg then !r else r))
    | _,_=>none
  | .eqAg ks neg x y=>match x.evalG e,y.evalG e with
    | some (.ag a),some (.ag b)=>pure ((eqCells ks a b).map fun r=>.b (if neg then !r else r))
    | _,_=>none
  | .un op x=>pure ((x.evalG e).bind (unV op))
  | .conv k x=>match x.evalG e with
    | some (.i _ n)=>pure (some (.i k (wrapI k n)))
    | _=>none
  | .same x=>match x.evalG e with
    | some (.s v)=>pure (some (.s v))
    | _=>none
  | .alloc z=>some (some (.p H.next 0),H.push (.cells z 1 false))
  | .box x=>match x.evalG e with
    | some v=>if v.tup=false then some (some (.p H.next 0),H.push (.cells v.cells 1 false)) else none
    | none=>none
  | .build z parts=>match evalPartsG e parts with
    | some ps=>pure ((fillA z ps).map .ag)
    | none=>none
  | .bsl esz len z parts=>match evalPartsG e parts with
    | some ps=>match fillA z ps with
      | some cs=>some (some (.sl H.next 0 len (some len)),H.push (.cells cs esz false))
      | none=>none
    | none=>none
  | .load n x=>pure ((x.evalG e).bind (loadV H n))
  | .store n x v=>match x.evalG e,v.evalG e with
    | some a,some v=>(storeV lo H n a v).map fun H'=>(none,H')
    | _,_=>none
  | .nck x=>match x.evalG e with
    | some (.p id off)=>pure (some (.p id off))
    | some (.fn (.func f) a c)=>pure (some (.fn (.func f) a c))
    | some (.ifc t v)=>pure (some (.ifc t v))
    | some (.fp l)=>pure (some (.fp l))
    | _=>none
  | .off x k=>pure ((x.evalG e).bind (offV k))
  | .part n x off=>pure ((x.evalG e).bind (partV n off))
  | .iaddr esz x i=>match x.evalG e,i.evalG e with
    | some a,some b=>pure (iaddrV esz a b)
    | _,_=>none
  | .iaddrA esz len x i=>match x.evalG e,i.evalG e with
    | some a,some b=>pure (iaddrAV esz len a b)
    | _,_=>none
  | .idxS x i=>match x.evalG e,i.evalG e with
    | some a,some b=>pure (idxSV a b)
    | _,_=>none
  | .idxA n esz len x i=>match x.evalG e,i.evalG e with
    | some a,some b=>pure (idxAV n esz len a b)
    | _,_=>none
  | .ext x k=>pure ((x.evalG e).bind (extV k))
  | .mkf f fst cap=>match evalsG e fst,evalsG e cap with
    | some a,some c=>pure (some (.fn (.func f) a c))
    | _,_=>none
  | .mksl esz bytes z l c=>match l.evalG e,c.evalG e with
    | some (.i _ n),some (.i _ m) =>
      if 0≤n∧n≤m∧bytes*m≤281474976710656∧0<bytes then some (some (.sl H.next 0 n.toNat (some m.toNat)),H.push (.cells (repCells z m.toNat) esz false)) else none
    | _,_=>none
  | .slS x lo hi=>match x.evalG e,optIG e lo,optIG e hi with
    | some (.s v),some l,some h=>pure (slSV v l h)
    | _,_,_=>none
  | .sl esz x lo hi mx=>match x.evalG e,optIG e lo,optIG e hi,optIG e mx with
    | some v,some l,some h,some m=>(slV esz H v l h m).map fun(v,H')=>(some v,H')
    | _,_,_,_=>none
  | .slq esz x lo hi mx=>match x.evalG e,optIG e lo,optIG e hi,optIG e mx with
    | some v,some l,some h,some m=>match slV esz H v l h m with
      | some (v',H')=>if H'.next=H.next∧(isFs v=true→m.isSome∨l.getD 0=0∨isFs0 v'=false) then some (some v',H) else if dynS v l h m=true then some (some v',H') else none
      | none=>none
    | _,_,_,_=>none
  | .lenk k x=>pure (((x.evalG e).bind (lenV H k)).map fun(m:Nat)=>AVal.i .i64 (m:Int))
  | .app esz bytes x y=>match x.evalG e,y.evalG e with
    | some a,some b=>(appV lo H esz bytes a b).map fun(v,H')=>(some v,H')
    | _,_=>none
  | .mm mx x l=>match x.evalG e,evalsG e l with
    | some a,some l=>pure (mmV mx a l)
    | _,_=>none
  | .iface t x=>pure ((x.evalG e).map (.ifc t))
  | .s2b x=>match x.evalG e with
    | some (.s v)=>some (some (.sl H.next 0 v.length none),H.push (.cells (v.map fun b=>.i .u8 b.toNat) 1 false))
    | _=>none
  | .bad=>none
  | .mkmap=>some (some (.m H.next),H.push (.map []))
  | .mapup ag ks x k v=>match x.evalG e,k.evalG e,v.evalG e with
    | some m,some k,some v=>(mapupV lo H ag ks k v m).map fun H'=>(none,H')
    | _,_,_=>none
  | .look ag ks z okf x k=>match x.evalG e,k.evalG e with
    | some m,some k=>pure (lookV H ag ks z okf m k)
    | _,_=>none
  | .cpy esz x y=>match x.evalG e,y.evalG e with
    | some a,some b=>(cpyV lo H esz a b).map fun(v,H')=>(some v,H')
    | _,_=>none
  | .call _ _=>none
  | .callv _ _=>none
  | .appz esz bytes z x y=>match x.evalG e,y.evalG e with
    | some a,some (.i _ k)=>(appzV lo H esz bytes z a k).map fun(v,H')=>(some v,H')
    | _,_=>none
  | .inv _ _ _=>none
theorem evalG_eq(e:Env)(x:Opd):x.evalG e.get=x.eval e:=by cases x<;>rfl
theorem evalsG_eq(e:Env)(l:List Opd):evalsG e.get l=evals e l:=by
 induction l with
 | nil=>rfl
 | cons x l ih=>simp only[evalsG,evals,evalG_eq,ih];rfl
theorem evalPartsG_eq(e:Env)(l:List (Nat×Nat×Opd)):evalPartsG e.get l=evalParts e l:=by
 induction l with
 | nil=>rfl
 | cons x l ih=>obtain⟨a,b,x⟩:=x;simp only[evalPartsG,evalParts,evalG_eq,ih];rfl
theorem optIG_eq(e:Env)(x:Option Opd):optIG e.get x=optI e x:=by
 cases x with
 | none=>rfl
 | some x=>simp only[optIG,optI,evalG_eq];rfl
theorem aopG_eq(lo:Nat)(o:IOp)(e:Env)(H:AHeap):aopG lo o e.get H=aop lo o e H:=by
 cases o<;>simp only[aopG,aop,evalG_eq,evalsG_eq,evalPartsG_eq,optIG_eq]<;>rfl
abbrev FEnv:=Trie AVal
noncomputable def FEnv.put(t:FEnv)(n:Nat)(v:AVal):FEnv:=Trie.put (some v) (n+1) t n
noncomputable def putF(t:FEnv):Option Nat→AVal→FEnv
 | none,_=>t
 | some n,v=>FEnv.put t n v
noncomputable def killF(t:FEnv)(l:List Nat):FEnv:=@List.rec Nat (fun _=>FEnv→FEnv) (fun t=>t) (fun n _ ih t=>ih (Trie.put none (Nat.succ n) t n)) l t
noncomputable def wantedF(t:FEnv):Option (Nat×Bool)→Option Bool
  | none=>some true
  | some (n,want)=>match t.get n with
    | some (.b b)=>some (b==want)
    | some _=>some false
    | none=>none
noncomputable def opF(call:CallI)(lo:Nat)(o:IOp)(t:FEnv)(H:AHeap):Option (Option AVal×AHeap) :=
  match o with
  | .call f args=>match evalsG t.get args with
    | some vs=>match call f vs H with
      | some (v,H')=>some (some v,H')
      | none=>none
    | none=>none
  | .callv x args=>match x.evalG t.get with
    | some (.fn (.func f) fst cap)=>match evalsG t.get args with
      | some vs=>match call f (fst++vs++cap) H with
        | some (v,H')=>some (some v,H')
        | none=>none
      | none=>none
    | _=>none
  | .inv x tbl args=>match x.evalG t.get with
    | some (.ifc ty v)=>match tblGet tbl ty,evalsG t.get args with
      | some f,some vs=>match call f (v::vs) H with
        | some (v,H')=>some (some v,H')
        | none=>none
      | _,_=>none
    | _=>none
  | o=>aopG lo o t.get H
noncomputable def itemF(call:CallI)(lo:Nat)(x:Item)(t:FEnv)(H:AHeap):Option (FEnv×AHeap) :=
  match wantedF t x.guard with
  | none=>none
  | some false=>some (putF t x.dst (.tu []),H)
  | some true=>match opF call lo x.op t H with
    | some (some v,H')=>some (putF t x.dst v,H')
    | some (none,H')=>some (putF t x.dst (.tu []),H')
    | none=>none
noncomputable def dynG(o:IOp)(e:Nat→Option AVal):Bool:=match o with
  | .slq _ x lo hi mx=>match x.evalG e,optIG e lo,optIG e hi,optIG e mx with
    | some v,some l,some h,some m=>dynS v l h m
    | _,_,_,_=>false
  | _=>false
theorem dynG_eq(o:IOp)(e:Env):dynG o e.get=dynE o e:=by
 cases o<;>simp only[dynG,dynE,evalG_eq,optIG_eq]<;>rfl
noncomputable def ldG(o:IOp)(dst:Option Nat)(e:Nat→Option AVal)(H H':AHeap):Bool:=match o with
  | .load n (.t s)=>!(dst==some s)&&(match e s with
    | some (.fp l)=>(loadV H n (.fp l)).isSome
    | some p=>(match loadV H n p,loadV H' n p with
      | some v,some v'=>same v v'
      | _,_=>false)
    | none=>false)
  | _=>false
noncomputable def reOkF(lo:Nat)(dst:Option Nat)(t0:FEnv)(H0:AHeap)(t:FEnv)(H:AHeap):List (Nat×IOp×Option (Nat×Bool))→Bool
  | []=>true
  | (n,o,g)::l=>(match wantedF t g with
    | some false=>true
    | some true=>(dynG o t.get||(match t.get n,aopG lo o t.get H with
      | some v,some (some v',_)=>same v v'
      | _,_=>false))||ldG o dst t0.get H0 H
    | none=>false)&&reOkF lo dst t0 H0 t H l
noncomputable def touchG(e:Nat→Option AVal)(o:IOp):Option (List Nat):=match o with
  | .app _ _ x _=>match x.evalG e with
    | some v=>touchV v
    | none=>none
  | .store _ x _=>match x.evalG e with
    | some (.p id _)=>some [id]
    | _=>none
  | _=>none
noncomputable def keepLG(fp:Bool)(ids:List Nat)(e':Nat→Option AVal):List (Nat×IOp×Option (Nat×Bool))→Bool
  | []=>true
  | (_,o,_)::l=>(match o with
    | .load _ b=>match b.evalG e' with
      | some (.p id _)=>!ids.contains id
      | some (.fp _)=>fp
      | _=>false
    | _=>false)&&keepLG fp ids e' l
noncomputable def keepG(H:AHeap)(o:IOp)(re:List (Nat×IOp×Option (Nat×Bool)))(e e':Nat→Option AVal):Bool:=match touchG e o with
 | some ids=>keepLG (isSt o&&ids.all fun i=>wrO (H.get i)) ids e' re
 | none=>false
theorem keepG_eq(H:AHeap)(o:IOp)(re:List (Nat×IOp×Option (Nat×Bool)))(e e':Env):keepG H o re e.get e'.get=keepI H o re e e':=by
  have h1:touchG e.get o=touch e o:=by cases o<;>simp only[touchG,touch,evalG_eq]<;>rfl
  have h2:∀ fp ids l,keepLG fp ids e'.get l=keepL fp ids e' l:=by
    intro fp ids l
    induction l with
    | nil=>rfl
    | cons x l ih =>
      obtain⟨a,o,g⟩:=x
      simp only[keepLG,keepL,ih]
      cases o<;>simp only[evalG_eq]<;>rfl
  simp only[keepG,keepI,h1,h2];rfl
def skipG(call:CallI)(g:Nat→Option AVal):IOp→Bool
 | .call f _=>call.pure f
 | .callv x _=>pureV call (x.evalG g)
 | _=>false
theorem skipG_eq(call:CallI)(e:Env)(o:IOp):skipG call e.get o=skipI call e o:=by cases o<;>simp only[skipG,skipI,evalG_eq]
noncomputable def itemsF(call:CallI)(lo:Nat):List Item→FEnv→AHeap→Option (FEnv×AHeap)
  | [],t,H=>some (t,H)
  | x::l,t,H=>match itemF call lo x t H with
    | some (t',H')=>match skipG call t.get x.op||(keepG H' x.op x.re t.get t'.get||reOkF lo x.dst t H t' H' x.re) with
      | true=>itemsF call lo l t' H'
      | false=>none
    | none=>none
noncomputable def initF:Nat→List AVal→FEnv→FEnv
 | _,[],t=>t
 | k,v::l,t=>initF (k+1) l (t.put k v)
noncomputable def resF(t:FEnv)(H:AHeap):List IRes→Option (List AVal)
  | []=>some []
  | .t n::l=>match t.get n,resF t H l with
    | some v,some vs=>some (v::vs)
    | _,_=>none
  | .c n k::l=>match t.get n with
    | some p=>match loadV H k p,resF t H l with
      | some v,some vs=>some (v::vs)
      | _,_=>none
    | none=>none
noncomputable def bodyF(ex:Nat→ICode→FEnv→AHeap→Option (AExit×FEnv×AHeap))(fn:IFunc)(lo:Nat)(args:List AVal)(H:AHeap):Option (AVal×AHeap) :=
  if args.length=fn.np then
    match ex lo fn.body (initF 0 args .e) H with
    | some (.exit _,_,_)=>none
    | some (_,t,H')=>match resF t H' fn.res with
      | some vs=>some (tupI vs,H')
      | none=>none
    | none=>none
  else none
noncomputable def tabFB(T:Trie IFunc)(G:AHeap)(ex:Nat→ICode→FEnv→AHeap→Option (AExit×FEnv×AHeap))(lo:Nat)(g:FuncId)(args:List AVal)(H:AHeap):Option (AVal×AHeap):=match T.get g with
  | some fn=>match fn.mode with
    | 0=>bodyF ex fn lo args H
    | 1=>bodyF ex fn H.next args H
    | 2=>match mapO (snapV H 16) args with
      | some args'=>match bodyF ex fn G.next args' G with
        | some (v,H1)=>match frzV H1 G.next 16 v with
          | some v'=>some (v',H)
          | none=>none
        | none=>none
      | none=>none
    | 3=>match bodyF ex fn H.next args H with
      | some (v,_)=>if below H.next v then some (v,H) else none
      | none=>none
    | _=>cloneB fn.body args H
  | none=>none
noncomputable def tabF(T:Trie IFunc)(G:AHeap)(ex:Nat→ICode→FEnv→AHeap→Option (AExit×FEnv×AHeap))(lo:Nat):CallI:=⟨tabFB T G ex lo,fun g=>match T.get g with
  | some fn=>match fn.mode with
    | 0=>false
    | _=>true
  | none=>false⟩
noncomputable def execF(T:Trie IFunc)(G:AHeap):Nat→Nat→ICode→FEnv→AHeap→Option (AExit×FEnv×AHeap)
  | 0,_,_,_,_=>none
  | f+1,lo,c,t,H =>
    match c with
    | .skip=>some (.normal,t,H)
    | .region items kill=>match itemsF (tabF T G (execF T G f) lo) lo items t H with
      | some (t',H')=>some (.normal,killF t' kill,H')
      | none=>none
    | .seq a b=>match execF T G f lo a t H with
      | some (.normal,t',H')=>execF T G f lo b t' H'
      | r=>r
    | .cond x a b=>match x.evalG t.get with
      | some (.b true)=>execF T G f lo a t H
      | some (.b false)=>execF T G f lo b t H
      | _=>none
    | .block id b=>match execF T G f lo b t H with
      | some (.exit id',t',H')=>if id'=id then some (.normal,t',H') else some (.exit id',t',H')
      | r=>r
    | .loop b=>match execF T G f lo b t H with
      | some (.normal,t',H')=>execF T G f lo (.loop b) t' H'
      | r=>r
    | .exit id=>some (.exit id,t,H)
    | .ret=>some (.ret,t,H)
noncomputable def callF(T:Trie IFunc)(G:AHeap)(f:Nat)(lo:Nat):CallI:=tabF T G (execF T G f) lo
def EqE(e:Env)(t:FEnv):Prop:=e.get=t.get
theorem EqE.put{e:Env}{t:FEnv}(h:EqE e t)(n:Nat)(v:AVal):EqE (e.put n v) (t.put n v):=by
 funext s
 rw[Env.get_put,FEnv.put,Trie.get_put _ _ _ _ _ (Nat.lt_succ_self n),h]
theorem EqE.putD{e:Env}{t:FEnv}(h:EqE e t)(d:Option Nat)(v:AVal):EqE (putD e d v) (putF t d v):=by
 cases d with
 | none=>exact h
 | some n=>exact h.put n v
theorem EqE.kill:∀(l:List Nat) {e:Env} {t:FEnv},EqE e t→EqE (e.kill l) (killF t l):=by
  intro l
  induction l with
  | nil=>intro e t h;exact h
  | cons n l ih =>
    intro e t h
    refine ih (e:=e.del n) (t:=Trie.put none (n+1) t n) ?_
    funext s
    rw[Env.get_del,Trie.get_put _ _ _ _ _ (Nat.lt_succ_self n),h]
theorem EqE.wanted{e:Env}{t:FEnv}(h:EqE e t)(g:Option (Nat×Bool)):wantedI e g=wantedF t g:=by
 cases g with
 | none=>rfl
 | some x=>obtain⟨n,w⟩:=x;have h:e.get=t.get:=h;simp only[wantedI,wantedF,h];rfl
theorem EqE.op{e:Env}{t:FEnv}(h:EqE e t)(call:CallI)(lo:Nat)(o:IOp)(H:AHeap):opI call lo o e H=opF call lo o t H:=by
 unfold EqE at h
 cases o<;>simp only[opI,opF]<;>first
  | (rw[←h,evalsG_eq];done)
  | (rw[←h,evalsG_eq];rfl)
  | (rw[←h,evalG_eq,evalsG_eq];rfl)
  | (rw[←h,aopG_eq])
theorem EqE.item{e:Env}{t:FEnv}(h:EqE e t)(call:CallI)(lo:Nat)(x:Item)(H:AHeap){t':FEnv}{H':AHeap}(hs:itemF call lo x t H=some (t',H')):∃ e',itemI call lo x e H=some (e',H')∧EqE e' t':=by
 unfold itemF at hs
 unfold itemI
 rw[h.wanted,h.op]
 split at hs
 ·cases hs
 ·rename_i hw;cases hs;exact⟨_,by rw[hw],h.putD _ _⟩
 ·rename_i hw
  split at hs
  ·rename_i v H1 ho;cases hs;exact⟨_,by rw[hw,ho],h.putD _ _⟩
  ·rename_i H1 ho;cases hs;exact⟨_,by rw[hw,ho],h.putD _ _⟩
  ·cases hs
theorem EqE.reOk{e0 e:Env}{t0 t:FEnv}(h0:EqE e0 t0)(h:EqE e t)(lo:Nat)(d:Option Nat)(H0 H:AHeap):∀(l:List (Nat×IOp×Option (Nat×Bool))),reOk lo d e0 H0 e H l=reOkF lo d t0 H0 t H l:=by
  intro l
  induction l with
  | nil=>rfl
  | cons x l ih =>
    obtain⟨n,o,g⟩:=x
    have he:e.get=t.get:=h
    have he0:e0.get=t0.get:=h0
    simp only[RI.reOk,reOkF,ih,h.wanted]
    rw[←he,←he0,aopG_eq,dynG_eq]
    rfl
theorem items_F{call call':CallI}(hc:LeC call' call){lo:Nat}:∀ {xs:List Item} {e:Env} {t:FEnv} {H:AHeap} {t':FEnv} {H':AHeap},EqE e t→itemsF call' lo xs t H=some (t',H')→∃ e',itemsI call lo xs e H=some (e',H')∧EqE e' t':=by
  intro xs
  induction xs with
  | nil=>intro e t H t' H' h hs;simp only[itemsF] at hs;cases hs;exact⟨e,rfl,h⟩
  | cons x xs ih =>
    intro e t H t' H' h hs
    simp only[itemsF] at hs
    split at hs
    · rename_i t1 H1 hi
      split at hs
      · rename_i hre
        have heq0:=h
        obtain⟨e1,h1,h2⟩:=h.item call' lo x H hi
        obtain⟨e2,h3,h4⟩:=ih h2 hs
        refine⟨e2,?_,h4⟩
        simp only[itemsI]
        rw[itemI_mono hc h1]
        simp only
        have hre2:(skipI call' e x.op||(keepI H1 x.op x.re e e1||reOkF lo x.dst t H t1 H1 x.re))=true:=by
          rw[Bool.or_eq_true] at hre ⊢
          rcases hre with hre|hre
          · left
            rw[←skipG_eq,show e.get=t.get from heq0];exact hre
          · right
            have he1:e.get=t.get:=heq0
            have he2:e1.get=t1.get:=h2
            rw[←keepG_eq,he1,he2];exact hre
        rw[heq0.reOk h2,←hc.skip,hre2]
        simpa using h3
      · cases hs
    · cases hs
theorem init_F:∀(args:List AVal) (k:Nat) (e:Env) (t:FEnv),EqE e t→(∀ s v,e.get s=some v→s<k)→∃ e',EqE e' (initF k args t)∧∀ s,e'.get s=if s<k then e.get s else(initEnv k args).get s:=by
  intro args
  induction args with
  | nil=>intro k e t h hk;exact⟨e,h,fun s=>by
      split
      · rfl
      · rename_i hs
        simp only[initEnv,Env.get]
        cases hg:e.get s with
        | none=>rfl
        | some v=>exact absurd (hk s v hg) hs⟩
  | cons v args ih =>
    intro k e t h hk
    obtain⟨e',h1,h2⟩:=ih (k+1) (e.put k v) (t.put k v) (h.put k v) (fun s u hs=>by
      rw[Env.get_put] at hs
      split at hs
      · omega
      · have:=hk s u hs;omega)
    refine⟨e',h1,fun s=>?_⟩
    rw[h2 s,Env.get_put]
    simp only[initEnv,Env.get]
    by_cases hs:s=k
    · subst hs;rw[if_pos (by omega),if_pos rfl,if_neg (by omega),if_pos rfl]
    · by_cases hlt:s<k
      · rw[if_pos (by omega),if_neg hs,if_pos hlt]
      · rw[if_neg (by omega),if_neg hlt,if_neg (by omega)]
theorem init_E(args:List AVal):EqE (initEnv 0 args) (initF 0 args .e):=by
 obtain⟨e',h1,h2⟩:=init_F args 0 [] .e (by funext s;rfl) (fun s v h=>by simp[Env.get] at h)
 unfold EqE at *
 rw[←h1]
 funext s
 rw[h2 s,if_neg (by omega)]
theorem res_F{e:Env}{t:FEnv}(h:EqE e t)(H:AHeap):∀ l,resI e H l=resF t H l:=by
  intro l
  have he:e.get=t.get:=h
  induction l with
  | nil=>rfl
  | cons x l ih =>
    cases x with
    | t n=>simp only[resI,resF,he,ih];rfl
    | c n k=>simp only[resI,resF,he,ih];rfl
theorem body_F{x:ExI}{x':Nat→ICode→FEnv→AHeap→Option (AExit×FEnv×AHeap)}(hx:∀ lo c e t H y t' H',EqE e t→x' lo c t H=some (y,t',H')→∃ e',x lo c e H=some (y,e',H')∧EqE e' t'){fn:IFunc}{lo:Nat}{args:List AVal}{H:AHeap}{r:AVal×AHeap}
  (h:bodyF x' fn lo args H=some r):bodyI x fn lo args H=some r:=by
 unfold bodyF at h
 unfold bodyI
 split at h
 ·rename_i hl
  rw[if_pos hl]
  split at h
  ·cases h
  ·rename_i y t' H' hne he
   obtain⟨e',h1,h2⟩:=hx _ _ _ _ _ _ _ _ (init_E args) he
   rw[h1]
   cases y with
   | exit id=>exact(hne id rfl).elim
   | normal=>simp only;rw[res_F h2];exact h
   | ret=>simp only;rw[res_F h2];exact h
  ·cases h
 ·cases h
theorem exec_F{T:Trie IFunc}{IP:FuncId→Option IFunc}(hT:∀ f,T.get f=IP f){G:AHeap}:∀(f lo:Nat) (c:ICode) (e:Env) (t:FEnv) (H:AHeap) (y:AExit) (t':FEnv) (H':AHeap),EqE e t→execF T G f lo c t H=some (y,t',H') →
    ∃ e',exec IP G f lo c e H=some (y,e',H')∧EqE e' t':=by
  intro f
  induction f with
  | zero=>intro lo c e t H y t' H' _ h;simp[execF] at h
  | succ f ih =>
    intro lo c e t H y t' H' heq h
    cases c<;>rw[exec]
    case skip=>simp only[execF] at h;cases h;exact⟨e,rfl,heq⟩
    case region items kill =>
      · simp only[execF] at h
        split at h
        · rename_i t1 H1 hi
          cases h
          have hle:LeC (tabF T G (execF T G f) lo) (callI (exec IP G f) IP G lo):=by
            refine⟨?_,?_⟩
            intro g args H r hr
            simp only[tabF,tabFB] at hr
            split at hr
            · rename_i fn hg
              simp only[callI,callB]
              rw[←hT g,hg]
              simp only
              split at hr
              · rename_i hm
                simp only[hm]
                exact body_F ih hr
              · rename_i hm
                simp only[hm]
                exact body_F ih hr
              · rename_i hm
                simp only[hm]
                split at hr
                · rename_i args' ha
                  split at hr
                  · rename_i v H1 hb
                    split at hr
                    · rename_i v' hfz
                      cases hr
                      rw[ha]
                      simp only[body_F ih hb,hfz]
                    · cases hr
                  · cases hr
                · cases hr
              · rename_i hm
                simp only[hm]
                split at hr
                · rename_i v H1 hb
                  rw[body_F ih hb]
                  exact hr
                · cases hr
              · rename_i m hm0 hm1 hm2 hm3
                obtain⟨k,hk⟩:∃ k,fn.mode=k+4:=⟨fn.mode-4,by have a0:¬ fn.mode=0:=hm0;have a1:¬ fn.mode=1:=hm1;have a2:¬ fn.mode=2:=hm2;have a3:¬ fn.mode=3:=hm3;omega⟩
                rw[hk]
                exact hr
            · cases hr
            funext g
            simp only[tabF,callI,pureB]
            rw[←hT g]
            rfl
          obtain⟨e1,h1,h2⟩:=items_F hle heq hi
          rw[h1]
          exact⟨_,rfl,h2.kill kill⟩
        · cases h
    case seq a b =>
      simp only[execF] at h
      split at h
      · rename_i t1 H1 ha
        obtain⟨e1,h1,h2⟩:=ih _ _ _ _ _ _ _ _ heq ha
        rw[h1];exact ih _ _ _ _ _ _ _ _ h2 h
      · rename_i hne
        obtain⟨e1,h1,h2⟩:=ih _ _ _ _ _ _ _ _ heq h
        rw[h1]
        cases y with
        | normal=>exact(hne _ _ h).elim
        | exit id=>exact⟨e1,rfl,h2⟩
        | ret=>exact⟨e1,rfl,h2⟩
    case cond c a b =>
      simp only[execF] at h
      have he:e.get=t.get:=heq
      rw[←he,evalG_eq] at h
      split at h
      · rename_i hv;rw[hv];exact ih _ _ _ _ _ _ _ _ heq h
      · rename_i hv;rw[hv];exact ih _ _ _ _ _ _ _ _ heq h
      · cases h
    case block id b =>
      simp only[execF] at h
      split at h
      · rename_i id' t1 H1 hb
        obtain⟨e1,h1,h2⟩:=ih _ _ _ _ _ _ _ _ heq hb
        rw[h1]
        simp only
        split at h
        · rename_i hid;cases h;exact⟨e1,by rw[if_pos hid],h2⟩
        · rename_i hid;cases h;exact⟨e1,by rw[if_neg hid],h2⟩
      · rename_i hne
        obtain⟨e1,h1,h2⟩:=ih _ _ _ _ _ _ _ _ heq h
        rw[h1]
        cases y with
        | normal=>exact⟨e1,rfl,h2⟩
        | exit id=>exact(hne _ _ _ h).elim
        | ret=>exact⟨e1,rfl,h2⟩
    case loop b =>
      simp only[execF] at h
      split at h
      · rename_i t1 H1 ha
        obtain⟨e1,h1,h2⟩:=ih _ _ _ _ _ _ _ _ heq ha
        rw[h1];exact ih _ _ _ _ _ _ _ _ h2 h
      · rename_i hne
        obtain⟨e1,h1,h2⟩:=ih _ _ _ _ _ _ _ _ heq h
        rw[h1]
        cases y with
        | normal=>exact(hne _ _ h).elim
        | exit id=>exact⟨e1,rfl,h2⟩
        | ret=>exact⟨e1,rfl,h2⟩
    case exit id=>simp only[execF] at h;cases h;exact⟨e,rfl,heq⟩
    case ret=>simp only[execF] at h;cases h;exact⟨e,rfl,heq⟩
theorem call_F{T:Trie IFunc}{IP:FuncId→Option IFunc}(hT:∀ f,T.get f=IP f){G:AHeap}{f lo:Nat}{g:FuncId}{args:List AVal}{H:AHeap}{r:AVal×AHeap}(h:callF T G f lo g args H=some r):acall IP G f lo g args H=some r:=by
 simp only[callF,tabF,tabFB] at h
 simp only[acall,callI,callB]
 split at h
 ·rename_i fn hg
  rw[←hT g,hg]
  simp only
  split at h
  ·rename_i hm
   simp only[hm]
   exact body_F (exec_F hT f) h
  ·rename_i hm
   simp only[hm]
   exact body_F (exec_F hT f) h
  ·rename_i hm
   simp only[hm]
   split at h
   ·rename_i args' ha
    split at h
    ·rename_i v H1 hb
     split at h
     ·rename_i v' hfz
      cases h
      rw[ha]
      simp only[body_F (exec_F hT f) hb,hfz]
     ·cases h
    ·cases h
   ·cases h
  ·rename_i hm
   simp only[hm]
   split at h
   ·rename_i v H1 hb
    rw[body_F (exec_F hT f) hb]
    exact h
   ·cases h
  ·rename_i m hm0 hm1 hm2 hm3
   obtain⟨k,hk⟩:∃ k,fn.mode=k+4:=⟨fn.mode-4,by have a0:¬ fn.mode=0:=hm0;have a1:¬ fn.mode=1:=hm1;have a2:¬ fn.mode=2:=hm2;have a3:¬ fn.mode=3:=hm3;omega⟩
   rw[hk]
   exact h
 ·cases h
noncomputable def bindO{α β:Type}(o:Option α)(k:α→Option β):Option β:=@Option.rec α (fun _=>Option β) none k o
theorem bindO_eq{α β:Type}(o:Option α)(k:α→Option β):bindO o k=match o with|some a=>k a|none=>none:=by cases o<;>rfl
noncomputable def evalK(t:FEnv)(x:Opd):Option AVal:=@Opd.rec (fun _=>Option AVal) (fun n=>t.get n) (fun v=>some v) (fun n=>some (.p n 0)) (fun n=>some (.fn (.func n) [] [])) x
theorem evalK_eq(t:FEnv)(x:Opd):evalK t x=x.evalG t.get:=by cases x<;>rfl
noncomputable def evalsK(t:FEnv)(l:List Opd):Option (List AVal):=@List.rec Opd (fun _=>Option (List AVal)) (some []) (fun x _ ih=>bindO (evalK t x) fun v=>bindO ih fun vs=>some (v::vs)) l
theorem evalsK_eq(t:FEnv)(l:List Opd):evalsK t l=evalsG t.get l:=by
  induction l with
  | nil=>rfl
  | cons x l ih =>
    show(bindO (evalK t x) fun v=>bindO (evalsK t l) fun vs=>some (v::vs))=_
    rw[ih,evalK_eq]
    simp only[bindO_eq,evalsG]
    rcases x.evalG t.get with _|v
    · rfl
    · rcases evalsG t.get l with _|vs<;>rfl
noncomputable def wantedK(t:FEnv)(g:Option (Nat×Bool)):Option Bool:=@Option.rec (Nat×Bool) (fun _=>Option Bool) (some true) (fun x=>bindO (t.get x.1) fun v=>match v with|.b b=>some (b==x.2)|_=>some false) g
theorem wantedK_eq(t:FEnv)(g:Option (Nat×Bool)):wantedK t g=wantedF t g:=by
  cases g with
  | none=>rfl
  | some x =>
    obtain⟨n,w⟩:=x
    show(bindO (t.get n) fun v=>match v with|.b b=>some (b==w)|_=>some false)=_
    simp only[wantedF,bindO_eq]
    rcases t.get n with _|v
    · rfl
    · cases v<;>rfl
noncomputable def putK(t:FEnv)(d:Option Nat)(v:AVal):FEnv:=@Option.rec Nat (fun _=>FEnv) t (fun n=>Trie.put (some v) (Nat.succ n) t n) d
theorem putK_eq(t:FEnv)(d:Option Nat)(v:AVal):putK t d v=putF t d v:=by cases d<;>rfl
noncomputable def callOpK(call:FuncId→List AVal→AHeap→Option (AVal×AHeap))(t:FEnv)(H:AHeap)(f:FuncId)(args:List Opd):Option (Option AVal×AHeap):=bindO (evalsK t args) fun vs=>bindO (call f vs H) fun r=>some (some r.1,r.2)
noncomputable def callvOpK(call:FuncId→List AVal→AHeap→Option (AVal×AHeap))(t:FEnv)(H:AHeap)(x:Opd)(args:List Opd):Option (Option AVal×AHeap):=bindO (evalK t x) fun v=>match v with
 | .fn (.func f) fst cap=>bindO (evalsK t args) fun vs=>bindO (call f (fst++vs++cap) H) fun r=>some (some r.1,r.2)
 | _=>none
noncomputable def tblGetK(l:List (Nat×FuncId))(k:Nat):Option FuncId:=@List.rec (Nat×FuncId) (fun _=>Option FuncId) none (fun p _ ih=>@Bool.rec (fun _=>Option FuncId) ih (some p.2) (Nat.beq p.1 k)) l
theorem tblGetK_eq(l:List (Nat×FuncId))(k:Nat):tblGetK l k=tblGet l k:=by
  induction l with
  | nil=>rfl
  | cons p l ih =>
    obtain⟨a,f⟩:=p
    show @Bool.rec (fun _=>Option FuncId) (tblGetK l k) (some f) (Nat.beq a k)=_
    simp only[tblGet,ih]
    by_cases h:a=k
    · subst h;rw[if_pos rfl,show Nat.beq a a=true from Nat.beq_refl a]
    · rw[if_neg h]
      cases hb:Nat.beq a k with
      | false=>rfl
      | true=>exact absurd (Nat.eq_of_beq_eq_true hb) h
noncomputable def invOpK(call:FuncId→List AVal→AHeap→Option (AVal×AHeap))(t:FEnv)(H:AHeap)(x:Opd)(tbl:List (Nat×FuncId))(args:List Opd):Option (Option AVal×AHeap):=bindO (evalK t x) fun v=>match v with
 | .ifc ty v=>bindO (tblGetK tbl ty) fun f=>bindO (evalsK t args) fun vs=>bindO (call f (v::vs) H) fun r=>some (some r.1,r.2)
 | _=>none
noncomputable def D_appz(lo:Nat)(esz:Nat)(bytes:Nat)(z:List AVal)(x:Opd)(y:Opd)(t:FEnv)(H:AHeap):Option (Option AVal×AHeap) :=
 match evalK t x,evalK t y with
  | some a,some (.i _ k)=>(appzV lo H esz bytes z a k).map fun(v,H')=>(some v,H')
  | _,_=>none
theorem D_appz_eq'(lo:Nat)(esz:Nat)(bytes:Nat)(z:List AVal)(x:Opd)(y:Opd)(t:FEnv)(H:AHeap):D_appz lo esz bytes z x y t H=aopG lo (.appz esz bytes z x y) t.get H:=by
 simp only[D_appz,aopG,evalK_eq]
noncomputable def movK(t:FEnv)(H:AHeap)(x:Opd):Option (Option AVal×AHeap):=bindO (evalK t x) fun v=>some (some v,H)
noncomputable def extK(t:FEnv)(H:AHeap)(x:Opd)(k:Nat):Option (Option AVal×AHeap):=bindO (evalK t x) fun v=>bindO (extV k v) fun u=>some (some u,H)
noncomputable def loadK(t:FEnv)(H:AHeap)(n:Option Nat)(x:Opd):Option (Option AVal×AHeap):=bindO (evalK t x) fun v=>bindO (loadV H n v) fun u=>some (some u,H)
noncomputable def binK(t:FEnv)(H:AHeap)(op:BinOp)(x y:Opd):Option (Option AVal×AHeap):=bindO (evalK t x) fun v=>bindO (evalK t y) fun u=>bindO (binV op v u) fun u=>some (some u,H)
noncomputable def pureK(H:AHeap)(v:Option AVal):Option (Option AVal×AHeap):=v.map fun v=>(some v,H)
noncomputable def D_pick(lo:Nat)(c:Opd)(a:Opd)(b:Opd)(t:FEnv)(H:AHeap):Option (Option AVal×AHeap) :=
 match evalK t c with
  | some (.b true)=>pureK H (evalK t a)
  | some (.b false)=>pureK H (evalK t b)
  | _=>none
theorem D_pick_eq(lo:Nat)(c:Opd)(a:Opd)(b:Opd)(t:FEnv)(H:AHeap):D_pick lo c a b t H=aopG lo (.pick c a b) t.get H:=by
 simp only[D_pick,aopG,evalK_eq,evalsK_eq,pureK]
noncomputable def D_eqB(lo:Nat)(neg:Bool)(x:Opd)(y:Opd)(t:FEnv)(H:AHeap):Option (Option AVal×AHeap) :=
 match evalK t x,evalK t y with
  | some (.b a),some (.b b)=>pureK H (some (.b (if neg then !(a==b) else a==b)))
  | _,_=>none
theorem D_eqB_eq(lo:Nat)(neg:Bool)(x:Opd)(y:Opd)(t:FEnv)(H:AHeap):D_eqB lo neg x y t H=aopG lo (.eqB neg x y) t.get H:=by
 simp only[D_eqB,aopG,evalK_eq,evalsK_eq,pureK]
noncomputable def D_eqNil(lo:Nat)(k:Nat)(neg:Bool)(x:Opd)(y:Opd)(t:FEnv)(H:AHeap):Option (Option AVal×AHeap) :=
 match evalK t x,evalK t y with
  | some a,some b=>pureK H ((eqNilV k a b).map fun r=>.b (if neg then !r else r))
  | _,_=>none
theorem D_eqNil_eq(lo:Nat)(k:Nat)(neg:Bool)(x:Opd)(y:Opd)(t:FEnv)(H:AHeap):D_eqNil lo k neg x y t H=aopG lo (.eqNil k neg x y) t.get H:=by
 simp only[D_eqNil,aopG,evalK_eq,evalsK_eq,pureK]
noncomputable def D_eqAg(lo:Nat)(ks:List Nat)(neg:Bool)(x:Opd)(y:Opd)(t:FEnv)(H:AHeap):Option (Option AVal×AHeap) :=
 match evalK t x,evalK t y with
  | some (.ag a),some (.ag b)=>pureK H ((eqCells ks a b).map fun r=>.b (if neg then !r else r))
  | _,_=>none
theorem D_eqAg_eq(lo:Nat)(ks:List Nat)(neg:Bool)(x:Opd)(y:Opd)(t:FEnv)(H:AHeap):D_eqAg lo ks neg x y t H=aopG lo (.eqAg ks neg x y) t.get H:=by
 simp only[D_eqAg,aopG,evalK_eq,evalsK_eq,pureK]
noncomputable def D_un(lo:Nat)(op:UnOp)(x:Opd)(t:FEnv)(H:AHeap):Option (Option AVal×AHeap) :=
 pureK H ((evalK t x).bind (unV op))
theorem D_un_eq(lo:Nat)(op:UnOp)(x:Opd)(t:FEnv)(H:AHeap):D_un lo op x t H=aopG lo (.un op x) t.get H:=by
 simp only[D_un,aopG,evalK_eq,evalsK_eq,pureK]
noncomputable def D_conv(lo:Nat)(k:IntKind)(x:Opd)(t:FEnv)(H:AHeap):Option (Option AVal×AHeap) :=
 match evalK t x with
  | some (.i _ n)=>pureK H (some (.i k (wrapI k n)))
  | _=>none
theorem D_conv_eq(lo:Nat)(k:IntKind)(x:Opd)(t:FEnv)(H:AHeap):D_conv lo k x t H=aopG lo (.conv k x) t.get H:=by
 simp only[D_conv,aopG,evalK_eq,evalsK_eq,pureK]
noncomputable def D_same(lo:Nat)(x:Opd)(t:FEnv)(H:AHeap):Option (Option AVal×AHeap) :=
 match evalK t x with
  | some (.s v)=>pureK H (some (.s v))
  | _=>none
theorem D_same_eq(lo:Nat)(x:Opd)(t:FEnv)(H:AHeap):D_same lo x t H=aopG lo (.same x) t.get H:=by
 simp only[D_same,aopG,evalK_eq,evalsK_eq,pureK]
noncomputable def D_alloc(lo:Nat)(z:List AVal)(t:FEnv)(H:AHeap):Option (Option AVal×AHeap) :=
 some (some (.p H.next 0),H.push (.cells z 1 false))
theorem D_alloc_eq(lo:Nat)(z:List AVal)(t:FEnv)(H:AHeap):D_alloc lo z t H=aopG lo (.alloc z) t.get H:=by
 simp only[D_alloc,aopG,evalK_eq,evalsK_eq,pureK]
noncomputable def D_box(lo:Nat)(x:Opd)(t:FEnv)(H:AHeap):Option (Option AVal×AHeap) :=
 match evalK t x with
  | some v=>if v.tup=false then some (some (.p H.next 0),H.push (.cells v.cells 1 false)) else none
  | none=>none
theorem D_box_eq(lo:Nat)(x:Opd)(t:FEnv)(H:AHeap):D_box lo x t H=aopG lo (.box x) t.get H:=by
 simp only[D_box,aopG,evalK_eq,evalsK_eq,pureK]
noncomputable def D_build(lo:Nat)(z:List AVal)(parts:List (Nat×Nat×Opd))(t:FEnv)(H:AHeap):Option (Option AVal×AHeap) :=
 match evalPartsG t.get parts with
  | some ps=>pureK H ((fillA z ps).map .ag)
  | none=>none
theorem D_build_eq(lo:Nat)(z:List AVal)(parts:List (Nat×Nat×Opd))(t:FEnv)(H:AHeap):D_build lo z parts t H=aopG lo (.build z parts) t.get H:=by
 simp only[D_build,aopG,evalK_eq,evalsK_eq,pureK]
noncomputable def D_bsl(lo:Nat)(esz:Nat)(len:Nat)(z:List AVal)(parts:List (Nat×Nat×Opd))(t:FEnv)(H:AHeap):Option (Option AVal×AHeap) :=
  match evalPartsG t.get parts with
    | some ps=>match fillA z ps with
      | some cs=>some (some (.sl H.next 0 len (some len)),H.push (.cells cs esz false))
      | none=>none
    | none=>none
theorem D_bsl_eq(lo:Nat)(esz:Nat)(len:Nat)(z:List AVal)(parts:List (Nat×Nat×Opd))(t:FEnv)(H:AHeap):D_bsl lo esz len z parts t H=aopG lo (.bsl esz len z parts) t.get H:=by
 simp only[D_bsl,aopG,evalK_eq,evalsK_eq,pureK]
noncomputable def D_store(lo:Nat)(n:Nat)(x:Opd)(v:Opd)(t:FEnv)(H:AHeap):Option (Option AVal×AHeap) :=
 match evalK t x,evalK t v with
  | some a,some v=>(storeV lo H n a v).map fun H'=>(none,H')
  | _,_=>none
theorem D_store_eq(lo:Nat)(n:Nat)(x:Opd)(v:Opd)(t:FEnv)(H:AHeap):D_store lo n x v t H=aopG lo (.store n x v) t.get H:=by
 simp only[D_store,aopG,evalK_eq,evalsK_eq,pureK]
noncomputable def D_nck(lo:Nat)(x:Opd)(t:FEnv)(H:AHeap):Option (Option AVal×AHeap) :=
 match evalK t x with
  | some (.p id off)=>pureK H (some (.p id off))
  | some (.fn (.func f) a c)=>pureK H (some (.fn (.func f) a c))
  | some (.ifc t v)=>pureK H (some (.ifc t v))
  | some (.fp l)=>pureK H (some (.fp l))
  | _=>none
theorem D_nck_eq(lo:Nat)(x:Opd)(t:FEnv)(H:AHeap):D_nck lo x t H=aopG lo (.nck x) t.get H:=by
 simp only[D_nck,aopG,evalK_eq,evalsK_eq,pureK]
noncomputable def D_off(lo:Nat)(x:Opd)(k:Nat)(t:FEnv)(H:AHeap):Option (Option AVal×AHeap) :=
 pureK H ((evalK t x).bind (offV k))
theorem D_off_eq(lo:Nat)(x:Opd)(k:Nat)(t:FEnv)(H:AHeap):D_off lo x k t H=aopG lo (.off x k) t.get H:=by
 simp only[D_off,aopG,evalK_eq,evalsK_eq,pureK]
noncomputable def D_part(lo:Nat)(n:Option Nat)(x:Opd)(off:Nat)(t:FEnv)(H:AHeap):Option (Option AVal×AHeap) :=
 pureK H ((evalK t x).bind (partV n off))
theorem D_part_eq(lo:Nat)(n:Option Nat)(x:Opd)(off:Nat)(t:FEnv)(H:AHeap):D_part lo n x off t H=aopG lo (.part n x off) t.get H:=by
 simp only[D_part,aopG,evalK_eq,evalsK_eq,pureK]
noncomputable def D_iaddr(lo:Nat)(esz:Nat)(x:Opd)(i:Opd)(t:FEnv)(H:AHeap):Option (Option AVal×AHeap) :=
 match evalK t x,evalK t i with
  | some a,some b=>pureK H (iaddrV esz a b)
  | _,_=>none
theorem D_iaddr_eq(lo:Nat)(esz:Nat)(x:Opd)(i:Opd)(t:FEnv)(H:AHeap):D_iaddr lo esz x i t H=aopG lo (.iaddr esz x i) t.get H:=by
 simp only[D_iaddr,aopG,evalK_eq,evalsK_eq,pureK]
noncomputable def D_iaddrA(lo:Nat)(esz:Nat)(len:Nat)(x:Opd)(i:Opd)(t:FEnv)(H:AHeap):Option (Option AVal×AHeap) :=
 match evalK t x,evalK t i with
  | some a,some b=>pureK H (iaddrAV esz len a b)
  | _,_=>none
theorem D_iaddrA_eq(lo:Nat)(esz:Nat)(len:Nat)(x:Opd)(i:Opd)(t:FEnv)(H:AHeap):D_iaddrA lo esz len x i t H=aopG lo (.iaddrA esz len x i) t.get H:=by
 simp only[D_iaddrA,aopG,evalK_eq,evalsK_eq,pureK]
noncomputable def D_idxS(lo:Nat)(x:Opd)(i:Opd)(t:FEnv)(H:AHeap):Option (Option AVal×AHeap) :=
 match evalK t x,evalK t i with
  | some a,some b=>pureK H (idxSV a b)
  | _,_=>none
theorem D_idxS_eq(lo:Nat)(x:Opd)(i:Opd)(t:FEnv)(H:AHeap):D_idxS lo x i t H=aopG lo (.idxS x i) t.get H:=by
 simp only[D_idxS,aopG,evalK_eq,evalsK_eq,pureK]
noncomputable def D_idxA(lo:Nat)(n:Option Nat)(esz:Nat)(len:Nat)(x:Opd)(i:Opd)(t:FEnv)(H:AHeap):Option (Option AVal×AHeap) :=
 match evalK t x,evalK t i with
  | some a,some b=>pureK H (idxAV n esz len a b)
  | _,_=>none
theorem D_idxA_eq(lo:Nat)(n:Option Nat)(esz:Nat)(len:Nat)(x:Opd)(i:Opd)(t:FEnv)(H:AHeap):D_idxA lo n esz len x i t H=aopG lo (.idxA n esz len x i) t.get H:=by
 simp only[D_idxA,aopG,evalK_eq,evalsK_eq,pureK]
noncomputable def D_mkf(lo:Nat)(f:FuncId)(fst:List Opd)(cap:List Opd)(t:FEnv)(H:AHeap):Option (Option AVal×AHeap) :=
 match evalsK t fst,evalsK t cap with
  | some a,some c=>pureK H (some (.fn (.func f) a c))
  | _,_=>none
theorem D_mkf_eq(lo:Nat)(f:FuncId)(fst:List Opd)(cap:List Opd)(t:FEnv)(H:AHeap):D_mkf lo f fst cap t H=aopG lo (.mkf f fst cap) t.get H:=by
 simp only[D_mkf,aopG,evalK_eq,evalsK_eq,pureK]
noncomputable def D_mksl(lo:Nat)(esz:Nat)(bytes:Nat)(z:List AVal)(l:Opd)(c:Opd)(t:FEnv)(H:AHeap):Option (Option AVal×AHeap) :=
  match evalK t l,evalK t c with
    | some (.i _ n),some (.i _ m) =>
      if 0≤n∧n≤m∧bytes*m≤281474976710656∧0<bytes then some (some (.sl H.next 0 n.toNat (some m.toNat)),H.push (.cells (repCells z m.toNat) esz false)) else none
    | _,_=>none
theorem D_mksl_eq(lo:Nat)(esz:Nat)(bytes:Nat)(z:List AVal)(l:Opd)(c:Opd)(t:FEnv)(H:AHeap):D_mksl lo esz bytes z l c t H=aopG lo (.mksl esz bytes z l c) t.get H:=by
 simp only[D_mksl,aopG,evalK_eq,evalsK_eq,pureK]
noncomputable def D_slS(lo:Nat)(x:Opd)(l0:Option Opd)(hi:Option Opd)(t:FEnv)(H:AHeap):Option (Option AVal×AHeap) :=
 match evalK t x,optIG t.get l0,optIG t.get hi with
  | some (.s v),some l,some h=>pureK H (slSV v l h)
  | _,_,_=>none
theorem D_slS_eq(lo:Nat)(x:Opd)(l0:Option Opd)(hi:Option Opd)(t:FEnv)(H:AHeap):D_slS lo x l0 hi t H=aopG lo (.slS x l0 hi) t.get H:=by
 simp only[D_slS,aopG,evalK_eq,evalsK_eq,pureK]
noncomputable def D_sl(lo:Nat)(esz:Nat)(x:Opd)(l0:Option Opd)(hi:Option Opd)(mx:Option Opd)(t:FEnv)(H:AHeap):Option (Option AVal×AHeap) :=
 match evalK t x,optIG t.get l0,optIG t.get hi,optIG t.get mx with
  | some v,some l,some h,some m=>(slV esz H v l h m).map fun(v,H')=>(some v,H')
  | _,_,_,_=>none
theorem D_sl_eq(lo:Nat)(esz:Nat)(x:Opd)(l0:Option Opd)(hi:Option Opd)(mx:Option Opd)(t:FEnv)(H:AHeap):D_sl lo esz x l0 hi mx t H=aopG lo (.sl esz x l0 hi mx) t.get H:=by
 simp only[D_sl,aopG,evalK_eq,evalsK_eq,pureK]
noncomputable def D_slq(lo:Nat)(esz:Nat)(x:Opd)(l0:Option Opd)(hi:Option Opd)(mx:Option Opd)(t:FEnv)(H:AHeap):Option (Option AVal×AHeap) :=
  match evalK t x,optIG t.get l0,optIG t.get hi,optIG t.get mx with
    | some v,some l,some h,some m=>match slV esz H v l h m with
      | some (v',H')=>if H'.next=H.next∧(isFs v=true→m.isSome∨l.getD 0=0∨isFs0 v'=false) then some (some v',H) else if dynS v l h m=true then some (some v',H') else none
      | none=>none
    | _,_,_,_=>none
theorem D_slq_eq(lo:Nat)(esz:Nat)(x:Opd)(l0:Option Opd)(hi:Option Opd)(mx:Option Opd)(t:FEnv)(H:AHeap):D_slq lo esz x l0 hi mx t H=aopG lo (.slq esz x l0 hi mx) t.get H:=by
 simp only[D_slq,aopG,evalK_eq,evalsK_eq,pureK]
noncomputable def D_lenk(lo:Nat)(k:Nat)(x:Opd)(t:FEnv)(H:AHeap):Option (Option AVal×AHeap) :=
 pureK H (((evalK t x).bind (lenV H k)).map fun(m:Nat)=>AVal.i .i64 (m:Int))
theorem D_lenk_eq(lo:Nat)(k:Nat)(x:Opd)(t:FEnv)(H:AHeap):D_lenk lo k x t H=aopG lo (.lenk k x) t.get H:=by
 simp only[D_lenk,aopG,evalK_eq,evalsK_eq,pureK]
noncomputable def D_app(lo:Nat)(esz:Nat)(bytes:Nat)(x:Opd)(y:Opd)(t:FEnv)(H:AHeap):Option (Option AVal×AHeap) :=
 match evalK t x,evalK t y with
  | some a,some b=>(appV lo H esz bytes a b).map fun(v,H')=>(some v,H')
  | _,_=>none
theorem D_app_eq(lo:Nat)(esz:Nat)(bytes:Nat)(x:Opd)(y:Opd)(t:FEnv)(H:AHeap):D_app lo esz bytes x y t H=aopG lo (.app esz bytes x y) t.get H:=by
 simp only[D_app,aopG,evalK_eq,evalsK_eq,pureK]
noncomputable def D_mm(lo:Nat)(mx:Bool)(x:Opd)(l:List Opd)(t:FEnv)(H:AHeap):Option (Option AVal×AHeap) :=
 match evalK t x,evalsK t l with
  | some a,some l=>pureK H (mmV mx a l)
  | _,_=>none
theorem D_mm_eq(lo:Nat)(mx:Bool)(x:Opd)(l:List Opd)(t:FEnv)(H:AHeap):D_mm lo mx x l t H=aopG lo (.mm mx x l) t.get H:=by
 simp only[D_mm,aopG,evalK_eq,evalsK_eq,pureK]
noncomputable def D_iface(lo:Nat)(ty:TypeId)(x:Opd)(t:FEnv)(H:AHeap):Option (Option AVal×AHeap) :=
 pureK H ((evalK t x).map (.ifc ty))
theorem D_iface_eq(lo:Nat)(ty:TypeId)(x:Opd)(t:FEnv)(H:AHeap):D_iface lo ty x t H=aopG lo (.iface ty x) t.get H:=by
 simp only[D_iface,aopG,evalK_eq,evalsK_eq,pureK]
noncomputable def D_s2b(lo:Nat)(x:Opd)(t:FEnv)(H:AHeap):Option (Option AVal×AHeap) :=
 match evalK t x with
  | some (.s v)=>some (some (.sl H.next 0 v.length none),H.push (.cells (v.map fun b=>.i .u8 b.toNat) 1 false))
  | _=>none
theorem D_s2b_eq(lo:Nat)(x:Opd)(t:FEnv)(H:AHeap):D_s2b lo x t H=aopG lo (.s2b x) t.get H:=by
 simp only[D_s2b,aopG,evalK_eq,evalsK_eq,pureK]
noncomputable def D_mkmap(lo:Nat) (t:FEnv)(H:AHeap):Option (Option AVal×AHeap) :=
 some (some (.m H.next),H.push (.map []))
theorem D_mkmap_eq(lo:Nat) (t:FEnv)(H:AHeap):D_mkmap lo  t H=aopG lo (.mkmap ) t.get H:=by
 simp only[D_mkmap,aopG,evalK_eq,evalsK_eq,pureK]
noncomputable def D_mapup(lo:Nat)(ag:Bool)(ks:List Nat)(x:Opd)(k:Opd)(v:Opd)(t:FEnv)(H:AHeap):Option (Option AVal×AHeap) :=
 match evalK t x,evalK t k,evalK t v with
  | some m,some k,some v=>(mapupV lo H ag ks k v m).map fun H'=>(none,H')
  | _,_,_=>none
theorem D_mapup_eq(lo:Nat)(ag:Bool)(ks:List Nat)(x:Opd)(k:Opd)(v:Opd)(t:FEnv)(H:AHeap):D_mapup lo ag ks x k v t H=aopG lo (.mapup ag ks x k v) t.get H:=by
 simp only[D_mapup,aopG,evalK_eq,evalsK_eq,pureK]
noncomputable def D_look(lo:Nat)(ag:Bool)(ks:List Nat)(z:AVal)(okf:Bool)(x:Opd)(k:Opd)(t:FEnv)(H:AHeap):Option (Option AVal×AHeap) :=
 match evalK t x,evalK t k with
  | some m,some k=>pureK H (lookV H ag ks z okf m k)
  | _,_=>none
theorem D_look_eq(lo:Nat)(ag:Bool)(ks:List Nat)(z:AVal)(okf:Bool)(x:Opd)(k:Opd)(t:FEnv)(H:AHeap):D_look lo ag ks z okf x k t H=aopG lo (.look ag ks z okf x k) t.get H:=by
 simp only[D_look,aopG,evalK_eq,evalsK_eq,pureK]
noncomputable def D_cpy(lo:Nat)(esz:Nat)(x:Opd)(y:Opd)(t:FEnv)(H:AHeap):Option (Option AVal×AHeap) :=
 match evalK t x,evalK t y with
  | some a,some b=>(cpyV lo H esz a b).map fun(v,H')=>(some v,H')
  | _,_=>none
theorem D_cpy_eq(lo:Nat)(esz:Nat)(x:Opd)(y:Opd)(t:FEnv)(H:AHeap):D_cpy lo esz x y t H=aopG lo (.cpy esz x y) t.get H:=by
 simp only[D_cpy,aopG,evalK_eq,evalsK_eq,pureK]
noncomputable def opK(call:FuncId→List AVal→AHeap→Option (AVal×AHeap))(lo:Nat)(o:IOp)(t:FEnv)(H:AHeap):Option (Option AVal×AHeap) :=
 @IOp.rec (fun _=>(FuncId→List AVal→AHeap→Option (AVal×AHeap))→Nat→FEnv→AHeap→Option (Option AVal×AHeap))
  (fun x _ _ t H=>movK t H x)
  (fun c a b _ lo t H=>D_pick lo c a b t H)
  (fun op x y _ _ t H=>binK t H op x y)
  (fun neg x y _ lo t H=>D_eqB lo neg x y t H)
  (fun k neg x y _ lo t H=>D_eqNil lo k neg x y t H)
  (fun ks neg x y _ lo t H=>D_eqAg lo ks neg x y t H)
  (fun op x _ lo t H=>D_un lo op x t H)
  (fun k x _ lo t H=>D_conv lo k x t H)
  (fun x _ lo t H=>D_same lo x t H)
  (fun z _ lo t H=>D_alloc lo z t H)
  (fun x _ lo t H=>D_box lo x t H)
  (fun z parts _ lo t H=>D_build lo z parts t H)
  (fun esz len z parts _ lo t H=>D_bsl lo esz len z parts t H)
  (fun n x _ _ t H=>loadK t H n x)
  (fun n x v _ lo t H=>D_store lo n x v t H)
  (fun x _ lo t H=>D_nck lo x t H)
  (fun x k _ lo t H=>D_off lo x k t H)
  (fun n x off _ lo t H=>D_part lo n x off t H)
  (fun esz x i _ lo t H=>D_iaddr lo esz x i t H)
  (fun esz len x i _ lo t H=>D_iaddrA lo esz len x i t H)
  (fun x i _ lo t H=>D_idxS lo x i t H)
  (fun n esz len x i _ lo t H=>D_idxA lo n esz len x i t H)
  (fun x k _ _ t H=>extK t H x k)
  (fun f fst cap _ lo t H=>D_mkf lo f fst cap t H)
  (fun esz bytes z l c _ lo t H=>D_mksl lo esz bytes z l c t H)
  (fun x l0 hi _ lo t H=>D_slS lo x l0 hi t H)
  (fun esz x l0 hi mx _ lo t H=>D_sl lo esz x l0 hi mx t H)
  (fun esz x l0 hi mx _ lo t H=>D_slq lo esz x l0 hi mx t H)
  (fun k x _ lo t H=>D_lenk lo k x t H)
  (fun esz bytes x y _ lo t H=>D_app lo esz bytes x y t H)
  (fun mx x l _ lo t H=>D_mm lo mx x l t H)
  (fun ty x _ lo t H=>D_iface lo ty x t H)
  (fun x _ lo t H=>D_s2b lo x t H)
  (fun _ _ _ _=>none)
  (fun _ lo t H=>D_mkmap lo t H)
  (fun ag ks x k v _ lo t H=>D_mapup lo ag ks x k v t H)
  (fun ag ks z ok x k _ lo t H=>D_look lo ag ks z ok x k t H)
  (fun esz x y _ lo t H=>D_cpy lo esz x y t H)
  (fun f args call _ t H=>callOpK call t H f args)
  (fun x args call _ t H=>callvOpK call t H x args)
  (fun esz bytes z x y _ lo t H=>D_appz lo esz bytes z x y t H)
  (fun x tbl args call _ t H=>invOpK call t H x tbl args) o call lo t H
theorem opK_eq(call:CallI)(lo:Nat)(o:IOp)(t:FEnv)(H:AHeap):opK call.call lo o t H=opF call lo o t H:=by
 cases o<;>simp only[opK,opF,D_pick_eq,D_eqB_eq,D_eqNil_eq,D_eqAg_eq,D_un_eq,D_conv_eq,D_same_eq,D_alloc_eq,D_box_eq,D_build_eq,D_bsl_eq,D_store_eq,D_nck_eq,D_off_eq,D_part_eq,D_iaddr_eq,D_iaddrA_eq,D_idxS_eq,D_idxA_eq,D_mkf_eq,D_mksl_eq,D_slS_eq,D_sl_eq,D_slq_eq,D_lenk_eq,D_app_eq,D_mm_eq,D_iface_eq,D_s2b_eq,D_mkmap_eq,D_mapup_eq,D_look_eq,D_cpy_eq,D_appz_eq']
 case bad=>rfl
 case call f args =>
  simp only[callOpK,bindO_eq,evalsK_eq]
  rcases evalsG t.get args with _|vs
  ·rfl
  ·simp only;rcases call f vs H with _|⟨v,H'⟩<;>rfl
 case callv x args =>
  simp only[callvOpK,bindO_eq,evalsK_eq,evalK_eq]
  rcases x.evalG t.get with _|v
  ·rfl
  ·cases v<;>try rfl
   case fn f a c =>
    cases f<;>try rfl
    case func f =>
     simp only
     rcases evalsG t.get args with _|vs
     ·rfl
     ·simp only;rcases call f (a++vs++c) H with _|⟨v,H'⟩<;>rfl
 case inv x tbl args =>
  simp only[invOpK,bindO_eq,evalsK_eq,evalK_eq,tblGetK_eq]
  rcases x.evalG t.get with _|v
  ·rfl
  ·cases v<;>try rfl
   case ifc ty v =>
    simp only
    rcases tblGet tbl ty with _|f
    ·rfl
    ·rcases evalsG t.get args with _|vs
     ·rfl
     ·simp only;rcases call f (v::vs) H with _|⟨v,H'⟩<;>rfl
 case mov x =>
  simp only[movK,bindO_eq,evalK_eq,aopG]
  rcases x.evalG t.get with _|v<;>rfl
 case ext x k =>
  simp only[extK,bindO_eq,evalK_eq,aopG]
  rcases x.evalG t.get with _|v
  ·rfl
  ·simp only[Option.bind_some];rcases extV k v with _|u<;>rfl
 case load n x =>
  simp only[loadK,bindO_eq,evalK_eq,aopG]
  rcases x.evalG t.get with _|v
  ·rfl
  ·simp only[Option.bind_some];rcases loadV H n v with _|u<;>rfl
 case bin op x y =>
  simp only[binK,bindO_eq,evalK_eq,aopG]
  rcases x.evalG t.get with _|v
  ·rfl
  ·rcases y.evalG t.get with _|u
   ·rfl
   ·simp only;rcases binV op v u with _|u<;>rfl
noncomputable def itemK(call:FuncId→List AVal→AHeap→Option (AVal×AHeap))(lo:Nat)(x:Item)(t:FEnv)(H:AHeap):Option (FEnv×AHeap) :=
 bindO (wantedK t x.guard) fun b=>@Bool.rec (fun _=>Option (FEnv×AHeap)) (some (putK t x.dst (.tu []),H))
  (bindO (opK call lo x.op t H) fun r=>some (putK t x.dst (@Option.rec AVal (fun _=>AVal) (.tu []) (fun v=>v) r.1),r.2)) b
theorem itemK_eq(call:CallI)(lo:Nat)(x:Item)(t:FEnv)(H:AHeap):itemK call.call lo x t H=itemF call lo x t H:=by
 simp only[itemK,itemF,bindO_eq,wantedK_eq,opK_eq,putK_eq]
 rcases wantedF t x.guard with _|b
 ·rfl
 ·cases b
  ·rfl
  ·simp only
   rcases opF call lo x.op t H with _|⟨v,H'⟩
   ·rfl
   ·cases v<;>rfl
noncomputable def reK(pu:FuncId→Bool)(o:IOp)(lo:Nat)(d:Option Nat)(t0:FEnv)(H0:AHeap)(t:FEnv)(H:AHeap)(l:List (Nat×IOp×Option (Nat×Bool))):Bool:=@List.rec (Nat×IOp×Option (Nat×Bool)) (fun _=>Bool) true (fun _ _ _=>match o with|.call f _=>@Bool.rec (fun _=>Bool) (reOkF lo d t0 H0 t H l) true (pu f)|.callv x a=>@Bool.rec (fun _=>Bool) (keepG H (.callv x a) l t0.get t.get||reOkF lo d t0 H0 t H l) true (pureV ⟨fun _ _ _=>none,pu⟩ (x.evalG t0.get))|o=>keepG H o l t0.get t.get||reOkF lo d t0 H0 t H l) l
theorem reK_eq(call:CallI)(o:IOp)(lo:Nat)(d:Option Nat)(t0:FEnv)(H0:AHeap)(t:FEnv)(H:AHeap):∀ l,reK call.pure o lo d t0 H0 t H l=(skipG call t0.get o||(keepG H o l t0.get t.get||reOkF lo d t0 H0 t H l)):=by
  intro l
  cases l with
  | nil=>simp[reK,reOkF]
  | cons x l =>
    cases o<;>simp only[reK,skipG,Bool.false_or]
    case call f args=>cases call.pure f<;>simp[keepG,touchG]
    case callv y args =>
      have:pureV ⟨fun _ _ _=>none,call.pure⟩ (y.evalG t0.get)=pureV call (y.evalG t0.get):=rfl
      rw[this]
      cases pureV call (y.evalG t0.get)<;>rfl
noncomputable def itemsK(pu:FuncId→Bool)(call:FuncId→List AVal→AHeap→Option (AVal×AHeap))(lo:Nat)(xs:List Item):FEnv→AHeap→Option (FEnv×AHeap) :=
 @List.rec Item (fun _=>FEnv→AHeap→Option (FEnv×AHeap)) (fun t H=>some (t,H))
  (fun x _ ih t H=>bindO (itemK call lo x t H) fun r=>@Bool.rec (fun _=>Option (FEnv×AHeap)) none (ih r.1 r.2) (reK pu x.op lo x.dst t H r.1 r.2 x.re)) xs
theorem itemsK_eq(call:CallI)(lo:Nat):∀(xs:List Item) (t:FEnv) (H:AHeap),itemsK call.pure call.call lo xs t H=itemsF call lo xs t H:=by
  intro xs
  induction xs with
  | nil=>intro t H;rfl
  | cons x xs ih =>
    intro t H
    show(bindO (itemK call.call lo x t H) fun r=>@Bool.rec (fun _=>Option (FEnv×AHeap)) none (itemsK call.pure call.call lo xs r.1 r.2) (reK call.pure x.op lo x.dst t H r.1 r.2 x.re))=_
    simp only[itemsF,bindO_eq,itemK_eq,reK_eq]
    rcases itemF call lo x t H with _|⟨t',H'⟩
    · rfl
    · simp only[ih]
      cases (skipG call t.get x.op||(keepG H' x.op x.re t.get t'.get||reOkF lo x.dst t H t' H' x.re))<;>rfl
noncomputable def initK(l:List AVal):Nat→FEnv→FEnv:=@List.rec AVal (fun _=>Nat→FEnv→FEnv) (fun _ t=>t) (fun v _ ih k t=>ih (Nat.succ k) (Trie.put (some v) (Nat.succ k) t k)) l
theorem initK_eq:∀(l:List AVal) (k:Nat) (t:FEnv),initK l k t=initF k l t:=by
 intro l
 induction l with
 | nil=>intro k t;rfl
 | cons v l ih=>intro k t;show initK l (k+1) (FEnv.put t k v)=_;rw[ih];rfl
noncomputable def resK(t:FEnv)(H:AHeap)(l:List IRes):Option (List AVal):=@List.rec IRes (fun _=>Option (List AVal)) (some [])
 (fun x _ ih=>@IRes.rec (fun _=>Option (List AVal)) (fun n=>bindO (t.get n) fun v=>bindO ih fun vs=>some (v::vs)) (fun n k=>bindO (t.get n) fun p=>bindO (loadV H k p) fun v=>bindO ih fun vs=>some (v::vs)) x) l
theorem resK_eq(t:FEnv)(H:AHeap):∀ l,resK t H l=resF t H l:=by
  intro l
  induction l with
  | nil=>rfl
  | cons x l ih =>
    cases x with
    | t n =>
      show(bindO (t.get n) fun v=>bindO (resK t H l) fun vs=>some (v::vs))=_
      rw[ih];simp only[bindO_eq,resF]
      rcases t.get n with _|v
      · rfl
      · rcases resF t H l with _|vs<;>rfl
    | c n k =>
      show(bindO (t.get n) fun p=>bindO (loadV H k p) fun v=>bindO (resK t H l) fun vs=>some (v::vs))=_
      rw[ih];simp only[bindO_eq,resF]
      rcases t.get n with _|p
      · rfl
      · simp only
        rcases loadV H k p with _|v
        · rfl
        · rcases resF t H l with _|vs<;>rfl
noncomputable def bodyK(ex:ICode→FEnv→AHeap→Option (AExit×FEnv×AHeap))(fn:IFunc)(args:List AVal)(H:AHeap):Option (AVal×AHeap) :=
 @Bool.rec (fun _=>Option (AVal×AHeap)) none
  (bindO (ex fn.body (initK args 0 .e) H) fun r=>@AExit.rec (fun _=>Option (AVal×AHeap)) (bindO (resK r.2.1 r.2.2 fn.res) fun vs=>some (tupI vs,r.2.2)) (fun _=>none) (bindO (resK r.2.1 r.2.2 fn.res) fun vs=>some (tupI vs,r.2.2)) r.1)
  (Nat.beq args.length fn.np)
theorem bodyK_eq(ex:Nat→ICode→FEnv→AHeap→Option (AExit×FEnv×AHeap))(fn:IFunc)(lo:Nat)(args:List AVal)(H:AHeap):bodyK (ex lo) fn args H=bodyF ex fn lo args H:=by
 unfold bodyK bodyF
 simp only[initK_eq,resK_eq]
 by_cases h:args.length=fn.np
 ·have:Nat.beq args.length fn.np=true:=by rw[h];exact Nat.beq_refl _
  rw[this,if_pos h]
  simp only[bindO_eq]
  rcases ex lo fn.body (initF 0 args .e) H with _|⟨x,t,H'⟩
  ·rfl
  ·cases x with
   | exit id=>rfl
   | normal=>simp only;rcases resF t H' fn.res with _|vs<;>rfl
   | ret=>simp only;rcases resF t H' fn.res with _|vs<;>rfl
 ·have:Nat.beq args.length fn.np=false:=by
   cases hb:Nat.beq args.length fn.np with
   | false=>rfl
   | true=>exact absurd (Nat.eq_of_beq_eq_true hb) h
  rw[this,if_neg h]
noncomputable def seqK(r:Option (AExit×FEnv×AHeap))(k:FEnv→AHeap→Option (AExit×FEnv×AHeap)):Option (AExit×FEnv×AHeap) :=
 bindO r fun r=>@AExit.rec (fun _=>Option (AExit×FEnv×AHeap)) (k r.2.1 r.2.2) (fun id=>some (.exit id,r.2)) (some (.ret,r.2)) r.1
noncomputable def condK(v:Option AVal)(a b:Option (AExit×FEnv×AHeap)):Option (AExit×FEnv×AHeap) :=
 bindO v fun v=>match v with|.b b'=>@Bool.rec (fun _=>Option (AExit×FEnv×AHeap)) b a b'|_=>none
noncomputable def blockK(id:Nat)(r:Option (AExit×FEnv×AHeap)):Option (AExit×FEnv×AHeap) :=
 bindO r fun r=>@AExit.rec (fun _=>Option (AExit×FEnv×AHeap)) (some (.normal,r.2)) (fun i=>@Bool.rec (fun _=>Option (AExit×FEnv×AHeap)) (some (.exit i,r.2)) (some (.normal,r.2)) (Nat.beq i id)) (some (.ret,r.2)) r.1
noncomputable def pureT(T:Trie IFunc)(g:FuncId):Bool:=match T.get g with
  | some fn=>match fn.mode with
    | 0=>false
    | _=>true
  | none=>false
noncomputable def tabK(T:Trie IFunc)(G:AHeap)(ex:Nat→ICode→FEnv→AHeap→Option (AExit×FEnv×AHeap))(lo:Nat)(g:FuncId)(args:List AVal)(H:AHeap):Option (AVal×AHeap):=bindO (T.get g) fun fn =>
 @Nat.rec (fun _=>Option (AVal×AHeap)) (bodyK (ex lo) fn args H) (fun m _=>@Nat.rec (fun _=>Option (AVal×AHeap)) (bodyK (ex H.next) fn args H)
  (fun m _=>@Nat.rec (fun _=>Option (AVal×AHeap)) (bindO (mapO (snapV H 16) args) fun args'=>bindO (bodyK (ex G.next) fn args' G) fun r=>bindO (frzV r.2 G.next 16 r.1) fun v=>some (v,H))
   (fun m _=>@Nat.rec (fun _=>Option (AVal×AHeap)) (bindO (bodyK (ex H.next) fn args H) fun r=>@Bool.rec (fun _=>Option (AVal×AHeap)) none (some (r.1,H)) (below H.next r.1))
    (fun _ _=>cloneB fn.body args H) m) m) m) fn.mode
noncomputable def execK(T:Trie IFunc)(G:AHeap)(f:Nat):Nat→ICode→FEnv→AHeap→Option (AExit×FEnv×AHeap) :=
 @Nat.rec (fun _=>Nat→ICode→FEnv→AHeap→Option (AExit×FEnv×AHeap)) (fun _ _ _ _=>none)
  (fun _ ex lo c t H=>@ICode.rec (fun _=>Option (AExit×FEnv×AHeap)) (some (.normal,t,H))
   (fun items kill=>bindO (itemsK (pureT T) (tabK T G ex lo) lo items t H) fun r=>some (.normal,killF r.1 kill,r.2))
   (fun a b _ _=>seqK (ex lo a t H) (ex lo b))
   (fun x a b _ _=>condK (evalK t x) (ex lo a t H) (ex lo b t H))
   (fun id b _=>blockK id (ex lo b t H))
   (fun b _=>seqK (ex lo b t H) (ex lo (.loop b)))
   (fun id=>some (.exit id,t,H))
   (some (.ret,t,H)) c) f
theorem seqK_eq(r:Option (AExit×FEnv×AHeap))(k:FEnv→AHeap→Option (AExit×FEnv×AHeap)):seqK r k=match r with|some (.normal,t',H')=>k t' H'|r=>r:=by
 rcases r with _|⟨x,t,H⟩
 ·rfl
 ·cases x<;>rfl
theorem blockK_eq(id:Nat)(r:Option (AExit×FEnv×AHeap)):blockK id r=match r with|some (.exit id',t',H')=>if id'=id then some (.normal,t',H') else some (.exit id',t',H')|r=>r:=by
  rcases r with _|⟨x,t,H⟩
  · rfl
  · cases x with
    | normal=>rfl
    | ret=>rfl
    | exit i =>
      show(@Bool.rec (fun _=>Option (AExit×FEnv×AHeap)) (some (.exit i,t,H)) (some (.normal,t,H)) (Nat.beq i id))=_
      by_cases h:i=id
      · have:Nat.beq i id=true:=by rw[h];exact Nat.beq_refl _
        rw[this];simp[h]
      · have:Nat.beq i id=false:=by
          cases hb:Nat.beq i id with
          | false=>rfl
          | true=>exact absurd (Nat.eq_of_beq_eq_true hb) h
        rw[this];simp[h]
theorem tabK_eq(T:Trie IFunc)(G:AHeap)(ex:Nat→ICode→FEnv→AHeap→Option (AExit×FEnv×AHeap))(lo:Nat):tabK T G ex lo=(tabF T G ex lo).call:=by
 funext g args H
 simp only[tabK,tabF,tabFB,bindO_eq]
 rcases T.get g with _|fn
 ·rfl
 ·simp only
  rcases fn.mode with _|m
  ·exact bodyK_eq ex fn lo args H
  ·rcases m with _|m
   ·exact bodyK_eq ex fn H.next args H
   ·rcases m with _|m
    ·simp only
     rcases mapO (snapV H 16) args with _|args'
     ·rfl
     ·simp only
      rw[bodyK_eq ex fn G.next args' G]
      rcases bodyF ex fn G.next args' G with _|⟨v,H1⟩
      ·rfl
      ·simp only
       rcases frzV H1 G.next 16 v with _|v'<;>rfl
    ·rcases m with _|m
     ·simp only
      rw[bodyK_eq ex fn H.next args H]
      rcases bodyF ex fn H.next args H with _|⟨v,H1⟩
      ·rfl
      ·simp only
       cases below H.next v<;>rfl
     ·rfl
theorem execK_eq(T:Trie IFunc)(G:AHeap):∀(f lo:Nat) (c:ICode) (t:FEnv) (H:AHeap),execK T G f lo c t H=execF T G f lo c t H:=by
  intro f
  induction f with
  | zero=>intro lo c t H;cases c<;>rfl
  | succ f ih =>
    have ihf:execK T G f=fun lo c t H=>execF T G f lo c t H:=by funext lo c t H;exact ih lo c t H
    intro lo c t H
    cases c with
    | skip=>simp only[execF];rfl
    | region items kill =>
      · show(bindO (itemsK (pureT T) (tabK T G (execK T G f) lo) lo items t H) fun r=>some (AExit.normal,killF r.1 kill,r.2))=_
        simp only[execF]
        rw[tabK_eq,show pureT T=(tabF T G (execK T G f) lo).pure from rfl,itemsK_eq,bindO_eq,ihf]
        rcases itemsF _ lo items t H with _|⟨t',H'⟩<;>rfl
    | seq a b =>
      show seqK (execK T G f lo a t H) (execK T G f lo b)=_
      rw[seqK_eq,ihf];simp only[execF]
    | cond x a b =>
      show condK (evalK t x) (execK T G f lo a t H) (execK T G f lo b t H)=_
      rw[ihf,evalK_eq]
      simp only[execF,condK,bindO_eq]
      rcases x.evalG t.get with _|v
      · rfl
      · cases v<;>try rfl
        rename_i b;cases b<;>rfl
    | block id b =>
      show blockK id (execK T G f lo b t H)=_
      rw[blockK_eq,ihf];simp only[execF]
    | loop b =>
      show seqK (execK T G f lo b t H) (execK T G f lo (.loop b))=_
      rw[seqK_eq,ihf];simp only[execF]
    | exit id=>simp only[execF];rfl
    | ret=>simp only[execF];rfl
noncomputable def callK(T:Trie IFunc)(G:AHeap)(f:Nat)(lo:Nat):FuncId→List AVal→AHeap→Option (AVal×AHeap):=tabK T G (execK T G f) lo
theorem callK_eq(T:Trie IFunc)(G:AHeap)(f lo:Nat)(g:FuncId)(args:List AVal)(H:AHeap):callK T G f lo g args H=callF T G f lo g args H:=by
 have ihf:execK T G f=fun lo c t H=>execF T G f lo c t H:=by funext lo c t H;exact execK_eq T G f lo c t H
 simp only[callK,callF]
 rw[tabK_eq,ihf]
noncomputable def buildT:List (Nat×IFunc)→Trie IFunc
 | []=>.e
 | (k,fn)::l=>Trie.put (some fn) (k+1) (buildT l) k
theorem buildT_get:∀(l:List (Nat×IFunc)) (f:Nat),(buildT l).get f=tabIP l f:=by
  intro l
  induction l with
  | nil=>intro f;rfl
  | cons x l ih =>
    obtain⟨k,fn⟩:=x
    intro f
    simp only[buildT,tabIP]
    rw[Trie.get_put _ _ _ _ _ (Nat.lt_succ_self k),ih]
    by_cases h:f=k
    · subst h;simp
    · have:¬ k=f:=fun e=>h e.symm
      simp[h,this]
def isTrueP:Option (AVal×AHeap)→Bool
 | some (.b true,_)=>true
 | _=>false
theorem closed_pure{tab:List (Nat×IFunc)}{G:AHeap}{f k:Nat}{fn:IFunc}(hf:tabIP tab f=some fn)(hm:fn.mode=2)(h:isTrueP (callK (buildT tab) G k G.next f [] G)=true)(lo:Nat)(H:AHeap):Brings (tabIP tab) G lo f [] H (.b true) H:=by
 have:∃ H',callK (buildT tab) G k G.next f [] G=some (.b true,H'):=by
  unfold isTrueP at h
  split at h
  ·rename_i H' he;exact⟨H',he⟩
  ·cases h
 obtain⟨H',hH⟩:=this
 rw[callK_eq] at hH
 have hc:=call_F (IP:=tabIP tab) (buildT_get tab) hH
 refine⟨k,?_⟩
 simp only[acall,callI,callB,hf,hm] at hc ⊢
 simp only[mapO] at hc ⊢
 split at hc
 ·rename_i v H1 hb
  split at hc
  ·rename_i v' hfz;cases hc;rfl
  ·cases hc
 ·cases hc
end Go.RI
namespace Go.RI
open Go
abbrev Stab:=Nat→Option (List AVal×Nat)
def look(tmp:Bool)(S T:Stab)(id:Nat):Option (List AVal×Nat):=match S id with
 | some x=>some x
 | none=>if tmp then T id else none
def lv(tmp:Bool):Nat:=if tmp then 1 else 0
mutual
def RV(ρ:Nat→Nat)(N:Nat)(S T:Stab):AVal→Nat→AVal→Prop
  | .p id off,k,u=>k=2∧id<N∧u=.p (ρ id) off
  | .sl id off len cap,k,u=>k=2∧id<N∧u=.sl (ρ id) off len cap
  | .m id,k,u=>k=2∧id<N∧u=.m (ρ id)
  | .fn f a c,k,u=>∃ a' c',u=.fn f a' c'∧RVL ρ N S T a k a'∧RVL ρ N S T c k c'
  | .ag l,k,u=>∃ l',u=.ag l'∧RVL ρ N S T l k l'
  | .tu l,k,u=>∃ l',u=.tu l'∧RVL ρ N S T l k l'
  | .ifc t v,k,u=>∃ v',u=.ifc t v'∧RV ρ N S T v k v'
  | .fs tmp full len l,k,u=>(tmp=true→1≤k) ∧
      ((len=0∧l=[]∧(u=.ns∨(∃ ad,u=.es ad)∨∃ id off cap,u=.sl id off 0 cap∧(full=true→cap=some 0))) ∨
       (0<len∧∃ id off cap c esz,u=.sl id off len cap∧(full=true→cap=some len)∧(∀ m,cap=some m→len≤m)∧look tmp S T id=some (c,esz)∧l.length=len*esz∧off+len*esz≤c.length ∧
         RVL ρ N S T l (lv tmp) ((c.drop off).take (len*esz))))
  | .fp l,k,u=>1≤k∧∃ id off c esz,u=.p id off∧look true S T id=some (c,esz)∧(l=[]∨off+l.length≤c.length)∧RVL ρ N S T l 1 ((c.drop off).take l.length)
  | v,_,u=>u=v
def RVL(ρ:Nat→Nat)(N:Nat)(S T:Stab):List AVal→Nat→List AVal→Prop
 | [],_,l'=>l'=[]
 | v::l,k,l'=>∃ u r,l'=u::r∧RV ρ N S T v k u∧RVL ρ N S T l k r
end
section
variable {ρ:Nat→Nat} {N:Nat} {S T:Stab} {k:Nat}
theorem RVL_len:∀ {l l':List AVal},RVL ρ N S T l k l'→l'.length=l.length:=by
 intro l
 induction l with
 | nil=>intro l' h;simp only[RVL] at h;subst h;rfl
 | cons v l ih=>intro l' h;simp only[RVL] at h;obtain⟨u,r,rfl,_,h2⟩:=h;simp[ih h2]
theorem RVL_get:∀ {l l':List AVal},RVL ρ N S T l k l'→∀ {j:Nat} {v:AVal},l[j]?=some v→∃ u,l'[j]?=some u∧RV ρ N S T v k u:=by
  intro l
  induction l with
  | nil=>intro l' h j v hj;simp at hj
  | cons v l ih =>
    intro l' h j w hj
    simp only[RVL] at h
    obtain⟨u,r,rfl,h1,h2⟩:=h
    cases j with
    | zero=>simp at hj;subst hj;exact⟨u,rfl,h1⟩
    | succ j=>simp at hj;obtain⟨u2,h3,h4⟩:=ih h2 hj;exact⟨u2,by simpa using h3,h4⟩
theorem RVL_of:∀ {l l':List AVal},l'.length=l.length→(∀(j:Nat) (v u:AVal),l[j]?=some v→l'[j]?=some u→RV ρ N S T v k u)→RVL ρ N S T l k l':=by
  intro l
  induction l with
  | nil=>intro l' h _;simp only[RVL];exact List.eq_nil_of_length_eq_zero h
  | cons v l ih =>
    intro l' h hall
    cases l' with
    | nil=>simp at h
    | cons u r =>
      simp only[RVL]
      exact⟨u,r,rfl,hall 0 v u rfl rfl,ih (by simpa using h) fun j v u h1 h2=>hall (j+1) v u (by simpa using h1) (by simpa using h2)⟩
theorem RVL_drop{l l':List AVal}(h:RVL ρ N S T l k l')(n:Nat):RVL ρ N S T (l.drop n) k (l'.drop n):=by
 have hl:=RVL_len h
 refine RVL_of (by simp[hl]) fun j v u h1 h2=>?_
 rw[List.getElem?_drop] at h1 h2
 obtain⟨u',h3,h4⟩:=RVL_get h h1
 rw[h2] at h3;cases h3;exact h4
theorem RVL_take{l l':List AVal}(h:RVL ρ N S T l k l')(n:Nat):RVL ρ N S T (l.take n) k (l'.take n):=by
 have hl:=RVL_len h
 refine RVL_of (by simp[hl]) fun j v u h1 h2=>?_
 rw[List.getElem?_take] at h1 h2
 split at h1
 ·rename_i hj
  rw[if_pos hj] at h2
  obtain⟨u',h3,h4⟩:=RVL_get h h1
  rw[h2] at h3;cases h3;exact h4
 ·cases h1
theorem RVL_append{l l' m m':List AVal}(h:RVL ρ N S T l k l')(g:RVL ρ N S T m k m'):RVL ρ N S T (l++m) k (l'++m'):=by
 have hl:=RVL_len h
 have gl:=RVL_len g
 refine RVL_of (by simp[hl,gl]) fun j v u h1 h2=>?_
 by_cases hj:j<l.length
 ·rw[List.getElem?_append_left hj] at h1
  rw[List.getElem?_append_left (by omega)] at h2
  obtain⟨u',h3,h4⟩:=RVL_get h h1
  rw[h2] at h3;cases h3;exact h4
 ·rw[List.getElem?_append_right (by omega)] at h1
  rw[List.getElem?_append_right (by omega),hl] at h2
  obtain⟨u',h3,h4⟩:=RVL_get g h1
  rw[h2] at h3;cases h3;exact h4
theorem RVL_set{l l':List AVal}(h:RVL ρ N S T l k l'){n:Nat}{v u:AVal}(hv:RV ρ N S T v k u):RVL ρ N S T (l.set n v) k (l'.set n u):=by
 have hl:=RVL_len h
 refine RVL_of (by simp[hl]) fun j w x h1 h2=>?_
 by_cases hj:n=j
 ·subst hj
  have hlt:n<l.length:=by
   rcases Nat.lt_or_ge n l.length with h|h
   ·exact h
   ·rw[List.getElem?_eq_none (by simpa using h)] at h1;cases h1
  rw[List.getElem?_set_self hlt] at h1
  rw[List.getElem?_set_self (by omega)] at h2
  cases h1;cases h2;exact hv
 ·rw[List.getElem?_set_ne hj] at h1 h2
  obtain⟨u',h3,h4⟩:=RVL_get h h1
  rw[h2] at h3;cases h3;exact h4
theorem RVL_putCells:∀ {m m' l l':List AVal} (n:Nat),RVL ρ N S T l k l'→RVL ρ N S T m k m'→RVL ρ N S T (putCells l n m) k (putCells l' n m'):=by
  intro m
  induction m with
  | nil=>intro m' l l' n h g;simp only[RVL] at g;subst g;exact h
  | cons v m ih =>
    intro m' l l' n h g
    simp only[RVL] at g
    obtain⟨u,r,rfl,g1,g2⟩:=g
    exact ih (n+1) (RVL_set h g1) g2
theorem RVL_rep{z z':List AVal}(h:RVL ρ N S T z k z'):∀ n,RVL ρ N S T (repCells z n) k (repCells z' n):=by
 intro n
 induction n with
 | zero=>simp[repCells,RVL]
 | succ n ih=>exact RVL_append h ih
theorem RVL_cons{v u:AVal}{l l':List AVal}(h:RV ρ N S T v k u)(g:RVL ρ N S T l k l'):RVL ρ N S T (v::l) k (u::l'):=by
 simp only[RVL];exact⟨u,l',rfl,h,g⟩
theorem RVL_one{v u:AVal}(h:RV ρ N S T v k u):RVL ρ N S T [v] k [u]:=RVL_cons h (by simp[RVL])
theorem RV_noId:∀(v:AVal),noId v=true→RV ρ N S T v k v
 | .b _,_|.i _ _,_|.s _,_|.np,_|.ns,_|.nf,_|.nm,_|.nif,_|.es _,_=>by simp[RV]
 | .p _ _,h|.sl _ _ _ _,h|.m _,h|.fs _ _ _ _,h|.fp _,h=>by simp[noId] at h
 | .fn f a c,h=>by simp only[noId,Bool.and_eq_true] at h;simp only[RV];exact⟨a,c,rfl,RVL_noId a h.1,RVL_noId c h.2⟩
 | .ag l,h=>by simp only[noId,Bool.and_eq_true] at h;simp only[RV];exact⟨l,rfl,RVL_noId l h.1⟩
 | .tu l,h=>by simp only[noId] at h;simp only[RV];exact⟨l,rfl,RVL_noId l h⟩
 | .ifc t v,h=>by simp only[noId] at h;simp only[RV];exact⟨v,rfl,RV_noId v h⟩
where RVL_noId:∀(l:List AVal),noIdL l=true→RVL ρ N S T l k l
 | [],_=>by simp[RVL]
 | v::l,h=>by simp only[noIdL,Bool.and_eq_true] at h;exact RVL_cons (RV_noId v h.1) (RVL_noId l h.2)
theorem RV_tup{v u:AVal}(h:RV ρ N S T v k u):u.tup=v.tup:=by
 cases v<;>simp only[RV] at h
 case fs=>obtain⟨_,⟨_,_,rfl|⟨_,rfl⟩|⟨_,_,_,rfl,_⟩⟩|⟨_,_,_,_,_,_,rfl,_⟩⟩:=h<;>rfl
 case fp=>obtain⟨_,_,_,_,_,rfl,_⟩:=h;rfl
 case p=>obtain⟨_,_,rfl⟩:=h;rfl
 case sl=>obtain⟨_,_,rfl⟩:=h;rfl
 case m=>obtain⟨_,_,rfl⟩:=h;rfl
 case fn=>obtain⟨_,_,rfl,_⟩:=h;rfl
 case ag=>obtain⟨_,rfl,_⟩:=h;rfl
 case tu=>obtain⟨_,rfl,_⟩:=h;rfl
 case ifc=>obtain⟨_,rfl,_⟩:=h;rfl
 all_goals subst h;rfl
theorem RV_cells{v u:AVal}(h:RV ρ N S T v k u):RVL ρ N S T v.cells k u.cells:=by
  cases v
  case ag l=>simp only[RV] at h;obtain⟨l',rfl,h⟩:=h;exact h
  all_goals
    have h0:=h
    simp only[RV] at h
  case fs =>
    have:u.cells=[u]:=by obtain⟨_,⟨_,_,rfl|⟨_,rfl⟩|⟨_,_,_,rfl,_⟩⟩|⟨_,_,_,_,_,_,rfl,_⟩⟩:=h<;>rfl
    rw[this];exact RVL_one h0
  case fp => have : u.cells = [u] := by obtain ⟨_, _, _, _, _, rfl, _⟩ := h; rfl
             rw[this];exact RVL_one h0
  case p => have : u.cells = [u] := by obtain ⟨_, _, rfl⟩ := h; rfl
            rw[this];exact RVL_one h0
  case sl => have : u.cells = [u] := by obtain ⟨_, _, rfl⟩ := h; rfl
             rw[this];exact RVL_one h0
  case m => have : u.cells = [u] := by obtain ⟨_, _, rfl⟩ := h; rfl
            rw[this];exact RVL_one h0
  case fn => have : u.cells = [u] := by obtain ⟨_, _, rfl, _⟩ := h; rfl
             rw[this];exact RVL_one h0
  case tu => have : u.cells = [u] := by obtain ⟨_, rfl, _⟩ := h; rfl
             rw[this];exact RVL_one h0
  case ifc => have : u.cells = [u] := by obtain ⟨_, rfl, _⟩ := h; rfl
              rw[this];exact RVL_one h0
  all_goals subst h;exact RVL_one h0
end
structure LeS (k:Nat) (S T S' T':Stab):Prop where
 s:∀ id x,S id=some x→S' id=some x
 t:1≤k→∀ id x,look true S T id=some x→look true S' T' id=some x
theorem LeS.look{S T S' T':Stab}{k:Nat}(h:LeS k S T S' T'){tmp:Bool}(hk:tmp=true→1≤k){id:Nat}{x:List AVal×Nat}(hx:look tmp S T id=some x):look tmp S' T' id=some x:=by
 cases tmp
 ·simp only[RI.look,Bool.false_eq_true,if_false] at hx ⊢
  split at hx
  ·rename_i y hy;rw[h.s _ _ hy];exact hx
  ·cases hx
 ·exact h.t (hk rfl) id x hx
theorem LeS.lv{S T S' T':Stab}{k:Nat}(h:LeS k S T S' T'){tmp:Bool}(hk:tmp=true→1≤k):LeS (lv tmp) S T S' T' :=
 ⟨h.s,fun hl=>h.t (by cases tmp;simp[RI.lv] at hl;exact hk rfl)⟩
mutual
theorem RV_mono{ρ ρ':Nat→Nat}{N N':Nat}{S T S' T':Stab}{k k':Nat}(hρ:k=2→∀ id,id<N→id<N'∧ρ' id=ρ id)(hs:LeS k S T S' T')(hk:k≤k')(hk2:k'≤2) :
    ∀(v u:AVal),RV ρ N S T v k u→RV ρ' N' S' T' v k' u
  | .p id off,u,h=>by simp only[RV] at *;obtain⟨h1,h2,h3⟩:=h;obtain⟨a,b⟩:=hρ h1 id h2;exact⟨by omega,a,by rw[b];exact h3⟩
  | .sl id off len cap,u,h=>by simp only[RV] at *;obtain⟨h1,h2,h3⟩:=h;obtain⟨a,b⟩:=hρ h1 id h2;exact⟨by omega,a,by rw[b];exact h3⟩
  | .m id,u,h=>by simp only[RV] at *;obtain⟨h1,h2,h3⟩:=h;obtain⟨a,b⟩:=hρ h1 id h2;exact⟨by omega,a,by rw[b];exact h3⟩
  | .fn f a c,u,h=>by simp only[RV] at *;obtain⟨a',c',h1,h2,h3⟩:=h;exact⟨a',c',h1,RVL_mono hρ hs hk hk2 a a' h2,RVL_mono hρ hs hk hk2 c c' h3⟩
  | .ag l,u,h=>by simp only[RV] at *;obtain⟨l',h1,h2⟩:=h;exact⟨l',h1,RVL_mono hρ hs hk hk2 l l' h2⟩
  | .tu l,u,h=>by simp only[RV] at *;obtain⟨l',h1,h2⟩:=h;exact⟨l',h1,RVL_mono hρ hs hk hk2 l l' h2⟩
  | .ifc t v,u,h=>by simp only[RV] at *;obtain⟨v',h1,h2⟩:=h;exact⟨v',h1,RV_mono hρ hs hk hk2 v v' h2⟩
  | .fs tmp full len l,u,h=>by
    simp only[RV] at *
    obtain⟨h0,h1⟩:=h
    refine⟨fun ht=>Nat.le_trans (h0 ht) hk,?_⟩
    rcases h1 with h1|⟨h1,id,off,cap,c,esz,h2,h3,h4,h5,h6,h7,h8⟩
    · exact .inl h1
    · have hlv:lv tmp≤1:=by cases tmp<;>simp[lv]
      exact .inr ⟨h1,id,off,cap,c,esz,h2,h3,h4,hs.look h0 h5,h6,h7,RVL_mono (fun e=>absurd e (by omega)) (hs.lv h0) (Nat.le_refl _) (by omega) l _ h8⟩
  | .fp l,u,h=>by
    simp only[RV] at *
    obtain⟨h0,id,off,c,esz,h1,h2,h3,h4⟩:=h
    exact⟨by omega,id,off,c,esz,h1,hs.look (fun _=>h0) h2,h3,RVL_mono (k:=1) (k':=1) (fun e=>absurd e (by omega)) (hs.lv (tmp:=true) (fun _=>h0)) (Nat.le_refl _) (by omega) l _ h4⟩
  | .b _,_,h|.i _ _,_,h|.s _,_,h|.np,_,h|.ns,_,h|.nf,_,h|.nm,_,h|.nif,_,h|.es _,_,h=>by simp only[RV] at *;exact h
theorem RVL_mono{ρ ρ':Nat→Nat}{N N':Nat}{S T S' T':Stab}{k k':Nat}(hρ:k=2→∀ id,id<N→id<N'∧ρ' id=ρ id)(hs:LeS k S T S' T')(hk:k≤k')(hk2:k'≤2) :
  ∀(l l':List AVal),RVL ρ N S T l k l'→RVL ρ' N' S' T' l k' l'
 | [],l',h=>by simp only[RVL] at *;exact h
 | v::l,l',h=>by simp only[RVL] at *;obtain⟨u,r,h1,h2,h3⟩:=h;exact⟨u,r,h1,RV_mono hρ hs hk hk2 v u h2,RVL_mono hρ hs hk hk2 l r h3⟩
end
end Go.RI
namespace Go.RI
open Go
def REs(ρ:Nat→Nat)(N:Nat)(S T:Stab):List (AVal×AVal)→List (AVal×AVal)→Prop
 | [],es'=>es'=[]
 | (a,b)::es,es'=>∃ a' b' r,es'=(a',b')::r∧RV ρ N S T a 2 a'∧RV ρ N S T b 2 b'∧REs ρ N S T es r
def RO(ρ:Nat→Nat)(N:Nat)(S T:Stab):AObj→AObj→Prop
 | .cells c e ro,o'=>∃ c',o'=.cells c' e ro∧RVL ρ N S T c 2 c'
 | .map es,o'=>∃ es',o'=.map es'∧REs ρ N S T es es'
theorem RO_wr{ρ:Nat→Nat}{N:Nat}{S T:Stab}{o o':AObj}(h:RO ρ N S T o o'):o'.wr=o.wr:=by
 cases o with
 | cells c e ro=>obtain⟨c',rfl,_⟩:=h;rfl
 | map es=>obtain⟨es',rfl,_⟩:=h;rfl
structure TR (G:AHeap) (ρ:Nat→Nat) (S T:Stab) (H A:AHeap):Prop where
 inj:∀ i j,i<H.next→j<H.next→ρ i=ρ j→i=j
 lt:∀ i,i<H.next→ρ i<A.next
 glob:∀ g,g<G.next→ρ g=g∧H.get g=G.get g∧A.get g=G.get g
 gH:G.next≤H.next
 gA:G.next≤A.next
 obj:∀ i o,i<H.next→H.get i=some o→∃ o',A.get (ρ i)=some o'∧RO ρ H.next S T o o'
 stab:∀ id c esz,look true S T id=some (c,esz)→id<A.next∧∃ ro,A.get id=some (.cells c esz ro)
 excl:∀ i o,i<H.next→H.get i=some o→o.wr=true→look true S T (ρ i)=none
 wfH:Wf H
 wfA:Wf A
structure Mono (ρ:Nat→Nat) (S:Stab) (H A:AHeap) (ρ':Nat→Nat) (S':Stab) (H' A':AHeap):Prop where
 rho:∀ i,i<H.next→ρ' i=ρ i
 nextH:H.next≤H'.next
 nextA:A.next≤A'.next
 new:∀ i,H.next≤i→i<H'.next→A.next≤ρ' i
 frame:∀ id,id<A.next→(∀ i,i<H.next→ρ i≠id)→A'.get id=A.get id
 ss:∀ id x,S id=some x→S' id=some x
 ssn:∀ id,id<A.next→S' id=S id
theorem Mono.refl(ρ:Nat→Nat)(S:Stab)(H A:AHeap):Mono ρ S H A ρ S H A :=
 ⟨fun _ _=>rfl,Nat.le_refl _,Nat.le_refl _,fun _ h1 h2=>by omega,fun _ _ _=>rfl,fun _ _ h=>h,fun _ _=>rfl⟩
theorem Mono.trans{ρ ρ1 ρ2:Nat→Nat}{S S1 S2:Stab}{H H1 H2 A A1 A2:AHeap}(a:Mono ρ S H A ρ1 S1 H1 A1)(b:Mono ρ1 S1 H1 A1 ρ2 S2 H2 A2):Mono ρ S H A ρ2 S2 H2 A2 where
 rho:=fun i h=>(b.rho i (Nat.lt_of_lt_of_le h a.nextH)).trans (a.rho i h)
 nextH:=Nat.le_trans a.nextH b.nextH
 nextA:=Nat.le_trans a.nextA b.nextA
 new:=fun i h1 h2=>by
  rcases Nat.lt_or_ge i H1.next with h|h
  ·rw[b.rho i h];exact a.new i h1 h
  ·exact Nat.le_trans a.nextA (b.new i h h2)
 frame:=fun id h1 h2=>by
  rw[b.frame id (Nat.lt_of_lt_of_le h1 a.nextA) fun i hi=>?_,a.frame id h1 h2]
  rcases Nat.lt_or_ge i H.next with h|h
  ·rw[a.rho i h];exact h2 i h
  ·have:=a.new i h hi;omega
 ss:=fun id x h=>b.ss id x (a.ss id x h)
 ssn:=fun id h=>(b.ssn id (Nat.lt_of_lt_of_le h a.nextA)).trans (a.ssn id h)
section
variable {G:AHeap} {ρ:Nat→Nat} {S T:Stab} {H A:AHeap}
theorem LeS.refl(k:Nat)(S T:Stab):LeS k S T S T:=⟨fun _ _ h=>h,fun _ _ _ h=>h⟩
theorem REs_mono{ρ ρ':Nat→Nat}{N N':Nat}{S T S' T':Stab}(hρ:∀ id,id<N→id<N'∧ρ' id=ρ id)(hs:LeS 2 S T S' T'):∀ {es es':List (AVal×AVal)},REs ρ N S T es es'→REs ρ' N' S' T' es es':=by
  intro es
  induction es with
  | nil=>intro es' h;exact h
  | cons x es ih =>
    obtain⟨a,b⟩:=x
    intro es' h
    obtain⟨a',b',r,h1,h2,h3,h4⟩:=h
    exact⟨a',b',r,h1,RV_mono (fun _=>hρ) hs (Nat.le_refl _) (Nat.le_refl _) _ _ h2,RV_mono (fun _=>hρ) hs (Nat.le_refl _) (Nat.le_refl _) _ _ h3,ih h4⟩
theorem RO_mono{ρ ρ':Nat→Nat}{N N':Nat}{S T S' T':Stab}(hρ:∀ id,id<N→id<N'∧ρ' id=ρ id)(hs:LeS 2 S T S' T'){o o':AObj}(h:RO ρ N S T o o'):RO ρ' N' S' T' o o':=by
 cases o with
 | cells c e ro=>obtain⟨c',h1,h2⟩:=h;exact⟨c',h1,RVL_mono (fun _=>hρ) hs (Nat.le_refl _) (Nat.le_refl _) _ _ h2⟩
 | map es=>obtain⟨es',h1,h2⟩:=h;exact⟨es',h1,REs_mono hρ hs h2⟩
theorem TR.lo(h:TR G ρ S T H A){i:Nat}(hi:i<H.next)(hg:G.next≤i):G.next≤ρ i:=by
 rcases Nat.lt_or_ge (ρ i) G.next with hlt|hge
 ·have h1:=(h.glob _ hlt).1
  have:=h.inj (ρ i) i (Nat.lt_of_lt_of_le hlt h.gH) hi h1
  omega
 ·exact hge
def updN(ρ:Nat→Nat)(n m:Nat):Nat→Nat:=fun i=>if i=n then m else ρ i
theorem updN_same(ρ:Nat→Nat)(n m:Nat):updN ρ n m n=m:=by simp[updN]
theorem updN_ne(ρ:Nat→Nat){n m i:Nat}(h:i≠n):updN ρ n m i=ρ i:=by simp[updN,h]
theorem TR.push(h:TR G ρ S T H A){H' A':AHeap}{o o':Option AObj}(hH:H'.next=H.next+1)(hA:A'.next=A.next+1)(gH:∀ i,H'.get i=if i=H.next then o else H.get i)(gA:∀ i,A'.get i=if i=A.next then o' else A.get i)
  (ho:∀ x,o=some x→∃ x',o'=some x'∧RO ρ H.next S T x x'):TR G (updN ρ H.next A.next) S T H' A'∧Mono ρ S H A (updN ρ H.next A.next) S H' A':=by
 have hold:∀ i,i<H.next→i<H'.next∧updN ρ H.next A.next i=ρ i:=fun i hi=>⟨by omega,updN_ne _ (by omega)⟩
 constructor
 ·exact{
   inj:=fun i j hi hj he=>by
    rw[hH] at hi hj
    by_cases h1:i=H.next
    ·by_cases h2:j=H.next
     ·omega
     ·rw[h1,updN_same,updN_ne _ h2] at he
      have:=h.lt j (by omega);omega
    ·by_cases h2:j=H.next
     ·rw[h2,updN_same,updN_ne _ h1] at he
      have:=h.lt i (by omega);omega
     ·rw[updN_ne _ h1,updN_ne _ h2] at he
      exact h.inj i j (by omega) (by omega) he
   lt:=fun i hi=>by
    rw[hH] at hi;rw[hA]
    by_cases h1:i=H.next
    ·rw[h1,updN_same];omega
    ·rw[updN_ne _ h1];have:=h.lt i (by omega);omega
   glob:=fun g hg=>by
    obtain⟨a,b,c⟩:=h.glob g hg
    have:=h.gH;have:=h.gA
    exact⟨by rw[updN_ne _ (by omega)];exact a,by rw[gH,if_neg (by omega)];exact b,by rw[gA,if_neg (by omega)];exact c⟩
   gH:=by have:=h.gH;omega
   gA:=by have:=h.gA;omega
   obj:=fun i x hi hx=>by
    rw[hH] at hi
    rw[gH] at hx
    by_cases h1:i=H.next
    ·rw[if_pos h1] at hx
     obtain⟨x',e1,e2⟩:=ho x hx
     exact⟨x',by rw[h1,updN_same,gA,if_pos rfl];exact e1,RO_mono hold (LeS.refl _ _ _) e2⟩
    ·rw[if_neg h1] at hx
     obtain⟨x',e1,e2⟩:=h.obj i x (by omega) hx
     have:=h.lt i (by omega)
     exact⟨x',by rw[updN_ne _ h1,gA,if_neg (by omega)];exact e1,RO_mono hold (LeS.refl _ _ _) e2⟩
   stab:=fun id c esz hl=>by
    obtain⟨a,ro,b⟩:=h.stab id c esz hl
    exact⟨by omega,ro,by rw[gA,if_neg (by omega)];exact b⟩
   excl:=fun i x hi hx hw=>by
    rw[hH] at hi
    rw[gH] at hx
    by_cases h1:i=H.next
    ·rw[h1,updN_same]
     cases hl:look true S T A.next with
     | none=>rfl
     | some y=>obtain⟨c,esz⟩:=y;have:=(h.stab _ _ _ hl).1;omega
    ·rw[if_neg h1] at hx
     rw[updN_ne _ h1]
     exact h.excl i x (by omega) hx hw
   wfH:=fun i hi=>by rw[gH,if_neg (by omega)];exact h.wfH i (by omega)
   wfA:=fun i hi=>by rw[gA,if_neg (by omega)];exact h.wfA i (by omega)}
 ·exact{
   rho:=fun i hi=>updN_ne _ (by omega)
   nextH:=by omega
   nextA:=by omega
   new:=fun i h1 h2=>by
    have:i=H.next:=by omega
    rw[this,updN_same];exact Nat.le_refl _
   frame:=fun id hid _=>by rw[gA,if_neg (by omega)]
   ss:=fun _ _ h=>h
   ssn:=fun _ _=>rfl }
theorem TR.ghost(h:TR G ρ S T H A){A':AHeap}{o:Option AObj}(hA:A'.next=A.next+1)(gA:∀ i,A'.get i=if i=A.next then o else A.get i):TR G ρ S T H A'∧Mono ρ S H A ρ S H A':=by
 constructor
 ·exact{ h with
   lt:=fun i hi=>by have:=h.lt i hi;omega
   glob:=fun g hg=>by
    obtain⟨a,b,c⟩:=h.glob g hg
    have:=h.gA
    exact⟨a,b,by rw[gA,if_neg (by omega)];exact c⟩
   gA:=by have:=h.gA;omega
   obj:=fun i x hi hx=>by
    obtain⟨x',e1,e2⟩:=h.obj i x hi hx
    have:=h.lt i hi
    exact⟨x',by rw[gA,if_neg (by omega)];exact e1,e2⟩
   stab:=fun id c esz hl=>by
    obtain⟨a,ro,b⟩:=h.stab id c esz hl
    exact⟨by omega,ro,by rw[gA,if_neg (by omega)];exact b⟩
   wfA:=fun i hi=>by
    rw[gA,if_neg (by omega)]
    exact h.wfA i (by omega)}
 ·exact{ Mono.refl ρ S H A with
   nextA:=by omega
   new:=fun i h1 h2=>by omega
   frame:=fun id hid _=>by rw[gA,if_neg (by omega)]}
theorem TR.set(h:TR G ρ S T H A){i:Nat}(hi:i<H.next)(hg:G.next≤i){o0:AObj}(h0:H.get i=some o0)(hw:o0.wr=true){o o':Option AObj}(ho:∀ x,o=some x→∃ x',o'=some x'∧RO ρ H.next S T x x') :
  TR G ρ S T (H.put i o) (A.put (ρ i) o')∧Mono ρ S H A ρ S (H.put i o) (A.put (ρ i) o'):=by
 have hex:=h.excl i o0 hi h0 hw
 have hlo:=h.lo hi hg
 have hlt:=h.lt i hi
 constructor
 ·exact{
   inj:=h.inj
   lt:=h.lt
   glob:=fun g hgl=>by
    obtain⟨a,b,c⟩:=h.glob g hgl
    exact⟨a,by rw[AHeap.get_put,if_neg (by omega)];exact b,by rw[AHeap.get_put,if_neg (by omega)];exact c⟩
   gH:=h.gH
   gA:=h.gA
   obj:=fun j x hj hx=>by
    rw[AHeap.get_put] at hx
    by_cases hji:j=i
    ·subst hji
     rw[if_pos rfl] at hx
     obtain⟨x',e1,e2⟩:=ho x hx
     exact⟨x',by rw[AHeap.get_put,if_pos rfl];exact e1,e2⟩
    ·rw[if_neg hji] at hx
     obtain⟨x',e1,e2⟩:=h.obj j x hj hx
     exact⟨x',by rw[AHeap.get_put,if_neg (fun e=>hji (h.inj j i hj hi e))];exact e1,e2⟩
   stab:=fun id c esz hl=>by
    obtain⟨a,ro,b⟩:=h.stab id c esz hl
    have:id≠ρ i:=fun e=>by rw[e,hex] at hl;cases hl
    exact⟨a,ro,by rw[AHeap.get_put,if_neg this];exact b⟩
   excl:=fun j x hj hx hwx=>by
    rw[AHeap.get_put] at hx
    by_cases hji:j=i
    ·subst hji;exact hex
    ·rw[if_neg hji] at hx;exact h.excl j x hj hx hwx
   wfH:=fun j hj=>by rw[AHeap.next_put] at hj;rw[AHeap.get_put,if_neg (by omega)];exact h.wfH j hj
   wfA:=fun j hj=>by rw[AHeap.next_put] at hj;rw[AHeap.get_put,if_neg (by omega)];exact h.wfA j hj }
 ·exact{ Mono.refl ρ S H A with
   nextH:=Nat.le_refl _
   nextA:=Nat.le_refl _
   new:=fun j h1 h2=>by rw[AHeap.next_put] at h2;omega
   frame:=fun id _ hn=>by rw[AHeap.get_put,if_neg (fun e=>hn i hi e.symm)]}
theorem Mono.val{ρ':Nat→Nat}{S':Stab}{H' A':AHeap}(m:Mono ρ S H A ρ' S' H' A')(h:TR G ρ S T H A)(h':TR G ρ' S' T H' A'){v u:AVal}(hv:RV ρ H.next S T v 2 u):RV ρ' H'.next S' T v 2 u:=by
  refine RV_mono (fun _ i hi=>⟨Nat.lt_of_lt_of_le hi m.nextH,m.rho i hi⟩) ⟨m.ss,fun _ id x hx=>?_⟩ (Nat.le_refl _) (Nat.le_refl _) v u hv
  unfold RI.look at hx ⊢
  cases hS:S id with
  | some y=>rw[hS] at hx;rw[m.ss _ _ hS];exact hx
  | none =>
    rw[hS] at hx
    have hlt:id<A.next:=by
      obtain⟨c,esz⟩:=x
      exact(h.stab id c esz (by unfold RI.look;rw[hS];exact hx)).1
    rw[m.ssn id hlt,hS];exact hx
end
end Go.RI
