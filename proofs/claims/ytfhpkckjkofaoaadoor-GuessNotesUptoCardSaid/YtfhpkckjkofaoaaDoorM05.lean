import Derived.Test.YtfhpkckjkofaoaaDoorM04
set_option linter.unusedVariables false
set_option linter.unusedSimpArgs false
set_option linter.unusedSectionVars false
/- RI, part TC: operations on values, at both levels. Conditions: none. -/
namespace Go.RI
open Go
def Opd.ck(g:Nat):Opd→Bool
 | .t _=>true
 | .c v=>noId v
 | .g n=>decide (n<g)
 | .f _=>true
def ckL(g:Nat):List Opd→Bool
 | []=>true
 | x::l=>x.ck g&&ckL g l
def ckP(g:Nat):List (Nat×Nat×Opd)→Bool
 | []=>true
 | (_,_,x)::l=>x.ck g&&ckP g l
def ckO(g:Nat):Option Opd→Bool
 | none=>true
 | some x=>x.ck g
def IOp.ck(g:Nat):IOp→Bool
 | .mov x|.un _ x|.conv _ x|.same x|.box x|.load _ x|.nck x|.off x _|.part _ x _|.ext x _|.lenk _ x|.iface _ x|.s2b x=>x.ck g
 | .pick c a b=>c.ck g&&(a.ck g&&b.ck g)
 | .bin _ x y|.eqB _ x y|.eqNil _ _ x y|.eqAg _ _ x y|.cpy _ x y|.store _ x y|.iaddr _ x y|.iaddrA _ _ x y|.idxS x y|.idxA _ _ _ x y|.app _ _ x y=>x.ck g&&y.ck g
 | .mksl _ _ z x y=>noIdL z&&(x.ck g&&y.ck g)
 | .look _ _ z _ x y=>noId z&&(x.ck g&&y.ck g)
 | .alloc z=>noIdL z
 | .bad|.mkmap=>true
 | .mapup _ _ x k v=>x.ck g&&(k.ck g&&v.ck g)
 | .build z ps|.bsl _ _ z ps=>noIdL z&&ckP g ps
 | .mkf _ a c=>ckL g a&&ckL g c
 | .slS x lo hi=>x.ck g&&(ckO g lo&&ckO g hi)
 | .sl _ x lo hi mx|.slq _ x lo hi mx=>x.ck g&&(ckO g lo&&(ckO g hi&&ckO g mx))
 | .mm _ x l=>x.ck g&&ckL g l
 | .call _ l=>ckL g l
 | .callv x l=>x.ck g&&ckL g l
 | .appz _ _ z x y=>noIdL z&&(x.ck g&&y.ck g)
 | .inv x _ l=>x.ck g&&ckL g l
def ER(ρ:Nat→Nat)(N:Nat)(S T:Stab)(e a:Env):Prop:=∀ t v,e.get t=some v→∃ u,a.get t=some u∧RV ρ N S T v 2 u
section
variable {G:AHeap} {ρ:Nat→Nat} {N:Nat} {S T:Stab} {H A:AHeap} {e a:Env}
theorem opdT(h:TR G ρ S T H A)(he:ER ρ H.next S T e a){x:Opd}(hc:x.ck G.next=true){v:AVal}(hv:x.eval e=some v):∃ u,x.eval a=some u∧RV ρ H.next S T v 2 u:=by
  cases x with
  | t n=>exact he n v hv
  | c w=>simp only[Opd.eval,Option.some.injEq] at hv;subst hv;exact⟨_,rfl,RV_noId _ hc⟩
  | g n =>
    simp only[Opd.eval,Option.some.injEq] at hv;subst hv
    simp only[Opd.ck,decide_eq_true_eq] at hc
    exact⟨_,rfl,by simp only[RV];exact⟨trivial,Nat.lt_of_lt_of_le hc h.gH,by rw[(h.glob n hc).1]⟩⟩
  | f n=>simp only[Opd.eval,Option.some.injEq] at hv;subst hv;exact⟨_,rfl,by simp only[RV,RVL];exact⟨[],[],rfl,rfl,rfl⟩⟩
theorem opdsT(h:TR G ρ S T H A)(he:ER ρ H.next S T e a):∀ {l:List Opd},ckL G.next l=true→∀ {vs:List AVal},evals e l=some vs→∃ us,evals a l=some us∧RVL ρ H.next S T vs 2 us:=by
  intro l
  induction l with
  | nil=>intro _ vs hv;simp only[evals,Option.some.injEq] at hv;subst hv;exact⟨[],rfl,by simp[RVL]⟩
  | cons x l ih =>
    intro hc vs hv
    simp only[ckL,Bool.and_eq_true] at hc
    simp only[evals] at hv
    split at hv
    · rename_i v hx
      split at hv
      · rename_i vs' hl
        cases hv
        obtain⟨u,h1,h2⟩:=opdT h he hc.1 hx
        obtain⟨us,h3,h4⟩:=ih hc.2 hl
        exact⟨u::us,by simp[evals,h1,h3],RVL_cons h2 h4⟩
      · cases hv
    · cases hv
def RP(ρ:Nat→Nat)(N:Nat)(S T:Stab):List (Nat×Nat×AVal)→List (Nat×Nat×AVal)→Prop
 | [],l'=>l'=[]
 | (o,n,v)::l,l'=>∃ u r,l'=(o,n,u)::r∧RV ρ N S T v 2 u∧RP ρ N S T l r
theorem partsT(h:TR G ρ S T H A)(he:ER ρ H.next S T e a):∀ {l:List (Nat×Nat×Opd)},ckP G.next l=true→∀ {vs:List (Nat×Nat×AVal)},evalParts e l=some vs→∃ us,evalParts a l=some us∧RP ρ H.next S T vs us:=by
  intro l
  induction l with
  | nil=>intro _ vs hv;simp only[evalParts,Option.some.injEq] at hv;subst hv;exact⟨[],rfl,rfl⟩
  | cons x l ih =>
    obtain⟨o,n,x⟩:=x
    intro hc vs hv
    simp only[ckP,Bool.and_eq_true] at hc
    simp only[evalParts] at hv
    split at hv
    · rename_i v hx
      split at hv
      · rename_i vs' hl
        cases hv
        obtain⟨u,h1,h2⟩:=opdT h he hc.1 hx
        obtain⟨us,h3,h4⟩:=ih hc.2 hl
        exact⟨(o,n,u)::us,by simp[evalParts,h1,h3],u,us,rfl,h2,h4⟩
      · cases hv
    · cases hv
theorem fillT:∀ {ps ps':List (Nat×Nat×AVal)} {z z' cs:List AVal},RP ρ N S T ps ps'→RVL ρ N S T z 2 z'→fillA z ps=some cs→∃ cs',fillA z' ps'=some cs'∧RVL ρ N S T cs 2 cs':=by
  intro ps
  induction ps with
  | nil=>intro ps' z z' cs h hz hf;simp only[RP] at h;subst h;simp only[fillA,Option.some.injEq] at hf;subst hf;exact⟨z',rfl,hz⟩
  | cons x ps ih =>
    obtain⟨o,n,v⟩:=x
    intro ps' z z' cs h hz hf
    obtain⟨u,r,rfl,h1,h2⟩:=h
    simp only[fillA] at hf ⊢
    split at hf
    · rename_i hc
      have hcl:=RVL_len (RV_cells h1)
      have hzl:=RVL_len hz
      rw[if_pos ⟨by rw[RV_tup h1];exact hc.1,by rw[hcl];exact hc.2.1,by rw[hzl];exact hc.2.2⟩]
      exact ih h2 (RVL_putCells o hz (RV_cells h1)) hf
    · cases hf
theorem intT{k:Nat}{q:IntKind}{n:Int}{u:AVal}(h:RV ρ N S T (.i q n) k u):u=.i q n:=by simpa only[RV] using h
theorem strT{k:Nat}{v:List UInt8}{u:AVal}(h:RV ρ N S T (.s v) k u):u=.s v:=by simpa only[RV] using h
theorem boolT{k:Nat}{v:Bool}{u:AVal}(h:RV ρ N S T (.b v) k u):u=.b v:=by simpa only[RV] using h
theorem optT(h:TR G ρ S T H A)(he:ER ρ H.next S T e a){x:Option Opd}(hc:ckO G.next x=true){r:Option Nat}(hr:optI e x=some r):optI a x=some r:=by
  cases x with
  | none=>exact hr
  | some x =>
    simp only[optI] at hr ⊢
    split at hr
    · rename_i q n hx
      obtain⟨u,h1,h2⟩:=opdT h he hc hx
      rw[h1,intT h2];exact hr
    · cases hr
theorem binT{op:BinOp}{v1 v2 w u1 u2:AVal}{k:Nat}(h1:RV ρ N S T v1 k u1)(h2:RV ρ N S T v2 k u2)(h:binV op v1 v2=some w):binV op u1 u2=some w∧noId w=true:=by
 cases v1<;>cases v2<;>simp only[binV] at h<;>try (cases h;done)
 case i.i k1 a k2 b =>
  rw[intT h1,intT h2]
  refine⟨h,?_⟩
  cases op<;>(try simp only at h)<;>(try (split at h))<;>(try (cases h;done))<;>(try simp only[binI] at h)<;>(try (split at h))<;>(try (cases h;done))<;>cases h<;>rfl
 case s.s a b =>
  rw[strT h1,strT h2]
  refine⟨h,?_⟩
  cases op<;>simp only[binS] at h<;>(try (split at h))<;>(try (cases h;done))<;>cases h<;>rfl
theorem unT{op:UnOp}{v u w:AVal}{k:Nat}(h1:RV ρ N S T v k u)(h:unV op v=some w):unV op u=some w∧noId w=true:=by
 cases v<;>simp only[unV] at h<;>try (cases h;done)
 case i k1 a=>rw[intT h1];refine⟨h,?_⟩;cases op<;>simp only at h<;>(try (cases h;done))<;>cases h<;>rfl
 case b a=>rw[boolT h1];refine⟨h,?_⟩;cases op<;>simp only at h<;>(try (cases h;done))<;>cases h;rfl
theorem RV_p{id off:Nat}(h:id<N):RV ρ N S T (.p id off) 2 (.p (ρ id) off):=by simp[RV,h]
theorem RV_sl{id off len:Nat}{cap:Option Nat}(h:id<N):RV ρ N S T (.sl id off len cap) 2 (.sl (ρ id) off len cap):=by simp[RV,h]
theorem RV_m{id:Nat}(h:id<N):RV ρ N S T (.m id) 2 (.m (ρ id)):=by simp[RV,h]
theorem RV_ag{l l':List AVal}{k:Nat}(h:RVL ρ N S T l k l'):RV ρ N S T (.ag l) k (.ag l'):=by simp[RV,h]
theorem RV_tu{l l':List AVal}{k:Nat}(h:RVL ρ N S T l k l'):RV ρ N S T (.tu l) k (.tu l'):=by simp[RV,h]
theorem RV_i{q:IntKind}{n:Int}{k:Nat}:RV ρ N S T (.i q n) k (.i q n):=RV_noId _ rfl
theorem RV_b{v:Bool}{k:Nat}:RV ρ N S T (.b v) k (.b v):=RV_noId _ rfl
theorem nilT{n:Nat}{v u:AVal}{b:Bool}{k:Nat}(h:RV ρ N S T v k u)(hn:nilV n v=some b):nilV n u=some b:=by
  match n,hn with
  | 0,hn =>
    cases v<;>simp only[nilV] at hn<;>(try (cases hn;done))<;>simp only[RV] at h
    case ns=>subst h;exact hn
    case es=>subst h;exact hn
    case sl=>obtain⟨_,_,rfl⟩:=h;exact hn
    case fs tmp full len l =>
      obtain⟨_,⟨rfl,_,_⟩|⟨h0,id,off,cap,c,esz,rfl,_⟩⟩:=h
      · simp at hn
      · rw[if_neg (by omega)] at hn;exact hn
  | 1,hn =>
    cases v<;>simp only[nilV] at hn<;>(try (cases hn;done))<;>simp only[RV] at h
    case np=>subst h;exact hn
    case p=>obtain⟨_,_,rfl⟩:=h;exact hn
    case fp=>obtain⟨_,_,_,_,_,rfl,_⟩:=h;exact hn
  | 2,hn =>
    cases v<;>simp only[nilV] at hn<;>(try (cases hn;done))<;>simp only[RV] at h
    case nm=>subst h;exact hn
    case m=>obtain⟨_,_,rfl⟩:=h;exact hn
  | 3,hn =>
    cases v<;>simp only[nilV] at hn<;>(try (cases hn;done))<;>simp only[RV] at h
    case nf=>subst h;exact hn
    case fn=>obtain⟨_,_,rfl,_⟩:=h;exact hn
  | 4,hn =>
    cases v<;>simp only[nilV] at hn<;>(try (cases hn;done))<;>simp only[RV] at h
    case nif=>subst h;exact hn
    case ifc=>obtain⟨_,rfl,_⟩:=h;exact hn
  | n+5,hn=>cases v<;>simp[nilV] at hn
theorem eqCellsT:∀ {ks:List Nat} {x y x' y':List AVal} {k:Nat} {r:Bool},RVL ρ N S T x k x'→RVL ρ N S T y k y'→eqCells ks x y=some r→x'=x∧y'=y:=by
  intro ks
  induction ks with
  | nil =>
    intro x y x' y' k r hx hy h
    cases x<;>cases y<;>simp[eqCells] at h
    simp only[RVL] at hx hy
    exact⟨hx,hy⟩
  | cons q ks ih =>
    intro x y x' y' k r hx hy h
    obtain⟨u,x1,v,y1,rfl,rfl⟩:=eqCells_step h
    simp only[RVL] at hx hy
    obtain⟨u',x2,rfl,hu,hx⟩:=hx
    obtain⟨v',y2,rfl,hv,hy⟩:=hy
    obtain⟨r',hr⟩:=eqCells_tail h
    obtain⟨e1,e2⟩:=ih hx hy hr
    have:u'=u∧v'=v:=by
      match q,h with
      | 0,h =>
        cases u<;>cases v<;>simp only[eqCells] at h<;>try (cases h;done)
        exact⟨boolT hu,boolT hv⟩
      | 1,h =>
        cases u<;>cases v<;>simp only[eqCells] at h<;>try (cases h;done)
        exact⟨intT hu,intT hv⟩
      | 2,h =>
        cases u<;>cases v<;>simp only[eqCells] at h<;>try (cases h;done)
        exact⟨strT hu,strT hv⟩
      | q+3,h=>unfold eqCells at h;cases h
    exact⟨by rw[this.1,e1],by rw[this.2,e2]⟩
theorem offT{n:Nat}{v u w:AVal}(h:RV ρ N S T v 2 u)(hn:offV n v=some w):∃ w',offV n u=some w'∧RV ρ N S T w 2 w':=by
 cases v<;>simp only[offV] at hn<;>try (cases hn;done)
 case p id off =>
  simp only[RV] at h;obtain⟨_,h2,rfl⟩:=h
  cases hn
  exact⟨_,rfl,RV_p h2⟩
 case fp l =>
  simp only[RV] at h
  obtain⟨h0,id,off,c,esz,rfl,h1,h2,h3⟩:=h
  cases hn
  refine⟨_,rfl,?_⟩
  simp only[RV]
  refine⟨h0,id,off+n,c,esz,rfl,h1,?_,?_⟩
  ·rcases Nat.lt_or_ge n l.length with hlt|hge
   ·right
    rcases h2 with h2|h2
    ·rw[h2] at hlt;simp at hlt
    ·simp;omega
   ·left;exact List.drop_eq_nil_of_le hge
  ·have:=RVL_drop h3 n
   rw[List.drop_take,List.drop_drop] at this
   simpa using this
theorem fpT{n:Nat}{l:List AVal}{id off:Nat}{c:List AVal}{esz:Nat}{k:Nat}(hk:1≤k)(h1:look true S T id=some (c,esz))(h2:l=[]∨off+l.length≤c.length)(h3:RVL ρ N S T l 1 ((c.drop off).take l.length)) :
  RV ρ N S T (.fp (l.drop n)) k (.p id (off+n)):=by
 simp only[RV]
 refine⟨hk,id,off+n,c,esz,rfl,h1,?_,?_⟩
 ·rcases Nat.lt_or_ge n l.length with hlt|hge
  ·right
   rcases h2 with h2|h2
   ·rw[h2] at hlt;simp at hlt
   ·simp;omega
  ·left;exact List.drop_eq_nil_of_le hge
 ·have:=RVL_drop h3 n
  rw[List.drop_take,List.drop_drop] at this
  simpa using this
theorem look_up{tmp:Bool}{id:Nat}{x:List AVal×Nat}(h:look tmp S T id=some x):look true S T id=some x:=by
 unfold look at h ⊢
 split at h
 ·exact h
 ·cases tmp
  ·simp at h
  ·exact h
theorem RVL_up{tmp:Bool}{l l':List AVal}{k:Nat}(h1:1≤k)(hk:k≤2)(h:RVL ρ N S T l (lv tmp) l'):RVL ρ N S T l k l':=by
 have:lv tmp≤1:=by cases tmp<;>simp[lv]
 exact RVL_mono (fun e=>absurd e (by omega)) (LeS.refl _ _ _) (by omega) hk l l' h
theorem iaddrT{esz:Nat}{v u i i' w:AVal}(h:RV ρ N S T v 2 u)(hi:RV ρ N S T i 2 i')(hn:iaddrV esz v i=some w):∃ w',iaddrV esz u i'=some w'∧RV ρ N S T w 2 w':=by
 cases v<;>cases i<;>simp only[iaddrV] at hn<;>try (cases hn;done)
 case sl.i id off len cap q n =>
  simp only[RV] at h;obtain⟨_,h2,rfl⟩:=h
  rw[intT hi]
  split at hn
  ·rename_i hc;cases hn
   exact⟨_,by simp only[iaddrV];rw[if_pos hc],RV_p h2⟩
  ·cases hn
 case fs.i tmp full len l q n =>
  simp only[RV] at h
  rw[intT hi]
  split at hn
  ·rename_i hc
   cases hn
   obtain⟨_,⟨h0,_⟩|⟨h0,id,off,cap,c,es,rfl,_,_,h4,h5,h6,h7⟩⟩:=h
   ·omega
   ·refine⟨_,by simp only[iaddrV];rw[if_pos hc],fpT (by omega) (look_up h4) (.inr (by omega)) ?_⟩
    rw[h5];exact RVL_up (Nat.le_refl _) (by omega) h7
  ·cases hn
theorem iaddrAT{esz len:Nat}{v u i i' w:AVal}(h:RV ρ N S T v 2 u)(hi:RV ρ N S T i 2 i')(hn:iaddrAV esz len v i=some w):∃ w',iaddrAV esz len u i'=some w'∧RV ρ N S T w 2 w':=by
 cases v<;>cases i<;>simp only[iaddrAV] at hn<;>try (cases hn;done)
 case p.i id off q n =>
  simp only[RV] at h;obtain⟨_,h2,rfl⟩:=h
  rw[intT hi]
  split at hn
  ·rename_i hc;cases hn
   exact⟨_,by simp only[iaddrAV];rw[if_pos hc],RV_p h2⟩
  ·cases hn
 case fp.i l q n =>
  simp only[RV] at h
  rw[intT hi]
  obtain⟨h0,id,off,c,es,rfl,h1,h2,h3⟩:=h
  split at hn
  ·rename_i hc;cases hn
   exact⟨_,by simp only[iaddrAV];rw[if_pos hc],fpT (by omega) h1 h2 h3⟩
  ·cases hn
theorem partT{n:Option Nat}{off:Nat}{v u w:AVal}(h:RV ρ N S T v 2 u)(hn:partV n off v=some w):∃ w',partV n off u=some w'∧RV ρ N S T w 2 w':=by
  cases v<;>simp only[partV] at hn<;>try (cases hn;done)
  rename_i l
  simp only[RV] at h
  obtain⟨l',rfl,h⟩:=h
  cases n with
  | none=>simp only at hn;obtain⟨u,h1,h2⟩:=RVL_get h hn;exact⟨u,h1,h2⟩
  | some n =>
    simp only at hn
    split at hn
    · rename_i hc
      cases hn
      have:=RVL_len h
      exact⟨_,by simp only[partV];rw[if_pos (by omega)],RV_ag (RVL_take (RVL_drop h _) _)⟩
    · cases hn
theorem idxAT{n:Option Nat}{esz len:Nat}{v u i i' w:AVal}(h:RV ρ N S T v 2 u)(hi:RV ρ N S T i 2 i')(hn:idxAV n esz len v i=some w):∃ w',idxAV n esz len u i'=some w'∧RV ρ N S T w 2 w':=by
 cases i<;>simp only[idxAV] at hn<;>try (cases hn;done)
 rw[intT hi]
 split at hn
 ·rename_i hc
  obtain⟨w',h1,h2⟩:=partT h hn
  exact⟨w',by simp only[idxAV];rw[if_pos hc];exact h1,h2⟩
 ·cases hn
theorem extT{n:Nat}{v u w:AVal}(h:RV ρ N S T v 2 u)(hn:extV n v=some w):∃ w',extV n u=some w'∧RV ρ N S T w 2 w':=by
 cases v<;>simp only[extV] at hn<;>try (cases hn;done)
 simp only[RV] at h
 obtain⟨l',rfl,h⟩:=h
 obtain⟨u,h1,h2⟩:=RVL_get h hn
 exact⟨u,h1,h2⟩
theorem mmT{mx:Bool}:∀ {l l':List AVal} {v u w:AVal},RV ρ N S T v 2 u→RVL ρ N S T l 2 l'→mmV mx v l=some w→∃ w',mmV mx u l'=some w'∧RV ρ N S T w 2 w':=by
  intro l
  induction l with
  | nil=>intro l' v u w h hl hn;simp only[RVL] at hl;subst hl;simp only[mmV,Option.some.injEq] at hn;subst hn;exact⟨u,rfl,h⟩
  | cons x l ih =>
    intro l' v u w h hl hn
    simp only[RVL] at hl
    obtain⟨x',r,rfl,h1,h2⟩:=hl
    cases v<;>cases x<;>simp only[mmV] at hn<;>try (cases hn;done)
    rw[intT h,intT h1]
    split at hn
    · rename_i hc
      obtain⟨w',h3,h4⟩:=ih RV_i h2 hn
      exact⟨w',by simp only[mmV];rw[if_pos hc];exact h3,h4⟩
    · cases hn
theorem cellsT(h:TR G ρ S T H A){id:Nat}(hid:id<H.next){c:List AVal}{esz:Nat}{ro:Bool}(hg:H.get id=some (.cells c esz ro)):∃ c',A.get (ρ id)=some (.cells c' esz ro)∧RVL ρ H.next S T c 2 c':=by
 obtain⟨o',h1,c',rfl,h2⟩:=h.obj id _ hid hg
 exact⟨c',h1,h2⟩
theorem rowT(h:TR G ρ S T H A){id off n:Nat}(hid:id<H.next){l:List AVal}(hl:rowAt H id off n=some l):∃ l',rowAt A (ρ id) off n=some l'∧RVL ρ H.next S T l 2 l':=by
 unfold rowAt at hl ⊢
 split at hl
 ·rename_i c esz ro hg
  obtain⟨c',h1,h2⟩:=cellsT h hid hg
  rw[h1]
  simp only
  split at hl
  ·rename_i hc
   cases hl
   have:=RVL_len h2
   rw[if_pos (by omega)]
   exact⟨_,rfl,RVL_take (RVL_drop h2 _) _⟩
  ·cases hl
 ·cases hl
theorem rowS(h:TR G ρ S T H A){id off n:Nat}{c:List AVal}{esz:Nat}(hl:look true S T id=some (c,esz))(hn:off+n≤c.length):rowAt A id off n=some ((c.drop off).take n):=by
 obtain⟨_,ro,h1⟩:=h.stab id c esz hl
 unfold rowAt
 rw[h1]
 simp only
 rw[if_pos hn]
theorem loadT(h:TR G ρ S T H A){n:Option Nat}{v u w:AVal}(hv:RV ρ H.next S T v 2 u)(hn:loadV H n v=some w):∃ w',loadV A n u=some w'∧RV ρ H.next S T w 2 w':=by
  cases v<;>simp only[loadV] at hn<;>try (cases hn;done)
  case p id off =>
    simp only[RV] at hv
    obtain⟨_,hid,rfl⟩:=hv
    cases n with
    | none =>
      simp only at hn
      split at hn
      · rename_i c esz ro hg
        obtain⟨c',h1,h2⟩:=cellsT h hid hg
        obtain⟨w',h3,h4⟩:=RVL_get h2 hn
        exact⟨w',by simp only[loadV,h1];exact h3,h4⟩
      · cases hn
    | some n =>
      simp only[Option.map_eq_some_iff] at hn
      obtain⟨l,hl,rfl⟩:=hn
      obtain⟨l',h1,h2⟩:=rowT h hid hl
      exact⟨.ag l',by simp only[loadV,h1];rfl,RV_ag h2⟩
  case fp l =>
    simp only[RV] at hv
    obtain⟨_,id,off,c,esz,rfl,h1,h2,h3⟩:=hv
    obtain⟨_,ro,h4⟩:=h.stab id c esz h1
    have h3':RVL ρ H.next S T l 2 ((c.drop off).take l.length):=RVL_mono (fun e=>absurd e (by omega)) (LeS.refl _ _ _) (by omega) (Nat.le_refl _) _ _ h3
    cases n with
    | none =>
      simp only at hn
      obtain⟨w',h5,h6⟩:=RVL_get h3' hn
      refine⟨w',?_,h6⟩
      simp only[loadV,h4]
      rw[List.getElem?_take] at h5
      split at h5
      · rw[List.getElem?_drop] at h5;simpa using h5
      · cases h5
    | some n =>
      simp only at hn
      split at hn
      · rename_i hc
        cases hn
        have h2':off+l.length≤c.length:=h2.resolve_left (fun e=>by rw[e] at hc;simp at hc;omega)
        have h5:=RVL_take h3' n
        rw[List.take_take,Nat.min_eq_left hc.2] at h5
        exact⟨_,by simp only[loadV,rowS h h1 (show off+n≤c.length by omega)];rfl,RV_ag h5⟩
      · cases hn
theorem REs_len:∀ {es es':List (AVal×AVal)},REs ρ N S T es es'→es'.length=es.length:=by
 intro es
 induction es with
 | nil=>intro es' h;simp only[REs] at h;subst h;rfl
 | cons x es ih=>obtain⟨a,b⟩:=x;intro es' h;obtain⟨_,_,r,rfl,_,_,h4⟩:=h;simp[ih h4]
theorem lenT(h:TR G ρ S T H A){k n:Nat}{v u:AVal}(hv:RV ρ H.next S T v 2 u)(hn:lenV H k v=some n):lenV A k u=some n:=by
  match k,hn with
  | 0,hn =>
    cases v<;>simp only[lenV] at hn<;>(try (cases hn;done))<;>simp only[RV] at hv
    case ns=>subst hv;exact hn
    case es=>subst hv;exact hn
    case sl=>obtain⟨_,_,rfl⟩:=hv;exact hn
    case fs tmp full len l=>obtain⟨_,⟨rfl,_,rfl|⟨_,rfl⟩|⟨_,_,_,rfl,_⟩⟩|⟨_,_,_,_,_,_,rfl,_⟩⟩:=hv<;>exact hn
  | 1,hn =>
    cases v<;>simp only[lenV] at hn<;>(try (cases hn;done))<;>simp only[RV] at hv
    subst hv;exact hn
  | 2,hn =>
    cases v<;>simp only[lenV] at hn<;>(try (cases hn;done))<;>simp only[RV] at hv
    case nm=>subst hv;exact hn
    case m =>
      obtain⟨_,hid,rfl⟩:=hv
      split at hn
      · rename_i es hg
        obtain⟨o',h1,es',rfl,h2⟩:=h.obj _ _ hid hg
        simp only[lenV,h1,REs_len h2];exact hn
      · cases hn
  | k+3,hn=>cases v<;>simp[lenV] at hn
end
end Go.RI
namespace Go.RI
open Go
section
variable {G:AHeap} {ρ:Nat→Nat} {S T:Stab} {H A:AHeap} {e a:Env}
def SimT(G:AHeap)(ρ:Nat→Nat)(S T:Stab)(H A:AHeap)(run:Option (Option AVal×AHeap))(v:Option AVal)(H':AHeap):Prop :=
 ∃ ρ' u A',run=some (u,A')∧TR G ρ' S T H' A'∧Mono ρ S H A ρ' S H' A'∧match v,u with
  | some v,some u=>RV ρ' H'.next S T v 2 u
  | none,none=>True
  | _,_=>False
theorem simT_val(h:TR G ρ S T H A){run:Option (Option AVal×AHeap)}{v u:AVal}(hr:run=some (some u,A))(hv:RV ρ H.next S T v 2 u):SimT G ρ S T H A run (some v) H :=
 ⟨ρ,some u,A,hr,h,Mono.refl _ _ _ _,hv⟩
theorem RO_cells{N:Nat}{c c':List AVal}{esz:Nat}{ro:Bool}(h:RVL ρ N S T c 2 c'):RO ρ N S T (.cells c esz ro) (.cells c' esz ro):=⟨c',rfl,h⟩
theorem pushT(h:TR G ρ S T H A){c c':List AVal}{esz:Nat}(hc:RVL ρ H.next S T c 2 c'):TR G (updN ρ H.next A.next) S T (H.push (.cells c esz false)) (A.push (.cells c' esz false))∧Mono ρ S H A (updN ρ H.next A.next) S (H.push (.cells c esz false)) (A.push (.cells c' esz false)) :=
 h.push (o:=some (.cells c esz false)) (o':=some (.cells c' esz false)) rfl rfl (fun i=>AHeap.get_push H i _) (fun i=>AHeap.get_push A i _) (fun x hx=>by cases hx;exact⟨_,rfl,RO_cells hc⟩)
theorem simT_push(h:TR G ρ S T H A){c c':List AVal}{esz:Nat}(hc:RVL ρ H.next S T c 2 c'){run:Option (Option AVal×AHeap)}{v u:AVal}(hr:run=some (some u,A.push (.cells c' esz false)))
  (hv:RV (updN ρ H.next A.next) (H.next+1) S T v 2 u):SimT G ρ S T H A run (some v) (H.push (.cells c esz false)):=by
 obtain⟨h1,h2⟩:=pushT (esz:=esz) h hc
 exact⟨_,some u,_,hr,h1,h2,hv⟩
theorem newP:RV (updN ρ H.next A.next) (H.next+1) S T (.p H.next 0) 2 (.p A.next 0):=by
 have:=RV_p (ρ:=updN ρ H.next A.next) (N:=H.next+1) (S:=S) (T:=T) (id:=H.next) (off:=0) (by omega)
 rwa [updN_same] at this
theorem newSl{len:Nat}{cap:Option Nat}:RV (updN ρ H.next A.next) (H.next+1) S T (.sl H.next 0 len cap) 2 (.sl A.next 0 len cap):=by
 have:=RV_sl (ρ:=updN ρ H.next A.next) (N:=H.next+1) (S:=S) (T:=T) (id:=H.next) (off:=0) (len:=len) (cap:=cap) (by omega)
 rwa [updN_same] at this
theorem storeT(h:TR G ρ S T H A){n:Nat}{p p' v v':AVal}(hp:RV ρ H.next S T p 2 p')(hv:RV ρ H.next S T v 2 v'){H':AHeap}{loA:Nat}{lo:Nat}(hg:G.next≤lo)(hlo2:∀ i,i<H.next→lo≤i→loA≤ρ i)(hs:storeV lo H n p v=some H') :
  ∃ A',storeV loA A n p' v'=some A'∧TR G ρ S T H' A'∧Mono ρ S H A ρ S H' A':=by
 cases p<;>simp only[storeV] at hs<;>try (cases hs;done)
 rename_i id off
 simp only[RV] at hp
 obtain⟨_,hid,rfl⟩:=hp
 split at hs
 ·rename_i hle
  split at hs
  ·rename_i c esz ro hgt
   split at hs
   ·rename_i hc
    obtain⟨rfl,h1,h2,h3⟩:=hc
    cases hs
    obtain⟨c',h4,h5⟩:=cellsT h hid hgt
    have hl:=RVL_len h5
    have hl2:=RVL_len (RV_cells hv)
    obtain⟨g1,g2⟩:=h.set hid (Nat.le_trans hg hle) hgt rfl (o:=some (.cells (putCells c off v.cells) esz false)) (o':=some (.cells (putCells c' off v'.cells) esz false))
     (fun x hx=>by cases hx;exact⟨_,rfl,RO_cells (RVL_putCells off h5 (RV_cells hv))⟩)
    refine⟨_,?_,g1,g2⟩
    simp only[storeV]
    rw[if_pos (hlo2 id hid hle),h4]
    simp only
    rw[if_pos ⟨trivial,by rw[RV_tup hv];exact h1,by rw[hl2];exact h2,by rw[hl];exact h3⟩]
   ·cases hs
  ·cases hs
 ·cases hs
theorem list_mid{α:Type}(L:List α)(n m k:Nat)(h:m+k≤n):((L.take n).drop m).take k=(L.drop m).take k:=by
 rw[List.drop_take,List.take_take,Nat.min_eq_left (by omega)]
theorem fsT{tmp full:Bool}{N len:Nat}{l:List AVal}{id off:Nat}{c:List AVal}{esz:Nat}(hk:tmp=true→1≤2)(h4:look tmp S T id=some (c,esz))(h5:l.length=len*esz)(h6:off+len*esz≤c.length)
  (h7:RVL ρ N S T l (lv tmp) ((c.drop off).take (len*esz))) {lo hi off':Nat} {cap':Option Nat} (h8:lo≤hi) (h9:hi≤len) (hoff:lo<hi→off'=off+lo*esz) (hf:full=true→cap'=some (hi-lo)) (hc:∀ m,cap'=some m→hi-lo≤m) :
  RV ρ N S T (.fs tmp full (hi-lo) ((l.drop (lo*esz)).take ((hi-lo)*esz))) 2 (.sl id off' (hi-lo) cap'):=by
 simp only[RV]
 refine⟨fun _=>by omega,?_⟩
 rcases Nat.eq_or_lt_of_le h8 with he|hlt
 ·left
  subst he
  have hz:lo-lo=0:=by omega
  rw[hz]
  exact⟨rfl,by simp,.inr<|.inr ⟨id,off',cap',rfl,fun e=>by rw[hf e,hz]⟩⟩
 ·right
  have e1:lo*esz+(hi-lo)*esz=hi*esz:=by rw[←Nat.add_mul];congr 1;omega
  have e2:hi*esz≤len*esz:=Nat.mul_le_mul_right _ h9
  refine⟨by omega,id,off',cap',c,esz,rfl,hf,hc,h4,?_,?_,?_⟩
  ·simp;omega
  ·rw[hoff hlt];omega
  ·have:=RVL_take (RVL_drop h7 (lo*esz)) ((hi-lo)*esz)
   rw[list_mid _ _ _ _ (by omega),List.drop_drop] at this
   rw[hoff hlt];exact this
theorem slT(h:TR G ρ S T H A){esz:Nat}{v u:AVal}(hv:RV ρ H.next S T v 2 u){l hh m:Option Nat}{w:AVal}{H':AHeap}(hs:slV esz H v l hh m=some (w,H')) :
    ∃ ρ' w' A',slV esz A u l hh m=some (w',A')∧TR G ρ' S T H' A'∧Mono ρ S H A ρ' S H' A'∧RV ρ' H'.next S T w 2 w'∧(H'.next=H.next→(isFs v=true→m.isSome∨l.getD 0=0∨isFs0 w=false)→A'=A∧ρ'=ρ∧isFs u=false):=by
  cases v<;>simp only[slV] at hs<;>try (cases hs;done)
  case ns =>
    simp only[RV] at hv
    subst hv
    split at hs
    · rename_i hc;cases hs
      exact⟨ρ,.ns,A,by simp only[slV];rw[if_pos hc],h,Mono.refl _ _ _ _,by simp only[RV],fun _ _=>⟨rfl,rfl,rfl⟩⟩
    · cases hs
  case es ad =>
    simp only[RV] at hv
    subst hv
    split at hs
    · rename_i hc;cases hs
      exact⟨ρ,.es ad,A,by simp only[slV];rw[if_pos hc],h,Mono.refl _ _ _ _,by simp only[RV],fun _ _=>⟨rfl,rfl,rfl⟩⟩
    · cases hs
  case sl id off len cap =>
    simp only[RV] at hv
    obtain⟨_,hid,rfl⟩:=hv
    cases cap with
    | some c =>
      simp only at hs
      split at hs
      · rename_i hc;cases hs
        exact⟨ρ,_,A,by simp only[slV];rw[if_pos hc],h,Mono.refl _ _ _ _,RV_sl hid,fun _ _=>⟨rfl,rfl,rfl⟩⟩
      · cases hs
    | none =>
      simp only at hs
      cases m with
      | some m' =>
        simp only at hs
        split at hs
        · rename_i hc;cases hs
          exact⟨ρ,_,A,by simp only[slV];rw[if_pos hc],h,Mono.refl _ _ _ _,RV_sl hid,fun _ _=>⟨rfl,rfl,rfl⟩⟩
        · cases hs
      | none =>
        simp only at hs
        split at hs
        · rename_i hc
          split at hs
          · rename_i h0;cases hs
            exact⟨ρ,_,A,by simp only[slV];rw[if_pos hc,if_pos h0],h,Mono.refl _ _ _ _,RV_sl hid,fun _ _=>⟨rfl,rfl,rfl⟩⟩
          · rename_i h0
            split at hs
            · rename_i hlt
              split at hs
              · rename_i cs esz' ro hg
                split at hs
                · rename_i he;cases hs
                  obtain⟨c',h1,_⟩:=cellsT h hid hg
                  exact⟨ρ,_,A,by simp only[slV];rw[if_pos hc,if_neg h0,if_pos hlt,h1];simp only;rw[if_pos he],h,Mono.refl _ _ _ _,RV_sl hid,fun _ _=>⟨rfl,rfl,rfl⟩⟩
                · cases hs
              · cases hs
            · rename_i hlt
              cases hs
              obtain⟨g1,g2⟩:=h.push (H':={ H with next:=H.next+1,tbl:=H.tbl.put none (H.next+1) H.next }) (A':={ A with next:=A.next+1,tbl:=A.tbl.put none (A.next+1) A.next }) (o:=none) (o':=none) rfl rfl
                (fun i=>Trie.get_put _ _ _ _ _ (Nat.lt_succ_self _)) (fun i=>Trie.get_put _ _ _ _ _ (Nat.lt_succ_self _)) (fun x hx=>by cases hx)
              exact⟨_,_,_,by simp only[slV];rw[if_pos hc,if_neg h0,if_neg hlt],g1,g2,newSl,fun hn=>by simp at hn⟩
        · cases hs
  case fs tmp full len cs =>
    split at hs
    · rename_i hlen
      simp only[RV] at hv
      obtain⟨hk,h0|⟨h0,id,off,cap,c,es,rfl,h1,h2,h4,h5,h6,h7⟩⟩:=hv
      · -- nothing in it
        obtain⟨rfl,rfl,hu⟩:=h0
        have fin:∀(fl:Bool),hh.getD 0=0→l.getD 0=0→m.getD 0=0→(m.isSome=true→hh.isSome=true)→w=.fs tmp fl (hh.getD 0-l.getD 0) ((([]:List AVal).drop (l.getD 0*esz)).take ((hh.getD 0-l.getD 0)*esz))→(fl=true→full=true∨m.isSome=true)→H'=H →
            ∃ ρ' w' A',slV esz A u l hh m=some (w',A')∧TR G ρ' S T H' A'∧Mono ρ S H A ρ' S H' A'∧RV ρ' H'.next S T w 2 w'∧(H'.next=H.next→(isFs (.fs tmp full 0 [])=true→m.isSome∨l.getD 0=0∨isFs0 w=false)→A'=A∧ρ'=ρ∧isFs u=false):=by
          rintro fl e1 e2 e3 e4 rfl e5 rfl
          rw[e1,e2]
          simp only[Nat.sub_zero,Nat.zero_mul,List.drop_nil,List.take_nil]
          rcases hu with rfl|⟨ad,rfl⟩|⟨id,off,cap,rfl,hcap⟩
          · exact⟨ρ,.ns,A,by simp only[slV];rw[if_pos ⟨e2,e1,e3,e4⟩],h,Mono.refl _ _ _ _,by simp[RV],fun _ _=>⟨rfl,rfl,rfl⟩⟩
          · exact⟨ρ,.es ad,A,by simp only[slV];rw[if_pos ⟨e2,e1,e3,e4⟩],h,Mono.refl _ _ _ _,by simp[RV],fun _ _=>⟨rfl,rfl,rfl⟩⟩
          · cases cap with
            | some k =>
              cases m with
              | none =>
                refine⟨ρ,.sl id (if k=0 then off else off+0*esz) 0 (some k),A,?_,h,Mono.refl _ _ _ _,?_,fun _ _=>⟨rfl,rfl,rfl⟩⟩
                · simp only[slV,Option.getD_none]
                  rw[if_pos ⟨Nat.le_refl _,by omega,by omega,fun h=>by simp at h⟩,e1,e2];simp
                · simp only[RV]
                  refine⟨fun _=>by omega,.inl ⟨trivial,trivial,.inr<|.inr ⟨id,_,some k,rfl,fun e=>?_⟩⟩⟩
                  rcases e5 e with e6|e6
                  · exact hcap e6
                  · simp at e6
              | some m' =>
                simp only[Option.getD_some] at e3
                subst e3
                refine⟨ρ,.sl id off 0 (some 0),A,?_,h,Mono.refl _ _ _ _,?_,fun _ _=>⟨rfl,rfl,rfl⟩⟩
                · simp only[slV,Option.getD_some]
                  rw[if_pos ⟨Nat.zero_le _,by omega,by omega,e4⟩,e1,e2];simp
                · simp only[RV]
                  exact⟨fun _=>by omega,.inl ⟨trivial,trivial,.inr<|.inr ⟨id,off,some 0,rfl,fun _=>rfl⟩⟩⟩
            | none =>
              cases m with
              | none =>
                refine⟨ρ,.sl id off 0 none,A,?_,h,Mono.refl _ _ _ _,?_,fun _ _=>⟨rfl,rfl,rfl⟩⟩
                · simp only[slV]
                  rw[if_pos ⟨by omega,by omega⟩,if_pos e2,e1]
                · simp only[RV]
                  refine⟨fun _=>by omega,.inl ⟨trivial,trivial,.inr<|.inr ⟨id,_,none,rfl,fun e=>?_⟩⟩⟩
                  rcases e5 e with e6|e6
                  · exact hcap e6
                  · simp at e6
              | some m' =>
                simp only[Option.getD_some] at e3
                subst e3
                refine⟨ρ,.sl id off 0 (some 0),A,?_,h,Mono.refl _ _ _ _,?_,fun _ _=>⟨rfl,rfl,rfl⟩⟩
                · simp only[slV]
                  rw[if_pos ⟨Nat.le_refl _,by omega,by omega,e4 rfl⟩,e1,e2];simp
                · simp only[RV]
                  exact⟨fun _=>by omega,.inl ⟨trivial,trivial,.inr<|.inr ⟨id,off,some 0,rfl,fun _=>rfl⟩⟩⟩
        cases m with
        | some m' =>
          simp only at hs
          split at hs
          · rename_i hc;cases hs
            exact fin _ (by omega) (by omega) (by simp only[Option.getD_some];omega) (fun _=>hc.2.2.2) rfl (fun _=>.inr rfl) rfl
          · cases hs
        | none =>
          simp only at hs
          split at hs
          · rename_i hc;cases hs
            exact fin _ (by omega) (by omega) rfl (fun h=>by simp at h) rfl (fun e=>by simp only[Bool.and_eq_true] at e;exact .inl e.1) rfl
          · cases hs
      · -- there is something
        have hes:es=esz:=by
          rw[h5] at hlen
          exact Nat.eq_of_mul_eq_mul_left h0 hlen
        subst hes
        have hrow:∃ ro,A.get id=some (.cells c es ro):=(h.stab id c es (look_up h4)).2
        cases m with
        | some m' =>
          simp only at hs
          split at hs
          · rename_i hc
            cases hs
            obtain⟨c1,c2,c3,c4⟩:=hc
            cases cap with
            | some k =>
              have hk2:=h2 k rfl
              refine⟨ρ,_,A,by simp only[slV,Option.getD_some];rw[if_pos ⟨by omega,c2,c3,fun _=>c4⟩],h,Mono.refl _ _ _ _,?_,fun _ _=>⟨rfl,rfl,rfl⟩⟩
              exact fsT (fun _=>by omega) h4 h5 h6 h7 c3 (by omega) (fun hlt=>by rw[if_neg (by omega)]) (fun e=>by simp only[decide_eq_true_eq] at e;rw[e]) (fun m hm=>by cases hm;omega)
            | none =>
              refine⟨ρ,_,A,by simp only[slV];rw[if_pos ⟨c1,c2,c3,c4⟩],h,Mono.refl _ _ _ _,?_,fun _ _=>⟨rfl,rfl,rfl⟩⟩
              exact fsT (fun _=>by omega) h4 h5 h6 h7 c3 (by omega) (fun hlt=>by rw[if_neg (by omega)]) (fun e=>by simp only[decide_eq_true_eq] at e;rw[e]) (fun m hm=>by cases hm;omega)
          · cases hs
        | none =>
          simp only at hs
          split at hs
          · rename_i hc
            cases hs
            obtain⟨c1,c2⟩:=hc
            cases cap with
            | some k =>
              have hk2:=h2 k rfl
              refine⟨ρ,_,A,by simp only[slV,Option.getD_none];rw[if_pos ⟨Nat.le_refl _,by omega,c2,fun h=>by simp at h⟩],h,Mono.refl _ _ _ _,?_,fun _ _=>⟨rfl,rfl,rfl⟩⟩
              exact fsT (fun _=>by omega) h4 h5 h6 h7 c2 c1 (fun hlt=>by rw[if_neg (by omega)]) (fun e=>by
                simp only[Bool.and_eq_true,decide_eq_true_eq] at e
                have:=h1 e.1
                cases this
                rw[e.2]) (fun m hm=>by cases hm;omega)
            | none =>
              have hfull:full=false:=by
                cases full
                · rfl
                · have:=h1 rfl;cases this
              subst hfull
              obtain⟨ro,hA⟩:=hrow
              by_cases hl0:l.getD 0=0
              · refine⟨ρ,_,A,by simp only[slV];rw[if_pos ⟨c1,c2⟩,if_pos hl0],h,Mono.refl _ _ _ _,?_,fun _ _=>⟨rfl,rfl,rfl⟩⟩
                have:=fsT (ρ:=ρ) (N:=H.next) (full:=false) (off':=off) (cap':=none) (fun _=>by omega) h4 h5 h6 h7 c2 c1 (fun _=>by rw[hl0];simp) (fun e=>by cases e) (fun m hm=>by cases hm)
                rw[hl0] at this ⊢
                simpa using this
              · by_cases hlt:l.getD 0<hh.getD len
                · refine⟨ρ,_,A,by simp only[slV];rw[if_pos ⟨c1,c2⟩,if_neg hl0,if_pos hlt,hA];simp only;rw[if_pos trivial],h,Mono.refl _ _ _ _,?_,fun _ _=>⟨rfl,rfl,rfl⟩⟩
                  exact fsT (fun _=>by omega) h4 h5 h6 h7 c2 c1 (fun _=>rfl) (fun e=>by simp at e) (fun m hm=>by cases hm)
                · obtain⟨g1,g2⟩:=h.ghost (A':={ A with next:=A.next+1,tbl:=A.tbl.put none (A.next+1) A.next }) rfl (fun i=>Trie.get_put _ _ _ _ _ (Nat.lt_succ_self _))
                  have hz:hh.getD len-l.getD 0=0:=by omega
                  refine⟨ρ,_,_,by simp only[slV];rw[if_pos ⟨c1,c2⟩,if_neg hl0,if_neg hlt],g1,g2,?_,fun _ hq=>?_⟩
                  · simp only[RV]
                    rw[hz]
                    exact⟨fun _=>by omega,.inl ⟨rfl,by simp,.inr<|.inr ⟨_,_,_,rfl,fun e=>by simp at e⟩⟩⟩
                  · exfalso
                    rcases hq rfl with hq|hq|hq
                    · simp at hq
                    · exact hl0 hq
                    · rw[hz] at hq;simp[isFs0] at hq
          · cases hs
    · cases hs
theorem RVL_bytes{N:Nat}(v:List UInt8):RVL ρ N S T (v.map fun b=>AVal.i .u8 b.toNat) 2 (v.map fun b=>AVal.i .u8 b.toNat):=by
 induction v with
 | nil=>simp[RVL]
 | cons b v ih=>exact RVL_cons RV_i ih
theorem moreT(h:TR G ρ S T H A){esz n:Nat}{y y':AVal}{ys:List AVal}(hy:RV ρ H.next S T y 2 y')(hm:moreV H esz y=some (n,ys)):∃ ys',moreV A esz y'=some (n,ys')∧RVL ρ H.next S T ys 2 ys':=by
 cases y<;>simp only[moreV] at hm<;>try (cases hm;done)
 case s v=>cases hm;rw[strT hy];exact⟨_,rfl,RVL_bytes v⟩
 case ns=>cases hm;simp only[RV] at hy;subst hy;exact⟨[],rfl,by simp[RVL]⟩
 case es=>cases hm;simp only[RV] at hy;subst hy;exact⟨[],rfl,by simp[RVL]⟩
 case sl id off len cap =>
  simp only[RV] at hy
  obtain⟨_,hid,rfl⟩:=hy
  split at hm
  ·rename_i h0;cases hm;exact⟨[],by simp[moreV,h0],by simp[RVL]⟩
  ·rename_i h0
   rw[Option.map_eq_some_iff] at hm
   obtain⟨l,hl,he⟩:=hm
   cases he
   obtain⟨l',h1,h2⟩:=rowT h hid hl
   exact⟨l',by simp[moreV,h0,h1],h2⟩
 case fs tmp full len l =>
  simp only[RV] at hy
  split at hm
  ·rename_i h0
   cases hm
   obtain⟨_,⟨_,_,rfl|⟨_,rfl⟩|⟨_,_,_,rfl,_⟩⟩|⟨h1,_⟩⟩:=hy
   ·exact⟨[],rfl,by simp[RVL]⟩
   ·exact⟨[],rfl,by simp[RVL]⟩
   ·exact⟨[],by simp[moreV],by simp[RVL]⟩
   ·omega
  ·rename_i h0
   split at hm
   ·rename_i hl
    cases hm
    obtain⟨_,⟨h1,_⟩|⟨h1,id,off,cap,c,es,rfl,_,_,h4,h5,h6,h7⟩⟩:=hy
    ·omega
    ·have hes:es=esz:=by rw[h5] at hl;exact Nat.eq_of_mul_eq_mul_left h1 hl
     subst hes
     exact⟨_,by simp[moreV,h0,rowS h (look_up h4) h6],RVL_up (by omega) (Nat.le_refl _) h7⟩
   ·cases hm
end
end Go.RI
namespace Go.RI
open Go
section
variable {G:AHeap} {ρ:Nat→Nat} {S T:Stab} {H A:AHeap} {e a:Env} {lo loA:Nat}
def LoT(ρ:Nat→Nat)(H:AHeap)(lo loA:Nat):Prop:=∀ i,i<H.next→lo≤i→loA≤ρ i
theorem appBT(h:TR G ρ S T H A)(hg:G.next≤lo)(hlo:LoT ρ H lo loA){esz bytes n:Nat}{ys ys':List AVal}{x x' v:AVal}(hx:RV ρ H.next S T x 2 x')(hys:RVL ρ H.next S T ys 2 ys'){H':AHeap}(hs:appB lo H esz bytes n ys x=some (v,H')) :
    ∃ ρ' v' A',appB loA A esz bytes n ys' x'=some (v',A')∧TR G ρ' S T H' A'∧Mono ρ S H A ρ' S H' A'∧RV ρ' H'.next S T v 2 v':=by
  have hyl:=RVL_len hys
  have same:appB loA A esz bytes n ys' x'=appB loA A esz bytes n ys' x':=rfl
  have push:∀ {c c':List AVal} {k:Nat},RVL ρ H.next S T c 2 c'→∀ {r:Option (AVal×AHeap)},r=some (.sl A.next 0 k none,A.push (.cells c' esz false)) →
      ∃ ρ' v' A',r=some (v',A')∧TR G ρ' S T (H.push (.cells c esz false)) A'∧Mono ρ S H A ρ' S (H.push (.cells c esz false)) A'∧RV ρ' (H.push (.cells c esz false)).next S T (.sl H.next 0 k none) 2 v':=by
    intro c c' k hcc r hr
    obtain⟨h1,h2⟩:=pushT (esz:=esz) h hcc
    exact⟨_,_,_,hr,h1,h2,newSl⟩
  have back:∀ {r:Option (AVal×AHeap)} {v:AVal} {H':AHeap},(∃ ρ' v' A',r=some (v',A')∧TR G ρ' S T H' A'∧Mono ρ S H A ρ' S H' A'∧RV ρ' H'.next S T v 2 v')→appB loA A esz bytes n ys' x'=r →
      ∃ ρ' v' A',appB loA A esz bytes n ys' x'=some (v',A')∧TR G ρ' S T H' A'∧Mono ρ S H A ρ' S H' A'∧RV ρ' H'.next S T v 2 v':=by
    rintro r v H' ⟨ρ',v',A',h1,h2⟩ h3
    exact⟨ρ',v',A',h3.trans h1,h2⟩
  cases x<;>simp only[appB] at hs<;>try (cases hs;done)
  case ns =>
    simp only[RV] at hx
    subst hx
    split at hs
    · rename_i h0;cases hs
      exact back ⟨ρ,.ns,A,rfl,h,Mono.refl _ _ _ _,by simp only[RV]⟩ (by simp only[appB];rw[if_pos h0])
    · rename_i h0
      split at hs
      · rename_i hb;cases hs
        exact back (push hys rfl) (by simp only[appB];rw[if_neg h0,if_pos hb])
      · cases hs
  case es ad =>
    simp only[RV] at hx
    subst hx
    split at hs
    · rename_i h0;cases hs
      exact back ⟨ρ,.es ad,A,rfl,h,Mono.refl _ _ _ _,by simp only[RV]⟩ (by simp only[appB];rw[if_pos h0])
    · rename_i h0
      split at hs
      · rename_i hb;cases hs
        exact back (push hys rfl) (by simp only[appB];rw[if_neg h0,if_pos hb])
      · cases hs
  case sl id off len cap =>
    have hx0:=hx
    simp only[RV] at hx
    obtain⟨_,hid,rfl⟩:=hx
    split at hs
    · rename_i h0
      cases cap with
      | some c =>
        simp only at hs
        split at hs
        · rename_i hlc;cases hs
          exact back ⟨ρ,_,A,rfl,h,Mono.refl _ _ _ _,hx0⟩ (by simp only[appB];rw[if_pos h0,if_pos hlc])
        · cases hs
      | none =>
        simp only at hs
        cases hs
        exact back ⟨ρ,_,A,rfl,h,Mono.refl _ _ _ _,hx0⟩ (by simp only[appB];rw[if_pos h0])
    · rename_i h0
      cases cap with
      | some c =>
        simp only at hs
        split at hs
        · rename_i hfit
          split at hs
          · rename_i hle
            split at hs
            · rename_i cs esz' ro hgt
              split at hs
              · rename_i hcc
                obtain⟨rfl,hoff⟩:=hcc
                cases hs
                obtain⟨cs',h4,h5⟩:=cellsT h hid hgt
                have hl:=RVL_len h5
                obtain⟨g1,g2⟩:=h.set hid (Nat.le_trans hg hle) hgt rfl (o:=some (.cells (putCells cs (off+len*esz) ys) esz' false)) (o':=some (.cells (putCells cs' (off+len*esz) ys') esz' false))
                  (fun x hx=>by cases hx;exact⟨_,rfl,RO_cells (RVL_putCells _ h5 hys)⟩)
                exact back ⟨ρ,_,_,rfl,g1,g2,RV_sl hid⟩ (same.trans (by
                  simp only[appB]
                  rw[if_neg h0,if_pos hfit,if_pos (hlo id hid hle),h4]
                  simp only
                  rw[if_pos ⟨trivial,by rw[hl];exact hoff⟩]))
              · cases hs
            · cases hs
          · cases hs
        · rename_i hfit
          split at hs
          · rename_i hb
            split at hs
            · rename_i hl0;cases hs
              exact back (push hys rfl) (by simp only[appB];rw[if_neg h0,if_neg hfit,if_pos hb,if_pos hl0])
            · rename_i hl0
              split at hs
              · rename_i xs hxs
                cases hs
                obtain⟨xs',h1,h2⟩:=rowT h hid hxs
                exact back (push (RVL_append h2 hys) rfl) (by simp only[appB];rw[if_neg h0,if_neg hfit,if_pos hb,if_neg hl0,h1])
              · cases hs
          · cases hs
      | none =>
        simp only at hs
        split at hs
        · rename_i hcc
          split at hs
          · rename_i cs esz' ro hgt
            split at hs
            · rename_i hc3
              obtain⟨rfl,rfl,hoff⟩:=hc3
              cases hs
              obtain⟨cs',h4,h5⟩:=cellsT h hid hgt
              have hl:=RVL_len h5
              obtain⟨g1,g2⟩:=h.set hid (Nat.le_trans hg hcc.1) hgt rfl (o:=none) (o':=none) (fun x hx=>by cases hx)
              have hnew:RVL ρ (H.put id none).next S T ((cs.drop off).take (len*esz')++ys) 2 ((cs'.drop off).take (len*esz')++ys'):=RVL_append (RVL_take (RVL_drop h5 _) _) hys
              obtain⟨k1,k2⟩:=pushT (esz:=esz') g1 hnew
              exact back ⟨_,_,_,rfl,k1,g2.trans k2,newSl⟩ (same.trans (by
                simp only[appB]
                rw[if_neg h0,if_pos ⟨hlo id hid hcc.1,hcc.2⟩,h4]
                simp only
                rw[if_pos ⟨trivial,trivial,by rw[hl];exact hoff⟩]
                rfl))
            · cases hs
          · cases hs
        · cases hs
  case fs tmp full len l =>
    have hx0:=hx
    simp only[RV] at hx
    split at hs
    · rename_i h0
      cases hs
      obtain⟨hk,⟨_,_,rfl|⟨ad,rfl⟩|⟨id,off,cap,rfl,hcap⟩⟩|⟨h1,id,off,cap,c,es,rfl,_,hcap,_⟩⟩:=hx
      · exact back ⟨ρ,_,A,rfl,h,Mono.refl _ _ _ _,hx0⟩ (by simp only[appB];rw[if_pos h0])
      · exact back ⟨ρ,_,A,rfl,h,Mono.refl _ _ _ _,hx0⟩ (by simp only[appB];rw[if_pos h0])
      · refine back ⟨ρ,_,A,rfl,h,Mono.refl _ _ _ _,hx0⟩ (same.trans ?_)
        simp only[appB];rw[if_pos h0]
        cases cap<;>simp
      · refine back ⟨ρ,_,A,rfl,h,Mono.refl _ _ _ _,hx0⟩ (same.trans ?_)
        simp only[appB];rw[if_pos h0]
        cases cap with
        | none=>rfl
        | some k=>simp only;rw[if_pos (hcap k rfl)]
    · rename_i h0
      split at hs
      · rename_i hc3
        obtain⟨rfl,hll,hb⟩:=hc3
        cases hs
        obtain⟨hk,⟨rfl,rfl,rfl|⟨ad,rfl⟩|⟨id,off,cap,rfl,hcap⟩⟩|⟨h1,id,off,cap,c,es,rfl,hfull,hcap,h4,h5,h6,h7⟩⟩:=hx
        · have:=push (k:=0+n) (c:=[]++ys) (c':=[]++ys') (by simpa using hys) rfl
          refine back this (same.trans ?_)
          simp only[appB]
          rw[if_neg h0,if_pos (by simpa using hb)]
          simp
        · have:=push (k:=0+n) (c:=[]++ys) (c':=[]++ys') (by simpa using hys) rfl
          refine back this (same.trans ?_)
          simp only[appB]
          rw[if_neg h0,if_pos (by simpa using hb)]
          simp
        · have hcap0:=hcap rfl
          subst hcap0
          have:=push (k:=0+n) (c:=[]++ys) (c':=[]++ys') (by simpa using hys) rfl
          refine back this (same.trans ?_)
          simp only[appB]
          rw[if_neg h0,if_neg (by omega),if_pos hb,if_pos trivial]
          simp
        · have hcap1:=hfull rfl
          subst hcap1
          have hes:es=esz:=by rw[h5] at hll;exact Nat.eq_of_mul_eq_mul_left h1 hll
          subst hes
          have:=push (k:=len+n) (RVL_append (RVL_up (by omega) (Nat.le_refl _) h7) hys) rfl
          refine back this (same.trans ?_)
          simp only[appB]
          rw[if_neg h0,if_neg (by omega),if_pos hb,if_neg (by omega),rowS h (look_up h4) h6]
      · cases hs
theorem appT(h:TR G ρ S T H A)(hg:G.next≤lo)(hlo:LoT ρ H lo loA){esz bytes:Nat}{x x' y y' v:AVal}(hx:RV ρ H.next S T x 2 x')(hy:RV ρ H.next S T y 2 y'){H':AHeap}(hs:appV lo H esz bytes x y=some (v,H')) :
  ∃ ρ' v' A',appV loA A esz bytes x' y'=some (v',A')∧TR G ρ' S T H' A'∧Mono ρ S H A ρ' S H' A'∧RV ρ' H'.next S T v 2 v':=by
 have hs0:=hs
 unfold appV at hs
 split at hs
 ·cases hs
 rename_i n ys hmore
 obtain⟨ys',hm',hys⟩:=moreT h hy hmore
 have hyl:=RVL_len hys
 split at hs
 case isFalse=>cases hs
 rename_i hc
 have hc':ys'.length=n*esz∧0<esz∧0<bytes:=⟨by rw[hyl];exact hc.1,hc.2⟩
 rw[appV_eq hm' hc']
 rw[appV_eq hmore hc] at hs0
 exact appBT h hg hlo hx hys hs0
theorem appzT(h:TR G ρ S T H A)(hg:G.next≤lo)(hlo:LoT ρ H lo loA){esz bytes:Nat}{z:List AVal}{k:Int}{x x' v:AVal}(hz:RVL ρ H.next S T z 2 z)(hx:RV ρ H.next S T x 2 x'){H':AHeap}(hs:appzV lo H esz bytes z x k=some (v,H')) :
  ∃ ρ' v' A',appzV loA A esz bytes z x' k=some (v',A')∧TR G ρ' S T H' A'∧Mono ρ S H A ρ' S H' A'∧RV ρ' H'.next S T v 2 v':=by
 unfold appzV at hs ⊢
 split at hs
 ·rename_i hc
  rw[if_pos hc]
  exact appBT h hg hlo hx (RVL_rep hz _) hs
 ·cases hs
theorem keyCT{N:Nat}{ag:Bool}{k k':AVal}{kc:List AVal}(hk:RV ρ N S T k 2 k')(h:keyC ag k=some kc):∃ kc',keyC ag k'=some kc'∧RVL ρ N S T kc 2 kc':=by
 cases ag
 ·have:=keyC_false h;subst this
  refine⟨[k'],?_,RVL_one hk⟩
  cases k<;>simp only[keyC,Bool.false_eq_true,if_false] at h<;>(try (cases h;done))<;>simp only[RV] at hk
  case fs=>obtain⟨_,⟨_,_,rfl|⟨_,rfl⟩|⟨_,_,_,rfl,_⟩⟩|⟨_,_,_,_,_,_,rfl,_⟩⟩:=hk<;>rfl
  case fp=>obtain⟨_,_,_,_,_,rfl,_⟩:=hk;rfl
  case p=>obtain⟨_,_,rfl⟩:=hk;rfl
  case sl=>obtain⟨_,_,rfl⟩:=hk;rfl
  case m=>obtain⟨_,_,rfl⟩:=hk;rfl
  case fn=>obtain⟨_,_,rfl,_⟩:=hk;rfl
  case ifc=>obtain⟨_,rfl,_⟩:=hk;rfl
  all_goals subst hk;rfl
 ·have:=keyC_true h;subst this
  simp only[RV] at hk
  obtain⟨l',rfl,h2⟩:=hk
  exact⟨l',rfl,h2⟩
theorem findT{N:Nat}{ag:Bool}{ks:List Nat}{kc:List AVal}:∀ {es es':List (AVal×AVal)} {i:Nat} {r:Option (Nat×AVal)},REs ρ N S T es es'→findA ag ks kc es i=some r →
    ∃ r',findA ag ks kc es' i=some r'∧match r,r' with|some (j,v),some (j',v')=>j'=j∧RV ρ N S T v 2 v'|none,none=>True|_,_=>False:=by
  intro es
  induction es with
  | nil=>intro es' i r h hf;simp only[REs] at h;subst h;simp only[findA,Option.some.injEq] at hf;subst hf;exact⟨none,rfl,trivial⟩
  | cons x es ih =>
    obtain⟨k,v⟩:=x
    intro es' i r h hf
    obtain⟨k',v',es2,rfl,h1,h2,h3⟩:=h
    simp only[findA] at hf ⊢
    split at hf
    · rename_i c hc
      obtain⟨c',hc',hcc⟩:=keyCT h1 hc
      rw[hc']
      simp only
      have hkc:∀ b,eqCells ks kc c=some b→c'=c:=by
        intro b hb
        have:∀ {ks:List Nat} {x y y':List AVal} {b:Bool},eqCells ks x y=some b→RVL ρ N S T y 2 y'→y'=y:=by
          intro ks
          induction ks with
          | nil=>intro x y y' b h g;cases x<;>cases y<;>simp[eqCells] at h;simpa[RVL] using g
          | cons q ks ih =>
            intro x y y' b h g
            obtain⟨u,x1,w,y1,rfl,rfl⟩:=eqCells_step h
            simp only[RVL] at g
            obtain⟨w',y2,rfl,hw,g⟩:=g
            obtain⟨r',hr⟩:=eqCells_tail h
            have e2:=ih hr g
            have:w'=w:=by
              match q,h with
              | 0,h=>cases u<;>cases w<;>simp only[eqCells] at h<;>(try (cases h;done));exact boolT hw
              | 1,h=>cases u<;>cases w<;>simp only[eqCells] at h<;>(try (cases h;done));exact intT hw
              | 2,h=>cases u<;>cases w<;>simp only[eqCells] at h<;>(try (cases h;done));exact strT hw
              | q+3,h=>unfold eqCells at h;cases h
            rw[this,e2]
        exact this hb hcc
      split at hf
      · rename_i he
        simp only[Option.some.injEq] at hf;subst hf
        rw[hkc _ he,he]
        exact⟨some (i,v'),rfl,rfl,h2⟩
      · rename_i he
        rw[hkc _ he,he]
        exact ih h3 hf
      · cases hf
    · cases hf
theorem mapEsT(h:TR G ρ S T H A){m m':AVal}(hm:RV ρ H.next S T m 2 m'){es:List (AVal×AVal)}(he:mapEs H m=some es):∃ es',mapEs A m'=some es'∧REs ρ H.next S T es es':=by
 cases m<;>simp only[mapEs] at he<;>(try (cases he;done))<;>simp only[RV] at hm
 case nm=>cases he;subst hm;exact⟨[],rfl,by simp[REs]⟩
 case m =>
  obtain⟨_,hid,rfl⟩:=hm
  split at he
  ·rename_i es' hg
   cases he
   obtain⟨o',h1,es2,rfl,h2⟩:=h.obj _ _ hid hg
   exact⟨es2,by simp only[mapEs,h1],h2⟩
  ·cases he
theorem lookT(h:TR G ρ S T H A){ag:Bool}{ks:List Nat}{z:AVal}(hz:noId z=true){okf:Bool}{m m' k k' v:AVal}(hm:RV ρ H.next S T m 2 m')(hk:RV ρ H.next S T k 2 k')(hv:lookV H ag ks z okf m k=some v) :
    ∃ v',lookV A ag ks z okf m' k'=some v'∧RV ρ H.next S T v 2 v':=by
  unfold lookV at hv
  split at hv
  · rename_i es hes
    obtain⟨es',h1,h2⟩:=mapEsT h hm hes
    split at hv
    · rename_i kc hkc
      obtain⟨kc',h3,h4⟩:=keyCT hk hkc
      split at hv
      · rename_i hsh
        have hkk:kc'=kc:=(eqCellsT h4 h4 hsh).1
        subst hkk
        have base:lookV A ag ks z okf m' k'=(match findA ag ks kc' es' 0 with
            | some (some (_,v))=>some (if okf then .tu [v,.b true] else v)
            | some none=>some (if okf then .tu [z,.b false] else z)
            | none=>none):=by
          unfold lookV
          rw[h1,h3]
          simp only
          rw[if_pos hsh]
          rcases findA ag ks kc' es' 0 with _|_|⟨_,_⟩<;>rfl
        rw[base]
        split at hv
        · rename_i j w hf
          obtain⟨r',h5,h6⟩:=findT h2 hf
          rw[h5]
          cases r' with
          | none=>exact h6.elim
          | some p =>
            obtain⟨j',w'⟩:=p
            obtain⟨_,h6⟩:=h6
            simp only[Option.some.injEq] at hv;subst hv
            cases okf
            · exact⟨w',rfl,h6⟩
            · exact⟨_,rfl,RV_tu (RVL_cons h6 (RVL_one RV_b))⟩
        · rename_i hf
          obtain⟨r',h5,h6⟩:=findT h2 hf
          rw[h5]
          cases r' with
          | some p=>exact h6.elim
          | none =>
            simp only[Option.some.injEq] at hv;subst hv
            cases okf
            · exact⟨z,rfl,RV_noId _ hz⟩
            · exact⟨_,rfl,RV_tu (RVL_cons (RV_noId _ hz) (RVL_one RV_b))⟩
        · cases hv
      · cases hv
    · cases hv
  · cases hv
theorem REs_set{N:Nat}:∀ {es es':List (AVal×AVal)} {i:Nat} {k k' v v':AVal},REs ρ N S T es es'→RV ρ N S T k 2 k'→RV ρ N S T v 2 v'→REs ρ N S T (es.set i (k,v)) (es'.set i (k',v')):=by
  intro es
  induction es with
  | nil=>intro es' i k k' v v' h _ _;simp only[REs] at h;subst h;simp[REs]
  | cons x es ih =>
    obtain⟨p,q⟩:=x
    intro es' i k k' v v' h hk hv
    obtain⟨p',q',r,rfl,h1,h2,h3⟩:=h
    cases i with
    | zero=>exact⟨k',v',r,rfl,hk,hv,h3⟩
    | succ i=>exact⟨p',q',_,rfl,h1,h2,ih h3 hk hv⟩
theorem REs_app{N:Nat}:∀ {es es':List (AVal×AVal)} {k k' v v':AVal},REs ρ N S T es es'→RV ρ N S T k 2 k'→RV ρ N S T v 2 v'→REs ρ N S T (es++[(k,v)]) (es'++[(k',v')]):=by
  intro es
  induction es with
  | nil=>intro es' k k' v v' h hk hv;simp only[REs] at h;subst h;exact⟨k',v',[],rfl,hk,hv,rfl⟩
  | cons x es ih =>
    obtain⟨p,q⟩:=x
    intro es' k k' v v' h hk hv
    obtain⟨p',q',r,rfl,h1,h2,h3⟩:=h
    exact⟨p',q',_,rfl,h1,h2,ih h3 hk hv⟩
theorem mapupT(h:TR G ρ S T H A)(hg:G.next≤lo)(hlo:LoT ρ H lo loA){ag:Bool}{ks:List Nat}{m m' k k' v v':AVal}(hm:RV ρ H.next S T m 2 m')(hk:RV ρ H.next S T k 2 k')(hv:RV ρ H.next S T v 2 v'){H':AHeap}(hs:mapupV lo H ag ks k v m=some H') :
    ∃ A',mapupV loA A ag ks k' v' m'=some A'∧TR G ρ S T H' A'∧Mono ρ S H A ρ S H' A':=by
  cases m<;>simp only[mapupV] at hs<;>try (cases hs;done)
  rename_i id
  simp only[RV] at hm
  obtain⟨_,hid,rfl⟩:=hm
  split at hs
  · rename_i hc
    split at hs
    · rename_i es hgt
      obtain⟨o',h1,es',rfl,h2⟩:=h.obj _ _ hid hgt
      split at hs
      · rename_i kc hkc
        obtain⟨kc',h3,h4⟩:=keyCT hk hkc
        split at hs
        · rename_i hsh
          have hkk:kc'=kc:=(eqCellsT h4 h4 hsh).1
          subst hkk
          have base:mapupV loA A ag ks k' v' (.m (ρ id))=(match findA ag ks kc' es' 0 with
              | some (some (i,_))=>some (A.put (ρ id) (some (.map (es'.set i (k',v')))))
              | some none=>some (A.put (ρ id) (some (.map (es'++[(k',v')]))))
              | none=>none):=by
            simp only[mapupV]
            rw[if_pos ⟨hlo id hid hc.1,by rw[RV_tup hv];exact hc.2⟩,h1]
            simp only
            rw[h3]
            simp only
            rw[if_pos hsh]
            rcases findA ag ks kc' es' 0 with _|_|⟨_,_⟩<;>rfl
          rw[base]
          split at hs
          · rename_i i w hf
            cases hs
            obtain⟨r',h5,h6⟩:=findT h2 hf
            rw[h5]
            cases r' with
            | none=>exact h6.elim
            | some p =>
              obtain⟨j',w'⟩:=p
              obtain⟨rfl,_⟩:=h6
              obtain⟨g1,g2⟩:=h.set hid (Nat.le_trans hg hc.1) hgt rfl (o:=some (.map (es.set j' (k,v)))) (o':=some (.map (es'.set j' (k',v')))) (fun x hx=>by cases hx;exact⟨_,rfl,_,rfl,REs_set h2 hk hv⟩)
              exact⟨_,rfl,g1,g2⟩
          · rename_i hf
            cases hs
            obtain⟨r',h5,h6⟩:=findT h2 hf
            rw[h5]
            cases r' with
            | some p=>exact h6.elim
            | none =>
              obtain⟨g1,g2⟩:=h.set hid (Nat.le_trans hg hc.1) hgt rfl (o:=some (.map (es++[(k,v)]))) (o':=some (.map (es'++[(k',v')]))) (fun x hx=>by cases hx;exact⟨_,rfl,_,rfl,REs_app h2 hk hv⟩)
              exact⟨_,rfl,g1,g2⟩
          · cases hs
        · cases hs
      · cases hs
    · cases hs
  · cases hs
theorem srcLenT{N:Nat}{y y':AVal}{n:Nat}(hy:RV ρ N S T y 2 y')(h:srcLen y=some n):srcLen y'=some n:=by
 cases y<;>simp only[srcLen] at h<;>(try (cases h;done))<;>simp only[RV] at hy
 case s=>subst hy;exact h
 case ns=>subst hy;exact h
 case es=>subst hy;exact h
 case sl=>obtain⟨_,_,rfl⟩:=hy;exact h
 case fs=>cases h;obtain⟨_,⟨rfl,_,rfl|⟨_,rfl⟩|⟨_,_,_,rfl,_⟩⟩|⟨_,_,_,_,_,_,rfl,_⟩⟩:=hy<;>rfl
theorem srcCellsT(h:TR G ρ S T H A){esz n m:Nat}{y y':AVal}{ys:List AVal}(hy:RV ρ H.next S T y 2 y')(hm:srcLen y=some m)(hn:n≤m)(hn0:0<n)(hs:srcCells H esz n y=some ys):∃ ys',srcCells A esz n y'=some ys'∧RVL ρ H.next S T ys 2 ys':=by
 cases y<;>simp only[srcCells] at hs<;>try (cases hs;done)
 case s v=>cases hs;rw[strT hy];exact⟨_,rfl,RVL_bytes _⟩
 case sl id off len cap =>
  simp only[RV] at hy
  obtain⟨_,hid,rfl⟩:=hy
  exact rowT h hid hs
 case fs tmp full len l =>
  simp only[RV] at hy
  simp only[srcLen,Option.some.injEq] at hm
  subst hm
  split at hs
  ·rename_i hl
   cases hs
   obtain⟨_,⟨h1,_⟩|⟨h1,id,off,cap,c,es,rfl,_,_,h4,h5,h6,h7⟩⟩:=hy
   ·omega
   ·have hes:es=esz:=by rw[h5] at hl;exact Nat.eq_of_mul_eq_mul_left h1 hl
    subst hes
    have hle:n*es≤len*es:=Nat.mul_le_mul_right _ hn
    refine⟨_,by simp only[srcCells];exact rowS h (look_up h4) (by omega),?_⟩
    have:=RVL_take (RVL_up (k:=2) (by omega) (Nat.le_refl _) h7) (n*es)
    rw[List.take_take,Nat.min_eq_left hle] at this
    exact this
  ·cases hs
theorem cpyT(h:TR G ρ S T H A)(hg:G.next≤lo)(hlo:LoT ρ H lo loA){esz:Nat}{x x' y y' v:AVal}(hx:RV ρ H.next S T x 2 x')(hy:RV ρ H.next S T y 2 y'){H':AHeap}(hs:cpyV lo H esz x y=some (v,H')) :
    ∃ A',cpyV loA A esz x' y'=some (v,A')∧TR G ρ S T H' A'∧Mono ρ S H A ρ S H' A'∧noId v=true:=by
  unfold cpyV at hs
  split at hs
  · cases hs
  · rename_i m hm
    have hm':=srcLenT hy hm
    cases x<;>simp only at hs<;>try (cases hs;done)
    case ns =>
      cases hs
      simp only[RV] at hx
      subst hx
      exact⟨A,by unfold cpyV;rw[hm'],h,Mono.refl _ _ _ _,rfl⟩
    case es ad =>
      cases hs
      simp only[RV] at hx
      subst hx
      exact⟨A,by unfold cpyV;rw[hm'],h,Mono.refl _ _ _ _,rfl⟩
    case sl id off len cap =>
      simp only[RV] at hx
      obtain⟨_,hid,rfl⟩:=hx
      split at hs
      · rename_i h0
        cases hs
        exact⟨A,by unfold cpyV;rw[hm'];simp only;rw[if_pos h0],h,Mono.refl _ _ _ _,rfl⟩
      · rename_i h0
        split at hs
        · cases hs
        · rename_i ys hys
          obtain⟨ys',h1,h2⟩:=srcCellsT h hy hm (Nat.min_le_left _ _) (Nat.pos_of_ne_zero h0) hys
          have hyl:=RVL_len h2
          split at hs
          · rename_i hle
            split at hs
            · rename_i cs esz' ro hgt
              split at hs
              · rename_i hc
                obtain⟨rfl,c1,c2⟩:=hc
                cases hs
                obtain⟨cs',h4,h5⟩:=cellsT h hid hgt
                have hl:=RVL_len h5
                obtain⟨g1,g2⟩:=h.set hid (Nat.le_trans hg hle) hgt rfl (o:=some (.cells (putCells cs off ys) esz' false)) (o':=some (.cells (putCells cs' off ys') esz' false)) (fun x hx=>by cases hx;exact⟨_,rfl,RO_cells (RVL_putCells off h5 h2)⟩)
                refine⟨_,?_,g1,g2,rfl⟩
                unfold cpyV
                rw[hm']
                simp only
                rw[if_neg h0,h1]
                simp only
                rw[if_pos (hlo id hid hle),h4]
                simp only
                rw[if_pos ⟨trivial,by rw[hyl];exact c1,by rw[hl];exact c2⟩]
              · cases hs
            · cases hs
          · cases hs
end
end Go.RI
namespace Go.RI
open Go
section
variable {G:AHeap} {ρ:Nat→Nat} {S T:Stab} {H A:AHeap} {e a:Env} {lo loA:Nat}
theorem slT_sim(h:TR G ρ S T H A)(he:ER ρ H.next S T e a){esz:Nat}{x:Opd}{l hh m:Option Opd}(hc:(IOp.sl esz x l hh m).ck G.next=true){v:Option AVal}{H':AHeap}(hs:aop lo (.sl esz x l hh m) e H=some (v,H')):SimT G ρ S T H A (aop loA (.sl esz x l hh m) a A) v H':=by
 simp only[IOp.ck,Bool.and_eq_true] at hc
 simp only[aop] at hs ⊢
 split at hs
 ·rename_i u l1 h1 m1 hu hl1 hh1 hm1
  rw[Option.map_eq_some_iff] at hs
  obtain⟨⟨z,H1⟩,hz,hee⟩:=hs
  cases hee
  obtain⟨u',e1,e2⟩:=opdT h he hc.1 hu
  rw[e1,optT h he hc.2.1 hl1,optT h he hc.2.2.1 hh1,optT h he hc.2.2.2 hm1]
  obtain⟨ρ',w',A',k1,k2,k3,k4,_⟩:=slT h e2 hz
  exact⟨ρ',some w',A',by simp[k1],k2,k3,k4⟩
 ·cases hs
theorem dynS_T{N:Nat}{v u:AVal}{l hh m:Option Nat}(hv:RV ρ N S T v 2 u)(hd:dynS v l hh m=true):dynS u l hh m=true:=by
 unfold dynS at hd
 split at hd
 ·simp only[RV] at hv
  obtain⟨_,_,rfl⟩:=hv
  exact hd
 ·cases hd
theorem slqT_sim(h:TR G ρ S T H A)(he:ER ρ H.next S T e a){esz:Nat}{x:Opd}{l hh m:Option Opd}(hc:(IOp.slq esz x l hh m).ck G.next=true){v:Option AVal}{H':AHeap}(hs:aop lo (.slq esz x l hh m) e H=some (v,H')):SimT G ρ S T H A (aop loA (.slq esz x l hh m) a A) v H':=by
 simp only[IOp.ck,Bool.and_eq_true] at hc
 simp only[aop] at hs ⊢
 split at hs
 ·rename_i u l1 h1 m1 hu hl1 hh1 hm1
  split at hs
  ·rename_i z H1 hz
   split at hs
   ·rename_i hn
    cases hs
    obtain⟨u',e1,e2⟩:=opdT h he hc.1 hu
    rw[e1,optT h he hc.2.1 hl1,optT h he hc.2.2.1 hh1,optT h he hc.2.2.2 hm1]
    obtain⟨ρ',w',A',k1,k2,k3,k4,k5⟩:=slT h e2 hz
    obtain⟨e3,e4,e5⟩:=k5 hn.1 hn.2
    subst e3;subst e4
    simp only[k1]
    refine⟨ρ',some w',A',by simp[e5],h,Mono.refl _ _ _ _,?_⟩
    rw[hn.1] at k4
    exact k4
   ·split at hs
    ·rename_i hdy
     cases hs
     obtain⟨u',e1,e2⟩:=opdT h he hc.1 hu
     rw[e1,optT h he hc.2.1 hl1,optT h he hc.2.2.1 hh1,optT h he hc.2.2.2 hm1]
     obtain⟨ρ',w',A',k1,k2,k3,k4,_⟩:=slT h e2 hz
     have hdy':=dynS_T e2 hdy
     obtain⟨g1,_⟩:=dynS_slV hdy' k1
     simp only[k1]
     refine⟨ρ',some w',A',?_,k2,k3,k4⟩
     have hnx:¬(A'.next=A.next):=by
      have:A'=ghostH A:=congrArg Prod.snd g1
      rw[this];intro h;have:A.next+1=A.next:=h;omega
     rw[if_neg (fun h=>hnx h.1),if_pos hdy']
    ·cases hs
  ·cases hs
 ·cases hs
theorem aopT(h:TR G ρ S T H A)(hg:G.next≤lo)(hlo:LoT ρ H lo loA)(he:ER ρ H.next S T e a){o:IOp}(hc:o.ck G.next=true){v:Option AVal}{H':AHeap}(hs:aop lo o e H=some (v,H')):SimT G ρ S T H A (aop loA o a A) v H':=by
 cases o
 case sl esz x l hh m=>exact slT_sim h he hc hs
 case slq esz x l hh m=>exact slqT_sim h he hc hs
 all_goals simp only[IOp.ck,Bool.and_eq_true] at hc
 case bad=>simp[aop] at hs
 case call f l=>simp[aop] at hs
 case callv x l=>simp[aop] at hs
 case inv x tbl l=>simp[aop] at hs
 case mov x =>
  simp only[aop,Option.map_eq_some_iff] at hs ⊢
  obtain⟨u,hu,hee⟩:=hs;cases hee
  obtain⟨u',e1,e2⟩:=opdT h he hc hu
  exact simT_val h (by simp[e1]) e2
 case pick c x y =>
  simp only[aop] at hs ⊢
  split at hs
  ·rename_i hcv
   simp only[Option.map_eq_some_iff] at hs
   obtain⟨u,hu,hee⟩:=hs;cases hee
   obtain⟨c',e1,e2⟩:=opdT h he hc.1 hcv
   obtain⟨u',e3,e4⟩:=opdT h he hc.2.1 hu
   rw[e1,boolT e2]
   exact simT_val h (by simp[e3]) e4
  ·rename_i hcv
   simp only[Option.map_eq_some_iff] at hs
   obtain⟨u,hu,hee⟩:=hs;cases hee
   obtain⟨c',e1,e2⟩:=opdT h he hc.1 hcv
   obtain⟨u',e3,e4⟩:=opdT h he hc.2.2 hu
   rw[e1,boolT e2]
   exact simT_val h (by simp[e3]) e4
  ·cases hs
 case bin op x y =>
  simp only[aop] at hs ⊢
  split at hs
  ·rename_i u1 u2 h1 h2
   simp only[Option.map_eq_some_iff] at hs
   obtain⟨w,hw,hee⟩:=hs;cases hee
   obtain⟨x',e1,e2⟩:=opdT h he hc.1 h1
   obtain⟨y',e3,e4⟩:=opdT h he hc.2 h2
   obtain⟨e5,e6⟩:=binT e2 e4 hw
   rw[e1,e3]
   exact simT_val h (by simp[e5]) (RV_noId _ e6)
  ·cases hs
 case eqB neg x y =>
  simp only[aop] at hs ⊢
  split at hs
  ·rename_i u1 u2 h1 h2
   cases hs
   obtain⟨x',e1,e2⟩:=opdT h he hc.1 h1
   obtain⟨y',e3,e4⟩:=opdT h he hc.2 h2
   rw[e1,e3,boolT e2,boolT e4]
   exact simT_val h rfl RV_b
  ·cases hs
 case eqNil k neg x y =>
  simp only[aop] at hs ⊢
  split at hs
  ·rename_i u1 u2 h1 h2
   simp only[Option.map_map,Option.map_eq_some_iff] at hs
   obtain⟨w,hw,hee⟩:=hs;cases hee
   obtain⟨x',e1,e2⟩:=opdT h he hc.1 h1
   obtain⟨y',e3,e4⟩:=opdT h he hc.2 h2
   have:eqNilV k x' y'=some w:=by
    unfold eqNilV at hw ⊢
    split at hw
    ·rename_i hn1 hn2;rw[nilT e2 hn1,nilT e4 hn2];exact hw
    ·rename_i hn1 hn2;rw[nilT e2 hn1,nilT e4 hn2];exact hw
    ·cases hw
   rw[e1,e3]
   exact simT_val h (by simp[this]) RV_b
  ·cases hs
 case eqAg ks neg x y =>
  simp only[aop] at hs ⊢
  split at hs
  ·rename_i u1 u2 h1 h2
   simp only[Option.map_map,Option.map_eq_some_iff] at hs
   obtain⟨w,hw,hee⟩:=hs;cases hee
   obtain⟨x',e1,e2⟩:=opdT h he hc.1 h1
   obtain⟨y',e3,e4⟩:=opdT h he hc.2 h2
   simp only[RV] at e2 e4
   obtain⟨l1,rfl,e2⟩:=e2
   obtain⟨l2,rfl,e4⟩:=e4
   obtain⟨k1,k2⟩:=eqCellsT e2 e4 hw
   subst k1;subst k2
   rw[e1,e3]
   exact simT_val h (by simp[hw]) RV_b
  ·cases hs
 case un op x =>
  simp only[aop,Option.map_eq_some_iff,Option.bind_eq_some_iff] at hs ⊢
  obtain⟨w,⟨u,hu,hw⟩,hee⟩:=hs;cases hee
  obtain⟨x',e1,e2⟩:=opdT h he hc hu
  obtain⟨e5,e6⟩:=unT e2 hw
  exact simT_val h (by simp[e1,e5]) (RV_noId _ e6)
 case conv k x =>
  simp only[aop] at hs ⊢
  split at hs
  ·rename_i q n hu
   cases hs
   obtain⟨x',e1,e2⟩:=opdT h he hc hu
   rw[e1,intT e2]
   exact simT_val h rfl RV_i
  ·cases hs
 case same x =>
  simp only[aop] at hs ⊢
  split at hs
  ·rename_i v hu
   cases hs
   obtain⟨x',e1,e2⟩:=opdT h he hc hu
   rw[e1,strT e2]
   exact simT_val h rfl (RV_noId _ rfl)
  ·cases hs
 case alloc z =>
  simp only[aop] at hs ⊢
  cases hs
  exact simT_push h (RV_noId.RVL_noId z hc) rfl newP
 case box x =>
  simp only[aop] at hs ⊢
  split at hs
  ·rename_i v hu
   split at hs
   ·rename_i ht
    cases hs
    obtain⟨x',e1,e2⟩:=opdT h he hc hu
    rw[e1]
    simp only
    rw[if_pos (by rw[RV_tup e2];exact ht)]
    exact simT_push h (RV_cells e2) rfl newP
   ·cases hs
  ·cases hs
 case build z ps =>
  simp only[aop] at hs ⊢
  split at hs
  ·rename_i vs hps
   simp only[Option.map_map,Option.map_eq_some_iff] at hs
   obtain⟨cs,hcs,hee⟩:=hs;cases hee
   obtain⟨us,e1,e2⟩:=partsT h he hc.2 hps
   obtain⟨cs',e3,e4⟩:=fillT e2 (RV_noId.RVL_noId z hc.1) hcs
   rw[e1]
   exact simT_val h (by simp[e3]) (RV_ag e4)
  ·cases hs
 case bsl esz len z ps =>
  simp only[aop] at hs ⊢
  split at hs
  ·rename_i vs hps
   split at hs
   ·rename_i cs hcs
    cases hs
    obtain⟨us,e1,e2⟩:=partsT h he hc.2 hps
    obtain⟨cs',e3,e4⟩:=fillT e2 (RV_noId.RVL_noId z hc.1) hcs
    rw[e1]
    simp only[e3]
    exact simT_push h e4 rfl newSl
   ·cases hs
  ·cases hs
 case load n x =>
  simp only[aop,Option.map_eq_some_iff,Option.bind_eq_some_iff] at hs ⊢
  obtain⟨w,⟨u,hu,hw⟩,hee⟩:=hs;cases hee
  obtain⟨x',e1,e2⟩:=opdT h he hc hu
  obtain⟨w',e3,e4⟩:=loadT h e2 hw
  exact simT_val h (by simp[e1,e3]) e4
 case store n x y =>
  simp only[aop] at hs ⊢
  split at hs
  ·rename_i u1 u2 h1 h2
   simp only[Option.map_eq_some_iff] at hs
   obtain⟨H1,hw,hee⟩:=hs;cases hee
   obtain⟨x',e1,e2⟩:=opdT h he hc.1 h1
   obtain⟨y',e3,e4⟩:=opdT h he hc.2 h2
   obtain⟨A2,k4,k5,k6⟩:=storeT h e2 e4 (loA:=loA) (lo:=lo) hg hlo hw
   rw[e1,e3]
   exact⟨ρ,none,A2,by simp[k4],k5,k6,trivial⟩
  ·cases hs
 case nck x =>
  simp only[aop] at hs ⊢
  split at hs
  ·rename_i id off hu
   cases hs
   obtain⟨x',e1,e2⟩:=opdT h he hc hu
   have e2':=e2
   simp only[RV] at e2
   obtain⟨_,_,rfl⟩:=e2
   rw[e1]
   exact simT_val h rfl e2'
  ·rename_i f p q hu
   cases hs
   obtain⟨x',e1,e2⟩:=opdT h he hc hu
   have e2':=e2
   simp only[RV] at e2
   obtain⟨_,_,rfl,_⟩:=e2
   rw[e1]
   exact simT_val h rfl e2'
  ·rename_i t u hu
   cases hs
   obtain⟨x',e1,e2⟩:=opdT h he hc hu
   have e2':=e2
   simp only[RV] at e2
   obtain⟨_,rfl,_⟩:=e2
   rw[e1]
   exact simT_val h rfl e2'
  ·rename_i l hu
   cases hs
   obtain⟨x',e1,e2⟩:=opdT h he hc hu
   have e2':=e2
   simp only[RV] at e2
   obtain⟨_,_,_,_,_,rfl,_⟩:=e2
   rw[e1]
   exact simT_val h rfl e2'
  ·cases hs
 case off x k =>
  simp only[aop,Option.map_eq_some_iff,Option.bind_eq_some_iff] at hs ⊢
  obtain⟨w,⟨u,hu,hw⟩,hee⟩:=hs;cases hee
  obtain⟨x',e1,e2⟩:=opdT h he hc hu
  obtain⟨w',e3,e4⟩:=offT e2 hw
  exact simT_val h (by simp[e1,e3]) e4
 case part n x k =>
  simp only[aop,Option.map_eq_some_iff,Option.bind_eq_some_iff] at hs ⊢
  obtain⟨w,⟨u,hu,hw⟩,hee⟩:=hs;cases hee
  obtain⟨x',e1,e2⟩:=opdT h he hc hu
  obtain⟨w',e3,e4⟩:=partT e2 hw
  exact simT_val h (by simp[e1,e3]) e4
 case iaddr esz x y =>
  simp only[aop] at hs ⊢
  split at hs
  ·rename_i u1 u2 h1 h2
   simp only[Option.map_eq_some_iff] at hs
   obtain⟨w,hw,hee⟩:=hs;cases hee
   obtain⟨x',e1,e2⟩:=opdT h he hc.1 h1
   obtain⟨y',e3,e4⟩:=opdT h he hc.2 h2
   obtain⟨w',e5,e6⟩:=iaddrT e2 e4 hw
   rw[e1,e3]
   exact simT_val h (by simp[e5]) e6
  ·cases hs
 case iaddrA esz len x y =>
  simp only[aop] at hs ⊢
  split at hs
  ·rename_i u1 u2 h1 h2
   simp only[Option.map_eq_some_iff] at hs
   obtain⟨w,hw,hee⟩:=hs;cases hee
   obtain⟨x',e1,e2⟩:=opdT h he hc.1 h1
   obtain⟨y',e3,e4⟩:=opdT h he hc.2 h2
   obtain⟨w',e5,e6⟩:=iaddrAT e2 e4 hw
   rw[e1,e3]
   exact simT_val h (by simp[e5]) e6
  ·cases hs
 case idxS x y =>
  simp only[aop] at hs ⊢
  split at hs
  ·rename_i u1 u2 h1 h2
   simp only[Option.map_eq_some_iff] at hs
   obtain⟨w,hw,hee⟩:=hs;cases hee
   obtain⟨x',e1,e2⟩:=opdT h he hc.1 h1
   obtain⟨y',e3,e4⟩:=opdT h he hc.2 h2
   cases u1<;>cases u2<;>simp only[idxSV] at hw<;>try (cases hw;done)
   rw[e1,e3,strT e2,intT e4]
   have hw2:=hw
   split at hw
   ·rw[Option.map_eq_some_iff] at hw
    obtain⟨c,_,rfl⟩:=hw
    exact simT_val h (by simp only[idxSV,hw2];rfl) RV_i
   ·cases hw
  ·cases hs
 case idxA n esz len x y =>
  simp only[aop] at hs ⊢
  split at hs
  ·rename_i u1 u2 h1 h2
   simp only[Option.map_eq_some_iff] at hs
   obtain⟨w,hw,hee⟩:=hs;cases hee
   obtain⟨x',e1,e2⟩:=opdT h he hc.1 h1
   obtain⟨y',e3,e4⟩:=opdT h he hc.2 h2
   obtain⟨w',e5,e6⟩:=idxAT e2 e4 hw
   rw[e1,e3]
   exact simT_val h (by simp[e5]) e6
  ·cases hs
 case ext x k =>
  simp only[aop,Option.map_eq_some_iff,Option.bind_eq_some_iff] at hs ⊢
  obtain⟨w,⟨u,hu,hw⟩,hee⟩:=hs;cases hee
  obtain⟨x',e1,e2⟩:=opdT h he hc hu
  obtain⟨w',e3,e4⟩:=extT e2 hw
  exact simT_val h (by simp[e1,e3]) e4
 case mkf f p q =>
  simp only[aop] at hs ⊢
  split at hs
  ·rename_i u1 u2 h1 h2
   cases hs
   obtain⟨x',e1,e2⟩:=opdsT h he hc.1 h1
   obtain⟨y',e3,e4⟩:=opdsT h he hc.2 h2
   rw[e1,e3]
   exact simT_val h rfl (by simp only[RV];exact⟨_,_,rfl,e2,e4⟩)
  ·cases hs
 case mksl esz bytes z x y =>
  simp only[aop] at hs ⊢
  split at hs
  ·rename_i q1 n q2 m h1 h2
   split at hs
   ·rename_i hcc
    cases hs
    obtain⟨x',e1,e2⟩:=opdT h he hc.2.1 h1
    obtain⟨y',e3,e4⟩:=opdT h he hc.2.2 h2
    rw[e1,e3,intT e2,intT e4]
    simp only
    rw[if_pos hcc]
    exact simT_push h (RVL_rep (RV_noId.RVL_noId z hc.1) _) rfl newSl
   ·cases hs
  ·cases hs
 case slS x l hh =>
  simp only[aop] at hs ⊢
  split at hs
  ·rename_i u l1 h1 hu hl1 hh1
   simp only[Option.map_eq_some_iff] at hs
   obtain⟨w,hw,hee⟩:=hs;cases hee
   obtain⟨u',e1,e2⟩:=opdT h he hc.1 hu
   rw[e1,strT e2,optT h he hc.2.1 hl1,optT h he hc.2.2 hh1]
   have hw2:=hw
   simp only[slSV] at hw
   split at hw
   ·cases hw;exact simT_val h (by simp[hw2]) (RV_noId _ rfl)
   ·cases hw
  ·cases hs
 case lenk k x =>
  simp only[aop,Option.map_map,Option.map_eq_some_iff,Option.bind_eq_some_iff] at hs ⊢
  obtain⟨n,⟨u,hu,hn⟩,hee⟩:=hs;cases hee
  obtain⟨x',e1,e2⟩:=opdT h he hc hu
  have:=lenT h e2 hn
  exact simT_val h (by simp[e1,this]) RV_i
 case app esz bytes x y =>
  simp only[aop] at hs ⊢
  split at hs
  ·rename_i u1 u2 h1 h2
   rw[Option.map_eq_some_iff] at hs
   obtain⟨⟨w,H1⟩,hw,hee⟩:=hs;cases hee
   obtain⟨x',e1,e2⟩:=opdT h he hc.1 h1
   obtain⟨y',e3,e4⟩:=opdT h he hc.2 h2
   rw[e1,e3]
   obtain⟨ρ',w',A',k1,k2,k3,k4⟩:=appT h hg hlo e2 e4 hw
   exact⟨ρ',some w',A',by simp[k1],k2,k3,k4⟩
  ·cases hs
 case appz esz bytes z x y =>
  simp only[aop] at hs ⊢
  split at hs
  ·rename_i u1 q k h1 h2
   rw[Option.map_eq_some_iff] at hs
   obtain⟨⟨w,H1⟩,hw,hee⟩:=hs;cases hee
   obtain⟨x',e1,e2⟩:=opdT h he hc.2.1 h1
   obtain⟨y',e3,e4⟩:=opdT h he hc.2.2 h2
   rw[e1,e3,intT e4]
   obtain⟨ρ',w',A',k1,k2,k3,k4⟩:=appzT h hg hlo (RV_noId.RVL_noId z hc.1) e2 hw
   exact⟨ρ',some w',A',by simp[k1],k2,k3,k4⟩
  ·cases hs
 case mm mx x l =>
  simp only[aop] at hs ⊢
  split at hs
  ·rename_i u us hu hus
   simp only[Option.map_eq_some_iff] at hs
   obtain⟨w,hw,hee⟩:=hs;cases hee
   obtain⟨x',e1,e2⟩:=opdT h he hc.1 hu
   obtain⟨y',e3,e4⟩:=opdsT h he hc.2 hus
   obtain⟨w',e5,e6⟩:=mmT e2 e4 hw
   rw[e1,e3]
   exact simT_val h (by simp[e5]) e6
  ·cases hs
 case iface t x =>
  simp only[aop,Option.map_map,Option.map_eq_some_iff] at hs ⊢
  obtain⟨u,hu,hee⟩:=hs;cases hee
  obtain⟨x',e1,e2⟩:=opdT h he hc hu
  exact simT_val (u:=.ifc t x') h (by simp[e1]) (by simp only[RV];exact⟨x',rfl,e2⟩)
 case s2b x =>
  simp only[aop] at hs ⊢
  split at hs
  ·rename_i v hu
   cases hs
   obtain⟨x',e1,e2⟩:=opdT h he hc hu
   rw[e1,strT e2]
   exact simT_push h (RVL_bytes v) rfl newSl
  ·cases hs
 case mkmap =>
  simp only[aop] at hs ⊢
  cases hs
  obtain⟨g1,g2⟩:=h.push (H':=H.push (.map [])) (A':=A.push (.map [])) (o:=some (.map [])) (o':=some (.map [])) rfl rfl (fun i=>AHeap.get_push H i _) (fun i=>AHeap.get_push A i _) (fun x hx=>by cases hx;exact⟨_,rfl,[],rfl,rfl⟩)
  refine⟨_,some (.m A.next),_,rfl,g1,g2,?_⟩
  have:=RV_m (ρ:=updN ρ H.next A.next) (N:=H.next+1) (S:=S) (T:=T) (id:=H.next) (by omega)
  rwa [updN_same] at this
 case mapup ag ks x k v =>
  simp only[aop] at hs ⊢
  split at hs
  ·rename_i m kk u hm hk hu
   rw[Option.map_eq_some_iff] at hs
   obtain⟨H1,hw,hee⟩:=hs;cases hee
   obtain⟨x',e1,e2⟩:=opdT h he hc.1 hm
   obtain⟨y',e3,e4⟩:=opdT h he hc.2.1 hk
   obtain⟨z',e5,e6⟩:=opdT h he hc.2.2 hu
   obtain⟨A',k1,k2,k3⟩:=mapupT h hg hlo e2 e4 e6 hw
   rw[e1,e3,e5]
   exact⟨ρ,none,A',by simp[k1],k2,k3,trivial⟩
  ·cases hs
 case look ag ks z okf x k =>
  simp only[aop] at hs ⊢
  split at hs
  ·rename_i m kk hm hk
   simp only[Option.map_eq_some_iff] at hs
   obtain⟨w,hw,hee⟩:=hs;cases hee
   obtain⟨x',e1,e2⟩:=opdT h he hc.2.1 hm
   obtain⟨y',e3,e4⟩:=opdT h he hc.2.2 hk
   obtain⟨w',e5,e6⟩:=lookT h hc.1 e2 e4 hw
   rw[e1,e3]
   exact simT_val h (by simp[e5]) e6
  ·cases hs
 case cpy esz x y =>
  simp only[aop] at hs ⊢
  split at hs
  ·rename_i u1 u2 h1 h2
   rw[Option.map_eq_some_iff] at hs
   obtain⟨⟨w,H1⟩,hw,hee⟩:=hs;cases hee
   obtain⟨x',e1,e2⟩:=opdT h he hc.1 h1
   obtain⟨y',e3,e4⟩:=opdT h he hc.2 h2
   rw[e1,e3]
   obtain⟨A',k1,k2,k3,k4⟩:=cpyT h hg hlo e2 e4 hw
   exact⟨ρ,some w,A',by simp[k1],k2,k3,RV_noId _ k4⟩
  ·cases hs
end
end Go.RI
namespace Go.RI
open Go
def ckRe(g:Nat):List (Nat×IOp×Option (Nat×Bool))→Bool
 | []=>true
 | (_,o,_)::l=>o.ck g&&ckRe g l
def ckI(g:Nat):List Item→Bool
 | []=>true
 | x::l=>x.op.ck g&&(ckRe g x.re&&ckI g l)
def ckC(g:Nat):ICode→Bool
 | .skip|.exit _|.ret=>true
 | .region xs _=>ckI g xs
 | .seq a b=>ckC g a&&ckC g b
 | .cond c a b=>c.ck g&&(ckC g a&&ckC g b)
 | .block _ b=>ckC g b
 | .loop b=>ckC g b
section
variable {G:AHeap} {ρ:Nat→Nat} {S T:Stab} {H A:AHeap} {e a:Env} {lo loA:Nat}
mutual
theorem same_RV{N:Nat}{k:Nat}:∀(v v' u u':AVal),same v v'=true→RV ρ N S T v k u→RV ρ N S T v' k u'→same u u'=true
  | .b _,v',u,u',h,h1,h2=>by cases v'<;>simp only[same] at h<;>(try (cases h;done));rw[boolT h1,boolT h2];simpa[same] using h
  | .i _ _,v',u,u',h,h1,h2=>by cases v'<;>simp only[same] at h<;>(try (cases h;done));rw[intT h1,intT h2];simpa[same] using h
  | .s _,v',u,u',h,h1,h2=>by cases v'<;>simp only[same] at h<;>(try (cases h;done));rw[strT h1,strT h2];simpa[same] using h
  | .np,v',u,u',h,h1,h2=>by cases v'<;>simp only[same] at h<;>(try (cases h;done));simp only[RV] at h1 h2;subst h1 h2;rfl
  | .ns,v',u,u',h,h1,h2=>by cases v'<;>simp only[same] at h<;>(try (cases h;done));simp only[RV] at h1 h2;subst h1 h2;rfl
  | .nf,v',u,u',h,h1,h2=>by cases v'<;>simp only[same] at h<;>(try (cases h;done));simp only[RV] at h1 h2;subst h1 h2;rfl
  | .nm,v',u,u',h,h1,h2=>by cases v'<;>simp only[same] at h<;>(try (cases h;done));simp only[RV] at h1 h2;subst h1 h2;rfl
  | .es _,v',u,u',h,h1,h2=>by cases v'<;>simp only[same] at h<;>(try (cases h;done));simp only[RV] at h1 h2;subst h1 h2;simpa[same] using h
  | .nif,v',u,u',h,h1,h2=>by cases v'<;>simp only[same] at h<;>(try (cases h;done));simp only[RV] at h1 h2;subst h1 h2;rfl
  | .p id off,v',u,u',h,h1,h2=>by
    cases v'<;>simp only[same] at h<;>(try (cases h;done))
    simp only[Bool.and_eq_true,beq_iff_eq] at h
    obtain⟨rfl,rfl⟩:=h
    simp only[RV] at h1 h2
    obtain⟨_,_,rfl⟩:=h1;obtain⟨_,_,rfl⟩:=h2
    simp[same]
  | .sl id off len cap,v',u,u',h,h1,h2=>by
    cases v'<;>simp only[same] at h<;>(try (cases h;done))
    simp only[Bool.and_eq_true,beq_iff_eq] at h
    obtain⟨⟨⟨rfl,rfl⟩,rfl⟩,rfl⟩:=h
    simp only[RV] at h1 h2
    obtain⟨_,_,rfl⟩:=h1;obtain⟨_,_,rfl⟩:=h2
    simp[same]
  | .m id,v',u,u',h,h1,h2=>by
    cases v'<;>simp only[same] at h<;>(try (cases h;done))
    simp only[beq_iff_eq] at h
    subst h
    simp only[RV] at h1 h2
    obtain⟨_,_,rfl⟩:=h1;obtain⟨_,_,rfl⟩:=h2
    simp[same]
  | .fn f p q,v',u,u',h,h1,h2=>by
    cases v'<;>simp only[same] at h<;>(try (cases h;done))
    simp only[Bool.and_eq_true] at h
    simp only[RV] at h1 h2
    obtain⟨a1,c1,rfl,g1,g2⟩:=h1;obtain⟨a2,c2,rfl,g3,g4⟩:=h2
    simp only[same,Bool.and_eq_true]
    exact⟨⟨h.1.1,same_RVL _ _ _ _ h.1.2 g1 g3⟩,same_RVL _ _ _ _ h.2 g2 g4⟩
  | .ag l,v',u,u',h,h1,h2=>by
    cases v'<;>simp only[same] at h<;>(try (cases h;done))
    simp only[RV] at h1 h2
    obtain⟨a1,rfl,g1⟩:=h1;obtain⟨a2,rfl,g3⟩:=h2
    simp only[same]
    exact same_RVL _ _ _ _ h g1 g3
  | .tu l,v',u,u',h,h1,h2=>by
    cases v'<;>simp only[same] at h<;>(try (cases h;done))
    simp only[RV] at h1 h2
    obtain⟨a1,rfl,g1⟩:=h1;obtain⟨a2,rfl,g3⟩:=h2
    simp only[same]
    exact same_RVL _ _ _ _ h g1 g3
  | .ifc t v,v',u,u',h,h1,h2=>by
    cases v'<;>simp only[same] at h<;>(try (cases h;done))
    simp only[Bool.and_eq_true] at h
    simp only[RV] at h1 h2
    obtain⟨a1,rfl,g1⟩:=h1;obtain⟨a2,rfl,g3⟩:=h2
    simp only[same,Bool.and_eq_true]
    exact⟨h.1,same_RV _ _ _ _ h.2 g1 g3⟩
  | .fs _ _ _ _,v',u,u',h,h1,h2=>by cases v'<;>simp[same] at h
  | .fp _,v',u,u',h,h1,h2=>by cases v'<;>simp[same] at h
theorem same_RVL{N:Nat}{k:Nat}:∀(l l' m m':List AVal),sameL l l'=true→RVL ρ N S T l k m→RVL ρ N S T l' k m'→sameL m m'=true
  | [],l',m,m',h,h1,h2=>by
    cases l' with
    | nil=>simp only[RVL] at h1 h2;subst h1 h2;rfl
    | cons _ _=>simp[sameL] at h
  | v::l,l',m,m',h,h1,h2=>by
    cases l' with
    | nil=>simp[sameL] at h
    | cons v' l' =>
      simp only[sameL,Bool.and_eq_true] at h
      simp only[RVL] at h1 h2
      obtain⟨u,r,rfl,g1,g2⟩:=h1;obtain⟨u',r',rfl,g3,g4⟩:=h2
      simp only[sameL,Bool.and_eq_true]
      exact⟨same_RV _ _ _ _ h.1 g1 g3,same_RVL _ _ _ _ h.2 g2 g4⟩
end
theorem wantedT(he:ER ρ H.next S T e a){g:Option (Nat×Bool)}{b:Bool}(h:wantedI e g=some b):wantedI a g=some b:=by
  cases g with
  | none=>exact h
  | some x =>
    obtain⟨t,want⟩:=x
    simp only[wantedI] at h ⊢
    split at h
    · rename_i b' hv
      obtain⟨u,h1,h2⟩:=he t _ hv
      rw[h1,boolT h2];exact h
    · rename_i v hnb hv
      obtain⟨u,h1,h2⟩:=he t _ hv
      rw[h1]
      have:∀ b,u≠.b b:=by
        intro b hb
        subst hb
        cases v<;>simp only[RV] at h2
        case b=>exact hnb _ rfl
        case fs=>obtain⟨_,⟨_,_,h2|⟨_,h2⟩|⟨_,_,_,h2,_⟩⟩|⟨_,_,_,_,_,_,h2,_⟩⟩:=h2<;>cases h2
        case fp=>obtain⟨_,_,_,_,_,h2,_⟩:=h2;cases h2
        case p=>obtain⟨_,_,h2⟩:=h2;cases h2
        case sl=>obtain⟨_,_,h2⟩:=h2;cases h2
        case m=>obtain⟨_,_,h2⟩:=h2;cases h2
        case fn=>obtain⟨_,_,h2,_⟩:=h2;cases h2
        case ag=>obtain⟨_,h2,_⟩:=h2;cases h2
        case tu=>obtain⟨_,h2,_⟩:=h2;cases h2
        case ifc=>obtain⟨_,h2,_⟩:=h2;cases h2
        all_goals cases h2
      cases u<;>first
        | exact h
        | (exact(this _ rfl).elim)
    · cases h
theorem dynE_T(h:TR G ρ S T H A)(he:ER ρ H.next S T e a){o:IOp}(hc:o.ck G.next=true)(hd:dynE o e=true):dynE o a=true:=by
 cases o<;>simp only[dynE] at hd ⊢<;>try (cases hd;done)
 case slq esz x l hh m =>
  simp only[IOp.ck,Bool.and_eq_true] at hc
  split at hd
  ·rename_i v l1 h1 m1 hu hl1 hh1 hm1
   obtain⟨u',e1,e2⟩:=opdT h he hc.1 hu
   rw[e1,optT h he hc.2.1 hl1,optT h he hc.2.2.1 hh1,optT h he hc.2.2.2 hm1]
   exact dynS_T e2 hd
  ·cases hd
mutual
theorem same_RVr{ρ:Nat→Nat}{N:Nat}{S T:Stab}:∀(v:AVal) (k:Nat) (u:AVal),RV ρ N S T v k u→same u u=true
  | .p id off,k,u,h=>by simp only[RV] at h;rw[h.2.2];simp[same]
  | .sl id off len cap,k,u,h=>by simp only[RV] at h;rw[h.2.2];simp[same]
  | .m id,k,u,h=>by simp only[RV] at h;rw[h.2.2];simp[same]
  | .fn f a c,k,u,h=>by
    simp only[RV] at h
    obtain⟨a',c',rfl,h1,h2⟩:=h
    simp[same,same_RVLr a k a' h1,same_RVLr c k c' h2]
  | .ag l,k,u,h=>by simp only[RV] at h;obtain⟨l',rfl,h1⟩:=h;simp[same,same_RVLr l k l' h1]
  | .tu l,k,u,h=>by simp only[RV] at h;obtain⟨l',rfl,h1⟩:=h;simp[same,same_RVLr l k l' h1]
  | .ifc t v,k,u,h=>by simp only[RV] at h;obtain⟨v',rfl,h1⟩:=h;simp[same,same_RVr v k v' h1]
  | .fs tmp full len l,k,u,h=>by
    simp only[RV] at h
    obtain⟨_,⟨_,_,rfl|⟨_,rfl⟩|⟨_,_,_,rfl,_⟩⟩|⟨_,_,_,_,_,_,rfl,_⟩⟩:=h<;>simp[same]
  | .fp l,k,u,h=>by simp only[RV] at h;obtain⟨_,_,_,_,_,rfl,_⟩:=h;simp[same]
  | .b _,k,u,h=>by simp only[RV] at h;rw[h];simp[same]
  | .i _ _,k,u,h=>by simp only[RV] at h;rw[h];simp[same]
  | .s _,k,u,h=>by simp only[RV] at h;rw[h];simp[same]
  | .np,k,u,h=>by simp only[RV] at h;rw[h];simp[same]
  | .ns,k,u,h=>by simp only[RV] at h;rw[h];simp[same]
  | .nf,k,u,h=>by simp only[RV] at h;rw[h];simp[same]
  | .nm,k,u,h=>by simp only[RV] at h;rw[h];simp[same]
  | .nif,k,u,h=>by simp only[RV] at h;rw[h];simp[same]
  | .es _,k,u,h=>by simp only[RV] at h;rw[h];simp[same]
theorem same_RVLr{ρ:Nat→Nat}{N:Nat}{S T:Stab}:∀(l:List AVal) (k:Nat) (l':List AVal),RVL ρ N S T l k l'→sameL l' l'=true
  | [],k,l',h=>by simp only[RVL] at h;rw[h];rfl
  | v::l,k,l',h=>by
    simp only[RVL] at h
    obtain⟨u,r,rfl,h1,h2⟩:=h
    simp[sameL,same_RVr v k u h1,same_RVLr l k r h2]
end
theorem look_mono{S S' T:Stab}(hs:∀ id x,S id=some x→S' id=some x){id:Nat}{x:List AVal×Nat}(hn:S id=none→S' id=none)(h:look true S T id=some x):look true S' T id=some x:=by
 unfold look at h ⊢
 cases hS:S id with
 | some y=>rw[hS] at h;rw[hs id y hS];exact h
 | none=>rw[hS] at h;rw[hn hS];exact h
theorem ldT{ρ1:Nat→Nat}{S1:Stab}{H1 A1:AHeap}{dst:Option Nat}{o:IOp}(h0:TR G ρ S T H A)(he0:ER ρ H.next S T e a)(m:Mono ρ S H A ρ1 S1 H1 A1)(h:TR G ρ1 S1 T H1 A1)(hr:ldE o dst e H H1=true):ldE o dst a A A1=true:=by
 unfold ldE at hr ⊢
 split at hr
 ·rename_i n s
  rw[Bool.and_eq_true] at hr ⊢
  refine⟨hr.1,?_⟩
  have hp:=hr.2
  split at hp
  ·rename_i lp hs
   obtain⟨up,g1,g2⟩:=he0 s _ hs
   obtain⟨v,hv⟩:=Option.isSome_iff_exists.1 hp
   obtain⟨u,q2,q3⟩:=loadT h0 g2 hv
   simp only[RV] at g2
   obtain⟨_,id,off,c,esz,rfl,hl,_⟩:=g2
   obtain⟨hlt,ro0,q0⟩:=h0.stab id c esz hl
   obtain⟨_,ro1,q1⟩:=h.stab id c esz (look_mono m.ss (fun hn=>by rw[m.ssn id hlt];exact hn) hl)
   have e0:loadV A n (.p id off)=loadV A1 n (.p id off):=by
    simp only[loadV,rowAt,q0,q1]
   rw[g1]
   simp only
   rw[←e0,q2]
   exact same_RVr _ _ _ q3
  ·rename_i p hnf hs
   obtain⟨up,g1,g2⟩:=he0 s _ hs
   split at hp
   ·rename_i v v' hv hv'
    have hvv:=same_eq _ _ hp
    obtain⟨u,q2,q3⟩:=loadT h0 g2 hv
    obtain⟨u',q4,q5⟩:=loadT h (m.val h0 h g2) hv'
    have hs2:=same_RV v v' u u' hp (m.val h0 h q3) q5
    rw[g1]
    split
    ·rename_i l2 heq
     cases heq
     rw[q2];rfl
    ·rename_i p2 _ heq
     cases heq
     rw[q2,q4];exact hs2
    ·rename_i heq;cases heq
   ·cases hp
  ·cases hp
 ·cases hr
theorem reT{ρ1:Nat→Nat}{S1:Stab}{H1 A1:AHeap}{e1 a1:Env}{dst:Option Nat}(h0:TR G ρ S T H A)(he0:ER ρ H.next S T e a)(m:Mono ρ S H A ρ1 S1 H1 A1)
    (h:TR G ρ1 S1 T H1 A1) (hg:G.next≤lo) (hlo:LoT ρ1 H1 lo loA) (he:ER ρ1 H1.next S1 T e1 a1):∀ {l:List (Nat×IOp×Option (Nat×Bool))},ckRe G.next l=true→reOk lo dst e H e1 H1 l=true→reOk loA dst a A a1 A1 l=true:=by
  intro l
  induction l with
  | nil=>intro _ _;rfl
  | cons x l ih =>
    obtain⟨t,o,g⟩:=x
    intro hc hr
    simp only[ckRe,Bool.and_eq_true] at hc
    simp only[reOk,Bool.and_eq_true] at hr ⊢
    refine⟨?_,ih hc.2 hr.2⟩
    have hr1:=hr.1
    split at hr1
    · rename_i hw;rw[wantedT he hw]
    · rename_i hw
      rw[wantedT he hw]
      simp only
      cases hdy:dynE o e1 with
      | true=>rw[dynE_T h he hc.1 hdy,Bool.true_or,Bool.true_or]
      | false =>
      rw[hdy,Bool.false_or] at hr1
      rw[Bool.or_eq_true] at hr1 ⊢
      rcases hr1 with hr1|hr1
      · left
        rw[Bool.or_eq_true]
        right
        split at hr1
        · rename_i v v' H1 hv ho
          obtain⟨u,h1,h2⟩:=he t _ hv
          obtain⟨ρ',u',A',k1,k2,k3,k4⟩:=aopT h hg hlo he hc.1 ho
          rw[h1,k1]
          cases u' with
          | none=>exact k4.elim
          | some u'=>exact same_RV v v' u u' hr1 (k3.val h k2 h2) k4
        · cases hr1
      · right;exact ldT h0 he0 m h hr1
    · cases hr1
structure CallT (G:AHeap) (lo loA:Nat) (call callA:CallI):Prop where
 pu:call.pure=callA.pure
 sim:∀ f args H v H',call f args H=some (v,H')→∀ ρ S T A args',TR G ρ S T H A→LoT ρ H lo loA→loA≤A.next→RVL ρ H.next S T args 2 args' →
  ∃ ρ' S' v' A',callA f args' A=some (v',A')∧TR G ρ' S' T H' A'∧Mono ρ S H A ρ' S' H' A'∧RV ρ' H'.next S' T v 2 v'
theorem LoT.mono{ρ':Nat→Nat}{S':Stab}{H' A':AHeap}(hlo:LoT ρ H lo loA)(hA:loA≤A.next)(m:Mono ρ S H A ρ' S' H' A'):LoT ρ' H' lo loA:=fun i hi hl=>by
 rcases Nat.lt_or_ge i H.next with h|h
 ·rw[m.rho i h];exact hlo i h hl
 ·exact Nat.le_trans hA (m.new i h hi)
theorem ER.mono{ρ':Nat→Nat}{S':Stab}{H' A':AHeap}(he:ER ρ H.next S T e a)(h:TR G ρ S T H A)(h':TR G ρ' S' T H' A')(m:Mono ρ S H A ρ' S' H' A'):ER ρ' H'.next S' T e a:=fun t v hv=>by
 obtain⟨u,h1,h2⟩:=he t v hv
 exact⟨u,h1,m.val h h' h2⟩
theorem ER.put{N:Nat}(he:ER ρ N S T e a){d:Option Nat}{v u:AVal}(hv:RV ρ N S T v 2 u):ER ρ N S T (putD e d v) (putD a d u):=by
  cases d with
  | none=>exact he
  | some t =>
    intro s w hw
    simp only[putD,Env.get_put] at hw ⊢
    split at hw
    · rename_i hs;cases hw;exact⟨u,by rw[if_pos hs],hv⟩
    · rename_i hs;obtain⟨u',h1,h2⟩:=he s w hw;exact⟨u',by rw[if_neg hs];exact h1,h2⟩
theorem get_kill_iff(l:List Nat):∀(e:Env) (s:Nat),(e.kill l).get s=if s∈l then none else e.get s:=by
  induction l with
  | nil=>intro e s;simp[Env.kill]
  | cons t l ih =>
    intro e s
    simp only[Env.kill,ih,Env.get_del]
    by_cases h1:s∈l
    · simp[h1]
    · by_cases h2:s=t
      · simp[h2]
      · simp[h1,h2]
theorem ER.kill{N:Nat}(he:ER ρ N S T e a)(l:List Nat):ER ρ N S T (e.kill l) (a.kill l):=by
 intro s w hw
 rw[get_kill_iff] at hw ⊢
 split at hw
 ·cases hw
 ·rename_i hs;rw[if_neg hs];exact he s w hw
theorem opIT{call callA:CallI}(hc:CallT G lo loA call callA)(h:TR G ρ S T H A)(hg:G.next≤lo)(hlo:LoT ρ H lo loA)(hA:loA≤A.next)(he:ER ρ H.next S T e a){o:IOp}(ho:o.ck G.next=true){v:Option AVal}{H':AHeap}(hs:opI call lo o e H=some (v,H')) :
  ∃ ρ' S' u A',opI callA loA o a A=some (u,A')∧TR G ρ' S' T H' A'∧Mono ρ S H A ρ' S' H' A'∧RV ρ' H'.next S' T (v.getD (.tu [])) 2 (u.getD (.tu []))∧(u=none↔v=none):=by
 have plain:aop lo o e H=some (v,H')→(∀ r,aop loA o a A=r→opI callA loA o a A=r)→∃ ρ' S' u A',opI callA loA o a A=some (u,A')∧TR G ρ' S' T H' A'∧Mono ρ S H A ρ' S' H' A'∧RV ρ' H'.next S' T (v.getD (.tu [])) 2 (u.getD (.tu []))∧(u=none↔v=none):=by
  intro h1 h2
  obtain⟨ρ',u,A',k1,k2,k3,k4⟩:=aopT h hg hlo he ho h1
  refine⟨ρ',S,u,A',h2 _ k1,k2,k3,?_,?_⟩
  ·cases v<;>cases u<;>simp only[Option.getD_none,Option.getD_some]<;>first
    | exact k4
    | exact k4.elim
    | exact RV_noId _ rfl
  ·cases v<;>cases u<;>first
    | exact k4.elim
    | simp
 cases o
 case call f args =>
  simp only[opI] at hs ⊢
  simp only[IOp.ck] at ho
  split at hs
  ·rename_i vs hvs
   split at hs
   ·rename_i res H1 hcall
    cases hs
    obtain⟨us,e1,e2⟩:=opdsT h he ho hvs
    obtain⟨ρ',S',v',A',k1,k2,k3,k4⟩:=hc.sim _ _ _ _ _ hcall ρ S T A us h hlo hA e2
    rw[e1]
    simp only[k1]
    exact⟨ρ',S',some v',A',rfl,k2,k3,k4,by simp⟩
   ·cases hs
  ·cases hs
 case callv x args =>
  simp only[opI] at hs ⊢
  simp only[IOp.ck,Bool.and_eq_true] at ho
  split at hs
  ·rename_i f fst cap hx
   split at hs
   ·rename_i vs hvs
    split at hs
    ·rename_i res H1 hcall
     cases hs
     obtain⟨us,e1,e2⟩:=opdsT h he ho.2 hvs
     obtain⟨x',e3,e4⟩:=opdT h he ho.1 hx
     simp only[RV] at e4
     obtain⟨fst',cap',rfl,e5,e6⟩:=e4
     obtain⟨ρ',S',v',A',k1,k2,k3,k4⟩:=hc.sim _ _ _ _ _ hcall ρ S T A _ h hlo hA (RVL_append (RVL_append e5 e2) e6)
     rw[e3,e1]
     simp only[k1]
     exact⟨ρ',S',some v',A',rfl,k2,k3,k4,by simp⟩
    ·cases hs
   ·cases hs
  ·cases hs
 case inv x tbl args =>
  simp only[opI] at hs ⊢
  simp only[IOp.ck,Bool.and_eq_true] at ho
  split at hs
  ·rename_i t v0 hx
   split at hs
   ·rename_i f vs hf hvs
    split at hs
    ·rename_i res H1 hcall
     cases hs
     obtain⟨us,e1,e2⟩:=opdsT h he ho.2 hvs
     obtain⟨x',e3,e4⟩:=opdT h he ho.1 hx
     simp only[RV] at e4
     obtain⟨v0',rfl,e5⟩:=e4
     obtain⟨ρ',S',v',A',k1,k2,k3,k4⟩:=hc.sim _ _ _ _ _ hcall ρ S T A (v0'::us) h hlo hA (by simp only[RVL];exact⟨v0',us,rfl,e5,e2⟩)
     rw[e3]
     simp only[hf,e1]
     simp only[k1]
     exact⟨ρ',S',some v',A',rfl,k2,k3,k4,by simp⟩
    ·cases hs
   ·cases hs
  ·cases hs
 all_goals exact plain (by simpa only[opI] using hs) (fun r hr=>by simpa only[opI] using hr)
theorem keepL_fp{fp:Bool}{ids:List Nat}{e:Env}:∀ {l:List (Nat×IOp×Option (Nat×Bool))},keepL false ids e l=true→keepL fp ids e l=true:=by
  intro l
  induction l with
  | nil=>intro _;rfl
  | cons x l ih =>
    obtain⟨t,o,g⟩:=x
    intro h
    simp only[keepL,Bool.and_eq_true] at h ⊢
    refine⟨?_,ih h.2⟩
    have h1:=h.1
    split at h1
    · split at h1
      · exact h1
      · cases h1
      · cases h1
    · cases h1
theorem keepLT{N:Nat}{ρ':Nat→Nat}{S':Stab}{H' A':AHeap}(h':TR G ρ' S' T H' A')(m:Mono ρ S H A ρ' S' H' A'){e' a':Env}(he':ER ρ' H'.next S' T e' a'){fp:Bool}{ids:List Nat}(hids:∀ i∈ids,i<H.next)(hfp:fp=true→∀ i∈ids,look true S' T (ρ i)=none):∀ {l:List (Nat×IOp×Option (Nat×Bool))},ckRe G.next l=true→keepL fp ids e' l=true→keepL fp (ids.map ρ) a' l=true:=by
  intro l
  induction l with
  | nil=>intro _ _;rfl
  | cons x l ih =>
    obtain⟨t,o,g⟩:=x
    intro hc hk
    simp only[ckRe,Bool.and_eq_true] at hc
    simp only[keepL,Bool.and_eq_true] at hk ⊢
    refine⟨?_,ih hc.2 hk.2⟩
    have h1:=hk.1
    split at h1
    · rename_i n b
      have hcb:b.ck G.next=true:=by simpa[IOp.ck] using hc.1
      split at h1
      · rename_i id off hb
        obtain⟨u,g1,g2⟩:=opdT h' he' hcb hb
        simp only[RV] at g2
        obtain⟨_,hid,rfl⟩:=g2
        rw[g1]
        simp only[Bool.not_eq_true',List.contains_eq_mem,decide_eq_false_iff_not] at h1 ⊢
        intro hm
        rw[List.mem_map] at hm
        obtain⟨i,hi,he⟩:=hm
        have hi2:i<H'.next:=Nat.lt_of_lt_of_le (hids i hi) m.nextH
        rw[←m.rho i (hids i hi)] at he
        have:=h'.inj i id hi2 hid he
        subst this;exact h1 hi
      · rename_i cs hb
        obtain⟨u,g1,g2⟩:=opdT h' he' hcb hb
        simp only[RV] at g2
        obtain⟨_,id,off,c,esz,rfl,hlk,_⟩:=g2
        rw[g1]
        simp only[Bool.not_eq_true',List.contains_eq_mem,decide_eq_false_iff_not]
        intro hm
        rw[List.mem_map] at hm
        obtain⟨i,hi,he⟩:=hm
        have:=hfp h1 i hi
        rw[he,hlk] at this;cases this
      · cases h1
    · cases h1
theorem keepT{ρ':Nat→Nat}{S':Stab}{H' A':AHeap}(h:TR G ρ S T H A)(h':TR G ρ' S' T H' A')(m:Mono ρ S H A ρ' S' H' A')(he:ER ρ H.next S T e a){e' a':Env}(he':ER ρ' H'.next S' T e' a'){o:IOp}{re:List (Nat×IOp×Option (Nat×Bool))}(hco:o.ck G.next=true)(hc:ckRe G.next re=true)
    (hk:keepI H' o re e e'=true):keepI A' o re a a'=true:=by
  unfold keepI at hk ⊢
  split at hk
  · rename_i ids ht
    unfold touch at ht ⊢
    split at ht
    · rename_i esz bytes x y
      simp only[IOp.ck,Bool.and_eq_true] at hco
      split at ht
      · rename_i v hv
        obtain⟨u,g1,g2⟩:=opdT h he hco.1 hv
        simp only[g1]
        cases v<;>simp only[touchV] at ht
        case ns=>cases ht;simp only[RV] at g2;subst g2;exact keepLT (N:=0) h' m he' (fun i hi=>by cases hi) (fun _ i hi=>by cases hi) hc hk
        case es=>cases ht;simp only[RV] at g2;subst g2;exact keepLT (N:=0) h' m he' (fun i hi=>by cases hi) (fun _ i hi=>by cases hi) hc hk
        case sl id off len cap =>
          simp only[RV] at g2
          obtain⟨_,hid,rfl⟩:=g2
          cases cap with
          | none=>simp only[touchV] at ht ⊢;cases ht;exact keepLT (N:=0) h' m he' (fun i hi=>by simp at hi;subst hi;exact hid) (fun h=>by simp[isSt] at h) hc hk
          | some c =>
            simp only[touchV] at ht ⊢
            split at ht
            · rename_i hcl;cases ht;rw[if_pos hcl];exact keepLT (N:=0) h' m he' (fun i hi=>by cases hi) (fun _ i hi=>by cases hi) hc hk
            · rename_i hcl;cases ht;rw[if_neg hcl];exact keepLT (N:=0) h' m he' (fun i hi=>by simp at hi;subst hi;exact hid) (fun h=>by simp[isSt] at h) hc hk
        case fs tmp full len l =>
          cases full with
          | false=>cases ht
          | true =>
            simp only[touchV] at ht
            cases ht
            have fine:touchV u=some []:=by
              simp only[RV] at g2
              obtain⟨_,⟨_,_,rfl|⟨_,rfl⟩|⟨id,off,cap,rfl,hcap⟩⟩|⟨_,id,off,cap,_,_,rfl,hcap,_⟩⟩:=g2
              · rfl
              · rfl
              · rw[hcap trivial];rfl
              · rw[hcap trivial];simp[touchV]
            rw[fine]
            exact keepLT (N:=0) h' m he' (fun i hi=>by cases hi) (fun _ i hi=>by cases hi) hc hk
        all_goals cases ht
      · cases ht
    · rename_i n x y
      simp only[IOp.ck,Bool.and_eq_true] at hco
      split at ht
      · rename_i id off hv
        cases ht
        obtain⟨u,g1,g2⟩:=opdT h he hco.1 hv
        simp only[RV] at g2
        obtain⟨_,hid,rfl⟩:=g2
        simp only[g1]
        have hid':id<H'.next:=Nat.lt_of_lt_of_le hid m.nextH
        have hr:=m.rho id hid
        have hwr:wrO (H'.get id)=true→wrO (A'.get (ρ id))=true∧look true S' T (ρ id)=none:=by
          intro hw
          cases hg:H'.get id with
          | none=>rw[hg] at hw;cases hw
          | some ob =>
            rw[hg] at hw
            obtain⟨ob',k1,k2⟩:=h'.obj id ob hid' hg
            rw[hr] at k1
            refine⟨by rw[k1];exact(RO_wr k2).trans hw,?_⟩
            rw[←hr]
            exact h'.excl id ob hid' hg hw
        cases hw:wrO (H'.get id) with
        | false =>
          simp only[isSt,List.all_cons,List.all_nil,hw,Bool.and_true,Bool.and_false] at hk ⊢
          exact keepL_fp (keepLT (N:=0) h' m he' (fun i hi=>by simp at hi;subst hi;exact hid) (fun h=>by cases h) hc hk)
        | true =>
          obtain⟨w1,w2⟩:=hwr hw
          simp only[isSt,List.all_cons,List.all_nil,hw,w1,Bool.and_true] at hk ⊢
          exact keepLT (N:=0) h' m he' (fun i hi=>by simp at hi;subst hi;exact hid) (fun _ i hi=>by simp at hi;subst hi;exact w2) hc hk
      · cases ht
    · cases ht
  · cases hk
theorem skipT{call callA:CallI}(hc:CallT G lo loA call callA){ρ:Nat→Nat}{S:Stab}{e a:Env}{H A:AHeap}(h:TR G ρ S T H A)(he:ER ρ H.next S T e a){o:IOp}(ho:o.ck G.next=true)(hs:skipI call e o=true):skipI callA a o=true:=by
 cases o<;>simp only[skipI] at hs ⊢
 case call f args=>first|(rw[←hc.pu];exact hs)|(simp only[hc.pu] at hs;exact hs)
 case callv x args =>
  simp only[IOp.ck,Bool.and_eq_true] at ho
  unfold pureV at hs
  split at hs
  ·rename_i f fst cap hx
   obtain⟨x',e3,e4⟩:=opdT h he ho.1 hx
   simp only[RV] at e4
   obtain⟨fst',cap',rfl,e5,e6⟩:=e4
   rw[e3]
   show callA.pure f=true
   first|(rw[←hc.pu];exact hs)|(simp only[hc.pu] at hs;exact hs)
  ·cases hs
 all_goals cases hs
theorem itemsT{call callA:CallI}(hc:CallT G lo loA call callA)(hg:G.next≤lo):∀ {xs:List Item} {ρ:Nat→Nat} {S:Stab} {e a:Env} {H A:AHeap} {e':Env} {H':AHeap},ckI G.next xs=true→TR G ρ S T H A→LoT ρ H lo loA→loA≤A.next→ER ρ H.next S T e a→itemsI call lo xs e H=some (e',H') →
    ∃ ρ' S' a' A',itemsI callA loA xs a A=some (a',A')∧TR G ρ' S' T H' A'∧Mono ρ S H A ρ' S' H' A'∧ER ρ' H'.next S' T e' a':=by
  intro xs
  induction xs with
  | nil=>intro ρ S e a H A e' H' _ h _ _ he hs;simp only[itemsI] at hs;cases hs;exact⟨ρ,S,a,A,rfl,h,Mono.refl _ _ _ _,he⟩
  | cons x xs ih =>
    intro ρ S e a H A e' H' hck h hlo hA he hs
    simp only[ckI,Bool.and_eq_true] at hck
    simp only[itemsI] at hs ⊢
    split at hs
    · rename_i e1 H1 hi
      split at hs
      · rename_i hre
        have item:∃ ρ1 S1 a1 A1,itemI callA loA x a A=some (a1,A1)∧TR G ρ1 S1 T H1 A1∧Mono ρ S H A ρ1 S1 H1 A1∧ER ρ1 H1.next S1 T e1 a1:=by
          simp only[itemI] at hi ⊢
          split at hi
          · cases hi
          · rename_i hw
            cases hi
            rw[wantedT he hw]
            exact⟨ρ,S,_,A,rfl,h,Mono.refl _ _ _ _,he.put (RV_noId _ rfl)⟩
          · rename_i hw
            rw[wantedT he hw]
            simp only
            split at hi
            · rename_i v H2 ho
              cases hi
              obtain⟨ρ',S',u,A',k1,k2,k3,k4,k5⟩:=opIT hc h hg hlo hA he hck.1 ho
              cases u with
              | none=>have:=k5.1 rfl;cases this
              | some u=>rw[k1];exact⟨ρ',S',_,A',rfl,k2,k3,(he.mono h k2 k3).put k4⟩
            · rename_i H2 ho
              cases hi
              obtain⟨ρ',S',u,A',k1,k2,k3,k4,k5⟩:=opIT hc h hg hlo hA he hck.1 ho
              cases u with
              | some u=>have:=k5.2 rfl;cases this
              | none=>rw[k1];exact⟨ρ',S',_,A',rfl,k2,k3,(he.mono h k2 k3).put k4⟩
            · cases hi
        obtain⟨ρ1,S1,a1,A1,k1,k2,k3,k4⟩:=item
        have hlo1:=hlo.mono hA k3
        have hA1:loA≤A1.next:=Nat.le_trans hA k3.nextA
        obtain⟨ρ2,S2,a2,A2,g1,g2,g3,g4⟩:=ih hck.2.2 k2 hlo1 hA1 k4 hs
        refine⟨ρ2,S2,a2,A2,?_,g2,k3.trans g3,g4⟩
        rw[k1]
        simp only
        have hsk:skipI call e x.op=true→skipI callA a x.op=true:=skipT hc h he hck.1
        have hre2:(skipI callA a x.op||(keepI A1 x.op x.re a a1||reOk loA x.dst a A a1 A1 x.re))=true:=by
          rw[Bool.or_eq_true,Bool.or_eq_true] at hre ⊢
          rcases hre with hre|hre|hre
          · left;exact hsk hre
          · right;left;exact keepT h k2 k3 he k4 hck.1 hck.2.1 hre
          · right;right;exact reT h he k3 k2 hg hlo1 k4 hck.2.1 hre
        rw[if_pos hre2]
        exact g1
      · cases hs
    · cases hs
end
section
variable {G:AHeap} {ρ:Nat→Nat} {S T:Stab} {H A:AHeap}
noncomputable def rowsOf(A:AHeap):Stab:=fun id=>match A.get id with
 | some (.cells c esz _)=>some (c,esz)
 | _=>none
theorem rows_look(h:TR G ρ S T H A){id:Nat}{c:List AVal}{esz:Nat}{ro:Bool}(hg:A.get id=some (.cells c esz ro)):look true S (rowsOf A) id=some (c,esz):=by
  unfold look
  cases hS:S id with
  | none=>simp[rowsOf,hg]
  | some x =>
    obtain⟨c2,e2⟩:=x
    obtain⟨_,ro2,h2⟩:=h.stab id c2 e2 (by unfold look;rw[hS])
    rw[hg] at h2;cases h2;rfl
theorem rows_le(h:TR G ρ S T H A)(k:Nat):LeS k S T S (rowsOf A):=⟨fun _ _ h=>h,fun _ id x hx=>by
 obtain⟨c,esz⟩:=x
 obtain⟨_,ro,h2⟩:=h.stab id c esz hx
 exact rows_look h h2⟩
theorem mapO_len{f:AVal→Option AVal}:∀ {l m:List AVal},mapO f l=some m→m.length=l.length:=by
  intro l
  induction l with
  | nil=>intro m h;simp only[mapO,Option.some.injEq] at h;subst h;rfl
  | cons v l ih =>
    intro m h
    simp only[mapO] at h
    split at h
    · split at h
      · rename_i us hus;cases h;simp[ih hus]
      · cases h
    · cases h
theorem mapO_rel{f:AVal→Option AVal}{ρ ρ':Nat→Nat}{N N':Nat}{S T S' T':Stab}{k k':Nat}(hf:∀ v w u,RV ρ N S T v k u→f v=some w→RV ρ' N' S' T' w k' u):∀ {l m l':List AVal},RVL ρ N S T l k l'→mapO f l=some m→RVL ρ' N' S' T' m k' l':=by
  intro l
  induction l with
  | nil=>intro m l' h hm;simp only[RVL] at h;subst h;simp only[mapO,Option.some.injEq] at hm;subst hm;simp[RVL]
  | cons v l ih =>
    intro m l' h hm
    simp only[RVL] at h
    obtain⟨u,r,rfl,h1,h2⟩:=h
    simp only[mapO] at hm
    split at hm
    · rename_i w hw
      split at hm
      · rename_i ws hws
        cases hm
        exact RVL_cons (hf v w u h1 hw) (ih h2 hws)
      · cases hm
    · cases hm
theorem rowO_T(h:TR G ρ S T H A){id off len:Nat}(hid:id<H.next){l:List AVal}(hl:rowO H id off len=some l):∃ c c' esz ro,H.get id=some (.cells c esz ro)∧A.get (ρ id)=some (.cells c' esz ro)∧off+len*esz≤c'.length∧l.length=len*esz∧RVL ρ H.next S T l 2 ((c'.drop off).take (len*esz)):=by
 unfold rowO at hl
 split at hl
 ·rename_i c esz ro hg
  split at hl
  ·rename_i hc
   cases hl
   obtain⟨c',h1,h2⟩:=cellsT h hid hg
   have:=RVL_len h2
   exact⟨c,c',esz,ro,hg,h1,by omega,by simp;omega,RVL_take (RVL_drop h2 _) _⟩
  ·cases hl
 ·cases hl
theorem snapT(h:TR G ρ S T H A){ρ0:Nat→Nat}{N0:Nat}:∀(n:Nat) (v w u:AVal),RV ρ H.next S T v 2 u→snapV H n v=some w→RV ρ0 N0 S (rowsOf A) w 1 u:=by
  intro n
  induction n with
  | zero=>intro v w u _ hs;simp[snapV] at hs
  | succ n ih =>
    intro v w u hv hs
    cases v<;>simp only[snapV] at hs
    case p id off =>
      split at hs
      · rename_i c esz ro hg
        split at hs
        · rename_i hoff
          rw[Option.map_eq_some_iff] at hs
          obtain⟨l,hl,rfl⟩:=hs
          simp only[RV] at hv
          obtain⟨_,hid,rfl⟩:=hv
          obtain⟨c',h1,h2⟩:=cellsT h hid hg
          have hcl:=RVL_len h2
          have hll:=mapO_len hl
          simp only[List.length_drop] at hll
          have h3:=mapO_rel (fun v w u=>ih v w u) (RVL_drop h2 off) hl
          simp only[RV]
          refine⟨Nat.le_refl _,ρ id,off,c',esz,rfl,rows_look h h1,.inr (by omega),?_⟩
          rw[List.take_of_length_le (by simp;omega)]
          exact h3
        · cases hs
      · cases hs
    case ns =>
      cases hs
      simp only[RV] at hv
      subst hv
      simp[RV]
    case es ad =>
      cases hs
      simp only[RV] at hv
      subst hv
      simp[RV]
    case sl id off len cap =>
      simp only[RV] at hv
      obtain⟨_,hid,rfl⟩:=hv
      split at hs
      · rename_i h0
        cases hs
        subst h0
        simp[RV]
      · rename_i h0
        split at hs
        · rename_i hcap
          split at hs
          · rename_i l hl
            rw[Option.map_eq_some_iff] at hs
            obtain⟨m,hm,rfl⟩:=hs
            obtain⟨c,c',esz,ro,g1,g2,g3,g4,g5⟩:=rowO_T h hid hl
            have h3:=mapO_rel (fun v w u=>ih v w u) g5 hm
            simp only[RV]
            refine⟨fun _=>Nat.le_refl _,.inr ⟨by omega,ρ id,off,cap,c',esz,rfl,(fun e=>by cases e),?_,rows_look h g2,by rw[mapO_len hm];exact g4,g3,h3⟩⟩
            intro m' hm'
            rw[hm'] at hcap
            simpa[capOk] using hcap
          · cases hs
        · cases hs
    case fn f a c =>
      simp only[RV] at hv
      obtain⟨a',c',rfl,h1,h2⟩:=hv
      split at hs
      · rename_i a2 ha
        split at hs
        · rename_i c2 hc
          cases hs
          simp only[RV]
          exact⟨a',c',rfl,mapO_rel (fun v w u=>ih v w u) h1 ha,mapO_rel (fun v w u=>ih v w u) h2 hc⟩
        · cases hs
      · cases hs
    case ag l =>
      rw[Option.map_eq_some_iff] at hs
      obtain⟨m,hm,rfl⟩:=hs
      simp only[RV] at hv
      obtain⟨l',rfl,h1⟩:=hv
      exact RV_ag (mapO_rel (fun v w u=>ih v w u) h1 hm)
    case tu l =>
      rw[Option.map_eq_some_iff] at hs
      obtain⟨m,hm,rfl⟩:=hs
      simp only[RV] at hv
      obtain⟨l',rfl,h1⟩:=hv
      exact RV_tu (mapO_rel (fun v w u=>ih v w u) h1 hm)
    case m id=>cases hs
    case ifc t v =>
      rw[Option.map_eq_some_iff] at hs
      obtain⟨m,hm,rfl⟩:=hs
      simp only[RV] at hv
      obtain⟨v',rfl,h1⟩:=hv
      simp only[RV]
      exact⟨v',rfl,ih _ _ _ h1 hm⟩
    case fs tmp full len l =>
      cases hs
      simp only[RV] at hv ⊢
      obtain⟨_,hv⟩:=hv
      refine⟨fun _=>Nat.le_refl _,?_⟩
      rcases hv with⟨h1,h2,h3⟩|⟨h1,id,off,cap,c,esz,h2,h3,h4,h5,h6,h7,h8⟩
      · refine .inl ⟨h1,h2,?_⟩
        rcases h3 with h3|h3|⟨id,off,cap,h3,_⟩
        · exact .inl h3
        · exact .inr (.inl h3)
        · exact .inr (.inr ⟨id,off,cap,h3,fun e=>by cases e⟩)
      · have hlv:lv tmp≤1:=by cases tmp<;>simp[lv]
        exact .inr ⟨h1,id,off,cap,c,esz,h2,fun e=>(by cases e),h4,(rows_le h 1).look (fun _=>Nat.le_refl _) h5,h6,h7,RVL_mono (fun e=>absurd e (by omega)) (rows_le h _) (Nat.le_refl _) (by omega) _ _ h8⟩
    case fp l =>
      cases hs
      simp only[RV] at hv ⊢
      obtain⟨_,id,off,c,esz,h1,h2,h3,h4⟩:=hv
      exact⟨Nat.le_refl _,id,off,c,esz,h1,(rows_le h 1).look (tmp:=true) (fun _=>Nat.le_refl _) h2,h3,RVL_mono (fun e=>absurd e (by omega)) (rows_le h _) (Nat.le_refl _) (by omega) _ _ h4⟩
    all_goals
      cases hs
      simp only[RV] at hv ⊢
      exact hv
end
end Go.RI
namespace Go.RI
open Go
structure Low (lo:Nat) (H H':AHeap):Prop where
 next:H.next≤H'.next
 get:∀ id,id<lo→id<H.next→H'.get id=H.get id
theorem Low.refl(lo:Nat)(H:AHeap):Low lo H H:=⟨Nat.le_refl _,fun _ _ _=>rfl⟩
theorem Low.trans{lo:Nat}{H H1 H2:AHeap}(a:Low lo H H1)(b:Low lo H1 H2):Low lo H H2 :=
 ⟨Nat.le_trans a.next b.next,fun id h1 h2=>(b.get id h1 (Nat.lt_of_lt_of_le h2 a.next)).trans (a.get id h1 h2)⟩
theorem Low.push(lo:Nat)(H:AHeap)(o:AObj):Low lo H (H.push o):=⟨by rw[AHeap.next_push];omega,fun id _ h=>by rw[AHeap.get_push,if_neg (by omega)]⟩
theorem Low.put{lo:Nat}{H:AHeap}{n:Nat}(o:Option AObj)(h:lo≤n):Low lo H (H.put n o):=⟨Nat.le_refl _,fun id h1 _=>by rw[AHeap.get_put,if_neg (by omega)]⟩
theorem Low.ghost(lo:Nat)(H:AHeap)(o:Option AObj):Low lo H { H with next:=H.next+1,tbl:=H.tbl.put o (H.next+1) H.next } :=
 ⟨Nat.le_succ _,fun id _ h=>by
  have:=Trie.get_put o (H.next+1) H.tbl H.next id (Nat.lt_succ_self _)
  show(H.tbl.put o (H.next+1) H.next).get id=H.tbl.get id
  rw[this,if_neg (by omega)]⟩
theorem storeV_low{lo n:Nat}{H H':AHeap}{a v:AVal}(h:storeV lo H n a v=some H'):Low lo H H':=by
 unfold storeV at h
 split at h
 ·split at h
  ·rename_i hlo
   split at h
   ·split at h
    ·cases h;exact Low.put _ hlo
    ·cases h
   ·cases h
  ·cases h
 ·cases h
theorem mapupV_low{lo:Nat}{H H':AHeap}{ag:Bool}{ks:List Nat}{k v m:AVal}(h:mapupV lo H ag ks k v m=some H'):Low lo H H':=by
 unfold mapupV at h
 split at h
 ·split at h
  ·rename_i hlo
   split at h
   ·split at h
    ·split at h
     ·split at h
      ·cases h;exact Low.put _ hlo.1
      ·cases h;exact Low.put _ hlo.1
      ·cases h
     ·cases h
    ·cases h
   ·cases h
  ·cases h
 ·cases h
theorem slV_low{lo esz:Nat}{H H':AHeap}{x v:AVal}{l h m:Option Nat}(hs:slV esz H x l h m=some (v,H')):Low lo H H':=by
 unfold slV at hs
 simp only at hs
 repeat' split at hs
 all_goals first
  | (cases hs;done)
  | (cases hs;exact Low.refl _ _)
  | (cases hs;exact Low.ghost _ _ _)
theorem appV_low{lo esz bytes:Nat}{H H':AHeap}{x y v:AVal}(hs:appV lo H esz bytes x y=some (v,H')):Low lo H H':=by
 unfold appV at hs
 repeat' split at hs
 all_goals first
  | (cases hs;done)
  | (cases hs;exact Low.refl _ _)
  | (cases hs;exact Low.push _ _ _)
  | (cases hs;exact Low.put _ (by assumption))
  | (cases hs;exact Low.put _ (by rename_i h _ _ _ _ _ _;exact h))
  | (cases hs;refine(Low.put none ?_).trans (Low.push _ _ _);rename_i h _ _ _ _ _ _;exact h.1)
  | (cases hs;refine(Low.put none ?_).trans (Low.push _ _ _);simp_all)
theorem appzV_low{lo esz bytes:Nat}{z:List AVal}{k:Int}{H H':AHeap}{x v:AVal}(hs:appzV lo H esz bytes z x k=some (v,H')):Low lo H H':=by
 unfold appzV appB at hs
 repeat' split at hs
 all_goals first
  | (cases hs;done)
  | (cases hs;exact Low.refl _ _)
  | (cases hs;exact Low.push _ _ _)
  | (cases hs;exact Low.put _ (by assumption))
  | (cases hs;exact Low.put _ (by rename_i h _ _ _ _ _ _;exact h))
  | (cases hs;refine(Low.put none ?_).trans (Low.push _ _ _);rename_i h _ _ _ _ _ _;exact h.1)
  | (cases hs;refine(Low.put none ?_).trans (Low.push _ _ _);simp_all)
theorem cpyV_low{lo esz:Nat}{H H':AHeap}{x y v:AVal}(hs:cpyV lo H esz x y=some (v,H')):Low lo H H':=by
 unfold cpyV at hs
 simp only at hs
 repeat' split at hs
 all_goals first
  | (cases hs;done)
  | (cases hs;exact Low.refl _ _)
  | (cases hs;exact Low.put _ (by assumption))
theorem aop_low{lo:Nat}{o:IOp}{e:Env}{H H':AHeap}{v:Option AVal}(h:aop lo o e H=some (v,H')):Low lo H H':=by
 cases o<;>simp only[aop] at h
 case store n x v =>
  split at h
  ·rw[Option.map_eq_some_iff] at h
   obtain⟨H2,h1,h2⟩:=h
   cases h2
   exact storeV_low h1
  ·cases h
 case mapup ag ks x k v =>
  split at h
  ·rw[Option.map_eq_some_iff] at h
   obtain⟨H2,h1,h2⟩:=h
   cases h2
   exact mapupV_low h1
  ·cases h
 case sl esz x l hh m =>
  split at h
  ·rw[Option.map_eq_some_iff] at h
   obtain⟨⟨v2,H2⟩,h1,h2⟩:=h
   cases h2
   exact slV_low h1
  ·cases h
 case slq esz x l hh m =>
  split at h
  ·split at h
   ·rename_i hsl
    split at h
    ·cases h;exact Low.refl _ _
    ·split at h
     ·cases h;exact slV_low hsl
     ·cases h
   ·cases h
  ·cases h
 case app esz bytes x y =>
  split at h
  ·rw[Option.map_eq_some_iff] at h
   obtain⟨⟨v2,H2⟩,h1,h2⟩:=h
   cases h2
   exact appV_low h1
  ·cases h
 case appz esz bytes z x y =>
  split at h
  ·rw[Option.map_eq_some_iff] at h
   obtain⟨⟨v2,H2⟩,h1,h2⟩:=h
   cases h2
   exact appzV_low h1
  ·cases h
 case cpy esz x y =>
  split at h
  ·rw[Option.map_eq_some_iff] at h
   obtain⟨⟨v2,H2⟩,h1,h2⟩:=h
   cases h2
   exact cpyV_low h1
  ·cases h
 all_goals
  repeat' split at h
  all_goals first
   | (cases h;done)
   | (cases h;exact Low.refl _ _)
   | (cases h;exact Low.push _ _ _)
   | (rw[Option.map_eq_some_iff] at h;obtain⟨u,_,h2⟩:=h;cases h2;exact Low.refl _ _)
def LowC(lo:Nat)(call:CallI):Prop:=∀ f args H v H',call f args H=some (v,H')→Low lo H H'
def LowX(ex:ExI):Prop:=∀ lo c e H x e' H',ex lo c e H=some (x,e',H')→Low lo H H'
theorem opI_low{call:CallI}{lo:Nat}(hc:LowC lo call){o:IOp}{e:Env}{H H':AHeap}{v:Option AVal}(h:opI call lo o e H=some (v,H')):Low lo H H':=by
 cases o<;>simp only[opI] at h
 case call f args =>
  split at h
  ·split at h
   ·rename_i hcall;cases h;exact hc _ _ _ _ _ hcall
   ·cases h
  ·cases h
 case callv x args =>
  split at h
  ·split at h
   ·split at h
    ·rename_i hcall;cases h;exact hc _ _ _ _ _ hcall
    ·cases h
   ·cases h
  ·cases h
 case inv x tbl args =>
  split at h
  ·split at h
   ·split at h
    ·rename_i hcall;cases h;exact hc _ _ _ _ _ hcall
    ·cases h
   ·cases h
  ·cases h
 all_goals exact aop_low h
theorem itemsI_low{call:CallI}{lo:Nat}(hc:LowC lo call):∀ {xs:List Item} {e e':Env} {H H':AHeap},itemsI call lo xs e H=some (e',H')→Low lo H H':=by
  intro xs
  induction xs with
  | nil=>intro e e' H H' h;simp only[itemsI] at h;cases h;exact Low.refl _ _
  | cons x xs ih =>
    intro e e' H H' h
    simp only[itemsI] at h
    split at h
    · rename_i e1 H1 hi
      split at h
      · refine Low.trans ?_ (ih h)
        simp only[itemI] at hi
        split at hi
        · cases hi
        · cases hi;exact Low.refl _ _
        · split at hi
          · rename_i ho;cases hi;exact opI_low hc ho
          · rename_i ho;cases hi;exact opI_low hc ho
          · cases hi
      · cases h
    · cases h
theorem bodyI_low{ex:ExI}(hx:LowX ex){fn:IFunc}{lo:Nat}{args:List AVal}{H H':AHeap}{v:AVal}(h:bodyI ex fn lo args H=some (v,H')):Low lo H H':=by
 unfold bodyI at h
 split at h
 ·split at h
  ·cases h
  ·rename_i hex
   split at h
   ·cases h;exact hx _ _ _ _ _ _ _ hex
   ·cases h
  ·cases h
 ·cases h
theorem Low.up{n:Nat}{H H':AHeap}(h:Low H.next H H')(lo:Nat):Low lo H H':=⟨h.next,fun id _ h2=>h.get id h2 h2⟩
theorem callI_low{ex:ExI}(hx:LowX ex)(IP:FuncId→Option IFunc)(G:AHeap)(lo:Nat):LowC lo (callI ex IP G lo):=by
 intro f args H v H' h
 simp only[callI,callB] at h
 split at h
 ·cases h
 ·split at h
  ·exact bodyI_low hx h
  ·exact(bodyI_low hx h).up (n:=0) lo
  ·split at h
   ·split at h
    ·split at h
     ·cases h;exact Low.refl _ _
     ·cases h
    ·cases h
   ·cases h
  ·split at h
   ·split at h
    ·cases h;exact Low.refl _ _
    ·cases h
   ·cases h
  ·unfold cloneB at h
   split at h
   ·rw[Option.map_eq_some_iff] at h
    obtain⟨v,_,h2⟩:=h
    cases h2;exact Low.refl _ _
   split at h
   ·unfold cloneV at h
    split at h
    ·cases h;exact Low.refl _ _
    ·split at h
     ·cases h;exact Low.push _ _ _
     ·cases h
    ·cases h
   ·cases h
theorem exec_low(IP:FuncId→Option IFunc)(G:AHeap):∀ f,LowX (exec IP G f):=by
  intro f
  induction f with
  | zero=>intro lo c e H x e' H' h;simp[exec] at h
  | succ f ih =>
    intro lo c e H x e' H' h
    cases c<;>rw[exec] at h
    case skip=>cases h;exact Low.refl _ _
    case exit=>cases h;exact Low.refl _ _
    case ret=>cases h;exact Low.refl _ _
    case region items kill =>
      split at h
      · rename_i hi;cases h;exact itemsI_low (callI_low ih IP G lo) hi
      · cases h
    case seq a b =>
      split at h
      · rename_i ha;exact(ih _ _ _ _ _ _ _ ha).trans (ih _ _ _ _ _ _ _ h)
      · exact ih _ _ _ _ _ _ _ h
    case cond x0 a b =>
      split at h
      · exact ih _ _ _ _ _ _ _ h
      · exact ih _ _ _ _ _ _ _ h
      · cases h
    case block id b =>
      split at h
      · rename_i hb
        split at h<;>cases h<;>exact ih _ _ _ _ _ _ _ hb
      · exact ih _ _ _ _ _ _ _ h
    case loop b =>
      split at h
      · rename_i ha;exact(ih _ _ _ _ _ _ _ ha).trans (ih _ _ _ _ _ _ _ h)
      · exact ih _ _ _ _ _ _ _ h
end Go.RI
