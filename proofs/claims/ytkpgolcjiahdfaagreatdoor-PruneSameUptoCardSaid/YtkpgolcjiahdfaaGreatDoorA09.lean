import Derived.Test.YtkpgolcjiahdfaaGreatDoorA08
import Derived.Test.YtkpgolcjiahdfaaGreatDoorA07
set_option linter.unusedVariables false
set_option linter.unusedSimpArgs false
set_option linter.unusedSectionVars false
/- RI, part SL: what a piece that leans on kinds brings (chapter 22). Conditions: none. -/
namespace Go.RI
open Go
theorem steps_app{homes:List Val}:∀(a b:List Stp) (m:List Val),stepsV homes (a++b) m=(stepsV homes a m).bind (stepsV homes b)
  | [],b,m=>rfl
  | i::a,b,m=>by
    simp only[List.cons_append,stepsV]
    cases h:stepV i (i.l.map (ofO homes m)) with
    | none=>rfl
    | some v=>exact steps_app a b _
theorem steps_pre{homes:List Val}:∀(l:List Stp) (m made:List Val),stepsV homes l m=some made→∃ more,made=m++more∧more.length=l.length
  | [],m,made,h=>by cases h;exact⟨[],by simp,rfl⟩
  | i::l,m,made,h=>by
    simp only[stepsV] at h
    split at h
    · rename_i v hv
      obtain⟨more,h1,h2⟩:=steps_pre l _ _ h
      exact⟨v::more,by rw[h1];simp,by simp[h2]⟩
    · cases h
theorem steps_len{homes:List Val}{l:List Stp}{made:List Val}(h:stepsV homes l []=some made):made.length=l.length:=by
 obtain⟨more,h1,h2⟩:=steps_pre _ _ _ h
 simp[h1,h2]
theorem steps_at{homes:List Val}:∀(l:List Stp) (m made:List Val) (k:Nat) (s:Stp),stepsV homes l m=some made→l[k]?=some s→∃ v w,made[m.length+k]?=some v∧stepV s w=some v
  | [],_,_,_,_,_,hs=>by simp at hs
  | i::l,m,made,k,s,h,hs=>by
    simp only[stepsV] at h
    split at h
    · rename_i v hv
      cases k with
      | zero =>
        obtain⟨more,h1,h2⟩:=steps_pre l _ _ h
        simp at hs
        subst hs
        exact⟨v,_,by rw[h1];simp,hv⟩
      | succ k =>
        obtain⟨v,w,h1,h2⟩:=steps_at l _ _ k s h (by simpa using hs)
        refine⟨v,w,?_,h2⟩
        rw[←h1]
        congr 1
        simp;omega
    · cases h
theorem bin_int{op:Int}{a b v:Val}(ho:op=10∨op=11∨op=12∨op=13)(h:resV (binaryV op a b)=some v):v.kind=1:=by
 obtain⟨rfl,h1,h2⟩:=res_eq h
 unfold binaryV at h1 h2 ⊢
 split
 ·rename_i hc;rw[if_pos hc] at h2;cases h2
 rename_i hc
 rw[if_neg hc] at h1
 simp only at h1 ⊢
 unfold binV2 at h1 ⊢
 rw[if_neg (by omega),if_neg (by omega)] at h1 ⊢
 by_cases hk:a.kind=1∧b.kind=1
 ·rw[if_pos hk] at h1 ⊢
  rcases ho with rfl|rfl|rfl|rfl
  ·rfl
  ·rfl
  ·by_cases hb:b.n=0
   ·simp[intsV,hb] at h1
   ·simp[intsV,hb,numV]
  ·by_cases hb:b.n=0
   ·simp[intsV,hb] at h1
   ·simp[intsV,hb,numV]
 ·rw[if_neg hk] at h1
  exfalso
  split at h1
  ·rcases ho with rfl|rfl|rfl|rfl<;>simp[textsV] at h1
  ·rw[if_neg (by omega),if_neg (by omega),if_neg (by omega)] at h1;cases h1
theorem bin_yes{op:Int}{a b v:Val}(ho:op=14∨op=15∨op=16∨op=17)(h:resV (binaryV op a b)=some v):v.kind=2:=by
 obtain⟨rfl,h1,h2⟩:=res_eq h
 unfold binaryV at h1 h2 ⊢
 split
 ·rename_i hc;rw[if_pos hc] at h2;cases h2
 rename_i hc
 rw[if_neg hc] at h1
 simp only at h1 ⊢
 unfold binV2 at h1 ⊢
 rcases ho with rfl|rfl|rfl|rfl
 ·rfl
 ·rfl
 ·rw[if_neg (by omega),if_neg (by omega)] at h1 ⊢
  split
  ·rfl
  rename_i hk
  rw[if_neg hk] at h1
  split
  ·rfl
  rename_i hk2
  rw[if_neg hk2,if_neg (by omega),if_neg (by omega),if_neg (by omega)] at h1
  cases h1
 ·rw[if_neg (by omega),if_neg (by omega)] at h1 ⊢
  split
  ·rfl
  rename_i hk
  rw[if_neg hk] at h1
  split
  ·rfl
  rename_i hk2
  rw[if_neg hk2,if_neg (by omega),if_neg (by omega),if_neg (by omega)] at h1
  cases h1
theorem made_kind{v:Val}(h:(madeV v).2=0):(madeV v).1=v:=by
 unfold madeV at h ⊢
 split
 ·rfl
 ·rename_i hm;rw[if_neg hm] at h;cases h
theorem bin_push{a b v:Val}(h:resV (binaryV 18 a b)=some v):v.kind=4:=by
 obtain⟨rfl,h1,h2⟩:=res_eq h
 unfold binaryV at h1 h2 ⊢
 split
 ·rename_i hc;rw[if_pos hc] at h2;cases h2
 rename_i hc
 rw[if_neg hc] at h1
 simp only at h1 ⊢
 unfold binV2 at h1 ⊢
 rw[if_neg (by omega),if_neg (by omega)] at h1 ⊢
 split
 ·rename_i hk;rw[if_pos hk] at h1;simp[intsV] at h1
 rename_i hk
 rw[if_neg hk] at h1
 split
 ·rename_i hk2;rw[if_pos hk2] at h1;simp[textsV] at h1
 rename_i hk2
 rw[if_neg hk2] at h1
 split
 ·rename_i hk3
  rw[if_pos hk3] at h1
  unfold longerV at h1 ⊢
  rw[made_kind h1]
  rfl
 ·rename_i hk3
  rw[if_neg hk3,if_neg (by omega),if_neg (by omega)] at h1
  cases h1
theorem un_kind{op:Int}{a v:Val}(h:resV (unaryV op a)=some v):(op=6∨op=8→v.kind=1)∧(op=7→v.kind=2):=by
 obtain⟨rfl,h1,h2⟩:=res_eq h
 unfold unaryV at h1 h2 ⊢
 split
 ·rename_i hc;rw[if_pos hc] at h2;cases h2
 rename_i hc
 rw[if_neg hc] at h1
 constructor
 ·rintro(rfl|rfl)
  ·by_cases hk:a.kind=1
   ·simp[hk,numV]
   ·simp[hk] at h1
  ·by_cases hk:a.kind=3∨a.kind=4
   ·simp[hk,numV]
   ·simp[hk] at h1
 ·rintro rfl
  by_cases hk:a.kind=2
  ·simp[hk,yesV]
  ·simp[hk] at h1
theorem list_kind{l:List Val}{v:Val}(h:resV (listV l)=some v):v.kind=4:=by
 obtain⟨rfl,h1,h2⟩:=res_eq h
 unfold listV at h1 h2 ⊢
 split
 ·rename_i hc;rw[if_pos hc] at h1;simp only at h1 ⊢;rw[made_kind h1];rfl
 ·rename_i hc;rw[if_neg hc] at h2;cases h2
theorem rec_kind{ns:List Str}{l:List Val}{v:Val}(h:resV (recV ns l)=some v):v.kind=5:=by
 obtain⟨rfl,h1,h2⟩:=res_eq h
 unfold recV at h1 h2 ⊢
 split
 ·rename_i hc;rw[if_pos hc] at h1;simp only at h1 ⊢;rw[made_kind h1];rfl
 ·rename_i hc;rw[if_neg hc] at h2;cases h2
theorem ints_res{op:Int}{a b v:Val}(h:intsS op a b=some v):a.kind=1∧b.kind=1∧resV (binaryV op a b)=some v:=by
 unfold intsS at h
 split at h
 ·rename_i hk;exact⟨hk.1,hk.2,h⟩
 ·cases h
theorem ints_nine{a b v:Val}(h:intsS 9 a b=some v):v.kind=1:=by
 obtain⟨h1,h2,h3⟩:=ints_res h
 obtain⟨rfl,h4,h5⟩:=res_eq h3
 unfold binaryV at h4 h5 ⊢
 split
 ·rename_i hc;rw[if_pos hc] at h5;cases h5
 simp[binV2,h1,h2,intsV,numV]
theorem stepV_op{i:Stp}{l:List Val}{v:Val}(h:stepV i l=some v):opS i l=some v∧(needs i).2.2=true:=by
 unfold stepV at h
 split at h
 ·rename_i hc;exact⟨h,hc.1⟩
 ·cases h
theorem makes_kind{i:Stp}{l:List Val}{v:Val}(h:stepV i l=some v)(hk:stpKind i≠-1):v.kind=stpKind i:=by
 obtain⟨h,hn⟩:=stepV_op h
 unfold stpKind makesI at hk ⊢
 split
 ·rename_i ho
  rcases ho with h1|h1|h1|h1|h1|h1|h1|h1|h1|h1|h1
  ·simp[opS,h1,needs] at h;exact(un_kind h).1 (.inl rfl)
  ·simp[opS,h1,needs] at h;exact(un_kind h).1 (.inr rfl)
  ·simp[opS,h1,needs] at h;exact bin_int (by omega) h
  ·simp[opS,h1,needs] at h;exact bin_int (by omega) h
  ·simp[opS,h1,needs] at h;exact bin_int (by omega) h
  ·simp[opS,h1,needs] at h;exact bin_int (by omega) h
  ·simp[opS,h1] at h;exact(un_kind h).1 (.inl rfl)
  ·simp[opS,h1] at h;exact ints_nine h
  ·simp[opS,h1] at h;exact bin_int (op:=10) (by omega) (ints_res h).2.2
  ·simp[opS,h1] at h;exact bin_int (op:=11) (by omega) (ints_res h).2.2
  ·simp[opS,h1] at h;exact ints_nine h
 rename_i c1
 rw[if_neg c1] at hk
 split
 ·rename_i ho
  rcases ho with h1|h1|h1|h1|h1|h1|h1|h1|h1
  ·simp[opS,h1,needs] at h;exact(un_kind h).2 rfl
  ·simp[opS,h1,needs] at h;exact bin_yes (by omega) h
  ·simp[opS,h1,needs] at h;exact bin_yes (by omega) h
  ·simp[opS,h1,needs] at h;exact bin_yes (by omega) h
  ·simp[opS,h1,needs] at h;exact bin_yes (by omega) h
  ·simp[opS,h1] at h;exact(un_kind h).2 rfl
  ·simp[opS,h1] at h;exact bin_yes (op:=16) (by omega) (ints_res h).2.2
  ·simp[opS,h1] at h;exact bin_yes (op:=17) (by omega) (ints_res h).2.2
  ·simp[opS,h1] at h;exact bin_yes (op:=16) (by omega) (ints_res h).2.2
 rename_i c2
 rw[if_neg c2] at hk
 split
 ·rename_i ho
  rcases ho with h1|h1
  ·simp[opS,h1] at h;exact list_kind h
  ·simp[opS,h1,needs] at h;exact bin_push h
 rename_i c3
 rw[if_neg c3] at hk
 split
 ·rename_i h1;simp[opS,h1] at h;exact rec_kind h
 rename_i c4
 rw[if_neg c4] at hk
 split
 ·rename_i h1
  simp[opS,h1] at h
  rw[←h.2,h.1]
 ·rename_i c5
  rw[if_neg c5] at hk
  exact absurd rfl hk
end Go.RI
namespace Go.RI
open Go
structure FS where
 out:List Stp
 pl:List Opn
def turnO(pl:List Opn)(o:Opn):Opn:=if o.kind=2 then pl[o.n.toNat]?.getD default else o
def allC(l:List Opn):Bool:=l.all fun o=>decide (o.kind=3)
def knownF(i:Stp):Option Val:=if allC i.l=true then stepV i (i.l.map Opn.v) else none
def stO(n:Nat):Opn:=⟨2,n,zeroVal⟩
def turnS(pl:List Opn)(i:Stp):Stp:=⟨i.op,i.n,i.l.map (turnO pl),i.s,i.names⟩
def placeF(n:Nat)(j:Stp):Opn:=if j.op=23∨j.op=40 then j.l[0]?.getD default else stO n
def NoIs(out:List Stp)(o:Opn):Prop:=o.kind=2→∀ s,out[o.n.toNat]?=some s→s.op≠23∧s.op≠40
structure GoodF (nh:Int) (f:FS) (m:Nat):Prop where
 fits:Fits nh f.out
 pl:f.pl.length=m
 plfit:∀ p∈f.pl,opnFits nh f.out.length p=true
 plno:∀ p∈f.pl,NoIs f.out p
 left:∀(k:Nat) (s:Stp),f.out[k]?=some s→knownF s=none∧∀ o∈s.l,NoIs f.out o
 le:f.out.length≤m
theorem turnO_mem{nh:Int}{f:FS}{m:Nat}{o:Opn}(hp:f.pl.length=m)(h:opnFits nh m o=true):(o.kind=2∧turnO f.pl o∈f.pl∧f.pl[o.n.toNat]?=some (turnO f.pl o))∨(o.kind≠2∧turnO f.pl o=o):=by
 unfold turnO
 by_cases hk:o.kind=2
 ·obtain⟨h1,h2⟩:=opnFits_step h hk
  obtain⟨p,hpp⟩:=get_of_lt (l:=f.pl) (i:=o.n.toNat) (by omega)
  rw[if_pos hk,hpp]
  exact .inl ⟨hk,List.mem_of_getElem? hpp,rfl⟩
 ·rw[if_neg hk];exact .inr ⟨hk,rfl⟩
theorem fits_not{nh a b:Int}{o:Opn}(hk:o.kind≠2)(h:opnFits nh a o=true):opnFits nh b o=true:=by
 unfold opnFits at h ⊢
 rw[if_neg hk] at h ⊢
 exact h
theorem none_zero:noneV zeroVal=true:=(sameV_iff _ _).2 rfl
structure SemF (homes:List Val) (f:FS) (made md:List Val):Prop where
 run:stepsV homes f.out []=some made
 at_:∀(j:Nat) (p:Opn),f.pl[j]?=some p→md[j]?=some (ofO homes made p)
theorem stop_ext{homes:List Val}{a b C:List Stp}(h:stepsV homes a []=none)(e:b=a++C):stepsV homes b []=none:=by
 rw[e,steps_app,h];rfl
end Go.RI
namespace Go.RI
open Go
structure Sem (homes:List Val) (g:GS) (made md:List Val):Prop where
 run:stepsV homes g.out []=some made
 at_:∀(j:Nat) (p:Int),g.pl[j]?=some p→made[p.toNat]?=md[j]?
 hs:∀(h:Nat) (k:Int),g.hs[h]?=some k→k≠-1→∃ v,homes[h]?=some v∧v.kind=k
end Go.RI
namespace Go.RI
open Go
structure KS where
 l:List Stp
 hs:List Int
def knownK(k:KS)(o:Opn):Int:=knownI ⟨k.l,k.hs,[]⟩ o
def addK(k:KS)(i:Stp):KS:=⟨k.l++[i],noteG k.hs i i.l⟩
def ks0(nh:Int):KS:=⟨[],List.replicate nh.toNat (-1)⟩
def addL:KS→List Stp→KS
 | k,[]=>k
 | k,i::l=>addL (addK k i) l
def factsK(nh:Int)(l:List Stp):KS:=addL (ks0 nh) l
theorem addL_app:∀(l m:List Stp) (k:KS),addL k (l++m)=addL (addL k l) m
 | [],_,_=>rfl
 | i::l,m,k=>addL_app l m (addK k i)
theorem addL_l:∀(l:List Stp) (k:KS),(addL k l).l=k.l++l
 | [],k=>by simp[addL]
 | i::l,k=>by rw[addL,addL_l l];simp[addK]
theorem facts_l(nh:Int)(l:List Stp):(factsK nh l).l=l:=by simp[factsK,addL_l,ks0]
theorem facts_snoc(nh:Int)(l:List Stp)(i:Stp):factsK nh (l++[i])=addK (factsK nh l) i:=by simp[factsK,addL_app,addL]
theorem addL_hs:∀(l:List Stp) (k:KS),(addL k l).hs.length=k.hs.length
 | [],k=>rfl
 | i::l,k=>by rw[addL,addL_hs l];simp[addK,noteG_len]
theorem facts_hs(nh:Int)(l:List Stp):(factsK nh l).hs.length=nh.toNat:=by simp[factsK,addL_hs,ks0]
def allK(k:KS)(l:List Opn)(c:Int):Bool:=l.all fun o=>decide (knownK k o=c)
def isInt(op:Int):Bool:=decide (op=6)||decide (op=10)||decide (op=11)||decide (op=41)||decide (op=43)||decide (op=44)||decide (op=45)||decide (op=46)||decide (op=47)||decide (op=48)||decide (op=49)
def sureK(k:KS)(i:Stp):Bool :=
 if i.op=14∨i.op=15 then true
 else if i.op=40 then allK k i.l i.n
 else if i.op=7∨i.op=42 then allK k i.l 2
 else if i.op=8 then allK k i.l 3||allK k i.l 4
 else if isInt i.op=true then allK k i.l 1
 else false
theorem fits_take{nh:Int}{l:List Stp}(h:Fits nh l)(n:Nat):Fits nh (l.take n):=fun k s hk=>by
 rw[List.getElem?_take] at hk
 split at hk
 ·exact h k s hk
 ·cases hk
theorem fits_pre{nh:Int}{l:List Stp}{i:Stp}(h:Fits nh (l++[i])):Fits nh l∧stpFits nh l.length i=true:=by
 refine⟨fun k s hk=>h k s ?_,h l.length i (by simp)⟩
 rcases Nat.lt_or_ge k l.length with h1|h1
 ·rw[List.getElem?_append_left h1];exact hk
 ·rw[List.getElem?_eq_none h1] at hk;cases hk
theorem facts_homes{homes:List Val}{nh:Int}(hlen:(homes.length:Int)=nh):∀(n:Nat) (l:List Stp) (made:List Val),l.length=n→Fits nh l→stepsV homes l []=some made→∀(h:Nat) (k:Int),(factsK nh l).hs[h]?=some k→k≠-1→∃ v,homes[h]?=some v∧v.kind=k:=by
  intro n
  induction n with
  | zero =>
    intro l made hn hf hr h k hh hk
    obtain rfl:l=[]:=List.eq_nil_of_length_eq_zero hn
    simp only[factsK,addL,ks0] at hh
    have:=List.mem_of_getElem? hh
    rw[List.mem_replicate] at this
    exact absurd this.2 hk
  | succ n ih =>
    intro l made hn hf hr h k hh hk
    have hne:l≠[]:=by intro e;subst e;simp at hn
    obtain⟨l',i,rfl⟩:∃ l' i,l=l'++[i]:=⟨l.dropLast,l.getLast hne,(List.dropLast_concat_getLast hne).symm⟩
    obtain⟨hf',hi⟩:=fits_pre hf
    rw[steps_app] at hr
    cases hm:stepsV homes l' [] with
    | none=>rw[hm] at hr;cases hr
    | some made' =>
      rw[hm] at hr
      simp only[Option.bind_some,stepsV] at hr
      rw[facts_snoc] at hh
      simp only[addK,noteG] at hh
      have ih':=ih l' made' (by simpa using hn) hf' hm
      split at hh
      · rename_i hc
        cases hv:stepV i (i.l.map (ofO homes made')) with
        | none=>rw[hv] at hr;cases hr
        | some v =>
          obtain⟨o,ho⟩:=one_len (fits_hands hi (.inr hc.1))
          have hof:=fits_all hi o (by rw[ho];simp)
          rw[ho] at hh hc
          simp only[List.getElem?_cons_zero,Option.getD_some] at hh hc
          obtain⟨b1,b2⟩:=opnFits_home hof hc.2
          by_cases he:h=o.n.toNat
          · subst he
            rw[List.getElem?_set_self (by rw[facts_hs];omega)] at hh
            have hh:i.n=k:=Option.some.inj hh
            obtain⟨w,hw⟩:=get_of_lt (l:=homes) (i:=o.n.toNat) (by omega)
            have h7:=(stepV_op hv).1
            have h8:ofO homes made' o=w:=by simp[ofO,hc.2,hw]
            rw[ho] at h7
            simp[opS,hc.1,h8] at h7
            exact⟨w,hw,by omega⟩
          · rw[List.getElem?_set_ne (fun e=>he e.symm)] at hh
            exact ih' h k hh hk
      · exact ih' h k hh hk
theorem knownK_kind{homes made:List Val}{nh:Int}{l:List Stp}{o:Opn}(hlen:(homes.length:Int)=nh)(hf:Fits nh l)(hr:stepsV homes l []=some made)(ho:opnFits nh l.length o=true)(hne:knownK (factsK nh l) o≠-1):(ofO homes made o).kind=knownK (factsK nh l) o:=by
 revert hne
 unfold knownK knownI
 simp only[facts_l]
 split
 ·rename_i h1
  obtain⟨b1,b2⟩:=opnFits_home ho h1
  obtain⟨x,hx⟩:=get_of_lt (l:=(factsK nh l).hs) (i:=o.n.toNat) (by rw[facts_hs];omega)
  rw[hx]
  intro hne
  obtain⟨v,hv,hvk⟩:=facts_homes hlen _ l made rfl hf hr _ _ hx hne
  simp[ofO,h1,hv,hvk]
 ·split
  ·rename_i h2
   obtain⟨b1,b2⟩:=opnFits_step ho h2
   obtain⟨s,hs2⟩:=get_of_lt (l:=l) (i:=o.n.toNat) (by omega)
   rw[hs2]
   intro hne
   obtain⟨v,w,h3,h4⟩:=steps_at _ _ _ _ _ hr hs2
   have h3:made[o.n.toNat]?=some v:=by simpa using h3
   have:=makes_kind h4 hne
   simp[ofO,h2,h3,this]
  ·rename_i h1 h2
   intro _
   simp[ofO,h1,h2]
theorem allK_kinds{homes made:List Val}{nh c:Int}{l:List Stp}{ops:List Opn}(hlen:(homes.length:Int)=nh)(hf:Fits nh l)(hr:stepsV homes l []=some made)(ho:∀ o∈ops,opnFits nh l.length o=true)(hc:c≠-1)(h:allK (factsK nh l) ops c=true):∀ v∈ops.map (ofO homes made),v.kind=c:=by
 intro v hv
 obtain⟨o,hom,rfl⟩:=List.mem_map.1 hv
 have h1:=List.all_eq_true.1 h o hom
 simp only[decide_eq_true_eq] at h1
 rw[knownK_kind hlen hf hr (ho o hom) (by rw[h1];exact hc),h1]
theorem steps_may{homes:List Val}:∀(l:List Stp) (m made:List Val),stepsV homes l m=some made→m.all mayV=true→made.all mayV=true
  | [],m,made,h,hm=>by simp only[stepsV] at h;cases h;exact hm
  | i::l,m,made,h,hm=>by
    simp only[stepsV] at h
    cases hv:stepV i (i.l.map (ofO homes m)) with
    | none=>rw[hv] at h;cases h
    | some v =>
      rw[hv] at h
      refine steps_may l _ made h ?_
      rw[List.all_append,hm]
      simp[step_may hv]
theorem ofO_may{homes made:List Val}{nh a:Int}{o:Opn}(h1:homes.all mayV=true)(h2:made.all mayV=true)(ho:opnFits nh a o=true):mayV (ofO homes made o)=true:=by
 unfold ofO
 split
 ·exact may_get h1 _
 ·split
  ·exact may_get h2 _
  ·rename_i k1 k2
   unfold opnFits at ho
   rw[if_neg k1,if_neg k2] at ho
   split at ho
   ·simp only[Bool.and_eq_true] at ho;exact ho.2
   ·cases ho
theorem bin_rng{op:Int}{a b:Val}(h1:9≤op)(h2:op≤19)(ha:mayV a=true)(hb:mayV b=true):binaryV op a b=((binV2 op a b).1,(binV2 op a b).2,0):=by
 unfold binaryV
 rw[if_neg]
 simp[ha,hb];omega
theorem sure_op{i:Stp}{l:List Val}(hall:l.all mayV=true)(hn:(needs i).1≤l.length)(hn2:(l.length:Int)≤(needs i).2.1)
    (h:i.op=14∨i.op=15∨(i.op=40∧∀ v∈l,v.kind=i.n)∨((i.op=7∨i.op=42)∧∀ v∈l,v.kind=2)∨(i.op=8∧((∀ v∈l,v.kind=3)∨∀ v∈l,v.kind=4))∨(isInt i.op=true∧∀ v∈l,v.kind=1)):∃ v,opS i l=some v:=by
  have two:(needs i).1=2→(needs i).2.1=2→∃ a b,l=[a,b]:=fun e1 e2=>by
    rw[e1] at hn;rw[e2] at hn2
    match l,hn,hn2 with
    | [a,b],_,_=>exact⟨a,b,rfl⟩
    | [],h,_=>simp at h
    | [a],h,_=>simp at h
    | a::b::c::m,_,h=>simp at h;omega
  have one:(needs i).1=1→(needs i).2.1=1→∃ a,l=[a]:=fun e1 e2=>by
    rw[e1] at hn;rw[e2] at hn2
    match l,hn,hn2 with
    | [a],_,_=>exact⟨a,rfl⟩
    | [],h,_=>simp at h
    | a::b::m,_,h=>simp at h;omega
  have ints:∀(op:Int) (a b:Val),(op=9∨op=10∨op=11∨op=16∨op=17)→mayV a=true→mayV b=true→a.kind=1→b.kind=1→∃ v,resV (binaryV op a b)=some v:=by
    intro op a b ho ha hb ka kb
    rw[bin_rng (by omega) (by omega) ha hb]
    rcases ho with rfl|rfl|rfl|rfl|rfl<;>simp[binV2,ka,kb,intsV,resV]
  rcases h with h|h|⟨h,hk⟩|⟨h,hk⟩|⟨h,hk⟩|⟨h,hk⟩
  · obtain⟨a,b,rfl⟩:=two (by simp[needs,h]) (by simp[needs,h])
    simp only[List.all_cons,List.all_nil,Bool.and_true,Bool.and_eq_true] at hall
    have e:opS i [a,b]=resV (binaryV 14 a b):=by simp[opS,h,needs]
    rw[e,bin_rng (by omega) (by omega) hall.1 hall.2]
    simp[binV2,resV]
  · obtain⟨a,b,rfl⟩:=two (by simp[needs,h]) (by simp[needs,h])
    simp only[List.all_cons,List.all_nil,Bool.and_true,Bool.and_eq_true] at hall
    have e:opS i [a,b]=resV (binaryV 15 a b):=by simp[opS,h,needs]
    rw[e,bin_rng (by omega) (by omega) hall.1 hall.2]
    simp[binV2,resV]
  · obtain⟨a,rfl⟩:=one (by simp[needs,h]) (by simp[needs,h])
    have:=hk a (by simp)
    exact⟨a,by simp[opS,h,this]⟩
  · have ho:(needs i).1=1∧(needs i).2.1=1:=by rcases h with h|h<;>simp[needs,h]
    obtain⟨a,rfl⟩:=one ho.1 ho.2
    have hka:=hk a (by simp)
    simp only[List.all_cons,List.all_nil,Bool.and_true] at hall
    have e:opS i [a]=resV (unaryV 7 a):=by rcases h with h|h<;>simp[opS,h,needs]
    rw[e]
    simp[unaryV,hall,hka,resV]
  · obtain⟨a,rfl⟩:=one (by simp[needs,h]) (by simp[needs,h])
    simp only[List.all_cons,List.all_nil,Bool.and_true] at hall
    have hka:a.kind=3∨a.kind=4:=hk.imp (fun h=>h a (by simp)) (fun h=>h a (by simp))
    have e:opS i [a]=resV (unaryV 8 a):=by simp[opS,h,needs]
    rw[e]
    simp[unaryV,hall,hka,resV]
  · simp only[isInt,Bool.or_eq_true,decide_eq_true_eq] at h
    rcases h with((((((((((h|h)|h)|h)|h)|h)|h)|h)|h)|h)|h)
    · obtain⟨a,rfl⟩:=one (by simp[needs,h]) (by simp[needs,h])
      have hka:=hk a (by simp)
      simp only[List.all_cons,List.all_nil,Bool.and_true] at hall
      have e:opS i [a]=resV (unaryV 6 a):=by simp[opS,h,needs]
      rw[e]
      simp[unaryV,hall,hka,resV]
    · obtain⟨a,b,rfl⟩:=two (by simp[needs,h]) (by simp[needs,h])
      have e:opS i [a,b]=resV (binaryV 10 a b):=by simp[opS,h,needs]
      simp only[List.all_cons,List.all_nil,Bool.and_true,Bool.and_eq_true] at hall
      rw[e]
      exact ints 10 a b (by omega) hall.1 hall.2 (hk a (by simp)) (hk b (by simp))
    · obtain⟨a,b,rfl⟩:=two (by simp[needs,h]) (by simp[needs,h])
      have e:opS i [a,b]=resV (binaryV 11 a b):=by simp[opS,h,needs]
      simp only[List.all_cons,List.all_nil,Bool.and_true,Bool.and_eq_true] at hall
      rw[e]
      exact ints 11 a b (by omega) hall.1 hall.2 (hk a (by simp)) (hk b (by simp))
    · obtain⟨a,rfl⟩:=one (by simp[needs,h]) (by simp[needs,h])
      have hka:=hk a (by simp)
      simp only[List.all_cons,List.all_nil,Bool.and_true] at hall
      have e:opS i [a]=resV (unaryV 6 a):=by simp[opS,h,needs]
      rw[e]
      simp[unaryV,hall,hka,resV]
    all_goals first
      | (obtain⟨a,b,rfl⟩:=two (by simp[needs,h]) (by simp[needs,h])
         have ka:=hk a (by simp)
         have kb:=hk b (by simp)
         simp only[List.all_cons,List.all_nil,Bool.and_true,Bool.and_eq_true] at hall
         have h9:=ints 9 a b (by omega) hall.1 hall.2 ka kb
         have h10:=ints 10 a b (by omega) hall.1 hall.2 ka kb
         have h11:=ints 11 a b (by omega) hall.1 hall.2 ka kb
         have h16:=ints 16 a b (by omega) hall.1 hall.2 ka kb
         have h17:=ints 17 a b (by omega) hall.1 hall.2 ka kb
         simp only[opS,h,intsS,List.getElem?_cons_zero,List.getElem?_cons_succ,Option.getD_some,ka,kb]
         first|simpa using h9|simpa using h10|simpa using h11|simpa using h16|simpa using h17)
      | (obtain⟨a,rfl⟩:=one (by simp[needs,h]) (by simp[needs,h])
         have ka:=hk a (by simp)
         simp only[List.all_cons,List.all_nil,Bool.and_true] at hall
         have h9:=ints 9 a (numV i.n) (by omega) hall (may_num _) ka rfl
         have h16:=ints 16 a (numV i.n) (by omega) hall (may_num _) ka rfl
         simp only[opS,h,intsS,List.getElem?_cons_zero,Option.getD_some,ka]
         first|simpa[numV] using h9|simpa[numV] using h16)
theorem sure_makes{homes made:List Val}{nh:Int}{l:List Stp}{i:Stp}(hlen:(homes.length:Int)=nh)(hall:homes.all mayV=true)(hf:Fits nh l)(hr:stepsV homes l []=some made)(hi:stpFits nh l.length i=true)(hs:sureK (factsK nh l) i=true):∃ v,stepV i (i.l.map (ofO homes made))=some v:=by
 have hmm:=steps_may l [] made hr rfl
 have ho:=fits_all hi
 have hvm:(i.l.map (ofO homes made)).all mayV=true:=by
  rw[List.all_eq_true]
  intro v hv
  obtain⟨o,hom,rfl⟩:=List.mem_map.1 hv
  exact ofO_may hall hmm (ho o hom)
 have hi':=hi
 unfold stpFits at hi'
 simp only[Bool.and_eq_true,decide_eq_true_eq] at hi'
 obtain⟨⟨⟨n0,n1⟩,n2⟩,_⟩:=hi'
 unfold stepV
 rw[if_pos ⟨n0,by simpa using n1,by simpa using n2,hvm⟩]
 refine sure_op hvm (by simpa using n1) (by simpa using n2) ?_
 have kk:∀ c:Int,c≠-1→allK (factsK nh l) i.l c=true→∀ v∈i.l.map (ofO homes made),v.kind=c:=fun c hc h=>allK_kinds hlen hf hr ho hc h
 unfold sureK at hs
 split at hs
 ·rename_i h;rcases h with h|h
  ·exact .inl h
  ·exact .inr (.inl h)
 split at hs
 ·rename_i h
  refine .inr (.inr (.inl ⟨h,kk _ ?_ hs⟩))
  intro e
  simp[needs,h,e] at n0
 split at hs
 ·rename_i h;exact .inr (.inr (.inr (.inl ⟨h,kk _ (by omega) hs⟩)))
 split at hs
 ·rename_i h
  refine .inr (.inr (.inr (.inr (.inl ⟨h,?_⟩))))
  rw[Bool.or_eq_true] at hs
  exact hs.imp (kk _ (by omega)) (kk _ (by omega))
 split at hs
 ·rename_i h;exact .inr (.inr (.inr (.inr (.inr ⟨h,kk _ (by omega) hs⟩))))
 ·cases hs
end Go.RI
namespace Go.RI
open Go
theorem idxF_spec{α:Type}{p:α→Bool}:∀(l:List α) (i:Int),0≤i→(idxF p l i=-1∧∀ x∈l,p x=false)∨∃(n:Nat) (x:α),idxF p l i=i+n∧l[n]?=some x∧p x=true
  | [],i,_=>.inl ⟨rfl,fun x h=>by cases h⟩
  | a::l,i,hi=>by
    unfold idxF
    by_cases h:p a=true
    · rw[if_pos h];exact .inr ⟨0,a,by simp,rfl,h⟩
    · rw[if_neg h]
      rcases idxF_spec (p:=p) l (i+1) (by omega) with⟨h1,h2⟩|⟨n,x,h1,h2,h3⟩
      · refine .inl ⟨h1,fun x hx=>?_⟩
        rcases List.mem_cons.1 hx with rfl|hx
        · exact Bool.eq_false_iff.2 h
        · exact h2 x hx
      · exact .inr ⟨n+1,x,by rw[h1];omega,by simpa using h2,h3⟩
theorem turnO_memP{nh:Int}{pl:List Opn}{m:Nat}{o:Opn}(hp:pl.length=m)(h:opnFits nh m o=true):(o.kind=2∧turnO pl o∈pl∧pl[o.n.toNat]?=some (turnO pl o))∨(o.kind≠2∧turnO pl o=o):=turnO_mem (f:=⟨[],pl⟩) hp h
theorem turnO_fitsP{nh:Int}{pl:List Opn}{n m:Nat}{o:Opn}(hp:pl.length=m)(hf:∀ p∈pl,opnFits nh n p=true)(h:opnFits nh m o=true):opnFits nh n (turnO pl o)=true:=by
 rcases turnO_memP hp h with⟨_,h1,_⟩|⟨h1,h2⟩
 ·exact hf _ h1
 ·rw[h2];exact fits_not h1 h
theorem map_fits{nh a b:Int}{g:Opn→Opn}{i:Stp}(hg:∀ o∈i.l,opnFits nh b (g o)=true)(h:stpFits nh a i=true):stpFits nh b ⟨i.op,i.n,i.l.map g,i.s,i.names⟩=true:=by
 have hn:needs ⟨i.op,i.n,i.l.map g,i.s,i.names⟩=needs i:=rfl
 unfold stpFits at h ⊢
 rw[hn]
 simp only[Bool.and_eq_true,List.all_eq_true,List.length_map] at h ⊢
 refine⟨h.1,fun o ho=>?_⟩
 obtain⟨p,hp,rfl⟩:=List.mem_map.1 ho
 exact hg p hp
theorem turnS_fitsP{nh:Int}{pl:List Opn}{n m:Nat}{i:Stp}(hp:pl.length=m)(hf:∀ p∈pl,opnFits nh n p=true)(h:stpFits nh m i=true):stpFits nh n (turnS pl i)=true :=
 map_fits (fun o ho=>turnO_fitsP hp hf (fits_all h o ho)) h
theorem place_fitsP{nh:Int}{n N:Nat}{j:Stp}(hn:n<N)(h:stpFits nh N j=true):opnFits nh N (placeF n j)=true:=by
 unfold placeF
 split
 ·rename_i ho
  obtain⟨x,hx⟩:=one_len (fits_hands h ho)
  rw[hx]
  exact fits_all h x (by rw[hx];simp)
 ·unfold opnFits stO
  rw[if_neg (by simp),if_pos rfl]
  simp only[none_zero,Bool.and_true,Bool.and_eq_true,decide_eq_true_eq]
  omega
structure OS where
 k:KS
 pl:List Opn
def idxS(l:List Stp)(j:Stp):Int:=idxF (fun t=>decide (j=t)) l 0
def onceJ(s:OS)(j:Stp):OS :=
 if j.op=40∧sureK s.k j=true then⟨s.k,s.pl++[j.l[0]?.getD default]⟩
 else if idxS s.k.l j<0 then⟨addK s.k j,s.pl++[placeF s.k.l.length j]⟩
 else⟨s.k,s.pl++[placeF (idxS s.k.l j).toNat j]⟩
def onceS(s:OS)(i:Stp):OS:=onceJ s (turnS s.pl i)
def onceG:OS→List Stp→OS
 | s,[]=>s
 | s,i::l=>onceG (onceS s i) l
theorem onceG_app:∀(l m:List Stp) (s:OS),onceG s (l++m)=onceG (onceG s l) m
 | [],_,_=>rfl
 | i::l,m,s=>onceG_app l m (onceS s i)
def onceO(x:Pce):OS:=onceG ⟨ks0 x.homes,[]⟩ x.ins
structure GoodO (nh:Int) (s:OS) (m:Nat):Prop where
 fits:Fits nh s.k.l
 k:s.k=factsK nh s.k.l
 pl:s.pl.length=m
 plfit:∀ p∈s.pl,opnFits nh s.k.l.length p=true
 le:s.k.l.length≤m
 nodup:∀(a b:Nat) (t:Stp),a<b→s.k.l[a]?=some t→s.k.l[b]?=some t→False
 chk:∀(n:Nat) (t:Stp),s.k.l[n]?=some t→t.op=40→sureK (factsK nh (s.k.l.take n)) t=false
theorem get_snoc{α:Type}{l:List α}{x y:α}{n:Nat}(h:(l++[x])[n]?=some y):(n<l.length∧l[n]?=some y)∨(n=l.length∧y=x):=by
 rcases Nat.lt_or_ge n l.length with h1|h1
 ·rw[List.getElem?_append_left h1] at h;exact .inl ⟨h1,h⟩
 ·rcases Nat.lt_or_ge n (l.length+1) with h2|h2
  ·have:n=l.length:=by omega
   subst this
   simp at h
   exact .inr ⟨rfl,h.symm⟩
  ·rw[List.getElem?_eq_none (by simp;omega)] at h;cases h
theorem mem_snoc{α:Type}{l:List α}{x y:α}(h:y∈l++[x]):y∈l∨y=x:=by simpa using h
theorem onceS_good{nh:Int}{s:OS}{m:Nat}{i:Stp}(hg:GoodO nh s m)(h:stpFits nh m i=true):GoodO nh (onceS s i) (m+1):=by
 have hj:=turnS_fitsP hg.pl hg.plfit h
 unfold onceS onceJ
 generalize turnS s.pl i=j at *
 by_cases h1:j.op=40∧sureK s.k j=true
 ·rw[if_pos h1]
  refine⟨hg.fits,hg.k,by simp[hg.pl],fun p hp=>?_,by have:=hg.le;simp only;omega,hg.nodup,hg.chk⟩
  rcases mem_snoc hp with hp|rfl
  ·exact hg.plfit p hp
  ·obtain⟨x,hx⟩:=one_len (fits_hands hj (.inr h1.1))
   rw[hx]
   exact fits_all hj x (by rw[hx];simp)
 rw[if_neg h1]
 have hspec:(idxS s.k.l j=-1∧∀ x∈s.k.l,decide (j=x)=false)∨∃(n:Nat) (x:Stp),idxS s.k.l j=0+n∧s.k.l[n]?=some x∧decide (j=x)=true:=idxF_spec (p:=fun t=>decide (j=t)) s.k.l 0 (by omega)
 by_cases h2:idxS s.k.l j<0
 ·rw[if_pos h2]
  have hno:∀ t∈s.k.l,t≠j:=by
   rcases hspec with⟨_,h3⟩|⟨n,x,h3,_,_⟩
   ·intro t ht e;subst e;have:=h3 _ ht;simp at this
   ·omega
  refine⟨fits_add hg.fits hj,?_,by simp[hg.pl],fun p hp=>?_,by have:=hg.le;simp[addK];omega,fun a b t hab ha hb=>?_,fun n t hn ho=>?_⟩
  ·simp only[addK]
   rw[facts_snoc,←hg.k];rfl
  ·simp only[addK,List.length_append,List.length_singleton]
   rcases mem_snoc hp with hp|rfl
   ·exact opnFits_mono (by omega) (hg.plfit p hp)
   ·exact place_fitsP (by omega) (fits_mono (by omega) hj)
  ·simp only[addK] at ha hb
   rcases get_snoc hb with⟨hb1,hb2⟩|⟨rfl,rfl⟩
   ·rw[List.getElem?_append_left (by omega)] at ha
    exact hg.nodup a b t hab ha hb2
   ·rw[List.getElem?_append_left (by omega)] at ha
    exact hno _ (List.mem_of_getElem? ha) rfl
  ·simp only[addK] at hn ⊢
   rcases get_snoc hn with⟨hn1,hn2⟩|⟨rfl,rfl⟩
   ·rw[List.take_append_of_le_length (by omega)]
    exact hg.chk n t hn2 ho
   ·rw[List.take_append_of_le_length (Nat.le_refl _),List.take_of_length_le (Nat.le_refl _),←hg.k]
    exact Bool.eq_false_iff.2 fun e=>h1 ⟨ho,e⟩
 ·rw[if_neg h2]
  refine⟨hg.fits,hg.k,by simp[hg.pl],fun p hp=>?_,by have:=hg.le;simp only;omega,hg.nodup,hg.chk⟩
  rcases mem_snoc hp with hp|rfl
  ·exact hg.plfit p hp
  ·rcases hspec with⟨h3,_⟩|⟨n,x,h3,h4,_⟩
   ·omega
   ·have hlt:n<s.k.l.length:=by
     rcases Nat.lt_or_ge n s.k.l.length with h|h
     ·exact h
     ·rw[List.getElem?_eq_none h] at h4;cases h4
    rw[h3,show(0+(n:Int)).toNat=n by omega]
    exact place_fitsP hlt hj
theorem onceG_good{nh:Int}:∀(l:List Stp) (s:OS) (m:Nat),GoodO nh s m→(∀(k:Nat) (t:Stp),l[k]?=some t→stpFits nh (m+k:Nat) t=true)→GoodO nh (onceG s l) (m+l.length)
  | [],s,m,hg,_=>hg
  | i::l,s,m,hg,h=>by
    have:=onceG_good l (onceS s i) (m+1) (onceS_good hg (h 0 i rfl)) fun k t hk=>by
      have:=h (k+1) t (by simpa using hk)
      rwa [show m+(k+1)=m+1+k by omega] at this
    rw[List.length_cons,show m+(l.length+1)=m+1+l.length by omega]
    exact this
theorem os0_good{nh:Int}:GoodO nh ⟨ks0 nh,[]⟩ 0:=⟨fun k s h=>by simp[ks0] at h,rfl,rfl,fun p h=>by simp at h,Nat.le_refl _,fun a b t _ h=>by simp[ks0] at h,fun n t h=>by simp[ks0] at h⟩
theorem onceO_good{x:Pce}(hc:checkP x=true):GoodO x.homes (onceO x) x.ins.length:=by
 have:=onceG_good (nh:=x.homes) x.ins ⟨ks0 x.homes,[]⟩ 0 os0_good fun k s hk=>by simpa using check_fits hc k s hk
 rwa [Nat.zero_add] at this
theorem steps_byA{homes:List Val}:∀(l:List Stp) (m made:List Val),stepsV homes l m=some made→∀(k:Nat) (s:Stp),l[k]?=some s→ev homes (made.take (m.length+k)) s=made[m.length+k]?
  | [],m,made,_,k,s,hk=>by simp at hk
  | i::l,m,made,h,k,s,hk=>by
    simp only[stepsV] at h
    cases hv:stepV i (i.l.map (ofO homes m)) with
    | none=>rw[hv] at h;cases h
    | some v =>
      rw[hv] at h
      simp only at h
      cases k with
      | zero =>
        obtain⟨more,rfl,_⟩:=steps_pre l _ _ h
        simp at hk
        subst hk
        simp[ev,hv]
      | succ k =>
        have:=steps_byA l _ _ h k s (by simpa using hk)
        rw[List.length_append,List.length_singleton,show m.length+1+k=m.length+(k+1) by omega] at this
        exact this
theorem steps_by{homes made:List Val}{l:List Stp}(h:stepsV homes l []=some made):MadeBy homes l made :=
 ⟨steps_len h,fun k s hk=>by simpa using steps_byA l [] made h k s hk⟩
theorem step_was{homes made:List Val}{nh:Int}{l:List Stp}{n:Nat}{j:Stp}(hf:Fits nh l)(h:stepsV homes l []=some made)(hj:l[n]?=some j):∃ v,made[n]?=some v∧stepV j (j.l.map (ofO homes made))=some v:=by
 have hb:=steps_by h
 have hlt:n<l.length:=by
  rcases Nat.lt_or_ge n l.length with h|h
  ·exact h
  ·rw[List.getElem?_eq_none h] at hj;cases hj
 obtain⟨v,hv⟩:=get_of_lt (l:=made) (i:=n) (by rw[hb.1];exact hlt)
 refine⟨v,hv,?_⟩
 have:=hb.2 n j hj
 rw[hv] at this
 rw[←this]
 exact(ev_congr fun o ho=>of_take fun hk=>opnFits_step (fits_all (hf n j hj) o ho) hk).symm
structure SemP (homes:List Val) (l:List Stp) (pl:List Opn) (made md:List Val):Prop where
 run:stepsV homes l []=some made
 at_:∀(j:Nat) (p:Opn),pl[j]?=some p→md[j]?=some (ofO homes made p)
theorem turnO_ofP{homes made md:List Val}{nh:Int}{l:List Stp}{pl:List Opn}{m:Nat}{o:Opn}(hp:pl.length=m)(hs:SemP homes l pl made md)(h:opnFits nh m o=true):ofO homes made (turnO pl o)=ofO homes md o:=by
 rcases turnO_memP hp h with⟨hk,_,h1⟩|⟨h1,h2⟩
 ·have:=hs.at_ _ _ h1
  have e:ofO homes md o=md[o.n.toNat]?.getD zeroVal:=by simp[ofO,hk]
  rw[e,this];rfl
 ·rw[h2];simp[ofO,h1]
theorem semP_snoc{homes made md:List Val}{l:List Stp}{pl:List Opn}{p:Opn}{v:Val}(hm:md.length=pl.length)(hs:SemP homes l pl made md)(hv:ofO homes made p=v):SemP homes l (pl++[p]) made (md++[v]) :=
 ⟨hs.run,fun j q hq=>by
  rcases get_snoc hq with⟨h1,h2⟩|⟨rfl,rfl⟩
  ·rw[List.getElem?_append_left (by omega)];exact hs.at_ j q h2
  ·rw[←hm];simp[hv]⟩
theorem semP_app{homes made md:List Val}{nh:Int}{l:List Stp}{pl:List Opn}{j:Stp}{v:Val}(hs:SemP homes l pl made md)(hpf:∀ p∈pl,opnFits nh l.length p=true)(hv:stepV j (j.l.map (ofO homes made))=some v):SemP homes (l++[j]) pl (made++[v]) md:=by
 refine⟨by rw[steps_app,hs.run];simp[stepsV,hv],fun k q hq=>?_⟩
 rw[hs.at_ k q hq,of_app]
 intro hk
 have h1:=opnFits_step (hpf q (List.mem_of_getElem? hq)) hk
 have h2:=steps_len hs.run
 omega
theorem place_of{homes made:List Val}{nh:Int}{n N:Nat}{j:Stp}{v:Val}(hj:stpFits nh N j=true)(hv:stepV j (j.l.map (ofO homes made))=some v)(hn:made[n]?=some v):ofO homes made (placeF n j)=v:=by
 unfold placeF
 split
 ·rename_i ho
  have hho:=step_hands ho hv
  obtain⟨x,hx⟩:=one_len (fits_hands hj ho)
  rw[hx] at hho ⊢
  simpa using hho.symm
 ·simp[ofO,stO,hn]
theorem onceS_sem{homes made md:List Val}{nh:Int}{s:OS}{m:Nat}{i:Stp}(hlen:(homes.length:Int)=nh)(hall:homes.all mayV=true)(hg:GoodO nh s m)(hm:md.length=m)(hs:SemP homes s.k.l s.pl made md)(hi:stpFits nh m i=true) :
    match stepV i (i.l.map (ofO homes md)) with
      | some v=>∃ made',SemP homes (onceS s i).k.l (onceS s i).pl made' (md++[v])
      | none=>stepsV homes (onceS s i).k.l []=none:=by
  have hl:=steps_len hs.run
  have hj:=turnS_fitsP hg.pl hg.plfit hi
  have hv:(turnS s.pl i).l.map (ofO homes made)=i.l.map (ofO homes md):=by
    simp only[turnS,List.map_map]
    exact List.map_congr_left fun o ho=>turnO_ofP hg.pl hs (fits_all hi o ho)
  have hst:stepV i (i.l.map (ofO homes md))=stepV (turnS s.pl i) ((turnS s.pl i).l.map (ofO homes made)):=by rw[hv];rfl
  have hmp:md.length=s.pl.length:=by rw[hm,hg.pl]
  rw[hst]
  unfold onceS onceJ
  generalize turnS s.pl i=j at *
  by_cases h1:j.op=40∧sureK s.k j=true
  · rw[if_pos h1]
    obtain⟨v,hv⟩:=sure_makes hlen hall hg.fits hs.run hj (by rw[←hg.k];exact h1.2)
    rw[hv]
    refine⟨made,semP_snoc hmp hs ?_⟩
    have hho:=step_hands (.inr h1.1) hv
    obtain⟨x,hx⟩:=one_len (fits_hands hj (.inr h1.1))
    rw[hx] at hho ⊢
    simpa using hho.symm
  rw[if_neg h1]
  have hspec:(idxS s.k.l j=-1∧∀ x∈s.k.l,decide (j=x)=false)∨∃(n:Nat) (x:Stp),idxS s.k.l j=0+n∧s.k.l[n]?=some x∧decide (j=x)=true:=idxF_spec (p:=fun t=>decide (j=t)) s.k.l 0 (by omega)
  by_cases h2:idxS s.k.l j<0
  · rw[if_pos h2]
    cases hv:stepV j (j.l.map (ofO homes made)) with
    | none =>
      simp only[addK]
      rw[steps_app,hs.run]
      simp[stepsV,hv]
    | some v =>
      refine⟨made++[v],?_⟩
      have h3:=semP_app hs hg.plfit hv
      refine semP_snoc hmp h3 (place_of (N:=s.k.l.length) hj ?_ (by rw[←hl];simp))
      rw[←hv]
      congr 1
      refine List.map_congr_left fun o ho=>of_app fun hk=>?_
      have:=opnFits_step (fits_all hj o ho) hk
      omega
  · rw[if_neg h2]
    rcases hspec with⟨h3,_⟩|⟨n,x,h3,h4,h5⟩
    · omega
    · simp only[decide_eq_true_eq] at h5
      subst h5
      obtain⟨v,hv1,hv2⟩:=step_was hg.fits hs.run h4
      rw[hv2]
      refine⟨made,semP_snoc hmp hs (place_of hj hv2 ?_)⟩
      rw[h3]
      simpa using hv1
theorem onceS_ext{s:OS}{i:Stp}:∃ C,(onceS s i).k.l=s.k.l++C:=by
 unfold onceS onceJ
 split
 ·exact⟨[],by simp⟩
 split
 ·exact⟨_,rfl⟩
 ·exact⟨[],by simp⟩
theorem onceG_ext:∀(l:List Stp) (s:OS),∃ C,(onceG s l).k.l=s.k.l++C
  | [],s=>⟨[],by simp[onceG]⟩
  | i::l,s=>by
    obtain⟨C,h1⟩:=onceS_ext (s:=s) (i:=i)
    obtain⟨D,h2⟩:=onceG_ext l (onceS s i)
    exact⟨C++D,by rw[onceG,h2,h1,List.append_assoc]⟩
theorem onceG_sem{homes:List Val}{nh:Int}(hlen:(homes.length:Int)=nh)(hall:homes.all mayV=true):∀(l:List Stp) (s:OS) (m:Nat) (made md:List Val),GoodO nh s m→md.length=m→SemP homes s.k.l s.pl made md→(∀(k:Nat) (t:Stp),l[k]?=some t→stpFits nh (m+k:Nat) t=true) →
    match stepsV homes l md with
      | some md'=>∃ made',SemP homes (onceG s l).k.l (onceG s l).pl made' md'
      | none=>stepsV homes (onceG s l).k.l []=none
  | [],s,m,made,md,_,_,hs,_=>⟨made,hs⟩
  | i::l,s,m,made,md,hg,hm,hs,h=>by
    have hi:stpFits nh m i=true:=h 0 i rfl
    have h1:=onceS_good hg hi
    have h2:=onceS_sem hlen hall hg hm hs hi
    obtain⟨C,hC⟩:=onceG_ext l (onceS s i)
    simp only[stepsV,onceG]
    cases hv:stepV i (i.l.map (ofO homes md)) with
    | none =>
      rw[hv] at h2
      exact stop_ext h2 hC
    | some v =>
      rw[hv] at h2
      obtain⟨made',hs'⟩:=h2
      exact onceG_sem hlen hall l _ (m+1) made' (md++[v]) h1 (by simp[hm]) hs' fun k t hk=>by
        have:=h (k+1) t (by simpa using hk)
        rwa [show m+(k+1)=m+1+k by omega] at this
end Go.RI
namespace Go.RI
open Go
def atN(nd:List Bool)(n:Nat):Bool:=nd[n]?.getD false
def need0(nh:Int)(l:List Stp)(n:Nat):Bool:=!sureK (factsK nh (l.take n)) (l[n]?.getD default)
def needs0(nh:Int)(l:List Stp):List Bool:=(List.range l.length).map (need0 nh l)
def markL:List Bool→List Opn→List Bool
 | out,[]=>out
 | out,o::ops=>markL (if o.kind=2 then out.set o.n.toNat true else out) ops
def markB(l:List Stp):Nat→List Bool→List Bool
 | 0,out=>out
 | n+1,out=>markB l n (if atN out n=true then markL out (l[n]?.getD default).l else out)
def needsP(nh:Int)(l:List Stp)(ops:List Opn):List Bool:=markB l l.length (markL (needs0 nh l) ops)
theorem markL_len:∀(ops:List Opn) (out:List Bool),(markL out ops).length=out.length
 | [],out=>rfl
 | o::ops,out=>by rw[markL,markL_len ops];split<;>simp
theorem at_set{out:List Bool}{n m:Nat}(h:atN out m=true):atN (out.set n true) m=true:=by
 unfold atN at h ⊢
 rw[List.getElem?_set]
 split
 ·rename_i e;subst e
  split
  ·rfl
  ·rename_i hl;rw[List.getElem?_eq_none (by omega)] at h;cases h
 ·exact h
theorem markL_mono:∀(ops:List Opn) (out:List Bool) (n:Nat),atN out n=true→atN (markL out ops) n=true
  | [],out,n,h=>h
  | o::ops,out,n,h=>by
    rw[markL]
    refine markL_mono ops _ n ?_
    split
    · exact at_set h
    · exact h
theorem markL_in:∀(ops:List Opn) (out:List Bool) (o:Opn),o∈ops→o.kind=2→o.n.toNat<out.length→atN (markL out ops) o.n.toNat=true
  | [],out,o,h,_,_=>by cases h
  | p::ops,out,o,h,hk,hlt=>by
    rw[markL]
    rcases List.mem_cons.1 h with rfl|h
    · refine markL_mono ops _ _ ?_
      rw[if_pos hk]
      simp[atN,hlt]
    · exact markL_in ops _ o h hk (by split<;>simp[hlt])
theorem markL_from:∀(ops:List Opn) (out:List Bool) (n:Nat),atN (markL out ops) n=true→atN out n=true∨∃ o∈ops,o.kind=2∧o.n.toNat=n
  | [],out,n,h=>.inl h
  | o::ops,out,n,h=>by
    rw[markL] at h
    rcases markL_from ops _ n h with h1|⟨p,h1,h2⟩
    · by_cases hk:o.kind=2
      · rw[if_pos hk] at h1
        by_cases he:o.n.toNat=n
        · exact .inr ⟨o,by simp,hk,he⟩
        · unfold atN at h1
          rw[List.getElem?_set_ne he] at h1
          exact .inl h1
      · rw[if_neg hk] at h1;exact .inl h1
    · exact .inr ⟨p,by simp[h1],h2⟩
theorem markB_len(l:List Stp):∀(n:Nat) (out:List Bool),(markB l n out).length=out.length
 | 0,out=>rfl
 | n+1,out=>by rw[markB,markB_len l n];split<;>simp[markL_len]
theorem markB_mono(l:List Stp):∀(n:Nat) (out:List Bool) (k:Nat),atN out k=true→atN (markB l n out) k=true
  | 0,out,k,h=>h
  | n+1,out,k,h=>by
    rw[markB]
    refine markB_mono l n _ k ?_
    split
    · exact markL_mono _ _ _ h
    · exact h
def ClosedN(l:List Stp)(n:Nat)(out:List Bool):Prop:=∀(m:Nat) (s:Stp),n≤m→l[m]?=some s→atN out m=true→∀ o∈s.l,o.kind=2→atN out o.n.toNat=true
theorem markB_closed{nh:Int}{l:List Stp}(hf:Fits nh l):∀(n:Nat) (out:List Bool),n≤l.length→out.length=l.length→ClosedN l n out→ClosedN l 0 (markB l n out)
  | 0,out,_,_,h=>h
  | n+1,out,hn,hl,h=>by
    rw[markB]
    obtain⟨t,ht⟩:=get_of_lt (l:=l) (i:=n) (by omega)
    refine markB_closed hf n _ (by omega) (by split<;>simp[markL_len,hl]) ?_
    intro m s hm hs ho o hos hk
    rw[ht] at ho ⊢
    simp only[Option.getD_some] at ho ⊢
    have hms:m<l.length:=by
      rcases Nat.lt_or_ge m l.length with h|h
      · exact h
      · rw[List.getElem?_eq_none h] at hs;cases hs
    have hb:=opnFits_step (fits_all (hf m s hs) o hos) hk
    by_cases hc:atN out n=true
    · rw[if_pos hc] at ho ⊢
      rcases Nat.lt_or_ge n m with h1|h1
      · rcases markL_from _ _ _ ho with h2|⟨p,h2,h3,h4⟩
        · exact markL_mono _ _ _ (h m s (by omega) hs h2 o hos hk)
        · have:=opnFits_step (fits_all (hf n t ht) p h2) h3
          omega
      · have:m=n:=by omega
        subst this
        rw[ht] at hs
        cases hs
        exact markL_in _ _ o hos hk (by omega)
    · rw[if_neg hc] at ho ⊢
      rcases Nat.lt_or_ge n m with h1|h1
      · exact h m s (by omega) hs ho o hos hk
      · have:m=n:=by omega
        subst this
        exact absurd ho hc
theorem markB_from{nh:Int}{l:List Stp}(hf:Fits nh l):∀(n:Nat) (out:List Bool) (k:Nat),n≤l.length→atN (markB l n out) k=true→atN out k=true∨∃(m:Nat) (s:Stp),k<m∧l[m]?=some s∧atN (markB l n out) m=true∧∃ o∈s.l,o.kind=2∧o.n.toNat=k
  | 0,out,k,_,h=>.inl h
  | n+1,out,k,hn,h=>by
    rw[markB] at h ⊢
    obtain⟨t,ht⟩:=get_of_lt (l:=l) (i:=n) (by omega)
    rw[ht] at h ⊢
    simp only[Option.getD_some] at h ⊢
    rcases markB_from hf n _ k (by omega) h with h1|h1
    · by_cases hc:atN out n=true
      · rw[if_pos hc] at h1
        rcases markL_from _ _ _ h1 with h2|⟨o,h2,h3,h4⟩
        · exact .inl h2
        · have hb:=opnFits_step (fits_all (hf n t ht) o h2) h3
          refine .inr ⟨n,t,by omega,ht,?_,o,h2,h3,h4⟩
          exact markB_mono _ _ _ _ (by rw[if_pos hc];exact markL_mono _ _ _ hc)
      · rw[if_neg hc] at h1;exact .inl h1
    · exact .inr h1
theorem needs0_at{nh:Int}{l:List Stp}{n:Nat}(h:n<l.length):atN (needs0 nh l) n=need0 nh l n:=by
 unfold atN needs0
 rw[List.getElem?_map,List.getElem?_range h];rfl
theorem needs0_len{nh:Int}{l:List Stp}:(needs0 nh l).length=l.length:=by simp[needs0]
structure Needed (nh:Int) (l:List Stp) (ops:List Opn) (nd:List Bool):Prop where
 len:nd.length=l.length
 sure:∀(n:Nat) (s:Stp),l[n]?=some s→atN nd n=false→sureK (factsK nh (l.take n)) s=true
 opsN:∀ o∈ops,o.kind=2→atN nd o.n.toNat=true
 closed:∀(m:Nat) (s:Stp),l[m]?=some s→atN nd m=true→∀ o∈s.l,o.kind=2→atN nd o.n.toNat=true
 from_:∀(n:Nat) (s:Stp),l[n]?=some s→atN nd n=true→sureK (factsK nh (l.take n)) s=false∨(∃ o∈ops,o.kind=2∧o.n.toNat=n)∨∃(m:Nat) (t:Stp),n<m∧l[m]?=some t∧atN nd m=true∧∃ o∈t.l,o.kind=2∧o.n.toNat=n
theorem lt_of_get{α:Type}{l:List α}{n:Nat}{x:α}(h:l[n]?=some x):n<l.length:=by
 rcases Nat.lt_or_ge n l.length with h1|h1
 ·exact h1
 ·rw[List.getElem?_eq_none h1] at h;cases h
theorem needsP_ok{nh:Int}{l:List Stp}{ops:List Opn}(hf:Fits nh l)(ho:∀ o∈ops,o.kind=2→0≤o.n∧o.n<l.length):Needed nh l ops (needsP nh l ops):=by
  have e:∀ n s,l[n]?=some s→need0 nh l n=!sureK (factsK nh (l.take n)) s:=fun n s hs=>by unfold need0;rw[hs];rfl
  refine⟨by rw[needsP,markB_len,markL_len,needs0_len],fun n s hs hn=>?_,fun o hom hk=>?_,fun m s hs hm=>?_,fun n s hs hn=>?_⟩
  · cases hc:sureK (factsK nh (l.take n)) s with
    | true=>rfl
    | false =>
      have h1:atN (needs0 nh l) n=true:=by rw[needs0_at (lt_of_get hs),e n s hs,hc];rfl
      have h2:=markB_mono l l.length _ n (markL_mono ops _ n h1)
      unfold needsP at hn
      rw[h2] at hn;cases hn
  · have:=ho o hom hk
    exact markB_mono _ _ _ _ (markL_in ops _ o hom hk (by rw[needs0_len];omega))
  · have:=markB_closed hf l.length (markL (needs0 nh l) ops) (Nat.le_refl _) (by rw[markL_len,needs0_len]) (fun m s h hs=>by have:=lt_of_get hs;omega)
    exact this m s (Nat.zero_le _) hs hm
  · rcases markB_from hf l.length _ n (Nat.le_refl _) hn with h1|h1
    · rcases markL_from _ _ _ h1 with h2|h2
      · rw[needs0_at (lt_of_get hs),e n s hs] at h2
        exact .inl (by simpa using h2)
      · exact .inr (.inl h2)
    · exact .inr (.inr h1)
def rk(nd:List Bool):Nat→Nat
 | 0=>0
 | n+1=>rk nd n+(if atN nd n=true then 1 else 0)
def renO(nd:List Bool)(o:Opn):Opn:=if o.kind=2 then stO (rk nd o.n.toNat) else o
def renS(nd:List Bool)(i:Stp):Stp:=⟨i.op,i.n,i.l.map (renO nd),i.s,i.names⟩
def outK(nd:List Bool):List Stp→Nat→List Stp
 | [],_=>[]
 | i::l,n=>(if atN nd n=true then [renS nd i] else [])++outK nd l (n+1)
def ndP(x:Pce):List Bool:=needsP x.homes (onceO x).k.l (x.sets.map (turnO (onceO x).pl)++[turnO (onceO x).pl x.cond])
def pruneP(x:Pce):Pce:={ x with ins:=outK (ndP x) (onceO x).k.l 0,sets:=(x.sets.map (turnO (onceO x).pl)).map (renO (ndP x)),cond:=renO (ndP x) (turnO (onceO x).pl x.cond)}
theorem rk_le(nd:List Bool){a b:Nat}(h:a≤b):rk nd a≤rk nd b:=by
 induction h with
 | refl=>exact Nat.le_refl _
 | step _ ih=>rw[rk];omega
theorem rk_lt{nd:List Bool}{a b:Nat}(ha:atN nd a=true)(h:a<b):rk nd a<rk nd b:=by
 have h1:rk nd (a+1)=rk nd a+1:=by rw[rk,if_pos ha]
 have:=rk_le nd (show a+1≤b from h)
 omega
theorem rk_self(nd:List Bool):∀ n,rk nd n≤n
 | 0=>Nat.le_refl _
 | n+1=>by have:=rk_self nd n;rw[rk];split<;>omega
theorem outK_app(nd:List Bool):∀(a b:List Stp) (n:Nat),outK nd (a++b) n=outK nd a n++outK nd b (n+a.length)
 | [],b,n=>rfl
 | i::a,b,n=>by simp only[List.cons_append,outK,outK_app nd a b (n+1),List.append_assoc,List.length_cons];rw[show n+1+a.length=n+(a.length+1) by omega]
theorem outK_len(nd:List Bool):∀(l:List Stp) (n:Nat),(outK nd l n).length+rk nd n=rk nd (n+l.length)
  | [],n=>by simp[outK]
  | i::l,n=>by
    have:=outK_len nd l (n+1)
    simp only[outK,List.length_append,List.length_cons]
    rw[show n+(l.length+1)=n+1+l.length by omega,←this,rk]
    split<;>simp<;>omega
theorem outK_len0(nd:List Bool)(l:List Stp):(outK nd l 0).length=rk nd l.length:=by have:=outK_len nd l 0;simpa[rk] using this
theorem outK_from{nd:List Bool}:∀(l:List Stp) (n r:Nat) (t:Stp),(outK nd l n)[r]?=some t→∃(j:Nat) (s:Stp),l[j]?=some s∧atN nd (n+j)=true∧t=renS nd s∧r+rk nd n=rk nd (n+j)
  | [],n,r,t,h=>by simp[outK] at h
  | i::l,n,r,t,h=>by
    rw[outK] at h
    by_cases hc:atN nd n=true
    · rw[if_pos hc] at h
      cases r with
      | zero =>
        simp at h
        exact⟨0,i,rfl,hc,h.symm,by simp⟩
      | succ r =>
        simp at h
        obtain⟨j,s,h1,h2,h3,h4⟩:=outK_from l (n+1) r t h
        refine⟨j+1,s,by simpa using h1,by rw[show n+(j+1)=n+1+j by omega];exact h2,h3,?_⟩
        rw[show n+(j+1)=n+1+j by omega,←h4,rk,if_pos hc];omega
    · rw[if_neg hc] at h
      simp at h
      obtain⟨j,s,h1,h2,h3,h4⟩:=outK_from l (n+1) r t h
      refine⟨j+1,s,by simpa using h1,by rw[show n+(j+1)=n+1+j by omega];exact h2,h3,?_⟩
      rw[show n+(j+1)=n+1+j by omega,←h4,rk,if_neg hc];omega
section
variable {nh:Int} {l:List Stp} {ops:List Opn} {nd:List Bool}
theorem renO_fits(hN:Needed nh l ops nd){a:Nat}{o:Opn}(h:opnFits nh a o=true)(hk:o.kind=2→atN nd o.n.toNat=true):opnFits nh (rk nd a) (renO nd o)=true:=by
 unfold renO
 by_cases k:o.kind=2
 ·rw[if_pos k]
  obtain⟨b1,b2⟩:=opnFits_step h k
  have:=rk_lt (hk k) (show o.n.toNat<a by omega)
  unfold opnFits stO
  rw[if_neg (by simp),if_pos rfl]
  simp only[none_zero,Bool.and_true,Bool.and_eq_true,decide_eq_true_eq]
  omega
 ·rw[if_neg k];exact fits_not k h
theorem outK_fits(hN:Needed nh l ops nd)(hf:Fits nh l):Fits nh (outK nd l 0):=by
 intro r t hr
 obtain⟨j,s,h1,h2,h3,h4⟩:=outK_from l 0 r t hr
 simp only[Nat.zero_add] at h2 h4
 have e:r=rk nd j:=by simpa[rk] using h4
 subst h3 e
 exact map_fits (fun o ho=>renO_fits hN (fits_all (hf j s h1) o ho) (hN.closed j s h1 h2 o ho)) (hf j s h1)
theorem keep_sem{homes:List Val}(hlen:(homes.length:Int)=nh)(hall:homes.all mayV=true)(hN:Needed nh l ops nd)(hf:Fits nh l):∀(q pre:List Stp) (md made:List Val),l=pre++q→stepsV homes pre []=some md→made.length=rk nd pre.length→(∀ j,j<pre.length→atN nd j=true→made[rk nd j]?=md[j]?) →
    match stepsV homes q md with
      | some md'=>∃ made',stepsV homes (outK nd q pre.length) made=some made'∧∀ j,j<l.length→atN nd j=true→made'[rk nd j]?=md'[j]?
      | none=>stepsV homes (outK nd q pre.length) made=none
  | [],pre,md,made,he,hr,hm,hv=>by
    simp only[stepsV,outK]
    exact⟨made,rfl,fun j hj=>hv j (by rw[he] at hj;simpa using hj)⟩
  | i::q,pre,md,made,he,hr,hm,hv=>by
    have hi:l[pre.length]?=some i:=by rw[he];simp
    have hpre:l.take pre.length=pre:=by rw[he];simp
    have hfi:=hf _ _ hi
    have hfp:Fits nh pre:=by have:=fits_take hf pre.length;rwa [hpre] at this
    have hml:=steps_len hr
    simp only[stepsV,outK]
    have run':∀ v,stepV i (i.l.map (ofO homes md))=some v→stepsV homes (pre++[i]) []=some (md++[v]):=fun v h=>by rw[steps_app,hr];simp[stepsV,h]
    by_cases hc:atN nd pre.length=true
    · rw[if_pos hc]
      have hvals:(renS nd i).l.map (ofO homes made)=i.l.map (ofO homes md):=by
        simp only[renS,List.map_map]
        refine List.map_congr_left fun o ho=>?_
        simp only[Function.comp]
        unfold renO
        by_cases hk:o.kind=2
        · rw[if_pos hk]
          have hb:=opnFits_step (fits_all hfi o ho) hk
          have:=hv o.n.toNat (by omega) (hN.closed _ i hi hc o ho hk)
          simp[ofO,stO,hk,this]
        · rw[if_neg hk];simp[ofO,hk]
      have hst:stepV (renS nd i) ((renS nd i).l.map (ofO homes made))=stepV i (i.l.map (ofO homes md)):=by rw[hvals];rfl
      simp only[List.singleton_append,stepsV,hst]
      cases hw:stepV i (i.l.map (ofO homes md)) with
      | none=>simp
      | some v =>
        have:=keep_sem hlen hall hN hf q (pre++[i]) (md++[v]) (made++[v]) (by rw[he];simp) (run' v hw) (by simp[hm,rk,hc]) (fun j hj hn=>by
          simp at hj
          rcases Nat.lt_or_ge j pre.length with h1|h1
          · have h2:=rk_lt hn h1
            rw[List.getElem?_append_left (by omega),List.getElem?_append_left (by omega)]
            exact hv j h1 hn
          · have:j=pre.length:=by omega
            subst this
            rw[←hm,←hml];simp)
        rw[List.length_append,List.length_singleton] at this
        simpa using this
    · rw[if_neg hc]
      simp only[List.nil_append]
      obtain⟨v,hw⟩:=sure_makes hlen hall hfp hr hfi (by have:=hN.sure _ i hi (by simpa using hc);rwa [hpre] at this)
      rw[hw]
      have:=keep_sem hlen hall hN hf q (pre++[i]) (md++[v]) made (by rw[he];simp) (run' v hw) (by simp[hm,rk,hc]) (fun j hj hn=>by
        simp at hj
        rcases Nat.lt_or_ge j pre.length with h1|h1
        · rw[List.getElem?_append_left (by omega)]
          exact hv j h1 hn
        · have:j=pre.length:=by omega
          subst this
          exact absurd hn hc)
      rw[List.length_append,List.length_singleton] at this
      simpa using this
end
structure PruneAll (x:Pce) (s:OS) (sets:List Opn) (cond:Opn) (nd:List Bool):Prop where
 good:GoodO x.homes s x.ins.length
 setsF:∀ o∈sets,opnFits x.homes s.k.l.length o=true
 condF:if x.exit=2 then opnFits x.homes s.k.l.length cond=true else cond=x.cond∧cond.kind=0
 nd:Needed x.homes s.k.l (sets++[cond]) nd
theorem prune_all{x:Pce}(hc:checkP x=true):PruneAll x (onceO x) (x.sets.map (turnO (onceO x).pl)) (turnO (onceO x).pl x.cond) (ndP x):=by
 have hg:=onceO_good hc
 obtain⟨_,_,h3,h4⟩:=checkP_iff.1 hc
 have hsets:∀ o∈x.sets.map (turnO (onceO x).pl),opnFits x.homes (onceO x).k.l.length o=true:=by
  intro o ho
  obtain⟨p,hp,rfl⟩:=List.mem_map.1 ho
  exact turnO_fitsP hg.pl hg.plfit (List.all_eq_true.1 h4 p hp)
 have hcond:if x.exit=2 then opnFits x.homes (onceO x).k.l.length (turnO (onceO x).pl x.cond)=true else turnO (onceO x).pl x.cond=x.cond∧(turnO (onceO x).pl x.cond).kind=0:=by
  unfold condP at h3
  by_cases he:x.exit=2
  ·rw[if_pos he] at h3 ⊢
   exact turnO_fitsP hg.pl hg.plfit h3
  ·rw[if_neg he] at h3 ⊢
   simp only[Bool.and_eq_true,decide_eq_true_eq] at h3
   have:turnO (onceO x).pl x.cond=x.cond:=by unfold turnO;rw[if_neg (by omega)]
   rw[this];exact⟨rfl,h3.1.1⟩
 refine⟨hg,hsets,hcond,needsP_ok hg.fits fun o ho hk=>?_⟩
 rcases mem_snoc ho with ho|rfl
 ·exact opnFits_step (hsets o ho) hk
 ·split at hcond
  ·exact opnFits_step hcond hk
  ·omega
theorem pruneP_check{x:Pce}(hc:checkP x=true):checkP (pruneP x)=true:=by
 have hA:=prune_all hc
 obtain⟨⟨n1,n2,n3,n4,n5,n6,n7⟩,h2,h3,h4⟩:=checkP_iff.1 hc
 have hol:=outK_len0 (ndP x) (onceO x).k.l
 have hrs:=rk_self (ndP x) (onceO x).k.l.length
 have hle:=hA.good.le
 unfold pruneP
 generalize ndP x=nd at *
 refine checkP_iff.2 ⟨?_,?_,?_,?_⟩
 ·unfold numsP
  simp only[List.length_map]
  exact⟨n1,n2,n3,n4,n5,by omega,by omega⟩
 ·have:=stepsFit_of (homes:=x.homes) (outK nd (onceO x).k.l 0) 0 fun k s hk=>by simpa using outK_fits hA.nd hA.good.fits k s hk
  simpa using this
 ·unfold condP
  simp only
  have h5:=hA.condF
  by_cases he:x.exit=2
  ·rw[if_pos he] at h5 ⊢
   rw[hol]
   exact renO_fits hA.nd h5 fun hk=>hA.nd.opsN _ (by simp) hk
  ·rw[if_neg he] at h5 ⊢
   unfold condP at h3
   rw[if_neg he] at h3
   have:renO nd (turnO (onceO x).pl x.cond)=x.cond:=by
    unfold renO
    rw[if_neg (by omega)]
    exact h5.1
   rw[this];exact h3
 ·simp only
  rw[List.all_eq_true]
  intro o ho
  obtain⟨p,hp,rfl⟩:=List.mem_map.1 ho
  rw[hol]
  exact renO_fits hA.nd (hA.setsF p hp) fun hk=>hA.nd.opsN p (by simp[hp]) hk
theorem ren_of{homes made md:List Val}{nd:List Bool}{o:Opn}(h:o.kind=2→made[rk nd o.n.toNat]?=md[o.n.toNat]?):ofO homes made (renO nd o)=ofO homes md o:=by
 unfold renO
 by_cases hk:o.kind=2
 ·rw[if_pos hk]
  simp[ofO,stO,hk,h hk]
 ·rw[if_neg hk];simp[ofO,hk]
theorem prune_do{x:Pce}(hc:checkP x=true)(homes:List Val):doP (pruneP x) homes=doP x homes:=by
  have hcy:=pruneP_check hc
  have hA:=prune_all hc
  have hck:=checkP_iff.1 hc
  unfold doP
  rw[hcy,hc,show(pruneP x).homes=x.homes from rfl]
  by_cases hh:(homes.length:Int)=x.homes
  · cases hall:homes.all mayV
    · rw[if_neg (by simp),if_neg (by simp)]
    · rw[if_pos ⟨rfl,hh,rfl⟩,if_pos ⟨rfl,hh,rfl⟩]
      have key:=onceG_sem hh hall x.ins ⟨ks0 x.homes,[]⟩ 0 [] [] os0_good rfl ⟨rfl,fun j p h=>by simp at h⟩ fun k t h=>by simpa using check_fits hc k t h
      have keep:=keep_sem (nd:=ndP x) (homes:=homes) hh hall hA.nd hA.good.fits (onceO x).k.l [] [] [] (by simp) rfl (by simp[rk]) (fun j hj=>by simp at hj)
      have e0:(pruneP x).ins=outK (ndP x) (onceO x).k.l 0:=rfl
      have es:(pruneP x).sets=(x.sets.map (turnO (onceO x).pl)).map (renO (ndP x)):=rfl
      have ec:(pruneP x).cond=renO (ndP x) (turnO (onceO x).pl x.cond):=rfl
      generalize hnd:ndP x=nd at *
      rw[e0]
      change match stepsV homes x.ins [] with
        | some md'=>∃ made',SemP homes (onceO x).k.l (onceO x).pl made' md'
        | none=>stepsV homes (onceO x).k.l []=none at key
      simp only[List.length_nil] at keep
      cases hs:stepsV homes x.ins [] with
      | none =>
        rw[hs] at key
        simp only at key
        rw[key] at keep
        simp only at keep
        rw[keep]
      | some md =>
        rw[hs] at key
        obtain⟨mid,hsm⟩:=key
        rw[hsm.run] at keep
        obtain⟨made,hr,hv⟩:=keep
        rw[hr]
        simp only
        have lk:∀ o,opnFits x.homes (onceO x).k.l.length o=true→(o.kind=2→atN nd o.n.toNat=true)→ofO homes made (renO nd o)=ofO homes mid o:=fun o ho hk=>ren_of fun h2=>hv _ (by have:=opnFits_step ho h2;omega) (hk h2)
        have e3:(pruneP x).sets.map (ofO homes made)=x.sets.map (ofO homes md):=by
          rw[es]
          simp only[List.map_map]
          refine List.map_congr_left fun o ho=>?_
          simp only[Function.comp]
          have hm:turnO (onceO x).pl o∈x.sets.map (turnO (onceO x).pl):=List.mem_map_of_mem ho
          rw[lk _ (hA.setsF _ hm) (fun h=>hA.nd.opsN _ (List.mem_append_left _ hm) h)]
          exact turnO_ofP hA.good.pl hsm (List.all_eq_true.1 hck.2.2.2 o ho)
        have e2:toP (pruneP x) homes made=toP x homes md:=by
          unfold toP
          rw[show(pruneP x).exit=x.exit from rfl,ec]
          by_cases he:x.exit=2
          · rw[if_pos he,if_pos he]
            have hcond:=hck.2.2.1
            unfold condP at hcond
            rw[if_pos he] at hcond
            have h5:=hA.condF
            rw[if_pos he] at h5
            rw[lk _ h5 (fun h=>hA.nd.opsN _ (by simp) h),turnO_ofP hA.good.pl hsm hcond]
            rfl
          · rw[if_neg he,if_neg he];rfl
        rw[e2,e3]
  · rw[if_neg (fun h=>hh h.2.1),if_neg (fun h=>hh h.2.1)]
end Go.RI
namespace Go.RI
open Go
theorem pruneP_ins(x:Pce):(pruneP x).ins=outK (ndP x) (onceO x).k.l 0:=rfl
end Go.RI
namespace Go.RI
open Go
def room(g:GS):Nat:=g.out.length+g.hs.count (-1)
end Go.RI
namespace Go.RI
open Go
def OutT(cs:List AVal)(out:List Stp):Prop:=cs.length=out.length*5∧∀(j:Nat) (s:Stp),out[j]?=some s→∃ t1 f1 t2 f2,(cs.drop (j*5)).take 5=[.i .i64 s.op,.i .i64 s.n,.fs t1 f1 s.l.length (encs s.l),.s s.s,.fs t2 f2 s.names.length (encs s.names)]
def Sl(H:AHeap)(P:Nat→Prop)(v:AVal)(esz n:Nat)(cells:List AVal):Prop :=
 ((∃ f,v=.fs false f n cells)∨(v=.ns∧n=0∧cells=[]))∨∃ id c,v=.sl id 0 n c∧(c=none∨c=some n)∧P id∧id<H.next∧H.get id=some (.cells cells esz false)∧cells.length=n*esz
theorem sl_keep{H H':AHeap}{P P':Nat→Prop}{v:AVal}{esz n:Nat}{cells:List AVal}(h:Sl H P v esz n cells)(hn:H.next≤H'.next)(hk:∀ id,P id→id<H.next→H'.get id=H.get id∧P' id):Sl H' P' v esz n cells:=by
 rcases h with h|⟨id,c,h1,h2,h3,h4,h5,h6⟩
 ·exact .inl h
 ·obtain⟨k1,k2⟩:=hk id h3 h4
  exact .inr ⟨id,c,h1,h2,k2,by omega,k1.trans h5,h6⟩
theorem sl_frz{H:AHeap}{P:Nat→Prop}{lo esz n k:Nat}{v:AVal}{cells:List AVal}(h:Sl H P v esz n cells)(hP:∀ id,P id→lo≤id)(hc:mapO (frzV H lo k) cells=some cells):frzV H lo (k+1) v=some (.fs false false n cells):=by
 rcases h with(⟨f,rfl⟩|⟨rfl,rfl,rfl⟩)|⟨id,c,rfl,hcap,h1,h2,h3,h4⟩
 ·rfl
 ·rfl
 ·by_cases hn:n=0
  ·subst hn
   have:cells=[]:=List.eq_nil_of_length_eq_zero (by simpa using h4)
   subst this
   rfl
  ·exact frz_lit hn (hP _ h1) h3 h4 (by rcases hcap with rfl|rfl<;>simp) hc
def Out(H:AHeap)(P:Nat→Prop):List AVal→List Stp→Prop
 | cs,[]=>cs=[]
 | cs,s::l=>∃ lv nv cs',cs=.i .i64 s.op::.i .i64 s.n::lv::.s s.s::nv::cs'∧Sl H P lv 7 s.l.length (encs s.l)∧Sl H P nv 1 s.names.length (encs s.names)∧Out H P cs' l
theorem out_keep{H H':AHeap}{P P':Nat→Prop}(hn:H.next≤H'.next)(hk:∀ id,P id→id<H.next→H'.get id=H.get id∧P' id):∀(l:List Stp) (cs:List AVal),Out H P cs l→Out H' P' cs l
 | [],cs,h=>h
 | s::l,cs,⟨lv,nv,cs',h,h1,h2,h3⟩=>⟨lv,nv,cs',h,sl_keep h1 hn hk,sl_keep h2 hn hk,out_keep hn hk l cs' h3⟩
theorem out_add{H:AHeap}{P:Nat→Prop}{s:Stp}{lv nv:AVal}(h1:Sl H P lv 7 s.l.length (encs s.l))(h2:Sl H P nv 1 s.names.length (encs s.names)):∀(l:List Stp) (cs:List AVal),Out H P cs l→Out H P (cs++[.i .i64 s.op,.i .i64 s.n,lv,.s s.s,nv]) (l++[s])
 | [],cs,h=>by subst h;exact⟨lv,nv,[],rfl,h1,h2,rfl⟩
 | t::l,cs,⟨lv',nv',cs',h,k1,k2,k3⟩=>⟨lv',nv',cs'++_,by rw[h];rfl,k1,k2,out_add h1 h2 l cs' k3⟩
theorem out_frz{H:AHeap}{P:Nat→Prop}{lo k:Nat}(hP:∀ id,P id→lo≤id):∀(l:List Stp) (cs:List AVal),Out H P cs l→mapO (frzV H lo (k+2)) cs=some (encs l)
  | [],cs,h=>by subst h;rfl
  | s::l,cs,⟨lv,nv,cs',h,k1,k2,k3⟩=>by
    subst h
    have e1:=sl_frz (k:=k+1) k1 hP frz_encs
    have e2:=sl_frz (k:=k+1) k2 hP frz_encs
    have e3:=out_frz (k:=k) hP l cs' k3
    simp[e1,e2,e3]
end Go.RI
namespace Go.RI
open Go
structure OpB where
 o:Opn
 b:Bool
instance:Enc OpB:=⟨7,fun x=>[.i .i64 x.o.kind,.i .i64 x.o.n,.i .i64 x.o.v.kind,.i .i64 x.o.v.n,.s x.o.v.s,if x.b then .ns else .fs false false x.o.v.l.length (encs x.o.v.l),if x.b then .ns else .fs false false x.o.v.names.length (encs x.o.v.names)],fun _=>rfl⟩
@[simp] theorem cells_opB(x:OpB):Enc.cells x=[.i .i64 x.o.kind,.i .i64 x.o.n,.i .i64 x.o.v.kind,.i .i64 x.o.v.n,.s x.o.v.s,if x.b then .ns else .fs false false x.o.v.l.length (encs x.o.v.l),if x.b then .ns else .fs false false x.o.v.names.length (encs x.o.v.names)]:=rfl
theorem sz_opB:Enc.sz OpB=7:=rfl
def okB(x:OpB):Prop:=x.b=true→x.o.v.l=[]∧x.o.v.names=[]
theorem snap_B{H:AHeap}{k:Nat}:∀ l:List OpB,(∀ x∈l,okB x)→mapO (snapV H (k+1)) (encs l)=some (encs (l.map OpB.o))
  | [],_=>by simp
  | x::l,h=>by
    have ih:=snap_B (H:=H) (k:=k) l fun y hy=>h y (by simp[hy])
    rw[encs_cons,List.map_cons,encs_cons]
    refine mapO_append ?_ ih
    have hb:=h x (by simp)
    cases hx:x.b
    · simp[hx]
    · obtain⟨h1,h2⟩:=hb hx
      simp[hx,h1,h2]
theorem opn_bulk{nh a:Int}{o:Opn}(h:opnFits nh a o=true):o.v.bulk≤2304:=by
 have hz:noneV o.v=true→o.v.bulk≤2304:=fun h=>by rw[(sameV_iff _ _).1 h];decide
 unfold opnFits at h
 split at h
 ·simp only[Bool.and_eq_true] at h;exact hz h.2
 split at h
 ·simp only[Bool.and_eq_true] at h;exact hz h.2
 split at h
 ·simp only[Bool.and_eq_true] at h;exact may_bulk h.2
 ·cases h
theorem stp_fok{nh a:Int}{j:Stp}(h:stpFits nh a j=true)(h1:bulkS j.names<549755813888)(h2:j.s.length<549755813887):okStp j∧bulkL (j.l.map Opn.v)<68719476736:=by
 have hl:=fits_most h
 refine⟨⟨h1,h2,by omega,fun o ho=>by have:=opn_bulk (fits_all h o ho);unfold okO;omega⟩,?_⟩
 have:=bulkL_le (B:=2304) (l:=j.l.map Opn.v) (fun v hv=>by
  obtain⟨o,ho,rfl⟩:=List.mem_map.1 hv
  exact opn_bulk (fits_all h o ho))
 simp at this
 omega
def snapW(v:AVal)(n:Nat):Bool:=decide (0<n)&&!(v.tup)&&(match v with|.sl ..=>true|_=>false)
theorem hold_snapW{H:AHeap}{lo esz n k:Nat}{v:AVal}{cells cells':List AVal}(h:Hold H lo v esz n cells)(hc:mapO (snapV H k) cells=some cells'):snapV H (k+1) v=some (.fs (snapW v n) false n cells'):=by
 rw[hold_snap h hc]
 unfold snapW
 cases v<;>rfl
theorem hold_sl{H:AHeap}{lo esz n:Nat}{v:AVal}{cells:List AVal}{P:Nat→Prop}(h:Hold H lo v esz n cells)(hP:∀ id c,v=.sl id 0 n c→P id):Sl H P v esz n cells:=by
 rcases h with⟨h|h,rfl,rfl⟩|⟨id,c,h1,h2,h3,h4,h5,h6⟩
 ·exact .inl (.inl ⟨true,h⟩)
 ·exact .inl (.inr ⟨h,rfl,rfl⟩)
 ·exact .inr ⟨id,c,h1,h2,hP id c h1,h4,h5,h6⟩
theorem get_of_mem{α:Type}{l:List α}{x:α}(h:x∈l):∃ n:Nat,l[n]?=some x:=by
 obtain⟨n,hn,rfl⟩:=List.getElem_of_mem h
 exact⟨n,List.getElem?_eq_getElem hn⟩
end Go.RI
namespace Go.RI
open Go
end Go.RI
namespace Go.RI
open Go
section
variable {call:CallI} {lo:Nat} {e:Env} {H:AHeap}
noncomputable def cpyR(lo:Nat)(H:AHeap)(esz:Nat):Option AVal→Option AVal→Option (Option AVal×AHeap)
 | some a,some b=>(cpyV lo H esz a b).map fun(v,H')=>(some v,H')
 | _,_=>none
@[simp] theorem op_cpy{esz:Nat}{x y:Opd}:opI call lo (.cpy esz x y) e H=cpyR lo H esz (x.eval e) (y.eval e):=by
 simp only[opI,aop,cpyR]
 rcases x.eval e with _|a<;>rcases y.eval e with _|b<;>rfl
theorem cpyR_sl{esz id off len id2 off2 len2 n e2:Nat}{c c2:Option Nat}{cs ys:List AVal}(hn:min len2 len=n)(h0:0<n)(hs:rowAt H id2 off2 (n*esz)=some ys)(hlo:lo≤id)(hg:H.get id=some (.cells cs e2 false))(hb:off+n*esz≤cs.length)(hy:ys.length=n*esz) :
  cpyR lo H esz (some (.sl id off len c)) (some (.sl id2 off2 len2 c2))=some (some (.i .i64 n),H.put id (some (.cells (putCells cs off ys) e2 false))):=by
 have h1:¬ n=0:=by omega
 simp[cpyR,cpyV,srcLen,srcCells,hn,h1,hs,hlo,hg,hb,hy]
theorem cpyR_none{esz id off len id2 off2 len2:Nat}{c c2:Option Nat}(hn:min len2 len=0) :
  cpyR lo H esz (some (.sl id off len c)) (some (.sl id2 off2 len2 c2))=some (some (.i .i64 0),H):=by
 simp[cpyR,cpyV,srcLen,hn]
end
def rowK(a b:AVal)(n k:Nat):List AVal:=List.replicate k a++List.replicate (n-k) b
theorem rowK_len{a b:AVal}{n k:Nat}(h:k≤n):(rowK a b n k).length=n:=by simp[rowK];omega
theorem rowK_put{a b:AVal}{n:Nat}:∀(m k:Nat),k+m≤n→putCells (rowK a b n k) k (List.replicate m a)=rowK a b n (k+m)
  | 0,k,_=>rfl
  | m+1,k,h=>by
    rw[List.replicate_succ]
    have e:(rowK a b n k).set k a=rowK a b n (k+1):=by
      unfold rowK
      rw[List.set_append_right _ _ (by simp),List.length_replicate,Nat.sub_self]
      rw[show n-k=(n-(k+1))+1 by omega,List.replicate_succ,List.set_cons_zero,List.replicate_succ',List.append_assoc]
      rfl
    show putCells ((rowK a b n k).set k a) (k+1) (List.replicate m a)=_
    rw[e,rowK_put m (k+1) (by omega)]
    congr 1
    omega
theorem rowK_take{a b:AVal}{n k m:Nat}(h:m≤k):(rowK a b n k).take m=List.replicate m a:=by
 unfold rowK
 rw[List.take_append_of_le_length (by simpa using h),List.take_replicate,Nat.min_eq_left h]
theorem slq_from{H:AHeap}{id n k:Nat}(h:k<n):slqR 1 H (some (.sl id 0 n (some n))) (some (some k)) (some none) (some none)=some (some (.sl id k (n-k) (some (n-k))),H):=by
 simp[slqR,slV,show k≤n by omega,show ¬ n=k by omega,isFs]
theorem slq_to{H:AHeap}{id n k:Nat}(h:k≤n):slqR 1 H (some (.sl id 0 n (some n))) (some none) (some (some k)) (some none)=some (some (.sl id 0 k (some n)),H):=by
 simp[slqR,slV,h,isFs]
theorem u_and{n:Nat}(h:n≤64):binV .and (.i .u64 (n:Int)) (.i .u64 4294967295)=some (.i .u64 n):=by
 have:∀ m:Fin 65,binI .and .u64 (m.val:Int) 4294967295=some (.i .u64 (m.val:Int)):=by
  intro m
  have h2:∀ m:Fin 65,(IntKind.u64.wrap ((BitVec.ofInt IntKind.u64.bits (m.val:Int) &&& BitVec.ofInt IntKind.u64.bits 4294967295).toNat:Nat))=(m.val:Int):=by decide
  exact congrArg (fun x=>some (AVal.i .u64 x)) (h2 m)
 exact this ⟨n,by omega⟩
theorem u_shr{n:Nat}(h:n≤64):binV .shr (.i .u64 (n:Int)) (.i .u64 32)=some (.i .u64 0):=by
 have h2:∀ m:Fin 65,(m.val:Int).fdiv (2 ^ (min (32:Int).toNat IntKind.u64.bits))=0:=by decide
 have:=h2 ⟨n,by omega⟩
 exact congrArg (fun x=>some (AVal.i .u64 x)) this
theorem u_wrap{n:Nat}(h:n≤64):wrapI .u64 (n:Int)=n:=by
 have h2:∀ m:Fin 65,wrapI .u64 (m.val:Int)=(m.val:Int):=by decide
 exact h2 ⟨n,by omega⟩
end Go.RI
namespace Go.Proofs.YtkpgolcjiahdfaaGreatDoor
open Go Go.RI
section
variable {G:AHeap} (hG:G.next=2)
include hG
theorem t_mul64(n:Nat)(hn:n≤64):pureR IP G 117 [.i .u64 1,.i .u64 n]=some (.tu [.i .u64 0,.i .u64 n]):=by
 have a0:=u_and (n:=0) (by omega)
 have a1:=u_and (n:=1) (by omega)
 have an:=u_and hn
 have s0:=u_shr (n:=0) (by omega)
 have s1:=u_shr (n:=1) (by omega)
 have sn:=u_shr hn
 have w:=u_wrap hn
 have w0:wrapI .u64 0=0:=rfl
 simp at a0 a1 an s0 s1 sn
 refine pure_run ip117 rfl ?_
 simp -implicitDefEqProofs [I117,hG,a0,a1,an,s0,s1,sn,w,w0]
theorem t_mul(n:Nat)(hn:n≤64):pureR IP G 79 [.i .u64 1,.i .u64 n]=some (.tu [.i .u64 0,.i .u64 n]):=by
 have c1:=t_mul64 hG n hn
 refine pure_run ip79 rfl ?_
 simp -implicitDefEqProofs [I79,hG,c1]
end
end Go.Proofs.YtkpgolcjiahdfaaGreatDoor
namespace Go.Proofs.YtkpgolcjiahdfaaGreatDoor
open Go Go.RI
section
variable {G:AHeap} (hG:G.next=2)
include hG
theorem rep_one(b:AVal):∀ n:Nat,repCells [b] n=List.replicate n b
 | 0=>rfl
 | n+1=>by rw[List.replicate_succ,←rep_one b n];rfl
theorem t_repeat_loop(n:Nat)(hn:n≤64)(d:Nat)(x b:AVal)(Q:Post)(H:AHeap)(hd:d<H.next)
  (hQ:∀ H':AHeap,H'.get d=some (.cells (rowK x b n n) 1 false)→(∀ id,id≠d→H'.get id=H.get id)→H'.next=H.next→Q (.exit 0) [(7,.sl d 0 n (some n)),(8,.i .i64 n),(37,.b false)] H')
  (k:Nat) (hk:k≤n) (hk0:0<n→0<k) (g:H.get d=some (.cells (rowK x b n k) 1 false)) :
  wp (theCalls IP G d) d (.loop L56a) Q [(7,.sl d 0 n (some n)),(8,.i .i64 k)] H:=by
 refine wp_loop_inv (fun r e H'=>∃ k:Nat,r=n-k∧k≤n∧(0<n→0<k)∧e=[(7,.sl d 0 n (some n)),(8,.i .i64 k)]∧H'.get d=some (.cells (rowK x b n k) 1 false)∧(∀ id,id≠d→H'.get id=H.get id)∧H'.next=H.next) ?_ (n-k) _ _ ⟨k,rfl,hk,hk0,rfl,g,fun _ _=>rfl,rfl⟩
 rintro r e H' ⟨k,rfl,hk,hk0,rfl,g',hf,hx⟩
 by_cases hkn:k=n
 ·subst hkn
  simp -implicitDefEqProofs [L56a]
  exact hQ H' g' hf hx
 ·have h1:(k:Int)<(n:Int):=by omega
  have h2:k<n:=by omega
  have h3:0<k:=by omega
  obtain⟨m,hm⟩:∃ m,min k (n-k)=m:=⟨_,rfl⟩
  have s1:=slq_from (H:=H') (id:=d) h2
  have s2:=slq_to (H:=H') (id:=d) (n:=n) hk
  have s3:=cpyR_sl (lo:=d) (H:=H') (esz:=1) (id:=d) (off:=k) (len:=n-k) (id2:=d) (off2:=0) (len2:=k) (n:=m) (e2:=1) (c:=some (n-k)) (c2:=some n) (cs:=rowK x b n k) (ys:=List.replicate m x) hm (by omega) (by unfold RI.rowAt;rw[g'];simp only;rw[if_pos (by rw[rowK_len hk];omega),List.drop_zero,Nat.mul_one,rowK_take (by omega)]) (Nat.le_refl _) g' (by rw[rowK_len hk];omega) (by simp)
  rw[rowK_put m k (by omega)] at s3
  have w1:wrapI .i64 ((k:Int)+(m:Int))=(k:Int)+(m:Int):=wrap_ok (by omega) (by omega)
  simp -implicitDefEqProofs [L56a,h1,h2,s1,s2,s3,w1,optI]
  exact⟨n-(k+m),by omega,k+m,rfl,by omega,by omega,by simp,rfl,fun id hid=>by simp -implicitDefEqProofs [hid,hf id hid],hx⟩
theorem t_repeat(n:Nat)(hn:n≤64)(a:Nat)(x:Int)(H:AHeap)(ha:H.get a=some (.cells [.i .i64 x] 1 false))(ha2:a<H.next)(hGH:2≤H.next) :
  ∃ v H',(∀ lo,theCalls IP G lo 56 [.sl a 0 1 (some 1),.i .i64 n] H=some (v,H'))∧v=.sl H.next 0 n (some n)∧H'.get H.next=some (.cells (List.replicate n (.i .i64 x)) 1 false)∧H'.next=H.next+1∧∀ id,id<H.next→H'.get id=H.get id:=by
 have c1:=t_mul hG n hn
 have w:=u_wrap hn
 have w1:wrapI .u64 1=1:=rfl
 have w2:wrapI .i64 (n:Int)=n:=wrap_ok (by omega) (by omega)
 have q1:¬(n:Int)<0:=by omega
 have q2:¬(9223372036854775807:Int)<(n:Int):=by omega
 have q3:(8:Int)*(n:Int)≤281474976710656:=by omega
 have q4:¬ a=H.next:=by omega
 refine calls_one_of ip56 rfl rfl ?_
 rw[ends_fin]
 have hr:=rep_one hG (.i .i64 0) n
 have fin:∀(H1:AHeap),H1.get H.next=some (.cells (rowK (.i .i64 x) (.i .i64 0) n n) 1 false)→(∀ id,id<H.next→H1.get id=H.get id)→H1.next=H.next+1 →
   H1.get H.next=some (.cells (List.replicate n (.i .i64 x)) 1 false)∧H1.next=H.next+1∧∀ id,id<H.next→H1.get id=H.get id:=fun H1 h1 h2 h3=>⟨by rw[h1];unfold rowK;simp,h3,h2⟩
 by_cases h0:n=0
 ·subst h0
  simp at c1 w w2 hr
  have s:=cpyR_none (lo:=H.next) (H:=H.push (.cells [] 1 false)) (esz:=1) (id:=H.next) (off:=0) (len:=0) (id2:=a) (off2:=0) (len2:=1) (c:=some 0) (c2:=some 1) rfl
  simp -implicitDefEqProofs [I56,c1,w,w1,w2,q1,q2,q3,q4,hr,s]
  refine t_repeat_loop hG 0 (by omega) H.next (.i .i64 x) (.i .i64 0) _ _ (by simp) ?_ 0 (by omega) (by omega) (by simp -implicitDefEqProofs [rowK])
  intro H1 h1 h2 h3
  simp
  exact fin H1 h1 (fun id hid=>by rw[h2 id (by omega)];exact get_push_lt hid) (by rw[h3];simp)
 ·have s:=cpyR_sl (lo:=H.next) (H:=H.push (.cells (List.replicate n (.i .i64 0)) 1 false)) (esz:=1) (id:=H.next) (off:=0) (len:=n) (id2:=a) (off2:=0) (len2:=1) (n:=1) (e2:=1) (c:=some n) (c2:=some 1) (cs:=List.replicate n (.i .i64 0)) (ys:=[.i .i64 x]) (by omega) (by omega) (by unfold RI.rowAt;rw[get_push_lt ha2,ha];rfl) (Nat.le_refl _) (by simp) (by simp;omega) rfl
  have e:putCells (List.replicate n (AVal.i .i64 0)) 0 [.i .i64 x]=rowK (.i .i64 x) (.i .i64 0) n 1:=by
   have:=rowK_put (a:=.i .i64 x) (b:=.i .i64 0) (n:=n) 1 0 (by omega)
   simpa[rowK] using this
  rw[e] at s
  simp -implicitDefEqProofs [I56,c1,w,w1,w2,q1,q2,q3,q4,hr,s]
  refine t_repeat_loop hG n hn H.next (.i .i64 x) (.i .i64 0) _ _ (by simp) ?_ 1 (by omega) (by omega) (by simp)
  intro H1 h1 h2 h3
  simp
  exact fin H1 h1 (fun id hid=>by rw[h2 id (by omega)];simp -implicitDefEqProofs [show ¬ id=H.next by omega]) (by rw[h3];simp)
end
end Go.Proofs.YtkpgolcjiahdfaaGreatDoor
namespace Go.Proofs.YtkpgolcjiahdfaaGreatDoor
open Go Go.RI
section
variable {G:AHeap} (hG:G.next=2)
include hG
theorem encs_rep(n:Nat)(x:Int):encs (List.replicate n x)=List.replicate n (AVal.i .i64 x):=by
 induction n with
 | zero=>rfl
 | succ n ih=>rw[List.replicate_succ,List.replicate_succ,←ih];rfl
theorem t_begun(n:Nat)(hn:n≤64)(H:AHeap)(hGH:2≤H.next) :
  ∃ v H',(∀ lo,theCalls IP G lo 29 [.i .i64 n] H=some (v,H'))∧v=.p (H.next+2) 0∧H'.get (H.next+2)=some (.cells [.ns,.sl (H.next+1) 0 n (some n)] 1 false)∧H'.get (H.next+1)=some (.cells (encs (List.replicate n (-1))) 1 false)∧H'.next=H.next+3∧∀ id,id<H.next→H'.get id=H.get id:=by
 obtain⟨v,H',hc,rfl,h1,h2,h3⟩:=t_repeat hG n hn H.next (-1) (H.push (.cells [.i .i64 (-1)] 1 false)) (by simp) (by simp) (by simp;omega)
 refine calls_one_of ip29 rfl rfl ?_
 rw[ends_fin,encs_rep hG]
 simp at h1 h2 h3 hc
 simp -implicitDefEqProofs [I29,hc]
 refine⟨by omega,?_,?_,by omega,fun id hid=>?_⟩
 ·simp -implicitDefEqProofs [h2]
 ·first|(simp -implicitDefEqProofs [h2,h1];done)|(rw[if_neg (by omega)];exact h1)
 ·rw[if_neg (by omega),h3 id (by omega)]
  simp -implicitDefEqProofs [show ¬ id=H.next by omega]
end
end Go.Proofs.YtkpgolcjiahdfaaGreatDoor
namespace Go.RI
open Go
def SlT(H:AHeap)(P:Nat→Prop)(v:AVal)(esz n:Nat)(cells:List AVal):Prop :=
 ((∃ t f,v=.fs t f n cells)∨(v=.ns∧n=0∧cells=[]))∨∃ id c,v=.sl id 0 n c∧(c=none∨c=some n)∧P id∧id<H.next∧H.get id=some (.cells cells esz false)∧cells.length=n*esz
theorem slT_keep{H H':AHeap}{P P':Nat→Prop}{v:AVal}{esz n:Nat}{cells:List AVal}(h:SlT H P v esz n cells)(hn:H.next≤H'.next)(hk:∀ id,P id→id<H.next→H'.get id=H.get id∧P' id):SlT H' P' v esz n cells:=by
 rcases h with h|⟨id,c,h1,h2,h3,h4,h5,h6⟩
 ·exact .inl h
 ·obtain⟨k1,k2⟩:=hk id h3 h4
  exact .inr ⟨id,c,h1,h2,k2,by omega,k1.trans h5,h6⟩
theorem slT_one{H:AHeap}{P:Nat→Prop}{v:AVal}{esz n:Nat}{cells:List AVal}(h:SlT H P v esz n cells):v.tup=false∧v.cells=[v]:=by
 rcases h with(⟨t,f,rfl⟩|⟨rfl,_⟩)|⟨id,c,rfl,_⟩<;>exact⟨rfl,rfl⟩
theorem slT_snap{H:AHeap}{P:Nat→Prop}{esz n k:Nat}{v:AVal}{cells:List AVal}(h:SlT H P v esz n cells)(hc:mapO (snapV H k) cells=some cells):∃ t f,snapV H (k+1) v=some (.fs t f n cells):=by
 rcases h with(⟨t,f,rfl⟩|⟨rfl,rfl,rfl⟩)|⟨id,c,rfl,hcap,h1,h2,h3,h4⟩
 ·exact⟨_,_,rfl⟩
 ·exact⟨_,_,rfl⟩
 ·by_cases hn:n=0
  ·subst hn
   have:cells=[]:=List.eq_nil_of_length_eq_zero (by simpa using h4)
   subst this
   exact⟨_,_,rfl⟩
  ·exact⟨_,_,snap_lit hn h3 h4 (by rcases hcap with rfl|rfl<;>simp) hc⟩
theorem slT_sl{H:AHeap}{P:Nat→Prop}{v:AVal}{esz n:Nat}{cells:List AVal}(h:SlT H P v esz n cells)(ht:∀ t f n l,v=.fs t f n l→t=false):Sl H P v esz n cells:=by
 rcases h with(⟨t,f,rfl⟩|h)|h
 ·have:=ht _ _ _ _ rfl
  subst this
  exact .inl (.inl ⟨f,rfl⟩)
 ·exact .inl (.inr h)
 ·exact .inr h
theorem slT_of{H:AHeap}{P:Nat→Prop}{v:AVal}{esz n:Nat}{cells:List AVal}(h:Sl H P v esz n cells):SlT H P v esz n cells:=by
 rcases h with(⟨f,rfl⟩|h)|h
 ·exact .inl (.inl ⟨_,f,rfl⟩)
 ·exact .inl (.inr h)
 ·exact .inr h
def OutS(H:AHeap)(P:Nat→Prop):List AVal→List Stp→Prop
 | cs,[]=>cs=[]
 | cs,s::l=>∃ lv nv cs',cs=.i .i64 s.op::.i .i64 s.n::lv::.s s.s::nv::cs'∧SlT H P lv 7 s.l.length (encs s.l)∧SlT H P nv 1 s.names.length (encs s.names)∧OutS H P cs' l
theorem outS_len{H:AHeap}{P:Nat→Prop}:∀(l:List Stp) (cs:List AVal),OutS H P cs l→cs.length=l.length*5
  | [],cs,h=>by subst h;rfl
  | s::l,cs,⟨lv,nv,cs',h,_,_,h2⟩=>by
    have:=outS_len l cs' h2
    subst h
    simp;omega
theorem outS_keep{H H':AHeap}{P P':Nat→Prop}(hn:H.next≤H'.next)(hk:∀ id,P id→id<H.next→H'.get id=H.get id∧P' id):∀(l:List Stp) (cs:List AVal),OutS H P cs l→OutS H' P' cs l
 | [],cs,h=>h
 | s::l,cs,⟨lv,nv,cs',h,h1,h2,h3⟩=>⟨lv,nv,cs',h,slT_keep h1 hn hk,slT_keep h2 hn hk,outS_keep hn hk l cs' h3⟩
theorem outS_add{H:AHeap}{P:Nat→Prop}{s:Stp}{lv nv:AVal}(h1:SlT H P lv 7 s.l.length (encs s.l))(h2:SlT H P nv 1 s.names.length (encs s.names)):∀(l:List Stp) (cs:List AVal),OutS H P cs l→OutS H P (cs++[.i .i64 s.op,.i .i64 s.n,lv,.s s.s,nv]) (l++[s])
 | [],cs,h=>by subst h;exact⟨lv,nv,[],rfl,h1,h2,rfl⟩
 | t::l,cs,⟨lv',nv',cs',h,k1,k2,k3⟩=>⟨lv',nv',cs'++_,by rw[h];rfl,k1,k2,outS_add h1 h2 l cs' k3⟩
theorem outS_snap{H:AHeap}{P:Nat→Prop}{k:Nat}:∀(l:List Stp) (cs:List AVal),OutS H P cs l→∃ cs2,mapO (snapV H (k+2)) cs=some cs2∧OutT cs2 l
  | [],cs,h=>by subst h;exact⟨[],rfl,rfl,fun j s h=>by simp at h⟩
  | s::l,cs,⟨lv,nv,cs',h,k1,k2,k3⟩=>by
    subst h
    obtain⟨t1,f1,e1⟩:=slT_snap (k:=k+1) k1 snap_encs
    obtain⟨t2,f2,e2⟩:=slT_snap (k:=k+1) k2 snap_encs
    obtain⟨c2,e3,e4,e5⟩:=outS_snap (k:=k) l cs' k3
    refine⟨.i .i64 s.op::.i .i64 s.n::.fs t1 f1 s.l.length (encs s.l)::.s s.s::.fs t2 f2 s.names.length (encs s.names)::c2,by simp[e1,e2,e3],by simp[e4];omega,fun j x hx=>?_⟩
    cases j with
    | zero=>simp at hx;subst hx;exact⟨t1,f1,t2,f2,by simp⟩
    | succ j =>
      obtain⟨a,b,c,d,h⟩:=e5 j x (by simpa using hx)
      exact⟨a,b,c,d,by rw[←h];simp[show(j+1)*5=j*5+1+1+1+1+1 by omega]⟩
theorem outS_get{H:AHeap}{P:Nat→Prop}:∀(l:List Stp) (cs:List AVal),OutS H P cs l→∀(j:Nat) (s:Stp),l[j]?=some s→∃ lv nv,(cs.drop (j*5)).take 5=[.i .i64 s.op,.i .i64 s.n,lv,.s s.s,nv]∧SlT H P lv 7 s.l.length (encs s.l)∧SlT H P nv 1 s.names.length (encs s.names)∧lv∈cs∧nv∈cs
  | [],cs,h,j,s,hj=>by simp at hj
  | s::l,cs,⟨lv,nv,cs',h,k1,k2,k3⟩,j,t,hj=>by
    subst h
    cases j with
    | zero=>simp at hj;subst hj;exact⟨lv,nv,by simp,k1,k2,by simp,by simp⟩
    | succ j =>
      obtain⟨a,b,h1,h2,h3,h4,h5⟩:=outS_get l cs' k3 j t (by simpa using hj)
      exact⟨a,b,by rw[←h1];simp[show(j+1)*5=j*5+1+1+1+1+1 by omega],h2,h3,by simp[h4],by simp[h5]⟩
def NoTmp(cs:List AVal):Prop:=∀ c∈cs,∀ t f n l,c=AVal.fs t f n l→t=false
theorem noTmp_nil:NoTmp []:=fun c h=>by cases h
theorem noTmp_app{a b:List AVal}(ha:NoTmp a)(hb:NoTmp b):NoTmp (a++b):=fun c h=>(List.mem_append.1 h).elim (ha c) (hb c)
instance:Enc Bool:=⟨1,fun b=>[.b b],fun _=>rfl⟩
instance:EncOk Bool:={ snap:=fun _ _ _=>by simp[Enc.cells],frz:=fun _ _ _ _=>by simp[Enc.cells]}
@[simp] theorem cells_bool{b:Bool}:Enc.cells b=[AVal.b b]:=rfl
@[simp] theorem drop_bool{l:List Bool}{i:Nat}:(encs l).drop i=cellsO l[i]?++restE l (i+1):=by
 have:=drop_encs l i
 simpa[show Enc.sz Bool=1 from rfl] using this
@[simp] theorem len_bool{l:List Bool}:(encs l).length=l.length:=by have:=encs_len l;simpa[show Enc.sz Bool=1 from rfl] using this
@[simp] theorem take_bool{l:List Bool}:(encs l).take l.length=encs l:=List.take_of_length_le (by simp)
@[simp] theorem get_bool{l:List Bool}{i:Nat}:(encs l)[i]?=l[i]?.map AVal.b:=by
 have:=get_encs (l:=l) (i:=i) (k:=0) (by simp[Enc.sz])
 simp only[show Enc.sz Bool=1 from rfl,Nat.mul_one,Nat.add_zero] at this
 rw[this]
 cases l[i]?<;>simp[cellsO]
theorem set_bool{l:List Bool}{i:Nat}{b:Bool}(h:i<l.length):(encs l).set i (.b b)=encs (l.set i b):=by
 obtain⟨x,hx⟩:=get_of_lt h
 have:=put_encs (k:=0) hx (m:=[AVal.b b]) (y:=b) (by simp[Enc.sz]) (by simp)
 simpa[show Enc.sz Bool=1 from rfl] using this
theorem rep_bool:∀ n,repCells [AVal.b false] n=encs (List.replicate n false)
 | 0=>rfl
 | n+1=>by simp[repCells,List.replicate_succ,rep_bool n]
end Go.RI
namespace Go.Proofs.YtkpgolcjiahdfaaGreatDoor
open Go Go.RI
def Ak(lo:Nat)(X:Nat→Prop)(ov:AVal)(id:Nat):Prop:=(lo≤id∧¬ X id)∧∀ j m c,ov=.sl j 0 m c→id≠j
structure MkK (b h lo:Nat) (X:Nat→Prop) (k:KS) (ov:AVal) (cs:List AVal) (H:AHeap):Prop where
 gM:H.get b=some (.cells [ov,.sl h 0 k.hs.length (some k.hs.length)] 1 false)
 gH:H.get h=some (.cells (encs k.hs) 1 false)
 nx:lo≤H.next
 lt:b<lo∧h<lo∧b≠h
 acc:Acc H lo ov 5 k.l.length cs
 out:OutS H (Ak lo X ov) cs k.l
section
variable {G:AHeap} (hG:G.next=2)
include hG
theorem mkk_box{b h lo:Nat}{X:Nat→Prop}{k:KS}{ov:AVal}{cs:List AVal}{H H':AHeap}(hM:MkK b h lo X k ov cs H)(hn:H.next≤H'.next)(hk:∀ id,id<H.next→H'.get id=H.get id):MkK b h lo X k ov cs H' :=
 { gM:=(hk _ (by have:=hM.nx;have:=hM.lt;omega)).trans hM.gM,gH:=(hk _ (by have:=hM.nx;have:=hM.lt;omega)).trans hM.gH,nx:=by have:=hM.nx;omega,lt:=hM.lt,acc:=acc_keep hM.acc hn fun id a b hv=>hk id (acc_lt hM.acc _ _ _ hv).2,out:=outS_keep hn (fun id h1 h2=>⟨hk id h2,h1⟩) _ _ hM.out }
theorem mkk_hs{b h lo:Nat}{X:Nat→Prop}{k:KS}{ov:AVal}{cs:List AVal}{H:AHeap}(hM:MkK b h lo X k ov cs H)(hs':List Int)(hl:hs'.length=k.hs.length):MkK b h lo X ⟨k.l,hs'⟩ ov cs (H.put h (some (.cells (encs hs') 1 false))):=by
 have l1:=hM.lt
 have nx:=hM.nx
 have ne:∀ id,id≠h→(H.put h (some (.cells (encs hs') 1 false))).get id=H.get id:=fun id hid=>by simp -implicitDefEqProofs [hid]
 exact{ gM:=by rw[ne _ (by omega),hM.gM,hl],gH:=by simp,nx:=by simpa using nx,lt:=l1,acc:=acc_keep hM.acc (by simp) fun id a b hv=>ne id (by have:=acc_lt hM.acc _ _ _ hv;omega),out:=outS_keep (by simp) (fun id h1 h2=>⟨ne id (by have:=h1.1.1;omega),h1⟩) _ _ hM.out }
theorem mkk_l{b h lo:Nat}{X:Nat→Prop}{k:KS}{ov:AVal}{cs:List AVal}{H H6:AHeap}(hM:MkK b h lo X k ov cs H)(t:Stp)(lv nv:AVal)(id0:Nat)(h0:H.next≤id0)(acc6:Acc H6 lo (.sl id0 0 (k.l.length+1) none) 5 (k.l.length+1) (cs++[.i .i64 t.op,.i .i64 t.n,lv,.s t.s,nv]))(hn:H.next≤H6.next)(fr:∀ id,id<H.next→(∀ j m c,ov=.sl j 0 m c→id≠j)→H6.get id=H.get id)
  (hL:SlT H (Ak lo X ov) lv 7 t.l.length (encs t.l)) (hS:SlT H (Ak lo X ov) nv 1 t.names.length (encs t.names)) :
  MkK b h lo X ⟨k.l++[t],k.hs⟩ (.sl id0 0 (k.l.length+1) none) (cs++[.i .i64 t.op,.i .i64 t.n,lv,.s t.s,nv]) (H6.put b (some (.cells [.sl id0 0 (k.l.length+1) none,.sl h 0 k.hs.length (some k.hs.length)] 1 false))):=by
 have nx:=hM.nx
 have l1:=hM.lt
 obtain⟨o,hob⟩:∃ o,o=some (AObj.cells [.sl id0 0 (k.l.length+1) none,.sl h 0 k.hs.length (some k.hs.length)] 1 false):=⟨_,rfl⟩
 rw[←hob]
 have nr:∀ id,id<lo→∀ j m c,ov=.sl j 0 m c→id≠j:=fun id h j m c hj=>by have:=acc_lt hM.acc _ _ _ hj;omega
 have ne:∀(id:Nat),id≠b→(H6.put b o).get id=H6.get id:=fun id h=>by simp -implicitDefEqProofs [h]
 have hn':H.next≤(H6.put b o).next:=by simpa using hn
 have hq:∀ id,Ak lo X ov id→id<H.next→(H6.put b o).get id=H.get id∧Ak lo X (.sl id0 0 (k.l.length+1) none) id:=fun id h1 h2 =>
  ⟨by rw[ne _ (by have:=h1.1;omega)];exact fr _ h2 h1.2,h1.1,fun j m c hj=>by cases hj;omega⟩
 have hacc:=acc_keep (H':=H6.put b o) acc6 (by simp) fun id a b hv=>by have:=acc_lt acc6 _ _ _ hv;exact ne _ (by omega)
 have hout:=outS_add (slT_keep hL hn' hq) (slT_keep hS hn' hq) _ _ (outS_keep hn' hq _ _ hM.out)
 exact{ gM:=by simp -implicitDefEqProofs [hob],gH:=by rw[ne _ (by omega),fr _ (by omega) (nr _ (by omega))];exact hM.gH,nx:=by omega,lt:=l1,acc:=by simpa using hacc,out:=hout }
end
end Go.Proofs.YtkpgolcjiahdfaaGreatDoor
namespace Go.RI
open Go
instance:Enc (List Val):=⟨1,fun l=>[.fs false false l.length (encs l)],fun _=>rfl⟩
@[simp] theorem cells_vals{l:List Val}:Enc.cells l=[AVal.fs false false l.length (encs l)]:=rfl
instance:EncOk (List Val):={ snap:=fun _ _ _=>by simp,frz:=fun _ _ _ _=>by simp }
@[simp] theorem drop_vals{l:List (List Val)}{i:Nat}:(encs l).drop i=cellsO l[i]?++restE l (i+1):=by
 have:=drop_encs l i
 simpa[show Enc.sz (List Val)=1 from rfl] using this
@[simp] theorem len_vals{l:List (List Val)}:(encs l).length=l.length:=by have:=encs_len l;simpa[show Enc.sz (List Val)=1 from rfl] using this
def kindsL(l:List Val):List Int:=l.map Val.kind
@[simp] theorem kindsL_len{l:List Val}:(kindsL l).length=l.length:=by simp[kindsL]
theorem put_kind{L:List Int}{i:Nat}{k:Int}(h:i<L.length):(encs L).set i (.i .i64 k)=encs (L.set i k):=by
 obtain⟨x,hx⟩:=get_of_lt h
 have:=put_encs (k:=0) hx (m:=[AVal.i .i64 k]) (y:=k) (by simp[Enc.sz]) (by simp)
 simpa[show Enc.sz Int=1 from rfl] using this
end Go.RI
namespace Go.Proofs.YtkpgolcjiahdfaaGreatDoor
open Go Go.RI
section
variable {G:AHeap} (hG:G.next=2)
include hG
set_option maxHeartbeats 1000000 in
theorem t_padd{b h lo c0:Nat}{X:Nat→Prop}{k:KS}{ov:AVal}{cs:List AVal}{H:AHeap}(hM:MkK b h lo X k ov cs H)(hc1:c0≤b)(hc2:c0≤h)(i:Stp)(nh:Int)(m:Nat)(hfs:stpFits nh m i=true)(hhs:k.hs.length=nh.toNat)(hlen:k.l.length<1000000)(tl fl:Bool)(nv:AVal)(hS:SlT H (Ak lo X ov) nv 1 i.names.length (encs i.names)) :
  ∃ v H',theCalls IP G c0 30 [.p b 0,.ag [.i .i64 i.op,.i .i64 i.n,.fs tl fl i.l.length (encs i.l),.s i.s,nv]] H=some (v,H')∧v=.tu []∧∃ j cs',MkK b h lo X (addK k i) (.sl j 0 (k.l.length+1) none) cs' H'∧(tl=false→NoTmp [nv]→NoTmp cs→NoTmp cs')∧H.next≤j∧H.next≤H'.next∧∀ id,id<H.next→id≠b→id≠h→(∀ j m c,ov=.sl j 0 m c→id≠j)→H'.get id=H.get id:=by
 obtain⟨d1,d2⟩:=slT_one hS
 have l1:=hM.lt
 have nx:=hM.nx
 have n1:¬ b=H.next:=by omega
 have n2:¬ h=H.next:=by omega
 have n3:¬ H.next=b:=by omega
 have n4:¬ H.next=h:=by omega
 have n5:¬ b=h:=by omega
 have hfl:=fits_all hfs
 refine calls_nil_of ip30 rfl rfl ?_
 obtain⟨Hb,hHb⟩:∃ Hb,Hb=H.push (.cells [.i .i64 i.op,.i .i64 i.n,.fs tl fl i.l.length (encs i.l),.s i.s,nv] 1 false):=⟨_,rfl⟩
 have hbn:Hb.next=H.next+1:=by rw[hHb];rfl
 have hbk:∀ id,id<H.next→Hb.get id=H.get id:=fun id h=>by rw[hHb];exact get_push_lt h
 have hbr:Hb.get H.next=some (.cells [.i .i64 i.op,.i .i64 i.n,.fs tl fl i.l.length (encs i.l),.s i.s,nv] 1 false):=by rw[hHb];simp
 have hMb:=mkk_box hG hM (H':=Hb) (by omega) hbk
 have tail:∀(hs':List Int) (Ht:AHeap),noteG k.hs i i.l=hs'→MkK b h lo X ⟨k.l,hs'⟩ ov cs Ht→hs'.length=k.hs.length→Ht.next=H.next+1→(∀ id,id≠h→Ht.get id=Hb.get id)→∀ H6:AHeap,H.next≤H6.next→Acc H6 lo (.sl (Ht.next+1) 0 (k.l.length+1) none) 5 (k.l.length+1) (cs++[.i .i64 i.op,.i .i64 i.n,.fs tl fl i.l.length (encs i.l),.s i.s,nv])→(∀ id,id<Ht.next→(∀ j m c,ov=.sl j 0 m c→id≠j)→H6.get id=Ht.get id)→Ht.next≤H6.next →
   ∃ j cs',MkK b h lo X (addK k i) (.sl j 0 (k.l.length+1) none) cs' (H6.put b (some (.cells [.sl (Ht.next+1) 0 (k.l.length+1) none,.sl h 0 k.hs.length (some k.hs.length)] 1 false)))∧(tl=false→NoTmp [nv]→NoTmp cs→NoTmp cs')∧H.next≤j∧H.next≤(H6.put b (some (.cells [.sl (Ht.next+1) 0 (k.l.length+1) none,.sl h 0 k.hs.length (some k.hs.length)] 1 false))).next∧∀ id,id<H.next→id≠b→id≠h→(∀ j m c,ov=.sl j 0 m c→id≠j)→(H6.put b (some (.cells [.sl (Ht.next+1) 0 (k.l.length+1) none,.sl h 0 k.hs.length (some k.hs.length)] 1 false))).get id=H.get id:=by
  intro hs' Ht hno hMt hhl hn hk H6 hn6 acc6 hf6 hn7
  have hL:SlT Ht (Ak lo X ov) (.fs tl fl i.l.length (encs i.l)) 7 i.l.length (encs i.l):=.inl (.inl ⟨tl,fl,rfl⟩)
  have hS':=slT_keep (H':=Ht) (P':=Ak lo X ov) hS (by omega) fun id h1 h2=>⟨by rw[hk id (by have:=h1.1.1;omega)];exact hbk id h2,h1⟩
  have hM6:=mkk_l hG hMt i (.fs tl fl i.l.length (encs i.l)) nv (Ht.next+1) (by omega) acc6 (by omega) hf6 hL hS'
  refine⟨Ht.next+1,cs++[.i .i64 i.op,.i .i64 i.n,.fs tl fl i.l.length (encs i.l),.s i.s,nv],?_,fun ht hnv hcs=>noTmp_app hcs fun c hc=>?_,by omega,by simpa using hn6,fun id h1 h2 h3 h4=>?_⟩
  ·have e:addK k i=⟨k.l++[i],hs'⟩:=by unfold addK;rw[hno]
   dsimp only at hM6
   rw[hhl] at hM6
   rw[e]
   exact hM6
  ·intro t f n l he
   subst he
   simp at hc
   rcases hc with⟨rfl,_⟩|rfl
   ·exact ht
   ·exact hnv (.fs t f n l) (by simp) t f n l rfl
  ·simp -implicitDefEqProofs [h2]
   rw[hf6 id (by omega) h4,hk id h3,hbk id h1]
 have gMb:=hMb.gM
 have gHb:=hMb.gH
 by_cases hop:i.op=40∧(i.l[0]?.getD default).kind=1
 ·obtain⟨h40,hk1⟩:=hop
  obtain⟨o,ho⟩:=one_len (fits_hands hfs (.inr h40))
  have hk1':o.kind=1:=by rw[ho] at hk1;simpa using hk1
  obtain⟨a1,a2⟩:=opnFits_home (hfl o (by rw[ho];simp)) hk1'
  have a3:o.n.toNat<k.hs.length:=by omega
  have a4:o.n<(k.hs.length:Int):=by omega
  have a5:o.n.toNat+1≤k.hs.length:=by omega
  have hpk:=put_kind (L:=k.hs) (i:=o.n.toNat) (k:=i.n) a3
  have hno:noteG k.hs i i.l=k.hs.set o.n.toNat i.n:=by unfold noteG;rw[if_pos ⟨h40,hk1⟩,ho];rfl
  obtain⟨Ht,hHt⟩:∃ Ht,Ht=Hb.put h (some (.cells (encs (k.hs.set o.n.toNat i.n)) 1 false)):=⟨_,rfl⟩
  have hMt:MkK b h lo X ⟨k.l,k.hs.set o.n.toNat i.n⟩ ov cs Ht:=by rw[hHt];exact mkk_hs hG hMb _ (by simp)
  have htn:Ht.next=H.next+1:=by rw[hHt];simpa using hbn
  have htk:∀ id,id≠h→Ht.get id=Hb.get id:=fun id h=>by rw[hHt];simp -implicitDefEqProofs [h]
  have htr:=(htk H.next (by omega)).trans hbr
  have gMt:=hMt.gM
  have tacc:=hMt.acc
  dsimp only at gMt tacc
  rw[List.length_set] at gMt
  have hE:(encs k.hs).length=k.hs.length:=by rw[encs_len];simp -implicitDefEqProofs [Enc.sz]
  have hHb2:=hHb
  have hbr2:=hbr
  have htr2:=htr
  simp -implicitDefEqProofs [h40,ho,hk1'] at hHb2 hbr2 htr2
  simp -implicitDefEqProofs [I30,d1,d2,←hHb2,hbr2,gMb,gHb,h40,ho,hk1',a1,a3,a4,a5,hpk,hE,n1,n2,n3,n4,n5,hc1,hc2,←hHt,gMt,htr2]
  refine step_app (lo':=lo) (acc_keep tacc (by simp<;>omega) ?_) (m:=1) (ys:=[.i .i64 i.op,.i .i64 i.n,.fs tl fl i.l.length (encs i.l),.s i.s,nv]) (by omega) (by simp<;>omega) (more_lit (cs:=[.i .i64 i.op,.i .i64 i.n,.fs tl fl i.l.length (encs i.l),.s i.s,nv]) (e:=5) (ro:=false) (by simp -implicitDefEqProofs [h40,ho,hk1']) (by simp) (by omega)) (by simp) (by omega) (by omega) (by omega) (by omega) ?_
  ·intro id a b hv
   have:=acc_lt tacc id a b hv
   exact get_push_lt (by omega)
  intro H6 hn6 acc6 hf6
  simp at hn6
  have f6:∀ id,id<Ht.next→(∀ j m c,ov=.sl j 0 m c→id≠j)→H6.get id=Ht.get id:=fun id h1 h2=>by rw[hf6 id (by simp;omega) h2];exact get_push_lt h1
  have rM:=(f6 b (by omega) fun j m c hj=>by have:=acc_lt tacc _ _ _ hj;omega).trans gMt
  simp -implicitDefEqProofs [rM,hc1]
  obtain⟨j,cs',t1,t5,t2,t3,t4⟩:=tail _ Ht hno hMt (by simp) htn htk H6 (by omega) (by simpa using acc6) f6 (by omega)
  exact⟨j,cs',t1,t5,t2,by simpa using t3,fun id h1 h2 h3 h4=>by have:=t4 id h1 h2 h3 h4;simpa[h2] using this⟩
 ·have hno:noteG k.hs i i.l=k.hs:=by unfold noteG;rw[if_neg hop]
  have tacc:=hMb.acc
  by_cases h40:i.op=40
  ·obtain⟨o,ho⟩:=one_len (fits_hands hfs (.inr h40))
   have hk1':¬ o.kind=1:=fun h=>hop ⟨h40,by rw[ho];simpa using h⟩
   have hHb2:=hHb
   have hbr2:=hbr
   simp -implicitDefEqProofs [h40,ho] at hHb2 hbr2
   simp -implicitDefEqProofs [I30,d1,d2,←hHb2,hbr2,gMb,gHb,h40,ho,hk1',n1,n2,n3,n4,n5,hc1,hc2]
   refine step_app (lo':=lo) (acc_keep tacc (by simp<;>omega) ?_) (m:=1) (ys:=[.i .i64 i.op,.i .i64 i.n,.fs tl fl i.l.length (encs i.l),.s i.s,nv]) (by omega) (by simp<;>omega) (more_lit (cs:=[.i .i64 i.op,.i .i64 i.n,.fs tl fl i.l.length (encs i.l),.s i.s,nv]) (e:=5) (ro:=false) (by simp -implicitDefEqProofs [h40,ho]) (by simp) (by omega)) (by simp) (by omega) (by omega) (by omega) (by omega) ?_
   ·intro id a b hv
    have:=acc_lt tacc id a b hv
    exact get_push_lt (by omega)
   intro H6 hn6 acc6 hf6
   simp at hn6
   have f6:∀ id,id<Hb.next→(∀ j m c,ov=.sl j 0 m c→id≠j)→H6.get id=Hb.get id:=fun id h1 h2=>by rw[hf6 id (by simp;omega) h2];exact get_push_lt h1
   have rM:=(f6 b (by omega) fun j m c hj=>by have:=acc_lt tacc _ _ _ hj;omega).trans gMb
   simp -implicitDefEqProofs [rM,hc1]
   obtain⟨j,cs',t1,t5,t2,t3,t4⟩:=tail _ Hb hno hMb rfl hbn (fun _ _=>rfl) H6 (by omega) (by simpa using acc6) f6 (by omega)
   exact⟨j,cs',t1,t5,t2,by simpa using t3,fun id h1 h2 h3 h4=>by have:=t4 id h1 h2 h3 h4;simpa[h2] using this⟩
  ·simp -implicitDefEqProofs [I30,d1,d2,←hHb,hbr,gMb,gHb,h40,n1,n2,n3,n4,n5,hc1,hc2]
   refine step_app (lo':=lo) (acc_keep tacc (by simp<;>omega) ?_) (m:=1) (ys:=[.i .i64 i.op,.i .i64 i.n,.fs tl fl i.l.length (encs i.l),.s i.s,nv]) (by omega) (by simp<;>omega) (more_lit (cs:=[.i .i64 i.op,.i .i64 i.n,.fs tl fl i.l.length (encs i.l),.s i.s,nv]) (e:=5) (ro:=false) (by simp) (by simp) (by omega)) (by simp) (by omega) (by omega) (by omega) (by omega) ?_
   ·intro id a b hv
    have:=acc_lt tacc id a b hv
    exact get_push_lt (by omega)
   intro H6 hn6 acc6 hf6
   simp at hn6
   have f6:∀ id,id<Hb.next→(∀ j m c,ov=.sl j 0 m c→id≠j)→H6.get id=Hb.get id:=fun id h1 h2=>by rw[hf6 id (by simp;omega) h2];exact get_push_lt h1
   have rM:=(f6 b (by omega) fun j m c hj=>by have:=acc_lt tacc _ _ _ hj;omega).trans gMb
   simp -implicitDefEqProofs [rM,hc1]
   obtain⟨j,cs',t1,t5,t2,t3,t4⟩:=tail _ Hb hno hMb rfl hbn (fun _ _=>rfl) H6 (by omega) (by simpa using acc6) f6 (by omega)
   exact⟨j,cs',t1,t5,t2,by simpa using t3,fun id h1 h2 h3 h4=>by have:=t4 id h1 h2 h3 h4;simpa[h2] using this⟩
end
end Go.Proofs.YtkpgolcjiahdfaaGreatDoor
namespace Go.Proofs.YtkpgolcjiahdfaaGreatDoor
open Go Go.RI
section
variable {G:AHeap} (hG:G.next=2)
include hG
theorem t_bare(t l n:Bool)(k m:Int)(s:Str)(xs:List Val)(ns:List Str)(t1 t2:Bool):pureR IP G 128 [.ag [.b t,.b l,.b n],.ag [.i .i64 k,.i .i64 m,.s s,.fs t1 false xs.length (encs xs),.fs t2 false ns.length (encs ns)]]=some (.b (bareV t l n (.mk k m s xs ns))):=by
 refine pure_run ip128 rfl ?_
 simp -implicitDefEqProofs [I128,hG]
 repeat' ((first|refine guard_intro ?_ ?_|refine test_intro ?_ ?_)<;>intro h<;>(try simp -implicitDefEqProofs [h,hG]))
 all_goals ((try simp only[decide_eq_true_eq,decide_eq_false_iff_not] at *)<;>(try simp_all [bareV])<;>(try (intros;omega)))
theorem t_named(s:Str)(hs:s.length<4611686018427387904):pureR IP G 136 [.s s]=some (.b (named s)):=by
 refine pure_run ip136 rfl ?_
 simp -implicitDefEqProofs [I136,hG]
 repeat' ((first|refine guard_intro ?_ ?_|refine test_intro ?_ ?_)<;>intro h<;>(try simp -implicitDefEqProofs [h,hG]))
 ·simp_all [named]
 ·simp_all [named]
 refine wp_loop_list (l:=s) hs (fun i todo e H=>e=[(14,.sl 2 0 s.length none),(15,.i .i64 s.length),(16,.i .i64 i)]∧H=G.push (AObj.cells (List.map (fun b=>AVal.i IntKind.u8 ↑b.toNat) s) 1 false)∧namedL 0 s=namedL i todo) ?_ ?_ ?_
 ·rintro i x todo e H hx hd hlt hlt2 hlt3 ⟨rfl,rfl,hn⟩
  clear hlt
  simp -implicitDefEqProofs [L136a, *]
  repeat' ((first|refine guard_intro ?_ ?_|refine test_intro ?_ ?_)<;>intro h<;>(try simp -implicitDefEqProofs [h,hG,hx,hlt3]))
  all_goals clear hx hd hlt2 hlt3 hs
  all_goals ((try simp only[decide_eq_true_eq,decide_eq_false_iff_not] at *)<;>(try simp_all [named,namedL,badc,letter])<;>(try (intros;omega)))
 ·rintro e H ⟨rfl,rfl,hn⟩
  simp -implicitDefEqProofs [L136a, *]
  simp_all [named,namedL]
 ·simp
theorem t_rising(ns:List Str)(hs:ns.length<4611686018427387904)(hx:∀ s∈ns,s.length<4611686018427387904)(t f:Bool):pureR IP G 129 [.fs t f ns.length (encs ns)]=some (.b (rising [] ns)):=by
 refine pure_run ip129 rfl ?_
 simp -implicitDefEqProofs [I129,hG]
 refine wp_loop_list (l:=ns) hs (fun i todo e H=>∃ last,e=[(3,.s last),(6,.fs t f ns.length (encs ns)),(7,.i .i64 ns.length),(8,.i .i64 i)]∧H=G∧rising [] ns=rising last todo) ?_ ?_ ?_
 ·rintro i x todo e H hx2 hd hlt hlt2 hlt3 ⟨last,rfl,rfl,hn⟩
  have c1:=t_named hG x (hx x (List.mem_of_getElem? hx2))
  clear hlt
  simp -implicitDefEqProofs [L129a, *]
  repeat' ((first|refine guard_intro ?_ ?_|refine test_intro ?_ ?_)<;>intro h<;>(try simp -implicitDefEqProofs [h,hG,c1,hx2,hlt3]))
  all_goals ((try simp only[decide_eq_true_eq,decide_eq_false_iff_not] at *)<;>(try simp_all [rising])<;>(try (intros;omega)))
 ·rintro e H ⟨last,rfl,rfl,hn⟩
  simp -implicitDefEqProofs [L129a, *]
  simp_all [rising]
 ·simp
end
end Go.Proofs.YtkpgolcjiahdfaaGreatDoor
namespace Go.Proofs.YtkpgolcjiahdfaaGreatDoor
open Go Go.RI
section
variable {G:AHeap} (hG:G.next=2)
include hG
set_option maxHeartbeats 1000000 in
theorem t_own(k m:Int)(s:Str)(xs:List Val)(ns:List Str)(t1 t2:Bool)(hs:ns.length<4611686018427387904)(hx:∀ s∈ns,s.length<4611686018427387904):pureR IP G 120 [.ag [.i .i64 k,.i .i64 m,.s s,.fs t1 false xs.length (encs xs),.fs t2 false ns.length (encs ns)]]=some (.b (ownV (.mk k m s xs ns))):=by
 have c1:=t_rising hG ns hs hx
 have c2:=t_bare hG
 refine pure_run ip120 rfl ?_
 clear hs hx
 simp -implicitDefEqProofs [I120,hG]
 repeat' ((first|refine guard_intro ?_ ?_|refine test_intro ?_ ?_)<;>intro h<;>(try simp -implicitDefEqProofs [h,hG,c1,c2]))
 all_goals clear c1 c2
 all_goals ((try simp only[decide_eq_true_eq,decide_eq_false_iff_not] at *)<;>(try simp_all [ownV])<;>(try (intros;omega)))
end
end Go.Proofs.YtkpgolcjiahdfaaGreatDoor
namespace Go.Proofs.YtkpgolcjiahdfaaGreatDoor
open Go Go.RI
section
variable {G:AHeap} (hG:G.next=2)
include hG
set_option maxHeartbeats 1000000 in
theorem t_fits:∀(b:Nat) (v:Val),v.bulk≤b→b<1099511627776→∀(w left:Int),0≤w→w≤8→-2199023255552<left→left<2199023255552→∀ t1 t2:Bool,pureR IP G 84 [.ag [.i .i64 v.kind,.i .i64 v.n,.s v.s,.fs t1 false v.l.length (encs v.l),.fs t2 false v.names.length (encs v.names)],.i .i64 w,.i .i64 left]=some (.tu [.i .i64 (fitsV v w left).1,.b (fitsV v w left).2]):=by
  intro b
  induction b with
  | zero=>intro v h;have:=v.bulk_pos;omega
  | succ b ih =>
    intro v hv hb w left hw0 hw8 hl0 hl1 t1 t2
    have hv2:=hv
    rw[Val.bulk_eq] at hv2
    have hlen:=bulkL_len v.l
    have hlen2:=bulkS_len v.names
    have hlens:=lens_bulk v.names
    have c1:=t_own hG v.kind v.n v.s v.l v.names t1 t2 (by omega) (fun s hs=>by have:=bulkS_mem hs;omega)
    rw[Val.eta] at c1
    have w1:wrapI .i64 (1+(v.s.length:Int))=1+v.s.length:=wrap_ok (by omega) (by omega)
    have w2:wrapI .i64 (left-(1+(v.s.length:Int)))=left-(1+v.s.length):=wrap_ok (by omega) (by omega)
    refine pure_run ip84 rfl ?_
    simp -implicitDefEqProofs [I84,hG,w1,w2]
    refine wp_loop_list (l:=v.names) (by omega) (fun i todo e H=>e=[(1,.i .i64 w),(2,.i .i64 (left-(1+v.s.length)-(lens v.names-lens todo))),(3,.p 2 0),(19,.fs t2 false v.names.length (encs v.names)),(20,.i .i64 v.names.length),(21,.i .i64 i)]∧H=G.push (.cells [.i .i64 v.kind,.i .i64 v.n,.s v.s,.fs t1 false v.l.length (encs v.l),.fs t2 false v.names.length (encs v.names)] 1 false)∧0≤lens todo∧lens todo≤lens v.names) ?_ ?_ ?_
    · rintro i x todo e H hx hd hlt hlt2 hlt3 ⟨rfl,rfl,hn0,hn1⟩
      clear hlt
      have hl:=(lens_bulk todo).1
      simp only[lens] at hn0 hn1
      have w3:wrapI .i64 (left-(1+(v.s.length:Int))-(lens v.names-lens (x::todo))-x.length)=left-(1+v.s.length)-(lens v.names-lens todo):=by
        rw[wrap_ok]<;>simp only[lens]<;>omega
      simp -implicitDefEqProofs [L84a, *]
      omega
    · rintro e H ⟨rfl,rfl,hn0,hn1⟩
      simp only[lens,Int.sub_zero]
      have hf:∀ b,ownV v=b→fitsV v w left=if 8≤w∨left-(1+v.s.length)-lens v.names<0∨b=false then(0,false) else fitsL v.l (w+1) (left-(1+v.s.length)-lens v.names):=fun b hb=>by rw[fitsV_eq,hb]
      simp -implicitDefEqProofs [L84a, *]
      repeat' ((first|refine guard_intro ?_ ?_|refine test_intro ?_ ?_)<;>intro h<;>(try simp -implicitDefEqProofs [*]))
      · simp_all
      · simp_all
      · have hf:=hf _ h
        rw[if_neg (by simp_all)] at hf
        have w4:wrapI .i64 (w+1)=w+1:=wrap_ok (by omega) (by omega)
        have hw7:w+1≤8:=by simp_all;omega
        generalize hL0:left-(1+(v.s.length:Int))-lens v.names=L0 at *
        have hL:0≤L0:=by simp_all
        have hL1:L0≤left:=by omega
        clear hL0
        refine wp_loop_list (l:=v.l) (by omega) (fun i todo e H=>∃ q,0≤q∧q≤L0∧e=[(1,.i .i64 w),(2,.i .i64 q),(3,.p 2 0),(43,.i .i64 v.l.length),(44,.i .i64 i)]∧H=G.push (.cells [.i .i64 v.kind,.i .i64 v.n,.s v.s,.fs t1 false v.l.length (encs v.l),.fs t2 false v.names.length (encs v.names)] 1 false)∧fitsL v.l (w+1) L0=fitsL todo (w+1) q) ?_ ?_ ?_
        · rintro i x todo e H hx hd hlt hlt2 hlt3 ⟨q,hq0,hq1,rfl,rfl,hq⟩
          clear hlt
          have hm:=bulkL_mem (List.mem_of_getElem? hx)
          have c2:=ih x (by omega) (by omega) (w+1) q (by omega) hw7 (by omega) (by omega) false false
          have c3:=fitsV_le x (w+1) q
          rw[fitsL] at hq
          simp -implicitDefEqProofs [L84b, *]
          repeat' ((first|refine guard_intro ?_ ?_|refine test_intro ?_ ?_)<;>intro h<;>(try simp -implicitDefEqProofs [*]))
          have c3:=c3 h
          exact⟨_,c3.1,by omega,rfl,rfl⟩
        · rintro e H ⟨q,hq0,hq1,rfl,rfl,hq⟩
          simp -implicitDefEqProofs [L84b,hG]
          rw[if_neg (by omega),hq]
          simp -implicitDefEqProofs [fitsL]
        · exact⟨L0,by omega,by omega,rfl,rfl,rfl⟩
    · refine⟨?_,rfl,?_,?_⟩
      · simp
      · exact hlens.1
      · omega
theorem t_check(v:Val)(hv:v.bulk<1099511627776)(t1 t2:Bool):pureR IP G 59 [.ag [.i .i64 v.kind,.i .i64 v.n,.s v.s,.fs t1 false v.l.length (encs v.l),.fs t2 false v.names.length (encs v.names)]]=some (.i .i64 (if mayV v then 0 else 2)):=by
 have c1:=t_fits hG v.bulk v (Nat.le_refl _) hv 0 256 (by omega) (by omega) (by omega) (by omega)
 refine pure_run ip59 rfl ?_
 simp -implicitDefEqProofs [I59,hG,c1]
 repeat' ((first|refine guard_intro ?_ ?_|refine test_intro ?_ ?_)<;>intro h<;>(try simp -implicitDefEqProofs [h]))
 all_goals simp_all [mayV]
end
end Go.Proofs.YtkpgolcjiahdfaaGreatDoor
namespace Go.Proofs.YtkpgolcjiahdfaaGreatDoor
open Go Go.RI
section
variable {G:AHeap} (hG:G.next=2)
include hG
theorem t_pown_loop(v:Val)(hv:v.l.length<1099511627776)(lv nv:AVal)(H:AHeap)(hr:H.get 2=some (.cells [.i .i64 v.kind,.i .i64 v.n,.s v.s,lv,nv] 1 false))(hL:Hold H 4 lv 5 v.l.length (encs v.l))
  (ih:∀ x∈v.l,∀ t1 t2:Bool,pureR IP G 45 [.ag [.i .i64 x.kind,.i .i64 x.n,.s x.s,.fs t1 false x.l.length (encs x.l),.fs t2 false x.names.length (encs x.names)]]=some (.ag (Enc.cells x)))
  (Q:Post) (hQ:∀ b H',(∀ id,H'.get id=H.get id)→H'.next=H.next→Q (.exit 0) [(1,.p 2 0),(2,.p 3 0),(14,.i .i64 v.l.length),(15,.i .i64 v.l.length),(16,b)] H') :
  wp (theCalls IP G 2) 2 (.loop L45a) Q [(1,.p 2 0),(2,.p 3 0),(14,.i .i64 v.l.length),(15,.i .i64 0)] H:=by
 refine wp_loop_list (l:=v.l) (by omega) (fun i todo e H'=>e=[(1,.p 2 0),(2,.p 3 0),(14,.i .i64 v.l.length),(15,.i .i64 i)]∧(∀ id,H'.get id=H.get id)∧H'.next=H.next) ?_ ?_ ?_
 ·rintro i x todo e H' hx hd hlt hlt2 hlt3 ⟨rfl,hs,hn⟩
  have c1:=ih x (List.mem_of_getElem? hx) false false
  simp at c1
  rcases hL with⟨_,h0,_⟩|⟨id,c,rfl,hc,h1,h2,h3,h4⟩
  ·omega
  have hr':=(hs 2).trans hr
  have h3':=(hs id).trans h3
  have h5:i*5+5≤v.l.length*5:=by omega
  have hne:¬ id=2:=by omega
  have hp:=put_val hx
  simp at hp
  have hlo:2≤id:=by omega
  clear hlt
  simp -implicitDefEqProofs [L45a,hlt2,hlt3,hx,hr',h3',h5,c1,hne,hlo,hp]
  refine⟨fun j=>?_,hn⟩
  by_cases hj:j=id
  ·subst hj;simp -implicitDefEqProofs [h3]
  ·simp -implicitDefEqProofs [hj,hs]
 ·rintro e H' ⟨rfl,hs,hn⟩
  simp -implicitDefEqProofs [L45a]
  exact hQ _ _ hs hn
 ·simp
theorem t_pown1:∀ b,b<1099511627776→∀ v:Val,v.bulk≤b→∀ t1 t2:Bool,pureR IP G 45 [.ag [.i .i64 v.kind,.i .i64 v.n,.s v.s,.fs t1 false v.l.length (encs v.l),.fs t2 false v.names.length (encs v.names)]]=some (.ag (Enc.cells v)):=by
  intro b
  induction b with
  | zero=>intro _ v h;have:=v.bulk_pos;omega
  | succ b ih =>
    intro hb v hv t1 t2
    rw[Val.bulk_eq] at hv
    have hl1:=bulkL_len v.l
    have hl2:=bulkS_len v.names
    refine pure_run ip45 rfl ?_
    simp -implicitDefEqProofs [I45,hG]
    refine step_clone (lo':=4) (by simp) (by omega) (by omega) (by omega) (by simp -implicitDefEqProofs [hG]) ?_
    intro nv H1 hn1 hN hnew1 hf1
    have hg1:H1.get 2=_:=hf1 2 (by simp -implicitDefEqProofs [hG])
    have hg2:H1.get 3=_:=hf1 3 (by simp -implicitDefEqProofs [hG])
    simp -implicitDefEqProofs [hG] at hg1 hg2 hn1
    simp -implicitDefEqProofs [hg1]
    refine step_clone (lo':=4) (by simp) (by omega) (by omega) (by omega) (by omega) ?_
    intro lv H2 hn2 hL hnew2 hf2
    have hg3:H2.get 2=_:=(hf2 2 (by omega)).trans hg1
    have hg4:H2.get 3=_:=(hf2 3 (by omega)).trans hg2
    obtain⟨o1,o2⟩:=hold_one hN
    obtain⟨o3,o4⟩:=hold_one hL
    simp -implicitDefEqProofs [hg3,o1,o2,o3,o4,hold_len hL]
    have hN2:Hold H2 4 nv 1 v.names.length (encs v.names):=hold_keep hN hn2 fun id c h=>hf2 id (hold_lt hN _ _ _ h).2
    refine t_pown_loop hG v (by omega) lv nv _ (by simp) (hold_keep hL (by simp) fun id c h=>?_) (fun x hx t1 t2=>ih (by omega) x (by have:=bulkL_mem hx;omega) t1 t2) _ ?_
    · have:=hold_lt hL _ _ _ h
      simp -implicitDefEqProofs [show ¬ id=2 by omega]
    · intro b H3 hs hn3
      have e1:H3.get 2=_:=hs 2
      have e2:H3.get 3=_:=hs 3
      simp -implicitDefEqProofs [hg4] at e1 e2
      simp -implicitDefEqProofs [e1,e2]
      simp at hn3
      have f1:=fun o=>hold_frz (k:=14) (hold_in hL (H':=H3.put 3 o) (lo':=2) (by omega) (by simp;omega) fun id h1 h2=>by simp -implicitDefEqProofs [hs,show ¬ id=3 by omega,show ¬ id=2 by omega]) frz_encs
      have f2:=fun o=>hold_frz (k:=14) (hold_in hN2 (H':=H3.put 3 o) (lo':=2) (by omega) (by simp;omega) fun id h1 h2=>by simp -implicitDefEqProofs [hs,show ¬ id=3 by omega,show ¬ id=2 by omega]) frz_encs
      simp -implicitDefEqProofs [f1,f2]
theorem t_pownV(v:Val)(hv:v.bulk<1099511627776)(t1 t2:Bool):pureR IP G 45 [.ag [.i .i64 v.kind,.i .i64 v.n,.s v.s,.fs t1 false v.l.length (encs v.l),.fs t2 false v.names.length (encs v.names)]]=some (.ag (Enc.cells v)) :=
 t_pown1 hG v.bulk hv v (Nat.le_refl _) t1 t2
end
end Go.Proofs.YtkpgolcjiahdfaaGreatDoor
namespace Go.Proofs.YtkpgolcjiahdfaaGreatDoor
open Go Go.RI
section
variable {G:AHeap} (hG:G.next=2)
include hG
set_option maxHeartbeats 1000000 in
theorem t_pturn(l:List Opn)(hlen:l.length<1099511627776)(pl:List Opn)(h:∀ o∈l,o.kind=2→0≤o.n∧o.n<pl.length)(hb:∀ o∈l,(turnO pl o).v.bulk<1099511627776)(t f ta:Bool):pureR IP G 44 [.fs t f l.length (encs l),.fp [.fp [.fs ta false pl.length (encs pl)]]]=some (.fs false false l.length (encs (l.map (turnO pl)))):=by
 refine pure_run ip44 rfl ?_
 simp -implicitDefEqProofs [I44,hG]
 refine wp_loop_list (l:=l) (by omega) (fun i todo e H=>∃ lv,e=[(1,.fp [.fp [.fs ta false pl.length (encs pl)]]),(3,lv),(6,.fs t f l.length (encs l)),(7,.i .i64 l.length),(8,.i .i64 i)]∧2≤H.next∧Acc H 2 lv 7 i (encs ((l.take i).map (turnO pl)))) ?_ ?_ ?_
 ·rintro i o todo e H' hx hd hlt hlt2 hlt3 ⟨lv,rfl,n3,hL⟩
  have hk2:=h o (List.mem_of_getElem? hx)
  have c1:=t_pownV hG (turnO pl o).v (hb o (List.mem_of_getElem? hx)) false false
  clear hlt
  by_cases k2:o.kind=2
  ·obtain⟨a1,a2⟩:=hk2 k2
   obtain⟨p,hp⟩:=get_of_lt (l:=pl) (i:=o.n.toNat) (by omega)
   have hp2:∀ h,pl[o.n.toNat]'h=p:=fun h=>by rw[List.getElem?_eq_getElem h] at hp;exact Option.some.inj hp
   have hm:turnO pl o=p:=by unfold turnO;rw[if_pos k2,hp];rfl
   rw[hm] at c1
   simp at c1
   clear hk2
   simp -implicitDefEqProofs [L44a,hlt2,hlt3,hx,n3,c1,k2,a1,a2,hp,hp2]
   refine step_app (lo':=2) (acc_keep hL (by simp<;>omega) ?_) (m:=1) (ys:=Enc.cells (turnO pl o)) (by omega) (by simp<;>omega) (more_lit (cs:=Enc.cells (turnO pl o)) (e:=7) (ro:=false) (by simp -implicitDefEqProofs [hm]) (by simp) (by omega)) (by simp) (by omega) (by omega) (by omega) (by omega) ?_
   ·intro id a b hv
    have:=acc_lt hL id a b hv
    simp -implicitDefEqProofs [show ¬ id=H'.next+1 by omega,show ¬ id=H'.next by omega]
   intro H2 hn2 hL2 hf2
   simp at hn2 hL2
   simp -implicitDefEqProofs [hlt3]
   exact⟨by omega,by simpa[List.take_add_one,hx] using hL2⟩
  ·have hm:turnO pl o=o:=by unfold turnO;rw[if_neg k2]
   rw[hm] at c1
   simp at c1
   simp -implicitDefEqProofs [L44a,hlt2,hlt3,hx,n3,c1,k2]
   refine step_app (lo':=2) (acc_keep hL (by simp<;>omega) ?_) (m:=1) (ys:=Enc.cells (turnO pl o)) (by omega) (by simp<;>omega) (more_lit (cs:=Enc.cells (turnO pl o)) (e:=7) (ro:=false) (by simp -implicitDefEqProofs [hm]) (by simp) (by omega)) (by simp) (by omega) (by omega) (by omega) (by omega) ?_
   ·intro id a b hv
    have:=acc_lt hL id a b hv
    simp -implicitDefEqProofs [show ¬ id=H'.next+1 by omega,show ¬ id=H'.next by omega]
   intro H2 hn2 hL2 hf2
   simp at hn2 hL2
   simp -implicitDefEqProofs [hlt3]
   exact⟨by omega,by simpa[List.take_add_one,hx] using hL2⟩
 ·rintro e H' ⟨lv,rfl,hn,hL⟩
  rw[List.take_length] at hL
  have:=acc_frz (k:=15) hL frz_encs
  simp -implicitDefEqProofs [L44a,this]
 ·exact⟨.ns,by simp,by omega,acc_none⟩
end
end Go.Proofs.YtkpgolcjiahdfaaGreatDoor
namespace Go.Proofs.YtkpgolcjiahdfaaGreatDoor
open Go Go.RI
section
variable {G:AHeap} (hG:G.next=2)
include hG
theorem t_turner(H:AHeap)(a:Nat)(lo:Nat):theCalls IP G lo 20 [.p a 0] H=some (.fn (.func 44) [] [.p H.next 0],H.push (.cells [.p a 0] 1 false)):=by
 have bx:∀(H:AHeap) (a b:Nat),boxR H (.p a b)=some (some (.p H.next 0),H.push (.cells [.p a b] 1 false)):=fun _ _ _=>rfl
 refine calls_one ip20 rfl rfl ?_
 rw[ends_fin]
 simp -implicitDefEqProofs [I20,bx]
end
end Go.Proofs.YtkpgolcjiahdfaaGreatDoor
