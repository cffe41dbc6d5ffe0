import Derived.Test.YtkpgolcjiahdfaaGreatDoorB08
import Derived.Test.YtkpgolcjiahdfaaGreatDoorB07
set_option linter.unusedVariables false
set_option linter.unusedSimpArgs false
set_option linter.unusedSectionVars false
/- RI, part SQ: what is known of homes and steps; steps that can't fail (chapter 23). Conditions: none. -/
namespace Go.RI
open Go
structure KS where
 l:List Stp
 hs:List Int
def knownK(k:KS)(o:Opn):Int:=knownI ⟨k.l,k.hs,[]⟩ o
def addK(k:KS)(i:Stp):KS:=⟨k.l++[i],noteG k.hs i i.l⟩
def ks0(nh:Int):KS:=⟨[],List.replicate nh.toNat (-1)⟩
def addL:KS→List Stp→KS
 | k,[]=>k
 | k,i::l=>addL (addK k i) l
def factsK(nh:Int)(l:List Stp):KS:=addL (ks0 nh) l
theorem addL_app:∀(l m:List Stp) (k:KS),addL k (l++m)=addL (addL k l) m
 | [],_,_=>rfl
 | i::l,m,k=>addL_app l m (addK k i)
theorem addL_l:∀(l:List Stp) (k:KS),(addL k l).l=k.l++l
 | [],k=>by simp[addL]
 | i::l,k=>by rw[addL,addL_l l];simp[addK]
theorem facts_l(nh:Int)(l:List Stp):(factsK nh l).l=l:=by simp[factsK,addL_l,ks0]
theorem facts_snoc(nh:Int)(l:List Stp)(i:Stp):factsK nh (l++[i])=addK (factsK nh l) i:=by simp[factsK,addL_app,addL]
theorem addL_hs:∀(l:List Stp) (k:KS),(addL k l).hs.length=k.hs.length
 | [],k=>rfl
 | i::l,k=>by rw[addL,addL_hs l];simp[addK,noteG_len]
theorem facts_hs(nh:Int)(l:List Stp):(factsK nh l).hs.length=nh.toNat:=by simp[factsK,addL_hs,ks0]
def allK(k:KS)(l:List Opn)(c:Int):Bool:=l.all fun o=>decide (knownK k o=c)
def isInt(op:Int):Bool:=decide (op=6)||decide (op=10)||decide (op=11)||decide (op=41)||decide (op=43)||decide (op=44)||decide (op=45)||decide (op=46)||decide (op=47)||decide (op=48)||decide (op=49)
def sureK(k:KS)(i:Stp):Bool :=
 if i.op=14∨i.op=15 then true
 else if i.op=40 then allK k i.l i.n
 else if i.op=7∨i.op=42 then allK k i.l 2
 else if i.op=8 then allK k i.l 3||allK k i.l 4
 else if isInt i.op=true then allK k i.l 1
 else false
def failsP(x:Pce)(at_:Int):Bool:=!(checkP x&&decide (0≤at_)&&decide (at_<x.ins.length))||!sureK (factsK x.homes (x.ins.take at_.toNat)) (x.ins[at_.toNat]?.getD default)
theorem fits_take{nh:Int}{l:List Stp}(h:Fits nh l)(n:Nat):Fits nh (l.take n):=fun k s hk=>by
 rw[List.getElem?_take] at hk
 split at hk
 ·exact h k s hk
 ·cases hk
theorem fits_pre{nh:Int}{l:List Stp}{i:Stp}(h:Fits nh (l++[i])):Fits nh l∧stpFits nh l.length i=true:=by
 refine⟨fun k s hk=>h k s ?_,h l.length i (by simp)⟩
 rcases Nat.lt_or_ge k l.length with h1|h1
 ·rw[List.getElem?_append_left h1];exact hk
 ·rw[List.getElem?_eq_none h1] at hk;cases hk
theorem facts_homes{homes:List Val}{nh:Int}(hlen:(homes.length:Int)=nh):∀(n:Nat) (l:List Stp) (made:List Val),l.length=n→Fits nh l→stepsV homes l []=some made→∀(h:Nat) (k:Int),(factsK nh l).hs[h]?=some k→k≠-1→∃ v,homes[h]?=some v∧v.kind=k:=by
  intro n
  induction n with
  | zero =>
    intro l made hn hf hr h k hh hk
    obtain rfl:l=[]:=List.eq_nil_of_length_eq_zero hn
    simp only[factsK,addL,ks0] at hh
    have:=List.mem_of_getElem? hh
    rw[List.mem_replicate] at this
    exact absurd this.2 hk
  | succ n ih =>
    intro l made hn hf hr h k hh hk
    have hne:l≠[]:=by intro e;subst e;simp at hn
    obtain⟨l',i,rfl⟩:∃ l' i,l=l'++[i]:=⟨l.dropLast,l.getLast hne,(List.dropLast_concat_getLast hne).symm⟩
    obtain⟨hf',hi⟩:=fits_pre hf
    rw[steps_app] at hr
    cases hm:stepsV homes l' [] with
    | none=>rw[hm] at hr;cases hr
    | some made' =>
      rw[hm] at hr
      simp only[Option.bind_some,stepsV] at hr
      rw[facts_snoc] at hh
      simp only[addK,noteG] at hh
      have ih':=ih l' made' (by simpa using hn) hf' hm
      split at hh
      · rename_i hc
        cases hv:stepV i (i.l.map (ofO homes made')) with
        | none=>rw[hv] at hr;cases hr
        | some v =>
          obtain⟨o,ho⟩:=one_len (fits_hands hi (.inr hc.1))
          have hof:=fits_all hi o (by rw[ho];simp)
          rw[ho] at hh hc
          simp only[List.getElem?_cons_zero,Option.getD_some] at hh hc
          obtain⟨b1,b2⟩:=opnFits_home hof hc.2
          by_cases he:h=o.n.toNat
          · subst he
            rw[List.getElem?_set_self (by rw[facts_hs];omega)] at hh
            have hh:i.n=k:=Option.some.inj hh
            obtain⟨w,hw⟩:=get_of_lt (l:=homes) (i:=o.n.toNat) (by omega)
            have h7:=(stepV_op hv).1
            have h8:ofO homes made' o=w:=by simp[ofO,hc.2,hw]
            rw[ho] at h7
            simp[opS,hc.1,h8] at h7
            exact⟨w,hw,by omega⟩
          · rw[List.getElem?_set_ne (fun e=>he e.symm)] at hh
            exact ih' h k hh hk
      · exact ih' h k hh hk
theorem knownK_kind{homes made:List Val}{nh:Int}{l:List Stp}{o:Opn}(hlen:(homes.length:Int)=nh)(hf:Fits nh l)(hr:stepsV homes l []=some made)(ho:opnFits nh l.length o=true)(hne:knownK (factsK nh l) o≠-1):(ofO homes made o).kind=knownK (factsK nh l) o:=by
 revert hne
 unfold knownK knownI
 simp only[facts_l]
 split
 ·rename_i h1
  obtain⟨b1,b2⟩:=opnFits_home ho h1
  obtain⟨x,hx⟩:=get_of_lt (l:=(factsK nh l).hs) (i:=o.n.toNat) (by rw[facts_hs];omega)
  rw[hx]
  intro hne
  obtain⟨v,hv,hvk⟩:=facts_homes hlen _ l made rfl hf hr _ _ hx hne
  simp[ofO,h1,hv,hvk]
 ·split
  ·rename_i h2
   obtain⟨b1,b2⟩:=opnFits_step ho h2
   obtain⟨s,hs2⟩:=get_of_lt (l:=l) (i:=o.n.toNat) (by omega)
   rw[hs2]
   intro hne
   obtain⟨v,w,h3,h4⟩:=steps_at _ _ _ _ _ hr hs2
   have h3:made[o.n.toNat]?=some v:=by simpa using h3
   have:=makes_kind h4 hne
   simp[ofO,h2,h3,this]
  ·rename_i h1 h2
   intro _
   simp[ofO,h1,h2]
theorem allK_kinds{homes made:List Val}{nh c:Int}{l:List Stp}{ops:List Opn}(hlen:(homes.length:Int)=nh)(hf:Fits nh l)(hr:stepsV homes l []=some made)(ho:∀ o∈ops,opnFits nh l.length o=true)(hc:c≠-1)(h:allK (factsK nh l) ops c=true):∀ v∈ops.map (ofO homes made),v.kind=c:=by
 intro v hv
 obtain⟨o,hom,rfl⟩:=List.mem_map.1 hv
 have h1:=List.all_eq_true.1 h o hom
 simp only[decide_eq_true_eq] at h1
 rw[knownK_kind hlen hf hr (ho o hom) (by rw[h1];exact hc),h1]
theorem steps_may{homes:List Val}:∀(l:List Stp) (m made:List Val),stepsV homes l m=some made→m.all mayV=true→made.all mayV=true
  | [],m,made,h,hm=>by simp only[stepsV] at h;cases h;exact hm
  | i::l,m,made,h,hm=>by
    simp only[stepsV] at h
    cases hv:stepV i (i.l.map (ofO homes m)) with
    | none=>rw[hv] at h;cases h
    | some v =>
      rw[hv] at h
      refine steps_may l _ made h ?_
      rw[List.all_append,hm]
      simp[step_may hv]
theorem ofO_may{homes made:List Val}{nh a:Int}{o:Opn}(h1:homes.all mayV=true)(h2:made.all mayV=true)(ho:opnFits nh a o=true):mayV (ofO homes made o)=true:=by
 unfold ofO
 split
 ·exact may_get h1 _
 ·split
  ·exact may_get h2 _
  ·rename_i k1 k2
   unfold opnFits at ho
   rw[if_neg k1,if_neg k2] at ho
   split at ho
   ·simp only[Bool.and_eq_true] at ho;exact ho.2
   ·cases ho
theorem bin_rng{op:Int}{a b:Val}(h1:9≤op)(h2:op≤19)(ha:mayV a=true)(hb:mayV b=true):binaryV op a b=((binV2 op a b).1,(binV2 op a b).2,0):=by
 unfold binaryV
 rw[if_neg]
 simp[ha,hb];omega
theorem sure_op{i:Stp}{l:List Val}(hall:l.all mayV=true)(hn:(needs i).1≤l.length)(hn2:(l.length:Int)≤(needs i).2.1)
    (h:i.op=14∨i.op=15∨(i.op=40∧∀ v∈l,v.kind=i.n)∨((i.op=7∨i.op=42)∧∀ v∈l,v.kind=2)∨(i.op=8∧((∀ v∈l,v.kind=3)∨∀ v∈l,v.kind=4))∨(isInt i.op=true∧∀ v∈l,v.kind=1)):∃ v,opS i l=some v:=by
  have two:(needs i).1=2→(needs i).2.1=2→∃ a b,l=[a,b]:=fun e1 e2=>by
    rw[e1] at hn;rw[e2] at hn2
    match l,hn,hn2 with
    | [a,b],_,_=>exact⟨a,b,rfl⟩
    | [],h,_=>simp at h
    | [a],h,_=>simp at h
    | a::b::c::m,_,h=>simp at h;omega
  have one:(needs i).1=1→(needs i).2.1=1→∃ a,l=[a]:=fun e1 e2=>by
    rw[e1] at hn;rw[e2] at hn2
    match l,hn,hn2 with
    | [a],_,_=>exact⟨a,rfl⟩
    | [],h,_=>simp at h
    | a::b::m,_,h=>simp at h;omega
  have ints:∀(op:Int) (a b:Val),(op=9∨op=10∨op=11∨op=16∨op=17)→mayV a=true→mayV b=true→a.kind=1→b.kind=1→∃ v,resV (binaryV op a b)=some v:=by
    intro op a b ho ha hb ka kb
    rw[bin_rng (by omega) (by omega) ha hb]
    rcases ho with rfl|rfl|rfl|rfl|rfl<;>simp[binV2,ka,kb,intsV,resV]
  rcases h with h|h|⟨h,hk⟩|⟨h,hk⟩|⟨h,hk⟩|⟨h,hk⟩
  · obtain⟨a,b,rfl⟩:=two (by simp[needs,h]) (by simp[needs,h])
    simp only[List.all_cons,List.all_nil,Bool.and_true,Bool.and_eq_true] at hall
    have e:opS i [a,b]=resV (binaryV 14 a b):=by simp[opS,h,needs]
    rw[e,bin_rng (by omega) (by omega) hall.1 hall.2]
    simp[binV2,resV]
  · obtain⟨a,b,rfl⟩:=two (by simp[needs,h]) (by simp[needs,h])
    simp only[List.all_cons,List.all_nil,Bool.and_true,Bool.and_eq_true] at hall
    have e:opS i [a,b]=resV (binaryV 15 a b):=by simp[opS,h,needs]
    rw[e,bin_rng (by omega) (by omega) hall.1 hall.2]
    simp[binV2,resV]
  · obtain⟨a,rfl⟩:=one (by simp[needs,h]) (by simp[needs,h])
    have:=hk a (by simp)
    exact⟨a,by simp[opS,h,this]⟩
  · have ho:(needs i).1=1∧(needs i).2.1=1:=by rcases h with h|h<;>simp[needs,h]
    obtain⟨a,rfl⟩:=one ho.1 ho.2
    have hka:=hk a (by simp)
    simp only[List.all_cons,List.all_nil,Bool.and_true] at hall
    have e:opS i [a]=resV (unaryV 7 a):=by rcases h with h|h<;>simp[opS,h,needs]
    rw[e]
    simp[unaryV,hall,hka,resV]
  · obtain⟨a,rfl⟩:=one (by simp[needs,h]) (by simp[needs,h])
    simp only[List.all_cons,List.all_nil,Bool.and_true] at hall
    have hka:a.kind=3∨a.kind=4:=hk.imp (fun h=>h a (by simp)) (fun h=>h a (by simp))
    have e:opS i [a]=resV (unaryV 8 a):=by simp[opS,h,needs]
    rw[e]
    simp[unaryV,hall,hka,resV]
  · simp only[isInt,Bool.or_eq_true,decide_eq_true_eq] at h
    rcases h with((((((((((h|h)|h)|h)|h)|h)|h)|h)|h)|h)|h)
    · obtain⟨a,rfl⟩:=one (by simp[needs,h]) (by simp[needs,h])
      have hka:=hk a (by simp)
      simp only[List.all_cons,List.all_nil,Bool.and_true] at hall
      have e:opS i [a]=resV (unaryV 6 a):=by simp[opS,h,needs]
      rw[e]
      simp[unaryV,hall,hka,resV]
    · obtain⟨a,b,rfl⟩:=two (by simp[needs,h]) (by simp[needs,h])
      have e:opS i [a,b]=resV (binaryV 10 a b):=by simp[opS,h,needs]
      simp only[List.all_cons,List.all_nil,Bool.and_true,Bool.and_eq_true] at hall
      rw[e]
      exact ints 10 a b (by omega) hall.1 hall.2 (hk a (by simp)) (hk b (by simp))
    · obtain⟨a,b,rfl⟩:=two (by simp[needs,h]) (by simp[needs,h])
      have e:opS i [a,b]=resV (binaryV 11 a b):=by simp[opS,h,needs]
      simp only[List.all_cons,List.all_nil,Bool.and_true,Bool.and_eq_true] at hall
      rw[e]
      exact ints 11 a b (by omega) hall.1 hall.2 (hk a (by simp)) (hk b (by simp))
    · obtain⟨a,rfl⟩:=one (by simp[needs,h]) (by simp[needs,h])
      have hka:=hk a (by simp)
      simp only[List.all_cons,List.all_nil,Bool.and_true] at hall
      have e:opS i [a]=resV (unaryV 6 a):=by simp[opS,h,needs]
      rw[e]
      simp[unaryV,hall,hka,resV]
    all_goals first
      | (obtain⟨a,b,rfl⟩:=two (by simp[needs,h]) (by simp[needs,h])
         have ka:=hk a (by simp)
         have kb:=hk b (by simp)
         simp only[List.all_cons,List.all_nil,Bool.and_true,Bool.and_eq_true] at hall
         have h9:=ints 9 a b (by omega) hall.1 hall.2 ka kb
         have h10:=ints 10 a b (by omega) hall.1 hall.2 ka kb
         have h11:=ints 11 a b (by omega) hall.1 hall.2 ka kb
         have h16:=ints 16 a b (by omega) hall.1 hall.2 ka kb
         have h17:=ints 17 a b (by omega) hall.1 hall.2 ka kb
         simp only[opS,h,intsS,List.getElem?_cons_zero,List.getElem?_cons_succ,Option.getD_some,ka,kb]
         first|simpa using h9|simpa using h10|simpa using h11|simpa using h16|simpa using h17)
      | (obtain⟨a,rfl⟩:=one (by simp[needs,h]) (by simp[needs,h])
         have ka:=hk a (by simp)
         simp only[List.all_cons,List.all_nil,Bool.and_true] at hall
         have h9:=ints 9 a (numV i.n) (by omega) hall (may_num _) ka rfl
         have h16:=ints 16 a (numV i.n) (by omega) hall (may_num _) ka rfl
         simp only[opS,h,intsS,List.getElem?_cons_zero,Option.getD_some,ka]
         first|simpa[numV] using h9|simpa[numV] using h16)
theorem sure_makes{homes made:List Val}{nh:Int}{l:List Stp}{i:Stp}(hlen:(homes.length:Int)=nh)(hall:homes.all mayV=true)(hf:Fits nh l)(hr:stepsV homes l []=some made)(hi:stpFits nh l.length i=true)(hs:sureK (factsK nh l) i=true):∃ v,stepV i (i.l.map (ofO homes made))=some v:=by
 have hmm:=steps_may l [] made hr rfl
 have ho:=fits_all hi
 have hvm:(i.l.map (ofO homes made)).all mayV=true:=by
  rw[List.all_eq_true]
  intro v hv
  obtain⟨o,hom,rfl⟩:=List.mem_map.1 hv
  exact ofO_may hall hmm (ho o hom)
 have hi':=hi
 unfold stpFits at hi'
 simp only[Bool.and_eq_true,decide_eq_true_eq] at hi'
 obtain⟨⟨⟨n0,n1⟩,n2⟩,_⟩:=hi'
 unfold stepV
 rw[if_pos ⟨n0,by simpa using n1,by simpa using n2,hvm⟩]
 refine sure_op hvm (by simpa using n1) (by simpa using n2) ?_
 have kk:∀ c:Int,c≠-1→allK (factsK nh l) i.l c=true→∀ v∈i.l.map (ofO homes made),v.kind=c:=fun c hc h=>allK_kinds hlen hf hr ho hc h
 unfold sureK at hs
 split at hs
 ·rename_i h;rcases h with h|h
  ·exact .inl h
  ·exact .inr (.inl h)
 split at hs
 ·rename_i h
  refine .inr (.inr (.inl ⟨h,kk _ ?_ hs⟩))
  intro e
  simp[needs,h,e] at n0
 split at hs
 ·rename_i h;exact .inr (.inr (.inr (.inl ⟨h,kk _ (by omega) hs⟩)))
 split at hs
 ·rename_i h
  refine .inr (.inr (.inr (.inr (.inl ⟨h,?_⟩))))
  rw[Bool.or_eq_true] at hs
  exact hs.imp (kk _ (by omega)) (kk _ (by omega))
 split at hs
 ·rename_i h;exact .inr (.inr (.inr (.inr (.inr ⟨h,kk _ (by omega) hs⟩))))
 ·cases hs
end Go.RI
namespace Go.RI
open Go
structure OS where
 k:KS
 pl:List Opn
def idxS(l:List Stp)(j:Stp):Int:=idxF (fun t=>decide (j=t)) l 0
structure GoodO (nh:Int) (s:OS) (m:Nat):Prop where
 fits:Fits nh s.k.l
 k:s.k=factsK nh s.k.l
 pl:s.pl.length=m
 plfit:∀ p∈s.pl,opnFits nh s.k.l.length p=true
 le:s.k.l.length≤m
 nodup:∀(a b:Nat) (t:Stp),a<b→s.k.l[a]?=some t→s.k.l[b]?=some t→False
 chk:∀(n:Nat) (t:Stp),s.k.l[n]?=some t→t.op=40→sureK (factsK nh (s.k.l.take n)) t=false
structure SemP (homes:List Val) (l:List Stp) (pl:List Opn) (made md:List Val):Prop where
 run:stepsV homes l []=some made
 at_:∀(j:Nat) (p:Opn),pl[j]?=some p→md[j]?=some (ofO homes made p)
end Go.RI
namespace Go.RI
open Go
def atN(nd:List Bool)(n:Nat):Bool:=nd[n]?.getD false
structure Needed (nh:Int) (l:List Stp) (ops:List Opn) (nd:List Bool):Prop where
 len:nd.length=l.length
 sure:∀(n:Nat) (s:Stp),l[n]?=some s→atN nd n=false→sureK (factsK nh (l.take n)) s=true
 opsN:∀ o∈ops,o.kind=2→atN nd o.n.toNat=true
 closed:∀(m:Nat) (s:Stp),l[m]?=some s→atN nd m=true→∀ o∈s.l,o.kind=2→atN nd o.n.toNat=true
 from_:∀(n:Nat) (s:Stp),l[n]?=some s→atN nd n=true→sureK (factsK nh (l.take n)) s=false∨(∃ o∈ops,o.kind=2∧o.n.toNat=n)∨∃(m:Nat) (t:Stp),n<m∧l[m]?=some t∧atN nd m=true∧∃ o∈t.l,o.kind=2∧o.n.toNat=n
section
variable {nh:Int} {l:List Stp} {ops:List Opn} {nd:List Bool}
end
structure PruneAll (x:Pce) (s:OS) (sets:List Opn) (cond:Opn) (nd:List Bool):Prop where
 good:GoodO x.homes s x.ins.length
 setsF:∀ o∈sets,opnFits x.homes s.k.l.length o=true
 condF:if x.exit=2 then opnFits x.homes s.k.l.length cond=true else cond=x.cond∧cond.kind=0
 nd:Needed x.homes s.k.l (sets++[cond]) nd
end Go.RI
namespace Go.RI
open Go
def lessP(x:Pce)(n:Nat):Pce:={ x with ins:=x.ins.take n,sets:=[],exit:=0,cond:=⟨0,0,zeroVal⟩}
theorem lessP_check{x:Pce}(hc:checkP x=true)(n:Nat):checkP (lessP x n)=true:=by
 obtain⟨⟨n1,n2,n3,n4,n5,n6,n7⟩,h2,h3,h4⟩:=checkP_iff.1 hc
 refine checkP_iff.2 ⟨?_,?_,?_,?_⟩
 ·unfold numsP lessP
  simp only[List.length_take,List.length_nil]
  exact⟨⟨n1.1,n1.2.1,n1.2.2.1,n1.2.2.2.1,n1.2.2.2.2.1,by omega,n1.2.2.2.2.2.2⟩,n2,n3,n4,by omega,by omega,by omega⟩
 ·have:=stepsFit_of (homes:=x.homes) (x.ins.take n) 0 fun k s hk=>by simpa using fits_take (check_fits hc) n k s hk
  simpa[lessP] using this
 ·simp[condP,lessP,none_zero]
 ·simp[lessP]
theorem less_do{x:Pce}(hc:checkP x=true)(n:Nat)(homes:List Val):(doP (lessP x n) homes).isSome=(decide ((homes.length:Int)=x.homes)&&(homes.all mayV&&(stepsV homes (x.ins.take n) []).isSome)):=by
 unfold doP
 rw[lessP_check hc]
 show(if true=true∧(homes.length:Int)=x.homes∧homes.all mayV=true then _ else none).isSome=_
 by_cases hh:(homes.length:Int)=x.homes
 ·cases hall:homes.all mayV
  ·rw[if_neg (by simp)];simp
  ·rw[if_pos ⟨rfl,hh,rfl⟩]
   show(match stepsV homes (x.ins.take n) [] with|some made=>_|none=>none).isSome=_
   cases stepsV homes (x.ins.take n) [] with
   | none=>simp
   | some made=>simp[toP,lessP,hh]
 ·rw[if_neg (fun h=>hh h.2.1)];simp[hh]
theorem fails_not{x:Pce}{a:Int}(h:failsP x a=false):checkP x=true∧0≤a∧a<x.ins.length∧sureK (factsK x.homes (x.ins.take a.toNat)) (x.ins[a.toNat]?.getD default)=true:=by
 unfold failsP at h
 simp only[Bool.or_eq_false_iff,Bool.not_eq_false',Bool.and_eq_true,decide_eq_true_eq] at h
 exact⟨h.1.1.1,h.1.1.2,h.1.2,h.2⟩
theorem sure_same{x:Pce}{a:Int}(h:failsP x a=false)(homes:List Val):(doP (lessP x a.toNat) homes).isSome=(doP (lessP x (a.toNat+1)) homes).isSome:=by
  obtain⟨hc,h1,h2,h3⟩:=fails_not h
  rw[less_do hc,less_do hc]
  obtain⟨s,hs⟩:=get_of_lt (l:=x.ins) (i:=a.toNat) (by omega)
  have ht:x.ins.take (a.toNat+1)=x.ins.take a.toNat++[s]:=by rw[List.take_add_one,hs];rfl
  rw[ht,steps_app]
  by_cases hh:(homes.length:Int)=x.homes
  · cases hall:homes.all mayV
    · simp
    · cases hm:stepsV homes (x.ins.take a.toNat) [] with
      | none=>simp
      | some made =>
        rw[hs] at h3
        simp only[Option.getD_some] at h3
        have hlen:(x.ins.take a.toNat).length=a.toNat:=by rw[List.length_take];omega
        obtain⟨v,hv⟩:=sure_makes hh hall (fits_take (check_fits hc) a.toNat) hm (by rw[hlen];exact check_fits hc _ s hs) h3
        simp[stepsV,hv]
  · simp[hh]
end Go.RI
namespace Go.RI
open Go
def room(g:GS):Nat:=g.out.length+g.hs.count (-1)
end Go.RI
namespace Go.RI
open Go
def OutT(cs:List AVal)(out:List Stp):Prop:=cs.length=out.length*5∧∀(j:Nat) (s:Stp),out[j]?=some s→∃ t1 f1 t2 f2,(cs.drop (j*5)).take 5=[.i .i64 s.op,.i .i64 s.n,.fs t1 f1 s.l.length (encs s.l),.s s.s,.fs t2 f2 s.names.length (encs s.names)]
end Go.RI
namespace Go.RI
open Go
structure OpB where
 o:Opn
 b:Bool
instance:Enc OpB:=⟨7,fun x=>[.i .i64 x.o.kind,.i .i64 x.o.n,.i .i64 x.o.v.kind,.i .i64 x.o.v.n,.s x.o.v.s,if x.b then .ns else .fs false false x.o.v.l.length (encs x.o.v.l),if x.b then .ns else .fs false false x.o.v.names.length (encs x.o.v.names)],fun _=>rfl⟩
@[simp] theorem cells_opB(x:OpB):Enc.cells x=[.i .i64 x.o.kind,.i .i64 x.o.n,.i .i64 x.o.v.kind,.i .i64 x.o.v.n,.s x.o.v.s,if x.b then .ns else .fs false false x.o.v.l.length (encs x.o.v.l),if x.b then .ns else .fs false false x.o.v.names.length (encs x.o.v.names)]:=rfl
theorem sz_opB:Enc.sz OpB=7:=rfl
def okB(x:OpB):Prop:=x.b=true→x.o.v.l=[]∧x.o.v.names=[]
end Go.RI
namespace Go.RI
open Go
end Go.RI
namespace Go.RI
open Go
section
variable {call:CallI} {lo:Nat} {e:Env} {H:AHeap}
noncomputable def cpyR(lo:Nat)(H:AHeap)(esz:Nat):Option AVal→Option AVal→Option (Option AVal×AHeap)
 | some a,some b=>(cpyV lo H esz a b).map fun(v,H')=>(some v,H')
 | _,_=>none
@[simp] theorem op_cpy{esz:Nat}{x y:Opd}:opI call lo (.cpy esz x y) e H=cpyR lo H esz (x.eval e) (y.eval e):=by
 simp only[opI,aop,cpyR]
 rcases x.eval e with _|a<;>rcases y.eval e with _|b<;>rfl
theorem cpyR_sl{esz id off len id2 off2 len2 n e2:Nat}{c c2:Option Nat}{cs ys:List AVal}(hn:min len2 len=n)(h0:0<n)(hs:rowAt H id2 off2 (n*esz)=some ys)(hlo:lo≤id)(hg:H.get id=some (.cells cs e2 false))(hb:off+n*esz≤cs.length)(hy:ys.length=n*esz) :
  cpyR lo H esz (some (.sl id off len c)) (some (.sl id2 off2 len2 c2))=some (some (.i .i64 n),H.put id (some (.cells (putCells cs off ys) e2 false))):=by
 have h1:¬ n=0:=by omega
 simp[cpyR,cpyV,srcLen,srcCells,hn,h1,hs,hlo,hg,hb,hy]
theorem cpyR_none{esz id off len id2 off2 len2:Nat}{c c2:Option Nat}(hn:min len2 len=0) :
  cpyR lo H esz (some (.sl id off len c)) (some (.sl id2 off2 len2 c2))=some (some (.i .i64 0),H):=by
 simp[cpyR,cpyV,srcLen,hn]
end
def rowK(a b:AVal)(n k:Nat):List AVal:=List.replicate k a++List.replicate (n-k) b
theorem rowK_len{a b:AVal}{n k:Nat}(h:k≤n):(rowK a b n k).length=n:=by simp[rowK];omega
theorem rowK_put{a b:AVal}{n:Nat}:∀(m k:Nat),k+m≤n→putCells (rowK a b n k) k (List.replicate m a)=rowK a b n (k+m)
  | 0,k,_=>rfl
  | m+1,k,h=>by
    rw[List.replicate_succ]
    have e:(rowK a b n k).set k a=rowK a b n (k+1):=by
      unfold rowK
      rw[List.set_append_right _ _ (by simp),List.length_replicate,Nat.sub_self]
      rw[show n-k=(n-(k+1))+1 by omega,List.replicate_succ,List.set_cons_zero,List.replicate_succ',List.append_assoc]
      rfl
    show putCells ((rowK a b n k).set k a) (k+1) (List.replicate m a)=_
    rw[e,rowK_put m (k+1) (by omega)]
    congr 1
    omega
theorem rowK_take{a b:AVal}{n k m:Nat}(h:m≤k):(rowK a b n k).take m=List.replicate m a:=by
 unfold rowK
 rw[List.take_append_of_le_length (by simpa using h),List.take_replicate,Nat.min_eq_left h]
theorem slq_from{H:AHeap}{id n k:Nat}(h:k<n):slqR 1 H (some (.sl id 0 n (some n))) (some (some k)) (some none) (some none)=some (some (.sl id k (n-k) (some (n-k))),H):=by
 simp[slqR,slV,show k≤n by omega,show ¬ n=k by omega,isFs]
theorem slq_to{H:AHeap}{id n k:Nat}(h:k≤n):slqR 1 H (some (.sl id 0 n (some n))) (some none) (some (some k)) (some none)=some (some (.sl id 0 k (some n)),H):=by
 simp[slqR,slV,h,isFs]
theorem u_and{n:Nat}(h:n≤64):binV .and (.i .u64 (n:Int)) (.i .u64 4294967295)=some (.i .u64 n):=by
 have:∀ m:Fin 65,binI .and .u64 (m.val:Int) 4294967295=some (.i .u64 (m.val:Int)):=by
  intro m
  have h2:∀ m:Fin 65,(IntKind.u64.wrap ((BitVec.ofInt IntKind.u64.bits (m.val:Int) &&& BitVec.ofInt IntKind.u64.bits 4294967295).toNat:Nat))=(m.val:Int):=by decide
  exact congrArg (fun x=>some (AVal.i .u64 x)) (h2 m)
 exact this ⟨n,by omega⟩
theorem u_shr{n:Nat}(h:n≤64):binV .shr (.i .u64 (n:Int)) (.i .u64 32)=some (.i .u64 0):=by
 have h2:∀ m:Fin 65,(m.val:Int).fdiv (2 ^ (min (32:Int).toNat IntKind.u64.bits))=0:=by decide
 have:=h2 ⟨n,by omega⟩
 exact congrArg (fun x=>some (AVal.i .u64 x)) this
theorem u_wrap{n:Nat}(h:n≤64):wrapI .u64 (n:Int)=n:=by
 have h2:∀ m:Fin 65,wrapI .u64 (m.val:Int)=(m.val:Int):=by decide
 exact h2 ⟨n,by omega⟩
end Go.RI
namespace Go.Proofs.YtkpgolcjiahdfaaGreatDoor
open Go Go.RI
section
variable {G:AHeap} (hG:G.next=2)
include hG
theorem t_mul64(n:Nat)(hn:n≤64):pureR IP G 117 [.i .u64 1,.i .u64 n]=some (.tu [.i .u64 0,.i .u64 n]):=by
 have a0:=u_and (n:=0) (by omega)
 have a1:=u_and (n:=1) (by omega)
 have an:=u_and hn
 have s0:=u_shr (n:=0) (by omega)
 have s1:=u_shr (n:=1) (by omega)
 have sn:=u_shr hn
 have w:=u_wrap hn
 have w0:wrapI .u64 0=0:=rfl
 simp at a0 a1 an s0 s1 sn
 refine pure_run ip117 rfl ?_
 simp -implicitDefEqProofs [I117,hG,a0,a1,an,s0,s1,sn,w,w0]
theorem t_mul(n:Nat)(hn:n≤64):pureR IP G 79 [.i .u64 1,.i .u64 n]=some (.tu [.i .u64 0,.i .u64 n]):=by
 have c1:=t_mul64 hG n hn
 refine pure_run ip79 rfl ?_
 simp -implicitDefEqProofs [I79,hG,c1]
end
end Go.Proofs.YtkpgolcjiahdfaaGreatDoor
namespace Go.Proofs.YtkpgolcjiahdfaaGreatDoor
open Go Go.RI
section
variable {G:AHeap} (hG:G.next=2)
include hG
theorem rep_one(b:AVal):∀ n:Nat,repCells [b] n=List.replicate n b
 | 0=>rfl
 | n+1=>by rw[List.replicate_succ,←rep_one b n];rfl
theorem t_repeat_loop(n:Nat)(hn:n≤64)(d:Nat)(x b:AVal)(Q:Post)(H:AHeap)(hd:d<H.next)
  (hQ:∀ H':AHeap,H'.get d=some (.cells (rowK x b n n) 1 false)→(∀ id,id≠d→H'.get id=H.get id)→H'.next=H.next→Q (.exit 0) [(7,.sl d 0 n (some n)),(8,.i .i64 n),(37,.b false)] H')
  (k:Nat) (hk:k≤n) (hk0:0<n→0<k) (g:H.get d=some (.cells (rowK x b n k) 1 false)) :
  wp (theCalls IP G d) d (.loop L56a) Q [(7,.sl d 0 n (some n)),(8,.i .i64 k)] H:=by
 refine wp_loop_inv (fun r e H'=>∃ k:Nat,r=n-k∧k≤n∧(0<n→0<k)∧e=[(7,.sl d 0 n (some n)),(8,.i .i64 k)]∧H'.get d=some (.cells (rowK x b n k) 1 false)∧(∀ id,id≠d→H'.get id=H.get id)∧H'.next=H.next) ?_ (n-k) _ _ ⟨k,rfl,hk,hk0,rfl,g,fun _ _=>rfl,rfl⟩
 rintro r e H' ⟨k,rfl,hk,hk0,rfl,g',hf,hx⟩
 by_cases hkn:k=n
 ·subst hkn
  simp -implicitDefEqProofs [L56a]
  exact hQ H' g' hf hx
 ·have h1:(k:Int)<(n:Int):=by omega
  have h2:k<n:=by omega
  have h3:0<k:=by omega
  obtain⟨m,hm⟩:∃ m,min k (n-k)=m:=⟨_,rfl⟩
  have s1:=slq_from (H:=H') (id:=d) h2
  have s2:=slq_to (H:=H') (id:=d) (n:=n) hk
  have s3:=cpyR_sl (lo:=d) (H:=H') (esz:=1) (id:=d) (off:=k) (len:=n-k) (id2:=d) (off2:=0) (len2:=k) (n:=m) (e2:=1) (c:=some (n-k)) (c2:=some n) (cs:=rowK x b n k) (ys:=List.replicate m x) hm (by omega) (by unfold RI.rowAt;rw[g'];simp only;rw[if_pos (by rw[rowK_len hk];omega),List.drop_zero,Nat.mul_one,rowK_take (by omega)]) (Nat.le_refl _) g' (by rw[rowK_len hk];omega) (by simp)
  rw[rowK_put m k (by omega)] at s3
  have w1:wrapI .i64 ((k:Int)+(m:Int))=(k:Int)+(m:Int):=wrap_ok (by omega) (by omega)
  simp -implicitDefEqProofs [L56a,h1,h2,s1,s2,s3,w1,optI]
  exact⟨n-(k+m),by omega,k+m,rfl,by omega,by omega,by simp,rfl,fun id hid=>by simp -implicitDefEqProofs [hid,hf id hid],hx⟩
theorem t_repeat(n:Nat)(hn:n≤64)(a:Nat)(x:Int)(H:AHeap)(ha:H.get a=some (.cells [.i .i64 x] 1 false))(ha2:a<H.next)(hGH:2≤H.next) :
  ∃ v H',(∀ lo,theCalls IP G lo 56 [.sl a 0 1 (some 1),.i .i64 n] H=some (v,H'))∧v=.sl H.next 0 n (some n)∧H'.get H.next=some (.cells (List.replicate n (.i .i64 x)) 1 false)∧H'.next=H.next+1∧∀ id,id<H.next→H'.get id=H.get id:=by
 have c1:=t_mul hG n hn
 have w:=u_wrap hn
 have w1:wrapI .u64 1=1:=rfl
 have w2:wrapI .i64 (n:Int)=n:=wrap_ok (by omega) (by omega)
 have q1:¬(n:Int)<0:=by omega
 have q2:¬(9223372036854775807:Int)<(n:Int):=by omega
 have q3:(8:Int)*(n:Int)≤281474976710656:=by omega
 have q4:¬ a=H.next:=by omega
 refine calls_one_of ip56 rfl rfl ?_
 rw[ends_fin]
 have hr:=rep_one hG (.i .i64 0) n
 have fin:∀(H1:AHeap),H1.get H.next=some (.cells (rowK (.i .i64 x) (.i .i64 0) n n) 1 false)→(∀ id,id<H.next→H1.get id=H.get id)→H1.next=H.next+1 →
   H1.get H.next=some (.cells (List.replicate n (.i .i64 x)) 1 false)∧H1.next=H.next+1∧∀ id,id<H.next→H1.get id=H.get id:=fun H1 h1 h2 h3=>⟨by rw[h1];unfold rowK;simp,h3,h2⟩
 by_cases h0:n=0
 ·subst h0
  simp at c1 w w2 hr
  have s:=cpyR_none (lo:=H.next) (H:=H.push (.cells [] 1 false)) (esz:=1) (id:=H.next) (off:=0) (len:=0) (id2:=a) (off2:=0) (len2:=1) (c:=some 0) (c2:=some 1) rfl
  simp -implicitDefEqProofs [I56,c1,w,w1,w2,q1,q2,q3,q4,hr,s]
  refine t_repeat_loop hG 0 (by omega) H.next (.i .i64 x) (.i .i64 0) _ _ (by simp) ?_ 0 (by omega) (by omega) (by simp -implicitDefEqProofs [rowK])
  intro H1 h1 h2 h3
  simp
  exact fin H1 h1 (fun id hid=>by rw[h2 id (by omega)];exact get_push_lt hid) (by rw[h3];simp)
 ·have s:=cpyR_sl (lo:=H.next) (H:=H.push (.cells (List.replicate n (.i .i64 0)) 1 false)) (esz:=1) (id:=H.next) (off:=0) (len:=n) (id2:=a) (off2:=0) (len2:=1) (n:=1) (e2:=1) (c:=some n) (c2:=some 1) (cs:=List.replicate n (.i .i64 0)) (ys:=[.i .i64 x]) (by omega) (by omega) (by unfold RI.rowAt;rw[get_push_lt ha2,ha];rfl) (Nat.le_refl _) (by simp) (by simp;omega) rfl
  have e:putCells (List.replicate n (AVal.i .i64 0)) 0 [.i .i64 x]=rowK (.i .i64 x) (.i .i64 0) n 1:=by
   have:=rowK_put (a:=.i .i64 x) (b:=.i .i64 0) (n:=n) 1 0 (by omega)
   simpa[rowK] using this
  rw[e] at s
  simp -implicitDefEqProofs [I56,c1,w,w1,w2,q1,q2,q3,q4,hr,s]
  refine t_repeat_loop hG n hn H.next (.i .i64 x) (.i .i64 0) _ _ (by simp) ?_ 1 (by omega) (by omega) (by simp)
  intro H1 h1 h2 h3
  simp
  exact fin H1 h1 (fun id hid=>by rw[h2 id (by omega)];simp -implicitDefEqProofs [show ¬ id=H.next by omega]) (by rw[h3];simp)
end
end Go.Proofs.YtkpgolcjiahdfaaGreatDoor
namespace Go.Proofs.YtkpgolcjiahdfaaGreatDoor
open Go Go.RI
section
variable {G:AHeap} (hG:G.next=2)
include hG
theorem encs_rep(n:Nat)(x:Int):encs (List.replicate n x)=List.replicate n (AVal.i .i64 x):=by
 induction n with
 | zero=>rfl
 | succ n ih=>rw[List.replicate_succ,List.replicate_succ,←ih];rfl
theorem t_begun(n:Nat)(hn:n≤64)(H:AHeap)(hGH:2≤H.next) :
  ∃ v H',(∀ lo,theCalls IP G lo 29 [.i .i64 n] H=some (v,H'))∧v=.p (H.next+2) 0∧H'.get (H.next+2)=some (.cells [.ns,.sl (H.next+1) 0 n (some n)] 1 false)∧H'.get (H.next+1)=some (.cells (encs (List.replicate n (-1))) 1 false)∧H'.next=H.next+3∧∀ id,id<H.next→H'.get id=H.get id:=by
 obtain⟨v,H',hc,rfl,h1,h2,h3⟩:=t_repeat hG n hn H.next (-1) (H.push (.cells [.i .i64 (-1)] 1 false)) (by simp) (by simp) (by simp;omega)
 refine calls_one_of ip29 rfl rfl ?_
 rw[ends_fin,encs_rep hG]
 simp at h1 h2 h3 hc
 simp -implicitDefEqProofs [I29,hc]
 refine⟨by omega,?_,?_,by omega,fun id hid=>?_⟩
 ·simp -implicitDefEqProofs [h2]
 ·first|(simp -implicitDefEqProofs [h2,h1];done)|(rw[if_neg (by omega)];exact h1)
 ·rw[if_neg (by omega),h3 id (by omega)]
  simp -implicitDefEqProofs [show ¬ id=H.next by omega]
end
end Go.Proofs.YtkpgolcjiahdfaaGreatDoor
namespace Go.RI
open Go
def SlT(H:AHeap)(P:Nat→Prop)(v:AVal)(esz n:Nat)(cells:List AVal):Prop :=
 ((∃ t f,v=.fs t f n cells)∨(v=.ns∧n=0∧cells=[]))∨∃ id c,v=.sl id 0 n c∧(c=none∨c=some n)∧P id∧id<H.next∧H.get id=some (.cells cells esz false)∧cells.length=n*esz
theorem slT_keep{H H':AHeap}{P P':Nat→Prop}{v:AVal}{esz n:Nat}{cells:List AVal}(h:SlT H P v esz n cells)(hn:H.next≤H'.next)(hk:∀ id,P id→id<H.next→H'.get id=H.get id∧P' id):SlT H' P' v esz n cells:=by
 rcases h with h|⟨id,c,h1,h2,h3,h4,h5,h6⟩
 ·exact .inl h
 ·obtain⟨k1,k2⟩:=hk id h3 h4
  exact .inr ⟨id,c,h1,h2,k2,by omega,k1.trans h5,h6⟩
theorem slT_one{H:AHeap}{P:Nat→Prop}{v:AVal}{esz n:Nat}{cells:List AVal}(h:SlT H P v esz n cells):v.tup=false∧v.cells=[v]:=by
 rcases h with(⟨t,f,rfl⟩|⟨rfl,_⟩)|⟨id,c,rfl,_⟩<;>exact⟨rfl,rfl⟩
theorem slT_snap{H:AHeap}{P:Nat→Prop}{esz n k:Nat}{v:AVal}{cells:List AVal}(h:SlT H P v esz n cells)(hc:mapO (snapV H k) cells=some cells):∃ t f,snapV H (k+1) v=some (.fs t f n cells):=by
 rcases h with(⟨t,f,rfl⟩|⟨rfl,rfl,rfl⟩)|⟨id,c,rfl,hcap,h1,h2,h3,h4⟩
 ·exact⟨_,_,rfl⟩
 ·exact⟨_,_,rfl⟩
 ·by_cases hn:n=0
  ·subst hn
   have:cells=[]:=List.eq_nil_of_length_eq_zero (by simpa using h4)
   subst this
   exact⟨_,_,rfl⟩
  ·exact⟨_,_,snap_lit hn h3 h4 (by rcases hcap with rfl|rfl<;>simp) hc⟩
def OutS(H:AHeap)(P:Nat→Prop):List AVal→List Stp→Prop
 | cs,[]=>cs=[]
 | cs,s::l=>∃ lv nv cs',cs=.i .i64 s.op::.i .i64 s.n::lv::.s s.s::nv::cs'∧SlT H P lv 7 s.l.length (encs s.l)∧SlT H P nv 1 s.names.length (encs s.names)∧OutS H P cs' l
theorem outS_keep{H H':AHeap}{P P':Nat→Prop}(hn:H.next≤H'.next)(hk:∀ id,P id→id<H.next→H'.get id=H.get id∧P' id):∀(l:List Stp) (cs:List AVal),OutS H P cs l→OutS H' P' cs l
 | [],cs,h=>h
 | s::l,cs,⟨lv,nv,cs',h,h1,h2,h3⟩=>⟨lv,nv,cs',h,slT_keep h1 hn hk,slT_keep h2 hn hk,outS_keep hn hk l cs' h3⟩
theorem outS_add{H:AHeap}{P:Nat→Prop}{s:Stp}{lv nv:AVal}(h1:SlT H P lv 7 s.l.length (encs s.l))(h2:SlT H P nv 1 s.names.length (encs s.names)):∀(l:List Stp) (cs:List AVal),OutS H P cs l→OutS H P (cs++[.i .i64 s.op,.i .i64 s.n,lv,.s s.s,nv]) (l++[s])
 | [],cs,h=>by subst h;exact⟨lv,nv,[],rfl,h1,h2,rfl⟩
 | t::l,cs,⟨lv',nv',cs',h,k1,k2,k3⟩=>⟨lv',nv',cs'++_,by rw[h];rfl,k1,k2,outS_add h1 h2 l cs' k3⟩
theorem outS_snap{H:AHeap}{P:Nat→Prop}{k:Nat}:∀(l:List Stp) (cs:List AVal),OutS H P cs l→∃ cs2,mapO (snapV H (k+2)) cs=some cs2∧OutT cs2 l
  | [],cs,h=>by subst h;exact⟨[],rfl,rfl,fun j s h=>by simp at h⟩
  | s::l,cs,⟨lv,nv,cs',h,k1,k2,k3⟩=>by
    subst h
    obtain⟨t1,f1,e1⟩:=slT_snap (k:=k+1) k1 snap_encs
    obtain⟨t2,f2,e2⟩:=slT_snap (k:=k+1) k2 snap_encs
    obtain⟨c2,e3,e4,e5⟩:=outS_snap (k:=k) l cs' k3
    refine⟨.i .i64 s.op::.i .i64 s.n::.fs t1 f1 s.l.length (encs s.l)::.s s.s::.fs t2 f2 s.names.length (encs s.names)::c2,by simp[e1,e2,e3],by simp[e4];omega,fun j x hx=>?_⟩
    cases j with
    | zero=>simp at hx;subst hx;exact⟨t1,f1,t2,f2,by simp⟩
    | succ j =>
      obtain⟨a,b,c,d,h⟩:=e5 j x (by simpa using hx)
      exact⟨a,b,c,d,by rw[←h];simp[show(j+1)*5=j*5+1+1+1+1+1 by omega]⟩
def NoTmp(cs:List AVal):Prop:=∀ c∈cs,∀ t f n l,c=AVal.fs t f n l→t=false
theorem noTmp_app{a b:List AVal}(ha:NoTmp a)(hb:NoTmp b):NoTmp (a++b):=fun c h=>(List.mem_append.1 h).elim (ha c) (hb c)
instance:Enc Bool:=⟨1,fun b=>[.b b],fun _=>rfl⟩
instance:EncOk Bool:={ snap:=fun _ _ _=>by simp[Enc.cells],frz:=fun _ _ _ _=>by simp[Enc.cells]}
@[simp] theorem cells_bool{b:Bool}:Enc.cells b=[AVal.b b]:=rfl
@[simp] theorem drop_bool{l:List Bool}{i:Nat}:(encs l).drop i=cellsO l[i]?++restE l (i+1):=by
 have:=drop_encs l i
 simpa[show Enc.sz Bool=1 from rfl] using this
@[simp] theorem len_bool{l:List Bool}:(encs l).length=l.length:=by have:=encs_len l;simpa[show Enc.sz Bool=1 from rfl] using this
@[simp] theorem take_bool{l:List Bool}:(encs l).take l.length=encs l:=List.take_of_length_le (by simp)
@[simp] theorem get_bool{l:List Bool}{i:Nat}:(encs l)[i]?=l[i]?.map AVal.b:=by
 have:=get_encs (l:=l) (i:=i) (k:=0) (by simp[Enc.sz])
 simp only[show Enc.sz Bool=1 from rfl,Nat.mul_one,Nat.add_zero] at this
 rw[this]
 cases l[i]?<;>simp[cellsO]
theorem set_bool{l:List Bool}{i:Nat}{b:Bool}(h:i<l.length):(encs l).set i (.b b)=encs (l.set i b):=by
 obtain⟨x,hx⟩:=get_of_lt h
 have:=put_encs (k:=0) hx (m:=[AVal.b b]) (y:=b) (by simp[Enc.sz]) (by simp)
 simpa[show Enc.sz Bool=1 from rfl] using this
end Go.RI
namespace Go.Proofs.YtkpgolcjiahdfaaGreatDoor
open Go Go.RI
def Ak(lo:Nat)(X:Nat→Prop)(ov:AVal)(id:Nat):Prop:=(lo≤id∧¬ X id)∧∀ j m c,ov=.sl j 0 m c→id≠j
structure MkK (b h lo:Nat) (X:Nat→Prop) (k:KS) (ov:AVal) (cs:List AVal) (H:AHeap):Prop where
 gM:H.get b=some (.cells [ov,.sl h 0 k.hs.length (some k.hs.length)] 1 false)
 gH:H.get h=some (.cells (encs k.hs) 1 false)
 nx:lo≤H.next
 lt:b<lo∧h<lo∧b≠h
 acc:Acc H lo ov 5 k.l.length cs
 out:OutS H (Ak lo X ov) cs k.l
section
variable {G:AHeap} (hG:G.next=2)
include hG
theorem mkk_box{b h lo:Nat}{X:Nat→Prop}{k:KS}{ov:AVal}{cs:List AVal}{H H':AHeap}(hM:MkK b h lo X k ov cs H)(hn:H.next≤H'.next)(hk:∀ id,id<H.next→H'.get id=H.get id):MkK b h lo X k ov cs H' :=
 { gM:=(hk _ (by have:=hM.nx;have:=hM.lt;omega)).trans hM.gM,gH:=(hk _ (by have:=hM.nx;have:=hM.lt;omega)).trans hM.gH,nx:=by have:=hM.nx;omega,lt:=hM.lt,acc:=acc_keep hM.acc hn fun id a b hv=>hk id (acc_lt hM.acc _ _ _ hv).2,out:=outS_keep hn (fun id h1 h2=>⟨hk id h2,h1⟩) _ _ hM.out }
theorem mkk_hs{b h lo:Nat}{X:Nat→Prop}{k:KS}{ov:AVal}{cs:List AVal}{H:AHeap}(hM:MkK b h lo X k ov cs H)(hs':List Int)(hl:hs'.length=k.hs.length):MkK b h lo X ⟨k.l,hs'⟩ ov cs (H.put h (some (.cells (encs hs') 1 false))):=by
 have l1:=hM.lt
 have nx:=hM.nx
 have ne:∀ id,id≠h→(H.put h (some (.cells (encs hs') 1 false))).get id=H.get id:=fun id hid=>by simp -implicitDefEqProofs [hid]
 exact{ gM:=by rw[ne _ (by omega),hM.gM,hl],gH:=by simp,nx:=by simpa using nx,lt:=l1,acc:=acc_keep hM.acc (by simp) fun id a b hv=>ne id (by have:=acc_lt hM.acc _ _ _ hv;omega),out:=outS_keep (by simp) (fun id h1 h2=>⟨ne id (by have:=h1.1.1;omega),h1⟩) _ _ hM.out }
theorem mkk_l{b h lo:Nat}{X:Nat→Prop}{k:KS}{ov:AVal}{cs:List AVal}{H H6:AHeap}(hM:MkK b h lo X k ov cs H)(t:Stp)(lv nv:AVal)(id0:Nat)(h0:H.next≤id0)(acc6:Acc H6 lo (.sl id0 0 (k.l.length+1) none) 5 (k.l.length+1) (cs++[.i .i64 t.op,.i .i64 t.n,lv,.s t.s,nv]))(hn:H.next≤H6.next)(fr:∀ id,id<H.next→(∀ j m c,ov=.sl j 0 m c→id≠j)→H6.get id=H.get id)
  (hL:SlT H (Ak lo X ov) lv 7 t.l.length (encs t.l)) (hS:SlT H (Ak lo X ov) nv 1 t.names.length (encs t.names)) :
  MkK b h lo X ⟨k.l++[t],k.hs⟩ (.sl id0 0 (k.l.length+1) none) (cs++[.i .i64 t.op,.i .i64 t.n,lv,.s t.s,nv]) (H6.put b (some (.cells [.sl id0 0 (k.l.length+1) none,.sl h 0 k.hs.length (some k.hs.length)] 1 false))):=by
 have nx:=hM.nx
 have l1:=hM.lt
 obtain⟨o,hob⟩:∃ o,o=some (AObj.cells [.sl id0 0 (k.l.length+1) none,.sl h 0 k.hs.length (some k.hs.length)] 1 false):=⟨_,rfl⟩
 rw[←hob]
 have nr:∀ id,id<lo→∀ j m c,ov=.sl j 0 m c→id≠j:=fun id h j m c hj=>by have:=acc_lt hM.acc _ _ _ hj;omega
 have ne:∀(id:Nat),id≠b→(H6.put b o).get id=H6.get id:=fun id h=>by simp -implicitDefEqProofs [h]
 have hn':H.next≤(H6.put b o).next:=by simpa using hn
 have hq:∀ id,Ak lo X ov id→id<H.next→(H6.put b o).get id=H.get id∧Ak lo X (.sl id0 0 (k.l.length+1) none) id:=fun id h1 h2 =>
  ⟨by rw[ne _ (by have:=h1.1;omega)];exact fr _ h2 h1.2,h1.1,fun j m c hj=>by cases hj;omega⟩
 have hacc:=acc_keep (H':=H6.put b o) acc6 (by simp) fun id a b hv=>by have:=acc_lt acc6 _ _ _ hv;exact ne _ (by omega)
 have hout:=outS_add (slT_keep hL hn' hq) (slT_keep hS hn' hq) _ _ (outS_keep hn' hq _ _ hM.out)
 exact{ gM:=by simp -implicitDefEqProofs [hob],gH:=by rw[ne _ (by omega),fr _ (by omega) (nr _ (by omega))];exact hM.gH,nx:=by omega,lt:=l1,acc:=by simpa using hacc,out:=hout }
end
end Go.Proofs.YtkpgolcjiahdfaaGreatDoor
namespace Go.RI
open Go
instance:Enc (List Val):=⟨1,fun l=>[.fs false false l.length (encs l)],fun _=>rfl⟩
@[simp] theorem cells_vals{l:List Val}:Enc.cells l=[AVal.fs false false l.length (encs l)]:=rfl
instance:EncOk (List Val):={ snap:=fun _ _ _=>by simp,frz:=fun _ _ _ _=>by simp }
@[simp] theorem drop_vals{l:List (List Val)}{i:Nat}:(encs l).drop i=cellsO l[i]?++restE l (i+1):=by
 have:=drop_encs l i
 simpa[show Enc.sz (List Val)=1 from rfl] using this
@[simp] theorem len_vals{l:List (List Val)}:(encs l).length=l.length:=by have:=encs_len l;simpa[show Enc.sz (List Val)=1 from rfl] using this
def kindsL(l:List Val):List Int:=l.map Val.kind
@[simp] theorem kindsL_len{l:List Val}:(kindsL l).length=l.length:=by simp[kindsL]
theorem put_kind{L:List Int}{i:Nat}{k:Int}(h:i<L.length):(encs L).set i (.i .i64 k)=encs (L.set i k):=by
 obtain⟨x,hx⟩:=get_of_lt h
 have:=put_encs (k:=0) hx (m:=[AVal.i .i64 k]) (y:=k) (by simp[Enc.sz]) (by simp)
 simpa[show Enc.sz Int=1 from rfl] using this
end Go.RI
namespace Go.Proofs.YtkpgolcjiahdfaaGreatDoor
open Go Go.RI
section
variable {G:AHeap} (hG:G.next=2)
include hG
set_option maxHeartbeats 1000000 in
theorem t_padd{b h lo c0:Nat}{X:Nat→Prop}{k:KS}{ov:AVal}{cs:List AVal}{H:AHeap}(hM:MkK b h lo X k ov cs H)(hc1:c0≤b)(hc2:c0≤h)(i:Stp)(nh:Int)(m:Nat)(hfs:stpFits nh m i=true)(hhs:k.hs.length=nh.toNat)(hlen:k.l.length<1000000)(tl fl:Bool)(nv:AVal)(hS:SlT H (Ak lo X ov) nv 1 i.names.length (encs i.names)) :
  ∃ v H',theCalls IP G c0 30 [.p b 0,.ag [.i .i64 i.op,.i .i64 i.n,.fs tl fl i.l.length (encs i.l),.s i.s,nv]] H=some (v,H')∧v=.tu []∧∃ j cs',MkK b h lo X (addK k i) (.sl j 0 (k.l.length+1) none) cs' H'∧(tl=false→NoTmp [nv]→NoTmp cs→NoTmp cs')∧H.next≤j∧H.next≤H'.next∧∀ id,id<H.next→id≠b→id≠h→(∀ j m c,ov=.sl j 0 m c→id≠j)→H'.get id=H.get id:=by
 obtain⟨d1,d2⟩:=slT_one hS
 have l1:=hM.lt
 have nx:=hM.nx
 have n1:¬ b=H.next:=by omega
 have n2:¬ h=H.next:=by omega
 have n3:¬ H.next=b:=by omega
 have n4:¬ H.next=h:=by omega
 have n5:¬ b=h:=by omega
 have hfl:=fits_all hfs
 refine calls_nil_of ip30 rfl rfl ?_
 obtain⟨Hb,hHb⟩:∃ Hb,Hb=H.push (.cells [.i .i64 i.op,.i .i64 i.n,.fs tl fl i.l.length (encs i.l),.s i.s,nv] 1 false):=⟨_,rfl⟩
 have hbn:Hb.next=H.next+1:=by rw[hHb];rfl
 have hbk:∀ id,id<H.next→Hb.get id=H.get id:=fun id h=>by rw[hHb];exact get_push_lt h
 have hbr:Hb.get H.next=some (.cells [.i .i64 i.op,.i .i64 i.n,.fs tl fl i.l.length (encs i.l),.s i.s,nv] 1 false):=by rw[hHb];simp
 have hMb:=mkk_box hG hM (H':=Hb) (by omega) hbk
 have tail:∀(hs':List Int) (Ht:AHeap),noteG k.hs i i.l=hs'→MkK b h lo X ⟨k.l,hs'⟩ ov cs Ht→hs'.length=k.hs.length→Ht.next=H.next+1→(∀ id,id≠h→Ht.get id=Hb.get id)→∀ H6:AHeap,H.next≤H6.next→Acc H6 lo (.sl (Ht.next+1) 0 (k.l.length+1) none) 5 (k.l.length+1) (cs++[.i .i64 i.op,.i .i64 i.n,.fs tl fl i.l.length (encs i.l),.s i.s,nv])→(∀ id,id<Ht.next→(∀ j m c,ov=.sl j 0 m c→id≠j)→H6.get id=Ht.get id)→Ht.next≤H6.next →
   ∃ j cs',MkK b h lo X (addK k i) (.sl j 0 (k.l.length+1) none) cs' (H6.put b (some (.cells [.sl (Ht.next+1) 0 (k.l.length+1) none,.sl h 0 k.hs.length (some k.hs.length)] 1 false)))∧(tl=false→NoTmp [nv]→NoTmp cs→NoTmp cs')∧H.next≤j∧H.next≤(H6.put b (some (.cells [.sl (Ht.next+1) 0 (k.l.length+1) none,.sl h 0 k.hs.length (some k.hs.length)] 1 false))).next∧∀ id,id<H.next→id≠b→id≠h→(∀ j m c,ov=.sl j 0 m c→id≠j)→(H6.put b (some (.cells [.sl (Ht.next+1) 0 (k.l.length+1) none,.sl h 0 k.hs.length (some k.hs.length)] 1 false))).get id=H.get id:=by
  intro hs' Ht hno hMt hhl hn hk H6 hn6 acc6 hf6 hn7
  have hL:SlT Ht (Ak lo X ov) (.fs tl fl i.l.length (encs i.l)) 7 i.l.length (encs i.l):=.inl (.inl ⟨tl,fl,rfl⟩)
  have hS':=slT_keep (H':=Ht) (P':=Ak lo X ov) hS (by omega) fun id h1 h2=>⟨by rw[hk id (by have:=h1.1.1;omega)];exact hbk id h2,h1⟩
  have hM6:=mkk_l hG hMt i (.fs tl fl i.l.length (encs i.l)) nv (Ht.next+1) (by omega) acc6 (by omega) hf6 hL hS'
  refine⟨Ht.next+1,cs++[.i .i64 i.op,.i .i64 i.n,.fs tl fl i.l.length (encs i.l),.s i.s,nv],?_,fun ht hnv hcs=>noTmp_app hcs fun c hc=>?_,by omega,by simpa using hn6,fun id h1 h2 h3 h4=>?_⟩
  ·have e:addK k i=⟨k.l++[i],hs'⟩:=by unfold addK;rw[hno]
   dsimp only at hM6
   rw[hhl] at hM6
   rw[e]
   exact hM6
  ·intro t f n l he
   subst he
   simp at hc
   rcases hc with⟨rfl,_⟩|rfl
   ·exact ht
   ·exact hnv (.fs t f n l) (by simp) t f n l rfl
  ·simp -implicitDefEqProofs [h2]
   rw[hf6 id (by omega) h4,hk id h3,hbk id h1]
 have gMb:=hMb.gM
 have gHb:=hMb.gH
 by_cases hop:i.op=40∧(i.l[0]?.getD default).kind=1
 ·obtain⟨h40,hk1⟩:=hop
  obtain⟨o,ho⟩:=one_len (fits_hands hfs (.inr h40))
  have hk1':o.kind=1:=by rw[ho] at hk1;simpa using hk1
  obtain⟨a1,a2⟩:=opnFits_home (hfl o (by rw[ho];simp)) hk1'
  have a3:o.n.toNat<k.hs.length:=by omega
  have a4:o.n<(k.hs.length:Int):=by omega
  have a5:o.n.toNat+1≤k.hs.length:=by omega
  have hpk:=put_kind (L:=k.hs) (i:=o.n.toNat) (k:=i.n) a3
  have hno:noteG k.hs i i.l=k.hs.set o.n.toNat i.n:=by unfold noteG;rw[if_pos ⟨h40,hk1⟩,ho];rfl
  obtain⟨Ht,hHt⟩:∃ Ht,Ht=Hb.put h (some (.cells (encs (k.hs.set o.n.toNat i.n)) 1 false)):=⟨_,rfl⟩
  have hMt:MkK b h lo X ⟨k.l,k.hs.set o.n.toNat i.n⟩ ov cs Ht:=by rw[hHt];exact mkk_hs hG hMb _ (by simp)
  have htn:Ht.next=H.next+1:=by rw[hHt];simpa using hbn
  have htk:∀ id,id≠h→Ht.get id=Hb.get id:=fun id h=>by rw[hHt];simp -implicitDefEqProofs [h]
  have htr:=(htk H.next (by omega)).trans hbr
  have gMt:=hMt.gM
  have tacc:=hMt.acc
  dsimp only at gMt tacc
  rw[List.length_set] at gMt
  have hE:(encs k.hs).length=k.hs.length:=by rw[encs_len];simp -implicitDefEqProofs [Enc.sz]
  have hHb2:=hHb
  have hbr2:=hbr
  have htr2:=htr
  simp -implicitDefEqProofs [h40,ho,hk1'] at hHb2 hbr2 htr2
  simp -implicitDefEqProofs [I30,d1,d2,←hHb2,hbr2,gMb,gHb,h40,ho,hk1',a1,a3,a4,a5,hpk,hE,n1,n2,n3,n4,n5,hc1,hc2,←hHt,gMt,htr2]
  refine step_app (lo':=lo) (acc_keep tacc (by simp<;>omega) ?_) (m:=1) (ys:=[.i .i64 i.op,.i .i64 i.n,.fs tl fl i.l.length (encs i.l),.s i.s,nv]) (by omega) (by simp<;>omega) (more_lit (cs:=[.i .i64 i.op,.i .i64 i.n,.fs tl fl i.l.length (encs i.l),.s i.s,nv]) (e:=5) (ro:=false) (by simp -implicitDefEqProofs [h40,ho,hk1']) (by simp) (by omega)) (by simp) (by omega) (by omega) (by omega) (by omega) ?_
  ·intro id a b hv
   have:=acc_lt tacc id a b hv
   exact get_push_lt (by omega)
  intro H6 hn6 acc6 hf6
  simp at hn6
  have f6:∀ id,id<Ht.next→(∀ j m c,ov=.sl j 0 m c→id≠j)→H6.get id=Ht.get id:=fun id h1 h2=>by rw[hf6 id (by simp;omega) h2];exact get_push_lt h1
  have rM:=(f6 b (by omega) fun j m c hj=>by have:=acc_lt tacc _ _ _ hj;omega).trans gMt
  simp -implicitDefEqProofs [rM,hc1]
  obtain⟨j,cs',t1,t5,t2,t3,t4⟩:=tail _ Ht hno hMt (by simp) htn htk H6 (by omega) (by simpa using acc6) f6 (by omega)
  exact⟨j,cs',t1,t5,t2,by simpa using t3,fun id h1 h2 h3 h4=>by have:=t4 id h1 h2 h3 h4;simpa[h2] using this⟩
 ·have hno:noteG k.hs i i.l=k.hs:=by unfold noteG;rw[if_neg hop]
  have tacc:=hMb.acc
  by_cases h40:i.op=40
  ·obtain⟨o,ho⟩:=one_len (fits_hands hfs (.inr h40))
   have hk1':¬ o.kind=1:=fun h=>hop ⟨h40,by rw[ho];simpa using h⟩
   have hHb2:=hHb
   have hbr2:=hbr
   simp -implicitDefEqProofs [h40,ho] at hHb2 hbr2
   simp -implicitDefEqProofs [I30,d1,d2,←hHb2,hbr2,gMb,gHb,h40,ho,hk1',n1,n2,n3,n4,n5,hc1,hc2]
   refine step_app (lo':=lo) (acc_keep tacc (by simp<;>omega) ?_) (m:=1) (ys:=[.i .i64 i.op,.i .i64 i.n,.fs tl fl i.l.length (encs i.l),.s i.s,nv]) (by omega) (by simp<;>omega) (more_lit (cs:=[.i .i64 i.op,.i .i64 i.n,.fs tl fl i.l.length (encs i.l),.s i.s,nv]) (e:=5) (ro:=false) (by simp -implicitDefEqProofs [h40,ho]) (by simp) (by omega)) (by simp) (by omega) (by omega) (by omega) (by omega) ?_
   ·intro id a b hv
    have:=acc_lt tacc id a b hv
    exact get_push_lt (by omega)
   intro H6 hn6 acc6 hf6
   simp at hn6
   have f6:∀ id,id<Hb.next→(∀ j m c,ov=.sl j 0 m c→id≠j)→H6.get id=Hb.get id:=fun id h1 h2=>by rw[hf6 id (by simp;omega) h2];exact get_push_lt h1
   have rM:=(f6 b (by omega) fun j m c hj=>by have:=acc_lt tacc _ _ _ hj;omega).trans gMb
   simp -implicitDefEqProofs [rM,hc1]
   obtain⟨j,cs',t1,t5,t2,t3,t4⟩:=tail _ Hb hno hMb rfl hbn (fun _ _=>rfl) H6 (by omega) (by simpa using acc6) f6 (by omega)
   exact⟨j,cs',t1,t5,t2,by simpa using t3,fun id h1 h2 h3 h4=>by have:=t4 id h1 h2 h3 h4;simpa[h2] using this⟩
  ·simp -implicitDefEqProofs [I30,d1,d2,←hHb,hbr,gMb,gHb,h40,n1,n2,n3,n4,n5,hc1,hc2]
   refine step_app (lo':=lo) (acc_keep tacc (by simp<;>omega) ?_) (m:=1) (ys:=[.i .i64 i.op,.i .i64 i.n,.fs tl fl i.l.length (encs i.l),.s i.s,nv]) (by omega) (by simp<;>omega) (more_lit (cs:=[.i .i64 i.op,.i .i64 i.n,.fs tl fl i.l.length (encs i.l),.s i.s,nv]) (e:=5) (ro:=false) (by simp) (by simp) (by omega)) (by simp) (by omega) (by omega) (by omega) (by omega) ?_
   ·intro id a b hv
    have:=acc_lt tacc id a b hv
    exact get_push_lt (by omega)
   intro H6 hn6 acc6 hf6
   simp at hn6
   have f6:∀ id,id<Hb.next→(∀ j m c,ov=.sl j 0 m c→id≠j)→H6.get id=Hb.get id:=fun id h1 h2=>by rw[hf6 id (by simp;omega) h2];exact get_push_lt h1
   have rM:=(f6 b (by omega) fun j m c hj=>by have:=acc_lt tacc _ _ _ hj;omega).trans gMb
   simp -implicitDefEqProofs [rM,hc1]
   obtain⟨j,cs',t1,t5,t2,t3,t4⟩:=tail _ Hb hno hMb rfl hbn (fun _ _=>rfl) H6 (by omega) (by simpa using acc6) f6 (by omega)
   exact⟨j,cs',t1,t5,t2,by simpa using t3,fun id h1 h2 h3 h4=>by have:=t4 id h1 h2 h3 h4;simpa[h2] using this⟩
end
end Go.Proofs.YtkpgolcjiahdfaaGreatDoor
namespace Go.Proofs.YtkpgolcjiahdfaaGreatDoor
open Go Go.RI
section
variable {G:AHeap} (hG:G.next=2)
include hG
theorem t_bare(t l n:Bool)(k m:Int)(s:Str)(xs:List Val)(ns:List Str)(t1 t2:Bool):pureR IP G 128 [.ag [.b t,.b l,.b n],.ag [.i .i64 k,.i .i64 m,.s s,.fs t1 false xs.length (encs xs),.fs t2 false ns.length (encs ns)]]=some (.b (bareV t l n (.mk k m s xs ns))):=by
 refine pure_run ip128 rfl ?_
 simp -implicitDefEqProofs [I128,hG]
 repeat' ((first|refine guard_intro ?_ ?_|refine test_intro ?_ ?_)<;>intro h<;>(try simp -implicitDefEqProofs [h,hG]))
 all_goals ((try simp only[decide_eq_true_eq,decide_eq_false_iff_not] at *)<;>(try simp_all [bareV])<;>(try (intros;omega)))
theorem t_named(s:Str)(hs:s.length<4611686018427387904):pureR IP G 136 [.s s]=some (.b (named s)):=by
 refine pure_run ip136 rfl ?_
 simp -implicitDefEqProofs [I136,hG]
 repeat' ((first|refine guard_intro ?_ ?_|refine test_intro ?_ ?_)<;>intro h<;>(try simp -implicitDefEqProofs [h,hG]))
 ·simp_all [named]
 ·simp_all [named]
 refine wp_loop_list (l:=s) hs (fun i todo e H=>e=[(14,.sl 2 0 s.length none),(15,.i .i64 s.length),(16,.i .i64 i)]∧H=G.push (AObj.cells (List.map (fun b=>AVal.i IntKind.u8 ↑b.toNat) s) 1 false)∧namedL 0 s=namedL i todo) ?_ ?_ ?_
 ·rintro i x todo e H hx hd hlt hlt2 hlt3 ⟨rfl,rfl,hn⟩
  clear hlt
  simp -implicitDefEqProofs [L136a, *]
  repeat' ((first|refine guard_intro ?_ ?_|refine test_intro ?_ ?_)<;>intro h<;>(try simp -implicitDefEqProofs [h,hG,hx,hlt3]))
  all_goals clear hx hd hlt2 hlt3 hs
  all_goals ((try simp only[decide_eq_true_eq,decide_eq_false_iff_not] at *)<;>(try simp_all [named,namedL,badc,letter])<;>(try (intros;omega)))
 ·rintro e H ⟨rfl,rfl,hn⟩
  simp -implicitDefEqProofs [L136a, *]
  simp_all [named,namedL]
 ·simp
theorem t_rising(ns:List Str)(hs:ns.length<4611686018427387904)(hx:∀ s∈ns,s.length<4611686018427387904)(t f:Bool):pureR IP G 129 [.fs t f ns.length (encs ns)]=some (.b (rising [] ns)):=by
 refine pure_run ip129 rfl ?_
 simp -implicitDefEqProofs [I129,hG]
 refine wp_loop_list (l:=ns) hs (fun i todo e H=>∃ last,e=[(3,.s last),(6,.fs t f ns.length (encs ns)),(7,.i .i64 ns.length),(8,.i .i64 i)]∧H=G∧rising [] ns=rising last todo) ?_ ?_ ?_
 ·rintro i x todo e H hx2 hd hlt hlt2 hlt3 ⟨last,rfl,rfl,hn⟩
  have c1:=t_named hG x (hx x (List.mem_of_getElem? hx2))
  clear hlt
  simp -implicitDefEqProofs [L129a, *]
  repeat' ((first|refine guard_intro ?_ ?_|refine test_intro ?_ ?_)<;>intro h<;>(try simp -implicitDefEqProofs [h,hG,c1,hx2,hlt3]))
  all_goals ((try simp only[decide_eq_true_eq,decide_eq_false_iff_not] at *)<;>(try simp_all [rising])<;>(try (intros;omega)))
 ·rintro e H ⟨last,rfl,rfl,hn⟩
  simp -implicitDefEqProofs [L129a, *]
  simp_all [rising]
 ·simp
end
end Go.Proofs.YtkpgolcjiahdfaaGreatDoor
namespace Go.Proofs.YtkpgolcjiahdfaaGreatDoor
open Go Go.RI
section
variable {G:AHeap} (hG:G.next=2)
include hG
set_option maxHeartbeats 1000000 in
theorem t_own(k m:Int)(s:Str)(xs:List Val)(ns:List Str)(t1 t2:Bool)(hs:ns.length<4611686018427387904)(hx:∀ s∈ns,s.length<4611686018427387904):pureR IP G 120 [.ag [.i .i64 k,.i .i64 m,.s s,.fs t1 false xs.length (encs xs),.fs t2 false ns.length (encs ns)]]=some (.b (ownV (.mk k m s xs ns))):=by
 have c1:=t_rising hG ns hs hx
 have c2:=t_bare hG
 refine pure_run ip120 rfl ?_
 clear hs hx
 simp -implicitDefEqProofs [I120,hG]
 repeat' ((first|refine guard_intro ?_ ?_|refine test_intro ?_ ?_)<;>intro h<;>(try simp -implicitDefEqProofs [h,hG,c1,c2]))
 all_goals clear c1 c2
 all_goals ((try simp only[decide_eq_true_eq,decide_eq_false_iff_not] at *)<;>(try simp_all [ownV])<;>(try (intros;omega)))
end
end Go.Proofs.YtkpgolcjiahdfaaGreatDoor
namespace Go.Proofs.YtkpgolcjiahdfaaGreatDoor
open Go Go.RI
section
variable {G:AHeap} (hG:G.next=2)
include hG
set_option maxHeartbeats 1000000 in
theorem t_fits:∀(b:Nat) (v:Val),v.bulk≤b→b<1099511627776→∀(w left:Int),0≤w→w≤8→-2199023255552<left→left<2199023255552→∀ t1 t2:Bool,pureR IP G 84 [.ag [.i .i64 v.kind,.i .i64 v.n,.s v.s,.fs t1 false v.l.length (encs v.l),.fs t2 false v.names.length (encs v.names)],.i .i64 w,.i .i64 left]=some (.tu [.i .i64 (fitsV v w left).1,.b (fitsV v w left).2]):=by
  intro b
  induction b with
  | zero=>intro v h;have:=v.bulk_pos;omega
  | succ b ih =>
    intro v hv hb w left hw0 hw8 hl0 hl1 t1 t2
    have hv2:=hv
    rw[Val.bulk_eq] at hv2
    have hlen:=bulkL_len v.l
    have hlen2:=bulkS_len v.names
    have hlens:=lens_bulk v.names
    have c1:=t_own hG v.kind v.n v.s v.l v.names t1 t2 (by omega) (fun s hs=>by have:=bulkS_mem hs;omega)
    rw[Val.eta] at c1
    have w1:wrapI .i64 (1+(v.s.length:Int))=1+v.s.length:=wrap_ok (by omega) (by omega)
    have w2:wrapI .i64 (left-(1+(v.s.length:Int)))=left-(1+v.s.length):=wrap_ok (by omega) (by omega)
    refine pure_run ip84 rfl ?_
    simp -implicitDefEqProofs [I84,hG,w1,w2]
    refine wp_loop_list (l:=v.names) (by omega) (fun i todo e H=>e=[(1,.i .i64 w),(2,.i .i64 (left-(1+v.s.length)-(lens v.names-lens todo))),(3,.p 2 0),(19,.fs t2 false v.names.length (encs v.names)),(20,.i .i64 v.names.length),(21,.i .i64 i)]∧H=G.push (.cells [.i .i64 v.kind,.i .i64 v.n,.s v.s,.fs t1 false v.l.length (encs v.l),.fs t2 false v.names.length (encs v.names)] 1 false)∧0≤lens todo∧lens todo≤lens v.names) ?_ ?_ ?_
    · rintro i x todo e H hx hd hlt hlt2 hlt3 ⟨rfl,rfl,hn0,hn1⟩
      clear hlt
      have hl:=(lens_bulk todo).1
      simp only[lens] at hn0 hn1
      have w3:wrapI .i64 (left-(1+(v.s.length:Int))-(lens v.names-lens (x::todo))-x.length)=left-(1+v.s.length)-(lens v.names-lens todo):=by
        rw[wrap_ok]<;>simp only[lens]<;>omega
      simp -implicitDefEqProofs [L84a, *]
      omega
    · rintro e H ⟨rfl,rfl,hn0,hn1⟩
      simp only[lens,Int.sub_zero]
      have hf:∀ b,ownV v=b→fitsV v w left=if 8≤w∨left-(1+v.s.length)-lens v.names<0∨b=false then(0,false) else fitsL v.l (w+1) (left-(1+v.s.length)-lens v.names):=fun b hb=>by rw[fitsV_eq,hb]
      simp -implicitDefEqProofs [L84a, *]
      repeat' ((first|refine guard_intro ?_ ?_|refine test_intro ?_ ?_)<;>intro h<;>(try simp -implicitDefEqProofs [*]))
      · simp_all
      · simp_all
      · have hf:=hf _ h
        rw[if_neg (by simp_all)] at hf
        have w4:wrapI .i64 (w+1)=w+1:=wrap_ok (by omega) (by omega)
        have hw7:w+1≤8:=by simp_all;omega
        generalize hL0:left-(1+(v.s.length:Int))-lens v.names=L0 at *
        have hL:0≤L0:=by simp_all
        have hL1:L0≤left:=by omega
        clear hL0
        refine wp_loop_list (l:=v.l) (by omega) (fun i todo e H=>∃ q,0≤q∧q≤L0∧e=[(1,.i .i64 w),(2,.i .i64 q),(3,.p 2 0),(43,.i .i64 v.l.length),(44,.i .i64 i)]∧H=G.push (.cells [.i .i64 v.kind,.i .i64 v.n,.s v.s,.fs t1 false v.l.length (encs v.l),.fs t2 false v.names.length (encs v.names)] 1 false)∧fitsL v.l (w+1) L0=fitsL todo (w+1) q) ?_ ?_ ?_
        · rintro i x todo e H hx hd hlt hlt2 hlt3 ⟨q,hq0,hq1,rfl,rfl,hq⟩
          clear hlt
          have hm:=bulkL_mem (List.mem_of_getElem? hx)
          have c2:=ih x (by omega) (by omega) (w+1) q (by omega) hw7 (by omega) (by omega) false false
          have c3:=fitsV_le x (w+1) q
          rw[fitsL] at hq
          simp -implicitDefEqProofs [L84b, *]
          repeat' ((first|refine guard_intro ?_ ?_|refine test_intro ?_ ?_)<;>intro h<;>(try simp -implicitDefEqProofs [*]))
          have c3:=c3 h
          exact⟨_,c3.1,by omega,rfl,rfl⟩
        · rintro e H ⟨q,hq0,hq1,rfl,rfl,hq⟩
          simp -implicitDefEqProofs [L84b,hG]
          rw[if_neg (by omega),hq]
          simp -implicitDefEqProofs [fitsL]
        · exact⟨L0,by omega,by omega,rfl,rfl,rfl⟩
    · refine⟨?_,rfl,?_,?_⟩
      · simp
      · exact hlens.1
      · omega
theorem t_check(v:Val)(hv:v.bulk<1099511627776)(t1 t2:Bool):pureR IP G 59 [.ag [.i .i64 v.kind,.i .i64 v.n,.s v.s,.fs t1 false v.l.length (encs v.l),.fs t2 false v.names.length (encs v.names)]]=some (.i .i64 (if mayV v then 0 else 2)):=by
 have c1:=t_fits hG v.bulk v (Nat.le_refl _) hv 0 256 (by omega) (by omega) (by omega) (by omega)
 refine pure_run ip59 rfl ?_
 simp -implicitDefEqProofs [I59,hG,c1]
 repeat' ((first|refine guard_intro ?_ ?_|refine test_intro ?_ ?_)<;>intro h<;>(try simp -implicitDefEqProofs [h]))
 all_goals simp_all [mayV]
end
end Go.Proofs.YtkpgolcjiahdfaaGreatDoor
namespace Go.Proofs.YtkpgolcjiahdfaaGreatDoor
open Go Go.RI
section
variable {G:AHeap} (hG:G.next=2)
include hG
end
end Go.Proofs.YtkpgolcjiahdfaaGreatDoor
namespace Go.Proofs.YtkpgolcjiahdfaaGreatDoor
open Go Go.RI
section
variable {G:AHeap} (hG:G.next=2)
include hG
end
end Go.Proofs.YtkpgolcjiahdfaaGreatDoor
namespace Go.Proofs.YtkpgolcjiahdfaaGreatDoor
open Go Go.RI
section
variable {G:AHeap} (hG:G.next=2)
include hG
end
end Go.Proofs.YtkpgolcjiahdfaaGreatDoor
namespace Go.Proofs.YtkpgolcjiahdfaaGreatDoor
open Go Go.RI
def Rw(pv:AVal)(id:Nat):Prop:=∃ m c,pv=.sl id 0 m c
structure OnceI (d:Nat) (s:OS) (ov pv:AVal) (cs:List AVal) (PB:List OpB) (H:AHeap):Prop where
 mf:MkK (d+4) (d+3) (d+7) (Rw pv) s.k ov cs H
 g5:H.get (d+5)=some (.cells [pv] 1 false)
 g6:H.get (d+6)=some (.cells [.p (d+5) 0] 1 false)
 pb:PB.map OpB.o=s.pl
 ok:∀ b∈PB,okB b
 acc:Acc H (d+7) pv 7 PB.length (encs PB)
 dis:∀ i m c,ov=.sl i 0 m c→¬ Rw pv i
 nt:NoTmp cs
section
variable {G:AHeap} (hG:G.next=2)
include hG
theorem mkk_snap{b h lo:Nat}{X:Nat→Prop}{k:KS}{ov:AVal}{cs:List AVal}{H:AHeap}(hM:MkK b h lo X k ov cs H)(n:Nat):∃ ta tb cs2,OutT cs2 k.l∧snapV H (n+4) ov=some (.fs ta false k.l.length cs2)∧snapV H (n+4) (.sl h 0 k.hs.length (some k.hs.length))=some (.fs tb false k.hs.length (encs k.hs)):=by
 obtain⟨gM,gH,nx,lt,acc,out⟩:=hM
 obtain⟨cs2,e1,e2⟩:=outS_snap (k:=n+1) _ _ out
 have s1:=acc_snap (k:=n+3) acc e1
 have s2:=hold_snap (k:=n+3) (H:=H) (lo:=h) (v:=.sl h 0 k.hs.length (some k.hs.length)) (esz:=1) (n:=k.hs.length) (cells:=encs k.hs) (.inr ⟨h,some k.hs.length,rfl,.inr rfl,Nat.le_refl _,by omega,gH,by rw[encs_len];simp -implicitDefEqProofs [Enc.sz]⟩) snap_encs
 exact⟨_,_,cs2,e2,s1,s2⟩
end
end Go.Proofs.YtkpgolcjiahdfaaGreatDoor
namespace Go.Proofs.YtkpgolcjiahdfaaGreatDoor
open Go Go.RI
section
variable {G:AHeap} (hG:G.next=2)
include hG
theorem t_pmakes(op n:Int)(lv nv:AVal)(s:Str):pureR IP G 119 [.ag [.i .i64 op,.i .i64 n,lv,.s s,nv]]=some (.i .i64 (makesI op n)):=by
 by_cases h0:op=6
 ·subst h0;refine pure_run ip119 rfl ?_;simp -implicitDefEqProofs [I119,hG,makesI]
 by_cases h1:op=8
 ·subst h1;refine pure_run ip119 rfl ?_;simp -implicitDefEqProofs [I119,hG,makesI]
 by_cases h2:op=10
 ·subst h2;refine pure_run ip119 rfl ?_;simp -implicitDefEqProofs [I119,hG,makesI]
 by_cases h3:op=11
 ·subst h3;refine pure_run ip119 rfl ?_;simp -implicitDefEqProofs [I119,hG,makesI]
 by_cases h4:op=12
 ·subst h4;refine pure_run ip119 rfl ?_;simp -implicitDefEqProofs [I119,hG,makesI]
 by_cases h5:op=13
 ·subst h5;refine pure_run ip119 rfl ?_;simp -implicitDefEqProofs [I119,hG,makesI]
 by_cases h6:op=41
 ·subst h6;refine pure_run ip119 rfl ?_;simp -implicitDefEqProofs [I119,hG,makesI]
 by_cases h7:op=43
 ·subst h7;refine pure_run ip119 rfl ?_;simp -implicitDefEqProofs [I119,hG,makesI]
 by_cases h8:op=44
 ·subst h8;refine pure_run ip119 rfl ?_;simp -implicitDefEqProofs [I119,hG,makesI]
 by_cases h9:op=45
 ·subst h9;refine pure_run ip119 rfl ?_;simp -implicitDefEqProofs [I119,hG,makesI]
 by_cases h10:op=48
 ·subst h10;refine pure_run ip119 rfl ?_;simp -implicitDefEqProofs [I119,hG,makesI]
 by_cases h11:op=7
 ·subst h11;refine pure_run ip119 rfl ?_;simp -implicitDefEqProofs [I119,hG,makesI]
 by_cases h12:op=14
 ·subst h12;refine pure_run ip119 rfl ?_;simp -implicitDefEqProofs [I119,hG,makesI]
 by_cases h13:op=15
 ·subst h13;refine pure_run ip119 rfl ?_;simp -implicitDefEqProofs [I119,hG,makesI]
 by_cases h14:op=16
 ·subst h14;refine pure_run ip119 rfl ?_;simp -implicitDefEqProofs [I119,hG,makesI]
 by_cases h15:op=17
 ·subst h15;refine pure_run ip119 rfl ?_;simp -implicitDefEqProofs [I119,hG,makesI]
 by_cases h16:op=42
 ·subst h16;refine pure_run ip119 rfl ?_;simp -implicitDefEqProofs [I119,hG,makesI]
 by_cases h17:op=46
 ·subst h17;refine pure_run ip119 rfl ?_;simp -implicitDefEqProofs [I119,hG,makesI]
 by_cases h18:op=47
 ·subst h18;refine pure_run ip119 rfl ?_;simp -implicitDefEqProofs [I119,hG,makesI]
 by_cases h19:op=49
 ·subst h19;refine pure_run ip119 rfl ?_;simp -implicitDefEqProofs [I119,hG,makesI]
 by_cases h20:op=20
 ·subst h20;refine pure_run ip119 rfl ?_;simp -implicitDefEqProofs [I119,hG,makesI]
 by_cases h21:op=18
 ·subst h21;refine pure_run ip119 rfl ?_;simp -implicitDefEqProofs [I119,hG,makesI]
 by_cases h22:op=21
 ·subst h22;refine pure_run ip119 rfl ?_;simp -implicitDefEqProofs [I119,hG,makesI]
 by_cases h23:op=40
 ·subst h23;refine pure_run ip119 rfl ?_;simp -implicitDefEqProofs [I119,hG,makesI]
 refine pure_run ip119 rfl ?_
 simp -implicitDefEqProofs [I119,hG,makesI,h0,h1,h2,h3,h4,h5,h6,h7,h8,h9,h10,h11,h12,h13,h14,h15,h16,h17,h18,h19,h20,h21,h22,h23]
theorem t_pkind(k:KS)(cs:List AVal)(hT:OutT cs k.l)(ta tb:Bool)(o:Opn)(h1:o.kind=1→0≤o.n∧o.n<k.hs.length)(h2:o.kind=2→0≤o.n∧o.n<k.l.length) :
  pureR IP G 83 [.fp [.fs ta false k.l.length cs,.fs tb false k.hs.length (encs k.hs)],.ag (Enc.cells o)]=some (.i .i64 (knownK k o)):=by
 unfold knownK knownI
 simp only
 by_cases k1:o.kind=1
 ·obtain⟨a1,a2⟩:=h1 k1
  obtain⟨x,hx⟩:=get_of_lt (l:=k.hs) (i:=o.n.toNat) (by omega)
  have hx2:k.hs[o.n.toNat]'(by omega)=x:=by rw[List.getElem?_eq_getElem (by omega)] at hx;exact Option.some.inj hx
  rw[if_pos k1,hx]
  clear h1 h2
  refine pure_run ip83 rfl ?_
  simp -implicitDefEqProofs [I83,hG,k1,a1,a2,hx,hx2]
 by_cases k2:o.kind=2
 ·obtain⟨a1,a2⟩:=h2 k2
  obtain⟨x,hx⟩:=get_of_lt (l:=k.l) (i:=o.n.toNat) (by omega)
  obtain⟨t1,f1,t2,f2,hc⟩:=hT.2 _ _ hx
  have c1:=t_pmakes hG x.op x.n (.fs t1 false x.l.length (encs x.l)) (.fs t2 false x.names.length (encs x.names)) x.s
  have hl:=hT.1
  have b1:5≤cs.length-o.n.toNat*5:=by omega
  rw[if_neg k1,if_pos k2,hx]
  clear h1 h2
  refine pure_run ip83 rfl ?_
  simp -implicitDefEqProofs [I83,hG,k2,a1,a2,hc,c1,b1,stpKind]
 ·rw[if_neg k1,if_neg k2]
  refine pure_run ip83 rfl ?_
  simp -implicitDefEqProofs [I83,hG,k1,k2]
end
end Go.Proofs.YtkpgolcjiahdfaaGreatDoor
namespace Go.Proofs.YtkpgolcjiahdfaaGreatDoor
open Go Go.RI
section
variable {G:AHeap} (hG:G.next=2)
include hG
theorem t_pidxO(g:Nat)(c1 c2:List AVal)(p:Opn→Bool)(hg:∀ lo l H,theCalls IP G lo g l H=given H ((snaps H l).bind (pureR IP G g)))(l:List Opn)(hl:l.length<1099511627776)(hp:∀ o∈l,pureR IP G g [.ag (Enc.cells o),.fp c1,.fp c2]=some (.b (p o)))(t:Bool):pureR IP G 77 [.fs t false l.length (encs l),.fn (.func g) [] [.fp c1,.fp c2]]=some (.i .i64 (idxF p l 0)):=by
 simp only[snaps_eq] at hg
 refine pure_run ip77 rfl ?_
 simp -implicitDefEqProofs [I77,hG]
 refine wp_loop_list (l:=l) (by omega) (fun i todo e H=>e=[(0,.fs t false l.length (encs l)),(1,.fn (.func g) [] [.fp c1,.fp c2]),(7,.i .i64 l.length),(8,.i .i64 i)]∧H=G∧idxF p l 0=idxF p todo i) ?_ ?_ ?_
 ·rintro i x todo e H hx hd hlt hlt2 hlt3 ⟨rfl,rfl,hn⟩
  have cc:=hp x (List.mem_of_getElem? hx)
  simp at cc
  rw[idxF] at hn
  clear hlt
  simp -implicitDefEqProofs [L77a,hlt2,hlt3,hx,hg,cc,hG]
  refine test_intro ?_ ?_<;>intro h2<;>simp -implicitDefEqProofs [hlt3,hG]
  ·rw[hn,h2];simp
  ·rw[hn,h2];simp
 ·rintro e H ⟨rfl,rfl,hn⟩
  simp -implicitDefEqProofs [L77a,hG]
  rw[hn];rfl
 ·simp -implicitDefEqProofs [hG]
theorem t_panyO(g:Nat)(c1 c2:List AVal)(p:Opn→Bool)(hg:∀ lo l H,theCalls IP G lo g l H=given H ((snaps H l).bind (pureR IP G g)))(l:List Opn)(hl:l.length<1099511627776)(hp:∀ o∈l,pureR IP G g [.ag (Enc.cells o),.fp c1,.fp c2]=some (.b (p o)))(t f:Bool):pureR IP G 53 [.fs t f l.length (encs l),.fn (.func g) [] [.fp c1,.fp c2]]=some (.b (l.any p)):=by
 have cc:=t_pidxO hG g c1 c2 p hg l hl hp
 refine pure_run ip53 rfl ?_
 simp -implicitDefEqProofs [I53,hG,cc]
 rw[←idxF_any _ l 0 (by omega)]
theorem t_pidxI(g:Nat)(c1 c2:List AVal)(p:Int→Bool)(hg:∀ lo l H,theCalls IP G lo g l H=given H ((snaps H l).bind (pureR IP G g)))(l:List Int)(hl:l.length<1099511627776)(hp:∀ o∈l,pureR IP G g [.i .i64 o,.fp c1,.fp c2]=some (.b (p o)))(t:Bool):pureR IP G 118 [.fs t false l.length (encs l),.fn (.func g) [] [.fp c1,.fp c2]]=some (.i .i64 (idxF p l 0)):=by
 simp only[snaps_eq] at hg
 refine pure_run ip118 rfl ?_
 simp -implicitDefEqProofs [I118,hG]
 refine wp_loop_list (l:=l) (by omega) (fun i todo e H=>e=[(0,.fs t false l.length (encs l)),(1,.fn (.func g) [] [.fp c1,.fp c2]),(7,.i .i64 l.length),(8,.i .i64 i)]∧H=G∧idxF p l 0=idxF p todo i) ?_ ?_ ?_
 ·rintro i x todo e H hx hd hlt hlt2 hlt3 ⟨rfl,rfl,hn⟩
  have cc:=hp x (List.mem_of_getElem? hx)
  rw[idxF] at hn
  clear hlt
  simp -implicitDefEqProofs [L118a,hlt2,hlt3,hx,hg,cc,hG]
  refine test_intro ?_ ?_<;>intro h2<;>simp -implicitDefEqProofs [hlt3,hG]
  ·rw[hn,h2];simp
  ·rw[hn,h2];simp
 ·rintro e H ⟨rfl,rfl,hn⟩
  simp -implicitDefEqProofs [L118a,hG]
  rw[hn];rfl
 ·simp -implicitDefEqProofs [hG]
theorem t_panyI(g:Nat)(c1 c2:List AVal)(p:Int→Bool)(hg:∀ lo l H,theCalls IP G lo g l H=given H ((snaps H l).bind (pureR IP G g)))(l:List Int)(hl:l.length<1099511627776)(hp:∀ o∈l,pureR IP G g [.i .i64 o,.fp c1,.fp c2]=some (.b (p o)))(t f:Bool):pureR IP G 80 [.fs t f l.length (encs l),.fn (.func g) [] [.fp c1,.fp c2]]=some (.b (l.any p)):=by
 have cc:=t_pidxI hG g c1 c2 p hg l hl hp
 refine pure_run ip80 rfl ?_
 simp -implicitDefEqProofs [I80,hG,cc]
 rw[←idxF_any _ l 0 (by omega)]
theorem t_pnot(k:KS)(cs:List AVal)(hT:OutT cs k.l)(ta tb:Bool)(o:Opn)(c:Int)(h:(o.kind=1→0≤o.n∧o.n<k.hs.length)∧(o.kind=2→0≤o.n∧o.n<k.l.length)) :
  pureR IP G 82 [.ag (Enc.cells o),.fp [.fp [.fs ta false k.l.length cs,.fs tb false k.hs.length (encs k.hs)]],.fp [.i .i64 c]]=some (.b (!decide (knownK k o=c))):=by
 have c1:=t_pkind hG k cs hT ta tb o h.1 h.2
 simp at c1
 refine pure_run ip82 rfl ?_
 simp -implicitDefEqProofs [I82,hG,c1]
theorem t_pall1(k:KS)(cs:List AVal)(hT:OutT cs k.l)(ta tb:Bool)(l:List Opn)(hl:l.length<1099511627776)(h:∀ o∈l,(o.kind=1→0≤o.n∧o.n<k.hs.length)∧(o.kind=2→0≤o.n∧o.n<k.l.length))(t f:Bool)(c:Int) :
  pureR IP G 81 [.i .i64 c,.fp [.fs t f l.length (encs l)],.fp [.fp [.fs ta false k.l.length cs,.fs tb false k.hs.length (encs k.hs)]]]=some (.b (allK k l c)):=by
 have c1:=t_panyO hG 82 [.fp [.fs ta false k.l.length cs,.fs tb false k.hs.length (encs k.hs)]] [.i .i64 c] (fun o=>!decide (knownK k o=c)) (by intro lo l H;simp) l hl (fun o ho=>t_pnot hG k cs hT ta tb o c (h o ho)) t false
 have e:(!l.any fun o=>!decide (knownK k o=c))=allK k l c:=by unfold allK;rw[List.all_eq_not_any_not]
 refine pure_run ip81 rfl ?_
 simp -implicitDefEqProofs [I81,hG,c1]
 simp at e
 rw[e]
theorem t_pall(k:KS)(cs:List AVal)(hT:OutT cs k.l)(ta tb:Bool)(l:List Opn)(hl:l.length<1099511627776)(h:∀ o∈l,(o.kind=1→0≤o.n∧o.n<k.hs.length)∧(o.kind=2→0≤o.n∧o.n<k.l.length))(ks:List Int)(hk:ks.length<1099511627776)(t f t2 f2:Bool) :
  pureR IP G 57 [.fp [.fs ta false k.l.length cs,.fs tb false k.hs.length (encs k.hs)],.fs t f l.length (encs l),.fs t2 f2 ks.length (encs ks)]=some (.b (ks.any (allK k l))):=by
 have c1:=t_panyI hG 81 [.fs t false l.length (encs l)] [.fp [.fs ta false k.l.length cs,.fs tb false k.hs.length (encs k.hs)]] (allK k l) (by intro lo l H;simp) ks hk (fun c _=>t_pall1 hG k cs hT ta tb l hl h t false c) t2 false
 refine pure_run ip57 rfl ?_
 have bx:∀(H:AHeap) (l:List AVal),boxR H (.fp l)=some (some (.p H.next 0),H.push (.cells [.fp l] 1 false)):=fun _ _=>rfl
 simp -implicitDefEqProofs [I57,hG,c1,bx]
set_option maxHeartbeats 1000000 in
theorem t_psure(k:KS)(cs:List AVal)(hT:OutT cs k.l)(ta tb:Bool)(i:Stp)(hl:i.l.length<1099511627776)(h:∀ o∈i.l,(o.kind=1→0≤o.n∧o.n<k.hs.length)∧(o.kind=2→0≤o.n∧o.n<k.l.length))(t1 t2:Bool) :
  pureR IP G 31 [.fp [.fs ta false k.l.length cs,.fs tb false k.hs.length (encs k.hs)],.ag [.i .i64 i.op,.i .i64 i.n,.fs t1 false i.l.length (encs i.l),.s i.s,.fs t2 false i.names.length (encs i.names)]]=some (.b (sureK k i)):=by
 obtain⟨op,n,l,s,names⟩:=i
 have cc:=fun ks hk tf=>t_pall hG k cs hT ta tb l hl h ks hk t1 false tf false
 have c1:=cc [1] (by simp) true
 have c2:=cc [2] (by simp) true
 have c34:=cc [3,4] (by simp) true
 have cn:=cc [n] (by simp) true
 clear cc
 simp -implicitDefEqProofs [Enc.cells] at c1 c2 c34 cn ⊢
 by_cases h14:op=14
 ·subst h14;refine pure_run ip31 rfl ?_;simp -implicitDefEqProofs [I31,hG,sureK,isInt]
 by_cases h15:op=15
 ·subst h15;refine pure_run ip31 rfl ?_;simp -implicitDefEqProofs [I31,hG,sureK,isInt]
 by_cases h40:op=40
 ·subst h40;refine pure_run ip31 rfl ?_;simp -implicitDefEqProofs [I31,hG,sureK,isInt,cn]
 by_cases h7:op=7
 ·subst h7;refine pure_run ip31 rfl ?_;simp -implicitDefEqProofs [I31,hG,sureK,isInt,c2]
 by_cases h42:op=42
 ·subst h42;refine pure_run ip31 rfl ?_;simp -implicitDefEqProofs [I31,hG,sureK,isInt,c2]
 by_cases h8:op=8
 ·subst h8;refine pure_run ip31 rfl ?_;simp -implicitDefEqProofs [I31,hG,sureK,isInt,c34]
 by_cases h6:op=6
 ·subst h6;refine pure_run ip31 rfl ?_;simp -implicitDefEqProofs [I31,hG,sureK,isInt,c1]
 by_cases h10:op=10
 ·subst h10;refine pure_run ip31 rfl ?_;simp -implicitDefEqProofs [I31,hG,sureK,isInt,c1]
 by_cases h11:op=11
 ·subst h11;refine pure_run ip31 rfl ?_;simp -implicitDefEqProofs [I31,hG,sureK,isInt,c1]
 by_cases h41:op=41
 ·subst h41;refine pure_run ip31 rfl ?_;simp -implicitDefEqProofs [I31,hG,sureK,isInt,c1]
 by_cases h43:op=43
 ·subst h43;refine pure_run ip31 rfl ?_;simp -implicitDefEqProofs [I31,hG,sureK,isInt,c1]
 by_cases h44:op=44
 ·subst h44;refine pure_run ip31 rfl ?_;simp -implicitDefEqProofs [I31,hG,sureK,isInt,c1]
 by_cases h45:op=45
 ·subst h45;refine pure_run ip31 rfl ?_;simp -implicitDefEqProofs [I31,hG,sureK,isInt,c1]
 by_cases h46:op=46
 ·subst h46;refine pure_run ip31 rfl ?_;simp -implicitDefEqProofs [I31,hG,sureK,isInt,c1]
 by_cases h47:op=47
 ·subst h47;refine pure_run ip31 rfl ?_;simp -implicitDefEqProofs [I31,hG,sureK,isInt,c1]
 by_cases h48:op=48
 ·subst h48;refine pure_run ip31 rfl ?_;simp -implicitDefEqProofs [I31,hG,sureK,isInt,c1]
 by_cases h49:op=49
 ·subst h49;refine pure_run ip31 rfl ?_;simp -implicitDefEqProofs [I31,hG,sureK,isInt,c1]
 refine pure_run ip31 rfl ?_
 simp -implicitDefEqProofs [I31,hG,sureK,isInt,h14,h15,h40,h7,h42,h8,h6,h10,h11,h41,h43,h44,h45,h46,h47,h48,h49]
end
end Go.Proofs.YtkpgolcjiahdfaaGreatDoor
namespace Go.Proofs.YtkpgolcjiahdfaaGreatDoor
open Go Go.RI
def CheckOk(G:AHeap):Prop:=∀ x:Pce,okPce x→∀ t1 t2 t3 t4:Bool,pureR IP G 8 [.ag (pceC x t1 t2 t3 t4)]=some (.i .i64 (if checkP x then 0 else 2))
end Go.Proofs.YtkpgolcjiahdfaaGreatDoor
namespace Go.Proofs.YtkpgolcjiahdfaaGreatDoor
open Go Go.RI
theorem slR_to{H:AHeap}{esz len h:Nat}{t f:Bool}{cs:List AVal}(hl:cs.length=len*esz)(hh:h≤len):slR esz H (some (.fs t f len cs)) (some none) (some (some h)) (some none)=some (some (.fs t (f&&decide (h=len)) h (cs.take (h*esz))),H):=by
 simp -implicitDefEqProofs [slR,slV,hl,hh]
theorem take_encs5{l:List Stp}{n:Nat}(h:n≤l.length):(encs l).take (n*5)=encs (l.take n):=by
 have e:encs l=encs (l.take n)++encs (l.drop n):=by rw[←encs_append,List.take_append_drop]
 have hl:(encs (l.take n)).length=n*5:=by rw[encs_len,List.length_take,Nat.min_eq_left h];rfl
 rw[e,←hl,List.take_append_of_le_length (Nat.le_refl _),List.take_of_length_le (Nat.le_refl _)]
section
variable {G:AHeap} (hG:G.next=2)
include hG
set_option maxHeartbeats 1000000 in
theorem t_fails_loop(l:List Stp)(nh:Int)(hnh:0≤nh∧nh≤64)(hfits:Fits nh l)(hlen:l.length≤4096)(t1:Bool)(a:AVal)(xc:List AVal)(Q:Post)(H:AHeap)(h0:H.get 2=some (.cells xc 1 false))(hM:MkK 5 4 6 (fun _=>False) (ks0 nh) .ns [] H)
  (hQ:∀ w H' ov cs,H'.get 2=some (.cells xc 1 false)→MkK 5 4 6 (fun _=>False) (factsK nh l) ov cs H'→Q (.exit 0) [(1,a),(2,.p 2 0),(5,.p 5 0),(28,.fs t1 false l.length (encs l)),(29,.i .i64 l.length),(30,.i .i64 l.length),(31,w)] H') :
  wp (theCalls IP G 2) 2 (.loop L10a) Q [(1,a),(2,.p 2 0),(5,.p 5 0),(28,.fs t1 false l.length (encs l)),(29,.i .i64 l.length),(30,.i .i64 0)] H:=by
 refine wp_loop_list (l:=l) (by omega) (fun i todo e H'=>e=[(1,a),(2,.p 2 0),(5,.p 5 0),(28,.fs t1 false l.length (encs l)),(29,.i .i64 l.length),(30,.i .i64 i)]∧H'.get 2=some (.cells xc 1 false)∧∃ ov cs',MkK 5 4 6 (fun _=>False) (factsK nh (l.take i)) ov cs' H') ?_ ?_ ?_
 ·rintro i t todo e H' ht hd hlt hlt2 hlt3 ⟨rfl,g0,ov,cs',hM⟩
  have hil:i<l.length:=hlt
  have hfs:=hfits _ t ht
  have nx:=hM.nx
  have hfl:(factsK nh (l.take i)).l=l.take i:=facts_l _ _
  have hti:(l.take i).length=i:=by rw[List.length_take];omega
  have hfh:(factsK nh (l.take i)).hs.length=nh.toNat:=facts_hs _ _
  obtain⟨H1,hH1⟩:∃ H1,H1=(H'.push (.cells [.i .i64 0,.i .i64 0,.ns,.s [],.ns] 1 false)).put H'.next (some (.cells (Enc.cells t) 1 false)):=⟨_,rfl⟩
  have hk1:∀ id,id<H'.next→H1.get id=H'.get id:=fun id h=>by rw[hH1];simp -implicitDefEqProofs [show ¬ id=H'.next by omega]
  have q3:H1.get H'.next=some (.cells (Enc.cells t) 1 false):=by rw[hH1];simp
  have q4:H1.next=H'.next+1:=by rw[hH1];simp
  have hM1:=mkk_box hG hM (H':=H1) (by omega) hk1
  obtain⟨v,H3,hcall,rfl,jj,cs3,hM3,hnt3,hj3,hn3,hf3⟩:=t_padd hG hM1 (c0:=2) (by omega) (by omega) t nh i hfs hfh (by rw[hfl,hti];omega) false false (.fs false false t.names.length (encs t.names)) (.inl (.inl ⟨false,false,rfl⟩))
  have nov:∀ id,id<6→∀ j m c,ov=.sl j 0 m c→id≠j:=fun id h j m c hv=>by have:=acc_lt hM1.acc _ _ _ hv;omega
  have n3:2≤H'.next:=by omega
  have hft:factsK nh (l.take (i+1))=addK (factsK nh (l.take i)) t:=by rw[List.take_add_one,ht];exact facts_snoc _ _ _
  rw[hft]
  simp at hH1 q3
  clear hlt
  simp -implicitDefEqProofs [L10a,hlt2,hlt3,ht,n3,←hH1,q3,hcall]
  refine⟨?_,_,cs3,hM3⟩
  rw[hf3 _ (by omega) (by omega) (by omega) (nov _ (by omega)),hk1 _ (by omega)];exact g0
 ·rintro e H' ⟨rfl,g0,ov,cs',hM⟩
  rw[List.take_length] at hM
  simp -implicitDefEqProofs [L10a]
  exact hQ _ H' ov cs' g0 hM
 ·exact⟨by simp,h0,.ns,[],hM⟩
set_option maxHeartbeats 1000000 in
theorem t_pfails(c17:CheckOk G)(x:Pce)(hx:okPce x)(a:Int)(t1 t2 t3 t4:Bool):pureR IP G 10 [.ag (pceC x t1 t2 t3 t4),.i .i64 a]=some (.b (failsP x a)):=by
 have c1:=c17 x hx t1 t2 t3 t4
 simp only[pceC] at c1
 have hins:=hx.2.1
 refine pure_run ip10 rfl ?_
 cases hc:checkP x
 ·rw[hc] at c1
  have hr:failsP x a=true:=by unfold failsP;rw[hc];rfl
  rw[hr]
  simp at c1
  simp -implicitDefEqProofs [I10,hG,pceC,c1]
 ·rw[hc] at c1
  simp at c1
  have hck:=checkP_iff.1 hc
  have hnum:=hck.1
  unfold numsP at hnum
  obtain⟨n,hn⟩:∃ n:Nat,x.homes=n:=⟨x.homes.toNat,by omega⟩
  by_cases ha:a<0
  ·have hr:failsP x a=true:=by unfold failsP;rw[decide_eq_false (show ¬ 0≤a by omega)];simp
   rw[hr]
   simp -implicitDefEqProofs [I10,hG,pceC,c1,ha]
  by_cases hb:(x.ins.length:Int)≤a
  ·have hr:failsP x a=true:=by unfold failsP;rw[decide_eq_false (show ¬ a<x.ins.length by omega)];simp
   rw[hr]
   simp -implicitDefEqProofs [I10,hG,pceC,c1,ha,hb]
  obtain⟨m,rfl⟩:∃ m:Nat,a=m:=⟨a.toNat,by omega⟩
  obtain⟨s,hs⟩:=get_of_lt (l:=x.ins) (i:=m) (by omega)
  have hr:failsP x m=!sureK (factsK x.homes (x.ins.take m)) s:=by
   unfold failsP
   rw[hc,decide_eq_true (show(0:Int)≤m by omega),decide_eq_true (show(m:Int)<x.ins.length by omega)]
   simp -implicitDefEqProofs [hs]
  rw[hr]
  obtain⟨H1,hH1⟩:∃ H1,H1=G.push (.cells (pceC x t1 t2 t3 t4) 1 false):=⟨_,rfl⟩
  have h1n:H1.next=3:=by rw[hH1];simp -implicitDefEqProofs [hG]
  have h10:H1.get 2=some (.cells (pceC x t1 t2 t3 t4) 1 false):=by rw[hH1];simp -implicitDefEqProofs [hG]
  obtain⟨v,H2,hbeg,rfl,b1,b2,b3,b4⟩:=t_begun hG n (by omega) H1 (by omega)
  rw[h1n] at b1 b2 b3 hbeg
  have p0:=(b4 2 (by omega)).trans h10
  have ht5:=take_encs5 (l:=x.ins) (n:=m) (by omega)
  have hsl:slR 5 H2 (some (.fs t1 false x.ins.length (encs x.ins))) (some none) (some (some m)) (some none)=some (some (.fs t1 false m (encs (x.ins.take m))),H2):=by rw[slR_to (by simp) (by omega),ht5];rfl
  have hb2:¬ x.ins.length≤m:=by omega
  have hb3:m<x.ins.length:=by omega
  have hml:(x.ins.take m).length=m:=by rw[List.length_take];omega
  simp only[pceC,hn] at hH1 h10 p0 c1
  simp at b1 b2 b3 hbeg
  simp -implicitDefEqProofs [I10,pceC,hn,hG,←hH1,h10,c1,ha,hb,hb2,hbeg,p0,hsl]
  have hh:x.homes.toNat=n:=by omega
  have key:=t_fails_loop hG (x.ins.take m) x.homes (by omega) (fits_take (check_fits hc) m) (by omega) t1 (.i .i64 m)
  rw[hml] at key
  refine key _ _ H2 p0 { gM:=by rw[b1];simp -implicitDefEqProofs [ks0,hh],gH:=by rw[b2];simp -implicitDefEqProofs [ks0,hh],nx:=by omega,lt:=by omega,acc:=acc_none,out:=rfl } ?_
  intro w H3 ov cs g0 hM
  obtain⟨va,vb,cs2,hT2,sv,sh⟩:=mkk_snap hG hM 11
  have hfs:=check_fits hc m s hs
  have hfl:(factsK x.homes (x.ins.take m)).l=x.ins.take m:=facts_l _ _
  have hfh:(factsK x.homes (x.ins.take m)).hs.length=x.homes.toNat:=facts_hs _ _
  have hsl2:=fits_most hfs
  have c2:=t_psure hG (factsK x.homes (x.ins.take m)) cs2 hT2 va vb s (by omega) (fun o ho=>⟨fun hk=>by have:=opnFits_home (fits_all hfs o ho) hk;omega,fun hk=>by have:=opnFits_step (fits_all hfs o ho) hk;rw[hfl,hml];omega⟩) false false
  have gM:=hM.gM
  rw[hn] at sv sh c2 gM
  have hs3:∀ h,x.ins[m]'h=s:=fun h=>by rw[List.getElem?_eq_getElem h] at hs;exact Option.some.inj hs
  simp -implicitDefEqProofs [g0,hs,hs3,hb3,gM,sv,sh,c2]
end
end Go.Proofs.YtkpgolcjiahdfaaGreatDoor
namespace Go.Proofs.YtkpgolcjiahdfaaGreatDoor
open Go Go.RI
section
variable {G:AHeap} (hG:G.next=2)
include hG
theorem t_equalS(a b:List Str)(ha:a.length<4611686018427387904)(t1 f1 t2 f2:Bool):pureR IP G 72 [.fs t1 f1 a.length (encs a),.fs t2 f2 b.length (encs b)]=some (.b (decide (a=b))):=by
 refine pure_run ip72 rfl ?_
 simp -implicitDefEqProofs [I72,hG]
 refine test_intro ?_ ?_<;>intro h<;>simp -implicitDefEqProofs [hG]
 ·have hl:a.length=b.length:=by have:=of_decide_eq_true h;omega
  refine wp_loop_list (l:=a) ha (fun i todo e H=>e=[(0,.fs t1 f1 a.length (encs a)),(1,.fs t2 f2 b.length (encs b)),(12,.i .i64 a.length),(13,.i .i64 i)]∧H=G∧a.take i=b.take i) ?_ ?_ ?_
  ·rintro i x todo e H hx hd hlt hlt2 hlt3 ⟨rfl,rfl,hn⟩
   obtain⟨y,hy⟩:=get_of_lt (l:=b) (i:=i) (by omega)
   have hlt4:(i:Int)<(b.length:Int):=by omega
   clear hlt
   simp -implicitDefEqProofs [L72a,hlt2,hlt3,hlt4,hx,hy]
   refine test_intro ?_ ?_<;>intro h2<;>simp -implicitDefEqProofs [hlt3,hG]
   ·have:x=y:=by simpa using h2
    rw[List.take_add_one,List.take_add_one,hx,hy,hn,this]
   ·intro he
    subst he
    rw[hx] at hy;cases hy
    simp at h2
  ·rintro e H ⟨rfl,rfl,hn⟩
   simp -implicitDefEqProofs [L72a,hG]
   rw[hl] at hn
   rw[List.take_of_length_le (by omega),List.take_length] at hn
   exact hn
  ·simp
 ·intro he
  subst he
  simp at h
theorem t_sames:∀ b,b<1099511627776→(∀ v w:Val,v.bulk≤b→∀ t1 t2 t3 t4:Bool,pureR IP G 52 [.ag [.i .i64 v.kind,.i .i64 v.n,.s v.s,.fs t1 false v.l.length (encs v.l),.fs t2 false v.names.length (encs v.names)],.ag [.i .i64 w.kind,.i .i64 w.n,.s w.s,.fs t3 false w.l.length (encs w.l),.fs t4 false w.names.length (encs w.names)]]=some (.b (sameV v w))) ∧
    (∀ l m:List Val,bulkL l<b→∀ t1 t2:Bool,pureR IP G 76 [.fs t1 false l.length (encs l),.fs t2 false m.length (encs m),.fn (.func 52) [] []]=some (.b (sameVL l m))):=by
  intro b
  induction b with
  | zero=>intro _;exact⟨fun v w h=>by have:=v.bulk_pos;omega,fun l m h=>by omega⟩
  | succ b ih =>
    intro hb
    obtain⟨ih1,ih2⟩:=ih (by omega)
    have lists:∀ l m:List Val,bulkL l<b+1→∀ t1 t2:Bool,pureR IP G 76 [.fs t1 false l.length (encs l),.fs t2 false m.length (encs m),.fn (.func 52) [] []]=some (.b (sameVL l m)):=by
      intro l m hlm t1 t2
      have hll:=bulkL_len l
      refine pure_run ip76 rfl ?_
      simp -implicitDefEqProofs [I76,hG]
      refine test_intro ?_ ?_<;>intro h<;>simp -implicitDefEqProofs [hG]
      · have hl:l.length=m.length:=by have:=of_decide_eq_true h;omega
        refine wp_loop_list (l:=l) (by omega) (fun i todo e H=>e=[(1,.fs t2 false m.length (encs m)),(2,.fn (.func 52) [] []),(15,.fs t1 false l.length (encs l)),(16,.i .i64 l.length),(17,.i .i64 i)]∧2≤H.next∧sameVL l m=sameVL todo (m.drop i)) ?_ ?_ ?_
        · rintro i x todo e H hx hd hlt hlt2 hlt3 ⟨rfl,hH,hn⟩
          obtain⟨y,hy⟩:=get_of_lt (l:=m) (i:=i) (by omega)
          have hlt4:(i:Int)<(m.length:Int):=by omega
          rw[get_drop hy,sameVL] at hn
          obtain⟨d,hd2⟩:∃ d,H.next=d+2:=⟨H.next-2,by omega⟩
          have hm:=bulkL_mem (List.mem_of_getElem? hx)
          have c1:=fun t1 t2 t3 t4=>ih1 x y (by omega) t1 t2 t3 t4
          clear hlt
          simp -implicitDefEqProofs [L76a,hlt2,hlt3,hlt4,hx,hy,hd2,c1]
          refine test_intro ?_ ?_<;>intro h2<;>simp -implicitDefEqProofs [hlt3,hG,hd2]
          · rw[hn,h2];simp
          · rw[hn,h2];simp
        · rintro e H ⟨rfl,hH,hn⟩
          simp -implicitDefEqProofs [L76a,hG]
          rw[hn,hl,List.drop_length];rfl
        · simp -implicitDefEqProofs [hG]
      · have hl:¬ l.length=m.length:=by have:=of_decide_eq_false h;omega
        cases he:sameVL l m with
        | false=>rfl
        | true=>rw[(sameVL_iff _ _).1 he] at hl;exact absurd rfl hl
    refine⟨?_,lists⟩
    intro v w hv t1 t2 t3 t4
    rw[Val.bulk_eq] at hv
    have hnl:=bulkS_len v.names
    have c1:=t_equalS hG v.names w.names (by omega)
    have c2:=lists v.l w.l (by omega)
    rw[sameV_eq']
    refine pure_run ip52 rfl ?_
    simp -implicitDefEqProofs [I52,hG]
    repeat' ((first|refine guard_intro ?_ ?_|refine test_intro ?_ ?_)<;>intro h<;>(try simp -implicitDefEqProofs [h,hG,c1,c2]))
    all_goals (clear c1 c2;try simp_all)
theorem t_same(v w:Val)(hv:v.bulk<1099511627776)(t1 t2 t3 t4:Bool):pureR IP G 52 [.ag [.i .i64 v.kind,.i .i64 v.n,.s v.s,.fs t1 false v.l.length (encs v.l),.fs t2 false v.names.length (encs v.names)],.ag [.i .i64 w.kind,.i .i64 w.n,.s w.s,.fs t3 false w.l.length (encs w.l),.fs t4 false w.names.length (encs w.names)]]=some (.b (sameV v w)) :=
 (t_sames hG v.bulk hv).1 v w (Nat.le_refl _) t1 t2 t3 t4
end
end Go.Proofs.YtkpgolcjiahdfaaGreatDoor
namespace Go.Proofs.YtkpgolcjiahdfaaGreatDoor
open Go Go.RI
section
variable {G:AHeap} (hG:G.next=2)
include hG
theorem t_hasPrefix0(s p:Str):pureR IP G 138 [.s s,.s p]=some (.b (pre p s)):=by
 refine pure_run ip138 rfl ?_
 by_cases h0:(p.length:Int)≤s.length
 ·have h1:p.length≤s.length:=by omega
  simp -implicitDefEqProofs [I138,hG,h0,h1,pre]
 ·simp -implicitDefEqProofs [I138,hG,h0,pre]
theorem t_hasPrefix(s p:Str):pureR IP G 132 [.s s,.s p]=some (.b (pre p s)):=by
 refine pure_run ip132 rfl ?_
 simp -implicitDefEqProofs [I132,hG,t_hasPrefix0 hG]
theorem t_cutPrefix0(s p:Str):pureR IP G 139 [.s s,.s p]=some (.tu [.s (cutP s p).1,.b (cutP s p).2]):=by
 refine pure_run ip139 rfl ?_
 simp -implicitDefEqProofs [I139,hG,t_hasPrefix0 hG]
 refine test_intro ?_ ?_<;>intro h
 ·have h1:p.length≤s.length:=by simp -implicitDefEqProofs [pre] at h;omega
  simp -implicitDefEqProofs [hG,h1,cutP,h]
 ·simp -implicitDefEqProofs [hG,cutP,h]
theorem t_cutPrefix(s p:Str):pureR IP G 133 [.s s,.s p]=some (.tu [.s (cutP s p).1,.b (cutP s p).2]):=by
 refine pure_run ip133 rfl ?_
 simp -implicitDefEqProofs [I133,hG,t_cutPrefix0 hG]
theorem t_indexByte(s:Str)(c:Int):pureR IP G 143 [.s s,.i .u8 c]=some (.i .i64 (idxL c.toNat.toUInt8 s 0)):=by
 refine pure_run ip143 rfl ?_
 simp -implicitDefEqProofs [I143,hG,idxB]
theorem t_index1(s:Str)(c:UInt8):pureR IP G 142 [.s s,.s [c]]=some (.i .i64 (idx s c)):=by
 refine pure_run ip142 rfl ?_
 simp -implicitDefEqProofs [I142,hG,t_indexByte hG,idx]
 refine test_intro ?_ ?_<;>intro h
 ·have:s=[c]:=by simpa using (beq_iff_eq.1 h).symm
  subst this
  simp -implicitDefEqProofs [hG,idxL]
 ·simp -implicitDefEqProofs [hG,t_indexByte hG]
theorem t_cut0(s:Str)(c:UInt8)(hs:s.length<4611686018427387904):pureR IP G 141 [.s s,.s [c]]=some (.tu [.s (cutC s c).1,.s (cutC s c).2.1,.b (cutC s c).2.2]):=by
 refine pure_run ip141 rfl ?_
 simp -implicitDefEqProofs [I141,hG,t_index1 hG]
 refine test_intro ?_ ?_<;>intro h
 ·have h0:0≤idx s c:=by simpa using h
  have h1:=idx_lt s c h0
  have h2:(idx s c).toNat≤s.length:=by omega
  have w:wrapI .i64 (idx s c+1)=idx s c+1:=wrap_ok (by omega) (by omega)
  have h3:(idx s c+1).toNat=(idx s c).toNat+1:=by omega
  have h4:0≤idx s c+1:=by omega
  have h5:(idx s c).toNat+1≤s.length:=by omega
  simp -implicitDefEqProofs [hG,h0,h2,w,h3,h4,h5,cutC]
 ·have h0:¬ 0≤idx s c:=by simpa using h
  simp -implicitDefEqProofs [hG,cutC,h0]
theorem t_cut(s:Str)(c:UInt8)(hs:s.length<4611686018427387904):pureR IP G 140 [.s s,.s [c]]=some (.tu [.s (cutC s c).1,.s (cutC s c).2.1,.b (cutC s c).2.2]):=by
 refine pure_run ip140 rfl ?_
 simp -implicitDefEqProofs [I140,hG,t_cut0 hG s c hs]
theorem t_kindOf(w:Str):pureR IP G 135 [.s w]=some (.i .i64 (kindOf w)):=by
 refine pure_run ip135 rfl ?_
 simp -implicitDefEqProofs [I135,hG]
 repeat' ((first|refine guard_intro ?_ ?_|refine test_intro ?_ ?_)<;>intro h<;>(try simp -implicitDefEqProofs [h,hG]))
 all_goals simp_all [kindOf]
end
end Go.Proofs.YtkpgolcjiahdfaaGreatDoor
namespace Go.Proofs.YtkpgolcjiahdfaaGreatDoor
open Go Go.RI
section
variable {G:AHeap} (hG:G.next=2)
include hG
theorem t_read_word(t:Str)(ht:t.length<1099511627776)(Q:Post)(H:AHeap)(hQ:∀ b,Q (.exit 1) [(0,.s t),(2,.p 2 0),(9,.i .i64 (wordN t)),(64,b)] H) :
  wp (theCalls IP G 2) 2 (.loop L127a) Q [(0,.s t),(2,.p 2 0),(9,.i .i64 0)] H:=by
 refine wp_loop_inv (fun k e H'=>∃ i:Nat,k=t.length-i∧i≤t.length∧wordN t=i+wordN (t.drop i)∧e=[(0,.s t),(2,.p 2 0),(9,.i .i64 i)]∧H'=H) ?_ t.length _ _ ⟨0,by omega,by omega,by simp,rfl,rfl⟩
 rintro k e H' ⟨i,hk,hi,hw,rfl,rfl⟩
 rcases Nat.lt_or_ge i t.length with hlt|hge
 ·have hx:t[i]?=some t[i]:=List.getElem?_eq_getElem hlt
  have hd:t.drop i=t[i]::t.drop (i+1):=List.drop_eq_getElem_cons hlt
  have hlt2:(i:Int)<(t.length:Int):=by omega
  have hlt3:i<4611686018427387904:=by omega
  generalize t[i]=c at hx hd
  rw[hd] at hw
  simp only[wordN] at hw
  clear hlt
  simp -implicitDefEqProofs [L127a,hlt2,hx]
  refine guard_intro ?_ ?_<;>intro h<;>simp -implicitDefEqProofs [h,hlt2,hx]
  ·refine test_intro ?_ ?_<;>intro h2<;>simp -implicitDefEqProofs [h,h2,hlt2,hlt3,hx]
   ·have hl:letter c=true:=by simp -implicitDefEqProofs [letter,h,h2]
    rw[if_pos hl] at hw
    exact⟨t.length-(i+1),by omega,i+1,rfl,by omega,by omega,by simp⟩
   ·have hl:letter c=false:=by simp -implicitDefEqProofs [letter,h,h2]
    rw[hl,if_neg (by simp)] at hw
    have:=hQ (.b false)
    rw[hw] at this;simpa using this
  ·have hl:letter c=false:=by simp -implicitDefEqProofs [letter,h]
   rw[hl,if_neg (by simp)] at hw
   have:=hQ (.b false)
   rw[hw] at this;simpa using this
 ·have:i=t.length:=by omega
  subst this
  rw[List.drop_length] at hw
  have:=hQ (.b false)
  rw[hw] at this
  simp -implicitDefEqProofs [L127a]
  simpa[wordN] using this
theorem t_read_of(f:Nat)(t:Str)(hlt:t.length<f+1)(ht:t.length<1099511627776)
  (ih:∀ t:Str,t.length<f→t.length<1099511627776→pureR IP G 127 [.s t]=some (.tu [.ag (Enc.cells (readF f t).1),.s (readF f t).2.1,.b (readF f t).2.2]))
  (ihr:∀ t:Str,t.length<f→t.length<1099511627776→pureR IP G 134 [.s t]=some (.tu [.ag (Enc.cells (recF f [] [] t).1),.s (recF f [] [] t).2.1,.b (recF f [] [] t).2.2])) :
  pureR IP G 127 [.s t]=some (.tu [.ag (Enc.cells (readF (f+1) t).1),.s (readF (f+1) t).2.1,.b (readF (f+1) t).2.2]):=by
 refine pure_run ip127 rfl ?_
 simp -implicitDefEqProofs [I127,hG,t_hasPrefix hG]
 refine test_intro ?_ ?_<;>intro h
 ·have hl:1≤t.length:=by simp -implicitDefEqProofs [pre] at h;omega
  have c1:=ih (t.drop 1) (by simp;omega) (by simp;omega)
  simp at c1
  simp -implicitDefEqProofs [hG,hl,c1,t_cutPrefix hG]
  have e1:readF (f+1) t=(⟨4,[],[(readF f (t.drop 1)).1]⟩,(cutP (readF f (t.drop 1)).2.1 [93]).1,(readF f (t.drop 1)).2.2&&(cutP (readF f (t.drop 1)).2.1 [93]).2):=by
   rw[readF,if_pos h]
  rw[e1]
  repeat' ((first|refine guard_intro ?_ ?_|refine test_intro ?_ ?_)<;>intro h<;>(try simp -implicitDefEqProofs [h,hG]))
  all_goals simp_all
 simp -implicitDefEqProofs [hG,t_hasPrefix hG,h]
 refine test_intro ?_ ?_<;>intro h2
 ·have hl:2≤t.length:=by simp -implicitDefEqProofs [pre] at h2;omega
  simp -implicitDefEqProofs [hG,hl]
  simp -implicitDefEqProofs [readF,h,h2]
 simp -implicitDefEqProofs [hG,t_hasPrefix hG]
 refine test_intro ?_ ?_<;>intro h3
 ·have hl:1≤t.length:=by simp -implicitDefEqProofs [pre] at h3;omega
  have c1:=ihr (t.drop 1) (by simp;omega) (by simp;omega)
  simp at c1
  simp -implicitDefEqProofs [hG,hl,c1]
  simp -implicitDefEqProofs [readF,h,h2,h3]
 simp -implicitDefEqProofs [hG]
 refine t_read_word hG t ht _ _ ?_
 intro b
 have hl:=wordN_le t
 simp -implicitDefEqProofs [hG,hl,t_kindOf hG]
 simp -implicitDefEqProofs [readF,h,h2,h3]
end
end Go.Proofs.YtkpgolcjiahdfaaGreatDoor
namespace Go.Proofs.YtkpgolcjiahdfaaGreatDoor
open Go Go.RI
section
variable {G:AHeap} (hG:G.next=2)
include hG
def recI(r:Shp×Str×Bool)(b fm:Nat)(k:Nat)(e:Env)(H:AHeap):Prop:=∃(g:Nat) (t:Str) (ns:List Str) (l:List Shp) (nv lv:AVal) (ex:Env),k=t.length∧t.length<g∧t.length+ns.length≤b∧l.length=ns.length∧(∀ s∈ns,s.length≤b) ∧
 e=(0,.s t)::(2,.p 2 0)::ex∧(ex=[]∨∃ c,ex=[(58,c)])∧2<H.next∧H.get 2=some (.cells [.i .i64 5,nv,lv] 1 false)∧Acc H (2+1) nv 1 ns.length (encs ns)∧Acc H (2+1) lv 3 l.length (encs l) ∧
 (∀ i j a a' b b',nv=.sl i 0 a b→lv=.sl j 0 a' b'→i≠j)∧r=recF g ns l t∧g≤fm
theorem t_rec_of(f:Nat)(t0:Str)(hlt:t0.length<f+1)(ht:t0.length<1099511627776)
  (ih:∀ g,g≤f→∀ t:Str,t.length<g→t.length<1099511627776→pureR IP G 127 [.s t]=some (.tu [.ag (Enc.cells (readF g t).1),.s (readF g t).2.1,.b (readF g t).2.2]))
  (h0:pureR IP G 127 [.s []]=some (.tu [.ag (Enc.cells (readF 1 []).1),.s (readF 1 []).2.1,.b (readF 1 []).2.2])) :
  pureR IP G 134 [.s t0]=some (.tu [.ag (Enc.cells (recF (f+1) [] [] t0).1),.s (recF (f+1) [] [] t0).2.1,.b (recF (f+1) [] [] t0).2.2]):=by
 refine pure_run ip134 rfl ?_
 simp -implicitDefEqProofs [I134,hG]
 refine wp_loop_inv (recI (recF (f+1) [] [] t0) t0.length (f+1)) ?_ t0.length _ _ ⟨f+1,t0,[],[],.ns,.ns,[],rfl,hlt,by simp,rfl,by simp,rfl,.inl rfl,by simp -implicitDefEqProofs [hG],by simp -implicitDefEqProofs [hG],acc_none,acc_none,(fun i j a a' b b' h=>by cases h),rfl,Nat.le_refl _⟩
 rintro k e H ⟨g,t,ns,l,nv,lv,ex,rfl,hg,hb,hl,hns,rfl,hex,hn,hrow,hA,hB,hne,hr,hgf⟩
 obtain⟨g,rfl⟩:∃ g',g=g'+1:=⟨g-1,by omega⟩
 have c1:=t_cut hG t 58 (by omega)
 have hhead:∀(P:Prop),(ex=[]→P)→(∀ c,ex=[(58,c)]→P)→P:=fun P h1 h2=>by rcases hex with h|⟨c,h⟩;exact h1 h;exact h2 c h
 have cl:=cutC_len t 58
 generalize hcut:cutC t 58=cc at c1 cl
 obtain⟨nm,bh,is⟩:=cc
 simp only at c1 cl
 obtain⟨x,rest,ok,c2,hx⟩:∃ x rest ok,pureR IP G 127 [.s bh]=some (.tu [.ag (Enc.cells x),.s rest,.b ok])∧(is=true→readF g bh=(x,rest,ok)):=by
  cases is with
  | true=>exact⟨_,_,_,ih g (by omega) bh (by have:=cl.2.2 rfl;omega) (by have:=cl.2.2 rfl;omega),fun _=>rfl⟩
  | false=>exact⟨_,_,_,(by rw[cl.2.1 rfl];exact h0),fun h=>by cases h⟩
 simp at c2
 suffices hs:run (theCalls IP G 2) 2 [] [] (seqP (theCalls IP G 2) 2 (match L134a with|.block _ (.seq _ b)=>b|c=>c) (inBlock (andThen (inBlock (fin [IRes.c 2 (some 3),IRes.t 3,IRes.t 4] fun u H1=>frzV H1 2 16 u=some (.tu [.ag (Enc.cells (recF (f+1) [] [] t0).1),.s (recF (f+1) [] [] t0).2.1,.b (recF (f+1) [] [] t0).2.2])) 0) fun e H=>∃ j,j<t.length∧recI (recF (f+1) [] [] t0) t0.length (f+1) j e H) 1)) [(2,.p 2 0),(5,.s nm),(6,.s bh),(7,.b is)] H by
  rcases hex with rfl|⟨c,rfl⟩<;>simpa[L134a,hG,c1] using hs
 obtain⟨d,hd⟩:∃ d,H.next=d+3:=⟨H.next-3,by omega⟩
 obtain⟨ids,ht1,ht2⟩:=acc_touch' hA
 have ht3:=ht2 2 (by omega)
 have ht4:=ht2 (d+3) (by omega)
 have hr1:recF (f+1) [] [] t0=_:=hr.trans (recF_succ g ns l t hcut hx)
 simp -implicitDefEqProofs [L134a,hG,c2,hd]
 repeat' ((first|refine guard_intro ?_ ?_|refine test_intro ?_ ?_)<;>intro h<;>(try simp -implicitDefEqProofs [h,hG,hd,hrow,ht1,ht3,ht4]))
 ·rw[hr1,h];simp
 ·refine step_app (acc_keep hA ?_ ?_) (lo':=3) (m:=1) (ys:=[AVal.s nm]) (by omega) (by simp<;>omega) (more_lit (cs:=[AVal.s nm]) (e:=1) (ro:=false) (by simp -implicitDefEqProofs [hd]) rfl (by omega)) rfl (by omega) (by omega) (by omega) (by omega) ?_
  ·simp;omega
  ·intro id a b hv
   have:=acc_lt hA id a b hv
   simp (disch:=(simp -implicitDefEqProofs [hd];omega)) only[get_push_lt,get_put_ne]
  intro H1 hn1 hA1 hf1
  have hx1:H1.get 2=some (.cells [.i .i64 5,nv,lv] 1 false):=by
   rw[hf1 2 (by simp -implicitDefEqProofs [hd]) (fun id a b hv=>by have:=acc_lt hA id a b hv;omega)]
   simp -implicitDefEqProofs [hd,hrow]
  have hx2:H1.get (d+3+1+1)=some (.cells (Enc.cells x) 3 false):=by
   rw[hf1 (d+3+1+1) (by simp -implicitDefEqProofs [hd]) (fun id a b hv=>by have:=acc_lt hA id a b hv;omega)]
   simp -implicitDefEqProofs [hd]
  have hB1:Acc H1 3 lv 3 l.length (encs l):=by
   refine acc_keep hB (by rw[hn1];simp;omega) ?_
   intro id a b hv
   have:=acc_lt hB id a b hv
   rw[hf1 id (by simp;omega) (fun id2 a2 b2 hv2=>fun e=>by subst e;exact hne _ _ _ _ _ _ hv2 hv rfl)]
   simp (disch:=(simp -implicitDefEqProofs [hd];omega)) only[get_push_lt,get_put_ne]
  simp -implicitDefEqProofs [hd] at hn1 hA1
  clear hf1
  simp -implicitDefEqProofs [hd,ht1,ht3,ht4]
  refine step_app hB1 (m:=1) (ys:=Enc.cells x) (by omega) (by rw[hn1];omega) (more_lit hx2 (by simp) (by omega)) (by simp) (by omega) (by omega) (by omega) (by omega) ?_
  intro H2 hn2 hB2 hf2
  have hx3:H2.get 2=some (.cells [.i .i64 5,nv,lv] 1 false):=by
   rw[hf2 2 (by omega) (fun id a b hv=>by have:=acc_lt hB id a b hv;omega),hx1]
  have hA2:Acc H2 3 (.sl (d+3+1+1+1) 0 (ns.length+1) none) 1 (ns.length+1) (encs ns++[AVal.s nm]):=by
   refine acc_keep hA1 (by omega) ?_
   intro id a b hv
   cases hv
   exact hf2 _ (by omega) (fun id a b hv=>by have:=acc_lt hB id a b hv;omega)
  obtain⟨ms,hms,hmc,hml⟩:∃ ms,ms=ns++[nm]∧encs ns++[AVal.s nm]=encs ms∧ns.length+1=ms.length:=⟨_,rfl,by simp,by simp⟩
  obtain⟨ls,hls,hlc,hll⟩:∃ ls,ls=l++[x]∧encs l++Enc.cells x=encs ls∧l.length+1=ls.length:=⟨_,rfl,by simp,by simp⟩
  rw[hmc,hml] at hA2
  rw[hlc,hll,hn1] at hB2
  have hg1:=acc_row hA2
  have hg2:=acc_row hB2
  have hm0:ms≠[]:=by rw[hms];simp
  have hl0:ls≠[]:=by rw[hls];simp
  have c3:=t_rising hG ms (by omega) (fun s hs=>by rw[hms] at hs;rcases List.mem_append.1 hs with hs|hs;exact Nat.lt_of_le_of_lt (hns s hs) (by omega);simp at hs;subst hs;omega)
  rw[hn1] at hn2
  clear hf2 hB1 hA1 hx1 hx2
  obtain⟨c,r,rfl⟩:∃ c r,rest=c::r:=by
   cases rest with
   | nil=>simp at h
   | cons c r=>exact⟨c,r,rfl⟩
  rename_i his hok
  have hx4:=hx his
  simp -implicitDefEqProofs [hx3,hml,hll,hn1]
  rw[his,hok] at hr1
  simp only[Bool.true_eq_false,Bool.false_eq_true,if_false,List.isEmpty_cons,List.head?_cons,List.drop_succ_cons,List.drop_zero] at hr1
  have hm2:(1:Nat)≤ms.length:=by omega
  refine test_intro ?_ ?_<;>intro hc<;>simp -implicitDefEqProofs [hx3,hG,hc,hg1,hg2,hm0,hl0,c3]
  ·have hc':c=125:=toNat_eq (by simpa using hc)
   subst hc'
   rw[if_pos rfl] at hr1
   rw[hr1,hms,hls]
   simp
  refine test_intro ?_ ?_<;>intro hc2<;>simp -implicitDefEqProofs [hx3,hG,hc,hg1,hg2,hm0]
  ·have hc':c=44:=toNat_eq (by simpa using hc2)
   subst hc'
   rw[if_neg (show ¬(some (44:UInt8)=some 125) by decide),if_pos rfl] at hr1
   have hrl:r.length+2≤bh.length+1:=by
    have:=readF_le g bh
    rw[hx4] at this
    simp at this
    omega
   have hbl:=cl.2.2 his
   refine⟨r.length,by omega,g,r,ms,ls,.sl (d+3+1+1+1) 0 ms.length none,.sl (d+3+1+1+1+1) 0 ls.length none,_,rfl,by omega,by omega,by omega,?_,rfl,.inr ⟨_,rfl⟩,?_,?_,?_,?_,?_,(by rw[hms,hls];exact hr1),by omega⟩
   ·intro s hs
    rw[hms] at hs
    rcases List.mem_append.1 hs with hs|hs
    ·exact hns s hs
    ·simp at hs;subst hs;omega
   ·simp -implicitDefEqProofs [hn2]
   ·simp
   ·exact acc_keep hA2 (by simp) (fun id a b hv=>by cases hv;simp)
   ·exact acc_keep hB2 (by simp) (fun id a b hv=>by cases hv;simp)
   ·intro i j a a' b b' h1 h2
    cases h1;cases h2
    omega
  ·have h1:c≠125:=fun he=>by subst he;revert hc;decide
   have h2:c≠44:=fun he=>by subst he;revert hc2;decide
   rw[if_neg (fun e=>h1 (Option.some.inj e)),if_neg (fun e=>h2 (Option.some.inj e))] at hr1
   rw[hr1];simp
 ·rw[hr1,h];simp
 ·rw[hr1,h];simp
theorem t_reads:∀ f,(∀ g,g≤f→∀ t:Str,t.length<g→t.length<1099511627776→pureR IP G 127 [.s t]=some (.tu [.ag (Enc.cells (readF g t).1),.s (readF g t).2.1,.b (readF g t).2.2])) ∧
    (∀ g,g≤f→∀ t:Str,t.length<g→t.length<1099511627776→pureR IP G 134 [.s t]=some (.tu [.ag (Enc.cells (recF g [] [] t).1),.s (recF g [] [] t).2.1,.b (recF g [] [] t).2.2])):=by
  have h0:pureR IP G 127 [.s []]=some (.tu [.ag (Enc.cells (readF 1 []).1),.s (readF 1 []).2.1,.b (readF 1 []).2.2]) :=
    t_read_of hG 0 [] (by simp) (by simp) (fun t h=>by omega) (fun t h=>by omega)
  intro f
  induction f with
  | zero=>exact⟨fun g hg t h=>by omega,fun g hg t h=>by omega⟩
  | succ f ih =>
    obtain⟨ih1,ih2⟩:=ih
    constructor
    · intro g hg t h ht
      rcases Nat.lt_or_ge g (f+1) with hlt|hge
      · exact ih1 g (by omega) t h ht
      · have:g=f+1:=by omega
        subst this
        exact t_read_of hG f t h ht (fun t=>ih1 f (Nat.le_refl _) t) (fun t=>ih2 f (Nat.le_refl _) t)
    · intro g hg t h ht
      rcases Nat.lt_or_ge g (f+1) with hlt|hge
      · exact ih2 g (by omega) t h ht
      · have:g=f+1:=by omega
        subst this
        exact t_rec_of hG f t h ht ih1 h0
theorem t_typed(t:Str)(ht:t.length<1099511627776):pureR IP G 113 [.s t]=some (.tu [.ag (Enc.cells (typedS t).1),.b (typedS t).2]):=by
 have c1:=(t_reads hG (t.length+1)).1 (t.length+1) (Nat.le_refl _) t (by omega) ht
 simp at c1
 refine pure_run ip113 rfl ?_
 simp -implicitDefEqProofs [I113,hG]
 refine test_intro ?_ ?_<;>intro h<;>simp -implicitDefEqProofs [hG,c1]
 ·rw[typedS,if_pos (of_decide_eq_true h)];simp
 ·rw[typedS,if_neg (of_decide_eq_false h)]
  repeat' ((first|refine guard_intro ?_ ?_|refine test_intro ?_ ?_)<;>intro h<;>(try simp -implicitDefEqProofs [h,hG]))
theorem t_fits_(t:Str)(ht:t.length<1099511627776):pureR IP G 75 [.s t]=some (.b (fitsS t)):=by
 have c1:=t_typed hG t ht
 simp at c1
 refine pure_run ip75 rfl ?_
 simp -implicitDefEqProofs [I75,hG,c1,fitsS]
end
end Go.Proofs.YtkpgolcjiahdfaaGreatDoor
namespace Go.Proofs.YtkpgolcjiahdfaaGreatDoor
open Go Go.RI
section
variable {G:AHeap} (hG:G.next=2)
include hG
theorem t_none(v:Val)(hv:v.bulk<1099511627776)(t1 t2:Bool):pureR IP G 26 [.ag [.i .i64 v.kind,.i .i64 v.n,.s v.s,.fs t1 false v.l.length (encs v.l),.fs t2 false v.names.length (encs v.names)]]=some (.b (noneV v)):=by
 have c1:=t_same hG v zeroVal hv t1 t2 false false
 simp -implicitDefEqProofs [zeroVal] at c1
 refine pure_run ip26 rfl ?_
 simp -implicitDefEqProofs [I26,hG,c1,noneV,zeroVal]
theorem t_mayBe(v:Val)(hv:v.bulk<1099511627776)(t1 t2:Bool):pureR IP G 34 [.ag [.i .i64 v.kind,.i .i64 v.n,.s v.s,.fs t1 false v.l.length (encs v.l),.fs t2 false v.names.length (encs v.names)]]=some (.b (mayV v)):=by
 have c1:=t_check hG v hv
 refine pure_run ip34 rfl ?_
 simp -implicitDefEqProofs [I34,hG,c1]
theorem t_record(ns:List Str)(hns:bulkS ns<549755813888)(t f:Bool):pureR IP G 74 [.fs t f ns.length (encs ns)]=some (.b (recordS ns)):=by
  have hl:=bulkS_len ns
  refine pure_run ip74 rfl ?_
  by_cases h:(ns.length:Int)≤8
  · have c1:=t_mayBe hG (.mk 5 0 [] (List.replicate ns.length zeroVal) ns) (by simp -implicitDefEqProofs [Val.bulk,bulk_rep];omega)
    have c1:=fun t1=>c1 t1 t
    simp only[Val.kind_mk,Val.n_mk,Val.s_mk,Val.l_mk,Val.names_mk,List.length_replicate] at c1
    have h1:ns.length≤8:=by omega
    have h2:(80:Int)*ns.length≤281474976710656:=by omega
    have h3:(0:Int)≤ns.length:=by omega
    cases hn:ns with
    | nil =>
      subst hn
      have c1:=c1 false
      simp at c1
      simp -implicitDefEqProofs [I74,hG,c1,recordS,repCells]
    | cons a l =>
      rw[←hn]
      have h0:ns≠[]:=by rw[hn];simp
      simp -implicitDefEqProofs [I74,hG,h,h1,h2,h0,rep_len,snap_rep,c1,recordS]
  · simp -implicitDefEqProofs [I74,hG,h,recordS]
theorem t_opn(o:Opn)(homes steps:Int)(ho:o.v.bulk<1099511627776)(t1 t2:Bool):pureR IP G 25 [.ag [.i .i64 o.kind,.i .i64 o.n,.i .i64 o.v.kind,.i .i64 o.v.n,.s o.v.s,.fs t1 false o.v.l.length (encs o.v.l),.fs t2 false o.v.names.length (encs o.v.names)],.i .i64 homes,.i .i64 steps]=some (.b (opnFits homes steps o)):=by
 have c1:=t_none hG o.v ho
 have c2:=t_mayBe hG o.v ho
 refine pure_run ip25 rfl ?_
 simp -implicitDefEqProofs [I25,hG]
 repeat' ((first|refine guard_intro ?_ ?_|refine test_intro ?_ ?_)<;>intro h<;>(try simp -implicitDefEqProofs [h,hG,c1,c2]))
 all_goals clear c1 c2
 all_goals ((try simp only[decide_eq_true_eq,decide_eq_false_iff_not] at *)<;>(try simp_all [opnFits])<;>(try (intros;omega)))
theorem t_opnNot(o:Opn)(homes steps:Int)(ho:o.v.bulk<1099511627776)(t1 t2:Bool):pureR IP G 54 [.ag [.i .i64 o.kind,.i .i64 o.n,.i .i64 o.v.kind,.i .i64 o.v.n,.s o.v.s,.fs t1 false o.v.l.length (encs o.v.l),.fs t2 false o.v.names.length (encs o.v.names)],.fp [.i .i64 homes],.fp [.i .i64 steps]]=some (.b (!opnFits homes steps o)):=by
 have c1:=t_opn hG o homes steps ho
 refine pure_run ip54 rfl ?_
 simp -implicitDefEqProofs [I54,hG,c1]
theorem t_idxNot(l:List Opn)(homes steps:Int)(hl:l.length<1099511627776)(ho:∀ o∈l,o.v.bulk<1099511627776)(t:Bool):pureR IP G 77 [.fs t false l.length (encs l),.fn (.func 54) [] [.fp [.i .i64 homes],.fp [.i .i64 steps]]]=some (.i .i64 (idxF (fun o=>!opnFits homes steps o) l 0)):=by
 refine pure_run ip77 rfl ?_
 simp -implicitDefEqProofs [I77,hG]
 refine wp_loop_list (l:=l) (by omega) (fun i todo e H=>e=[(0,.fs t false l.length (encs l)),(1,.fn (.func 54) [] [.fp [.i .i64 homes],.fp [.i .i64 steps]]),(7,.i .i64 l.length),(8,.i .i64 i)]∧H=G∧idxF (fun o=>!opnFits homes steps o) l 0=idxF (fun o=>!opnFits homes steps o) todo i) ?_ ?_ ?_
 ·rintro i x todo e H hx hd hlt hlt2 hlt3 ⟨rfl,rfl,hn⟩
  have c1:=t_opnNot hG x homes steps (ho x (List.mem_of_getElem? hx))
  rw[idxF] at hn
  clear hlt
  simp -implicitDefEqProofs [L77a,hlt2,hlt3,hx,c1,hG]
  refine test_intro ?_ ?_<;>intro h2<;>simp -implicitDefEqProofs [hlt3,hG]
  ·rw[hn,h2];simp
  ·rw[hn,h2];simp
 ·rintro e H ⟨rfl,rfl,hn⟩
  simp -implicitDefEqProofs [L77a,hG]
  rw[hn];rfl
 ·simp -implicitDefEqProofs [hG]
theorem t_anyNot(l:List Opn)(homes steps:Int)(hl:l.length<1099511627776)(ho:∀ o∈l,o.v.bulk<1099511627776)(t:Bool):pureR IP G 53 [.fs t false l.length (encs l),.fn (.func 54) [] [.fp [.i .i64 homes],.fp [.i .i64 steps]]]=some (.b (l.any fun o=>!opnFits homes steps o)):=by
 have c1:=t_idxNot hG l homes steps hl ho
 refine pure_run ip53 rfl ?_
 simp -implicitDefEqProofs [I53,hG,c1]
 rw[←idxF_any _ l 0 (by omega)]
theorem t_fit(l:List Opn)(homes steps:Int)(hl:l.length<1099511627776)(ho:∀ o∈l,o.v.bulk<1099511627776)(t f:Bool):pureR IP G 27 [.fs t f l.length (encs l),.i .i64 homes,.i .i64 steps]=some (.b (l.all (opnFits homes steps))):=by
 have c1:=t_anyNot hG l homes steps hl ho
 have e:(l.any fun o=>!opnFits homes steps o)=!(l.all (opnFits homes steps)):=by simp -implicitDefEqProofs [List.not_all_eq_any_not]
 rw[e] at c1
 refine pure_run ip27 rfl ?_
 simp -implicitDefEqProofs [I27,hG,c1]
end
end Go.Proofs.YtkpgolcjiahdfaaGreatDoor
namespace Go.Proofs.YtkpgolcjiahdfaaGreatDoor
open Go Go.RI
section
variable {G:AHeap} (hG:G.next=2) (hB:G.get 0=some (.cells [.i .i64 0,.s [],.b false] 1 true))
include hG hB
set_option maxHeartbeats 4000000 in
theorem t_needs(i:Stp)(hns:bulkS i.names<549755813888)(hs:i.s.length<549755813887)(t1 t2:Bool):pureR IP G 51 [.ag [.i .i64 i.op,.i .i64 i.n,.fs t1 false i.l.length (encs i.l),.s i.s,.fs t2 false i.names.length (encs i.names)]]=some (.tu [.i .i64 (needs i).1,.i .i64 (needs i).2.1,.b (needs i).2.2]):=by
 have c1:=t_record hG i.names hns
 have c2:=t_record hG [i.s] (by simp -implicitDefEqProofs [bulkS];omega)
 simp at c2
 have c3:=t_fits_ hG i.s (by omega)
 obtain⟨op,n,l,s,names⟩:=i
 simp only at *
 refine pure_run ip51 rfl ?_
 simp -implicitDefEqProofs [I51,hG,hB]
 repeat' ((first|refine guard_intro ?_ ?_|refine test_intro ?_ ?_)<;>intro h<;>(try simp -implicitDefEqProofs [h,hG,c1,c2,c3,hB]))
 all_goals clear c1 c2 c3
 all_goals try simp only[decide_eq_true_eq,decide_eq_false_iff_not] at *
 all_goals (simp only[needs];(repeat' split)<;>(first|omega|(simp_all [bareI,nmd];done)|(simp_all [bareI,nmd];intros;first|omega|(simp_all;done)|(simp_all;omega))))
theorem t_stpFits(i:Stp)(homes at_:Int)(hns:bulkS i.names<549755813888)(hs:i.s.length<549755813887)(hl:i.l.length<1099511627776)(ho:∀ o∈i.l,o.v.bulk<1099511627776)(t1 t2:Bool) :
  pureR IP G 24 [.ag [.i .i64 i.op,.i .i64 i.n,.fs t1 false i.l.length (encs i.l),.s i.s,.fs t2 false i.names.length (encs i.names)],.i .i64 homes,.i .i64 at_]=some (.b (stpFits homes at_ i)):=by
 have c1:=t_needs hG hB i hns hs
 have c2:=t_fit hG i.l homes at_ hl ho
 refine pure_run ip24 rfl ?_
 simp -implicitDefEqProofs [I24,hG,c1]
 repeat' ((first|refine guard_intro ?_ ?_|refine test_intro ?_ ?_)<;>intro h<;>(try simp -implicitDefEqProofs [h,hG,c2]))
 all_goals clear c1 c2
 all_goals ((try simp only[decide_eq_true_eq,decide_eq_false_iff_not] at *)<;>(try simp_all [stpFits])<;>(try (intros;omega)))
end
end Go.Proofs.YtkpgolcjiahdfaaGreatDoor
