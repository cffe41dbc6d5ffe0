import Derived.Test.YtbfajkcmehaliabDoorM08
import Derived.Test.YtbfajkcmehaliabDoorM07
set_option linter.unusedVariables false
set_option linter.unusedSimpArgs false
set_option linter.unusedSectionVars false
/- RI, part SU: how many checks there are in a guessed piece (chapter 22). Conditions: none. -/
namespace Go.RI
open Go
theorem count_set_le:∀(hs:List Int) (n:Nat) (v:Int),v≠-1→(hs.set n v).count (-1)≤hs.count (-1)
  | [],n,v,_=>by simp
  | a::hs,0,v,hv=>by
    simp only[List.set_cons_zero,List.count_cons]
    have:(v==(-1:Int))=false:=by simpa using hv
    rw[this];simp
  | a::hs,n+1,v,hv=>by
    have:=count_set_le hs n v hv
    simp only[List.set_cons_succ,List.count_cons]
    omega
theorem count_set_lt:∀(hs:List Int) (n:Nat) (v:Int),v≠-1→hs[n]?=some (-1)→(hs.set n v).count (-1)+1=hs.count (-1)
  | [],n,v,_,h=>by simp at h
  | a::hs,0,v,hv,h=>by
    simp at h
    subst h
    simp only[List.set_cons_zero,List.count_cons]
    have:(v==(-1:Int))=false:=by simpa using hv
    rw[this];simp
  | a::hs,n+1,v,hv,h=>by
    have:=count_set_lt hs n v hv (by simpa using h)
    simp only[List.set_cons_succ,List.count_cons]
    omega
theorem getD_neg{hs:List Int}{n:Nat}(h:hs[n]?.getD 0=-1):hs[n]?=some (-1):=by
 cases hx:hs[n]? with
 | none=>rw[hx] at h;simp at h
 | some x=>rw[hx] at h;simp at h;rw[h]
def room(g:GS):Nat:=g.out.length+g.hs.count (-1)
theorem checkI_room{K:List Int}{g:GS}{o:Opn}{k:Int}(hk:k=1∨k=2):room (checkI K g o k)≤room g:=by
 unfold checkI
 split
 ·rename_i h
  obtain⟨_,h2,_,_⟩:=says_iff h
  have:=count_set_lt g.hs o.n.toNat k (by omega) (getD_neg h2)
  simp only[room,List.length_append,List.length_singleton]
  omega
 ·exact Nat.le_refl _
theorem chkL_room{K:List Int}{k:Int}(hk:k=1∨k=2):∀(l:List Opn) (g:GS),room (chkL K k g l)≤room g
 | [],g=>Nat.le_refl _
 | o::l,g=>Nat.le_trans (chkL_room hk l _) (checkI_room hk)
theorem chkG_room{K:List Int}{g:GS}{i:Stp}:room (chkG K g i)≤room g:=by
 unfold chkG
 split
 ·rename_i h;exact chkL_room (typed_kind h) _ _
 ·exact Nat.le_refl _
theorem note_neg{nh a:Int}{i:Stp}(hi:stpFits nh a i=true)(ho:i.op=40):0≤i.n:=by
 unfold stpFits at hi
 simp[needs,ho] at hi
 first|omega|exact hi.1.1.1.2
theorem stepG_room{K:List Int}{nh a:Int}{g:GS}{i:Stp}(hi:stpFits nh a i=true):room (stepG K g i)≤room g+1∧g.out.length+1≤(stepG K g i).out.length:=by
 have h1:=chkG_room (K:=K) (g:=g) (i:=i)
 obtain⟨C,h2⟩:=chkG_ext (K:=K) (g:=g) (i:=i)
 refine⟨?_,by simp[stepG,h2]⟩
 unfold room at h1 ⊢
 simp only[stepG,List.length_append,List.length_singleton]
 have:(noteG (chkG K g i).hs i (i.l.map (movedO g.pl))).count (-1)≤(chkG K g i).hs.count (-1):=by
  unfold noteG
  split
  ·rename_i hc
   have:=note_neg hi hc.1
   exact count_set_le _ _ _ (by omega)
  ·exact Nat.le_refl _
 omega
theorem gsOf_room{K:List Int}{nh:Int}:∀(l:List Stp) (g:GS) (m:Nat),(∀(k:Nat) (s:Stp),l[k]?=some s→stpFits nh (m+k:Nat) s=true)→room (gsOf K g l)≤room g+l.length∧g.out.length+l.length≤(gsOf K g l).out.length
  | [],g,m,_=>⟨Nat.le_refl _,Nat.le_refl _⟩
  | i::l,g,m,h=>by
    obtain⟨h1,h2⟩:=stepG_room (K:=K) (g:=g) (h 0 i rfl)
    obtain⟨h3,h4⟩:=gsOf_room (K:=K) l (stepG K g i) (m+1) fun k s hk=>by
      have:=h (k+1) s (by simpa using hk)
      rwa [show m+(k+1)=m+1+k by omega] at this
    simp only[gsOf,List.length_cons]
    omega
theorem guess_len{K:List Int}{x:Pce}(hc:checkP x=true):x.ins.length≤(gsP K x).out.length∧(gsP K x).out.length≤x.ins.length+x.homes.toNat:=by
 obtain⟨h1,h2⟩:=gsOf_room (K:=K) (nh:=x.homes) x.ins (gs0 x) 0 fun k s h=>by simpa using check_fits hc k s h
 have e:room (gs0 x)=x.homes.toNat:=by simp[room,gs0]
 rw[e] at h1
 unfold room at h1
 have e2:(gs0 x).out.length=0:=rfl
 rw[e2] at h2
 unfold gsP
 omega
theorem chkL_none{nh k:Int}:∀(l:List Opn) (g:GS),(∀ o∈l,opnFits nh g.out.length o=true)→chkL [] k g l=g
  | [],g,_=>rfl
  | o::l,g,h=>by
    have:checkI [] g o k=g:=by
      unfold checkI
      rw[if_neg]
      intro hs
      obtain⟨h1,_,h3,_⟩:=says_iff hs
      have:=opnFits_home (h o (by simp)) h1
      simp at h3
      omega
    rw[chkL,this]
    exact chkL_none l g fun o ho=>h o (by simp[ho])
theorem gsOf_none{nh:Int}:∀(l:List Stp) (g:GS) (m:Nat),GoodG nh g m→(∀(k:Nat) (s:Stp),l[k]?=some s→stpFits nh (m+k:Nat) s=true)→(gsOf [] g l).out.length=g.out.length+l.length
  | [],g,m,_,_=>rfl
  | i::l,g,m,hg,h=>by
    have hi:stpFits nh m i=true:=h 0 i rfl
    have hG:chkG [] g i=g:=by
      unfold chkG
      split
      · refine chkL_none (nh:=nh) _ g fun o ho=>?_
        obtain⟨p,hp,rfl⟩:=List.mem_map.1 ho
        exact moved_fits hg (fits_all hi p hp)
      · rfl
    have:=gsOf_none l (stepG [] g i) (m+1) (stepG_good hg hi) fun k s hk=>by
      have:=h (k+1) s (by simpa using hk)
      rwa [show m+(k+1)=m+1+k by omega] at this
    have e:(stepG [] g i).out.length=g.out.length+1:=by simp[stepG,hG]
    rw[gsOf,this,e,List.length_cons]
    omega
theorem guess_none{x:Pce}(hc:checkP x=true):(gsP [] x).out.length=x.ins.length:=by
 have:=gsOf_none (nh:=x.homes) x.ins (gs0 x) 0 gs0_good fun k s h=>by simpa using check_fits hc k s h
 have e:(gs0 x).out.length=0:=rfl
 rw[e] at this
 unfold gsP
 omega
def isChk(h:Int)(s:Stp):Bool:=decide (s.op=40)&&(decide (s.l.length=1)&&(decide ((s.l[0]?.getD default).kind=1)&&decide ((s.l[0]?.getD default).n=h)))
def Unk(h:Int)(g:GS):Prop:=g.hs[h.toNat]?=some (-1)
def Adds(h:Int)(g g':GS)(c:Nat):Prop:=∃ e,g'.out.countP (isChk h)=g.out.countP (isChk h)+c+e∧e≤1∧(¬ Unk h g→e=0∧¬ Unk h g')∧(e=1→¬ Unk h g')
theorem adds_refl{h:Int}{g:GS}:Adds h g g 0:=⟨0,rfl,by omega,fun h=>⟨rfl,h⟩,fun h=>by omega⟩
theorem adds_trans{h:Int}{g g' g'':GS}{c c':Nat}(h1:Adds h g g' c)(h2:Adds h g' g'' c'):Adds h g g'' (c+c'):=by
 obtain⟨e,a1,a2,a3,a4⟩:=h1
 obtain⟨e',b1,b2,b3,b4⟩:=h2
 by_cases he:e=1
 ·obtain⟨c1,c2⟩:=b3 (a4 he)
  subst c1
  refine⟨e,by omega,a2,fun hu=>?_,fun _=>c2⟩
  have:=(a3 hu).1
  omega
 ·have:e=0:=by omega
  subst this
  refine⟨e',by omega,b2,fun hu=>b3 (a3 hu).2,b4⟩
theorem checkI_adds{K:List Int}{nh k h:Int}{g:GS}{o:Opn}(h0:0≤h)(hk:k=1∨k=2)(ho:opnFits nh g.out.length o=true)(hgs:g.hs.length=nh.toNat):Adds h g (checkI K g o k) 0:=by
 unfold checkI
 split
 ·rename_i hs
  obtain⟨h1,h2,_,_⟩:=says_iff hs
  obtain⟨b1,b2⟩:=opnFits_home ho h1
  by_cases he:o.n=h
  ·have hu:Unk h g:=by unfold Unk;rw[←he];exact getD_neg h2
   refine⟨1,?_,by omega,fun hn=>absurd hu hn,fun _=>?_⟩
   ·simp[List.countP_append,isChk,h1,he]
   ·unfold Unk
    simp only
    rw[←he,List.getElem?_set_self (by omega)]
    simp only[Option.some.injEq]
    omega
  ·have hne:o.n.toNat≠h.toNat:=by omega
   refine⟨0,?_,by omega,fun hn=>⟨rfl,?_⟩,fun h=>by omega⟩
   ·simp[List.countP_append,isChk,h1,he]
   ·unfold Unk at hn ⊢
    simp only
    rw[List.getElem?_set_ne hne]
    exact hn
 ·exact adds_refl
theorem chkL_adds{K:List Int}{nh k h:Int}{m:Nat}(h0:0≤h)(hk:k=1∨k=2):∀(l:List Opn) (g:GS),GoodG nh g m→(∀ o∈l,opnFits nh g.out.length o=true)→Adds h g (chkL K k g l) 0
  | [],g,_,_=>adds_refl
  | o::l,g,hg,ho=>by
    obtain⟨h1,h2,h3⟩:=checkI_good (K:=K) hg (ho o (by simp)) hk
    exact adds_trans (checkI_adds (K:=K) h0 hk (ho o (by simp)) hg.hs) (chkL_adds h0 hk l _ h1 fun o h=>opnFits_mono (by omega) (ho o (by simp[h])))
theorem chk_kept{K:List Int}{g:GS}{h:Int}{i:Stp}(hf:i.op=40→i.l.length=1):isChk h (turnG K g i)=isChk h i:=by
 have h1:∀ op l,opG op i.op l=40↔i.op=40:=fun g' l=>by
  unfold opG
  split
  ·rename_i ht
   split
   ·rcases typed_cases ht with⟨e1,e2⟩|⟨e1,e2⟩|⟨e1,e2⟩|⟨e1,e2⟩|⟨e1,e2⟩|⟨e1,e2⟩|⟨e1,e2⟩<;>rw[e1] at e2 ⊢<;>simp[e2]
   ·exact Iff.rfl
  ·exact Iff.rfl
 unfold isChk turnG
 simp only[h1,List.length_map]
 by_cases ho:i.op=40
 ·obtain⟨o,hl⟩:=one_len (hf ho)
  simp only[hl,List.map_cons,List.map_nil,List.getElem?_cons_zero,Option.getD_some]
  have h2:(movedO g.pl o).kind=o.kind:=by unfold movedO;split<;>rfl
  by_cases hk:o.kind=1
  ·have h3:movedO g.pl o=o:=by unfold movedO;rw[if_neg (by omega)]
   rw[h3]
  ·simp[h2,hk]
 ·simp[ho]
theorem stepG_adds{K:List Int}{nh h:Int}{g:GS}{m:Nat}{i:Stp}(h0:0≤h)(hg:GoodG nh g m)(hi:stpFits nh m i=true):Adds h g (stepG K g i) (if isChk h i=true then 1 else 0):=by
 have hf:i.op=40→i.l.length=1:=fun h=>fits_hands' hi h
 have h1:Adds h g (chkG K g i) 0:=by
  unfold chkG
  split
  ·rename_i ht
   refine chkL_adds h0 (typed_kind ht) _ g hg fun o ho=>?_
   obtain⟨p,hp,rfl⟩:=List.mem_map.1 ho
   exact moved_fits hg (fits_all hi p hp)
  ·exact adds_refl
 have h2:Adds h (chkG K g i) (stepG K g i) (if isChk h i=true then 1 else 0):=by
  have hn:¬ Unk h (chkG K g i)→¬ Unk h (stepG K g i):=by
   intro hu
   unfold Unk at hu ⊢
   simp only[stepG]
   unfold noteG
   split
   ·rename_i hc
    have:=note_neg hi hc.1
    rw[List.getElem?_set]
    split
    ·split
     ·simp only[Option.some.injEq];omega
     ·simp
    ·exact hu
   ·exact hu
  refine⟨0,?_,by omega,fun hu=>⟨rfl,hn hu⟩,fun h=>by omega⟩
  simp only[stepG,List.countP_append,List.countP_cons,List.countP_nil,chk_kept hf]
  omega
 have:=adds_trans h1 h2
 rwa [Nat.zero_add] at this
where
 fits_hands' {nh a:Int} {i:Stp} (h:stpFits nh a i=true) (ho:i.op=40):i.l.length=1:=by
  unfold stpFits at h
  simp[needs,ho] at h
  omega
theorem gsOf_adds{K:List Int}{nh h:Int}(h0:0≤h):∀(l:List Stp) (g:GS) (m:Nat),GoodG nh g m→(∀(k:Nat) (s:Stp),l[k]?=some s→stpFits nh (m+k:Nat) s=true)→Adds h g (gsOf K g l) (l.countP (isChk h))
  | [],g,m,_,_=>adds_refl
  | i::l,g,m,hg,hf=>by
    have hi:stpFits nh m i=true:=hf 0 i rfl
    have h1:=stepG_adds (K:=K) h0 hg hi
    have h2:=gsOf_adds (K:=K) h0 l (stepG K g i) (m+1) (stepG_good hg hi) fun k s hk=>by
      have:=hf (k+1) s (by simpa using hk)
      rwa [show m+(k+1)=m+1+k by omega] at this
    have:=adds_trans h1 h2
    simp only[gsOf,List.countP_cons]
    rwa [Nat.add_comm] at this
theorem guess_checks{K:List Int}{x:Pce}(hc:checkP x=true){h:Int}(h0:0≤h):∃ e,e≤1∧(gsP K x).out.countP (isChk h)=x.ins.countP (isChk h)+e:=by
 obtain⟨e,h1,h2,_⟩:=gsOf_adds (K:=K) (nh:=x.homes) h0 x.ins (gs0 x) 0 gs0_good fun k s h=>by simpa using check_fits hc k s h
 exact⟨e,h2,by simpa[gs0,gsP] using h1⟩
end Go.RI
namespace Go.RI
open Go
instance:Enc (List Val):=⟨1,fun l=>[.fs false false l.length (encs l)],fun _=>rfl⟩
@[simp] theorem cells_vals{l:List Val}:Enc.cells l=[AVal.fs false false l.length (encs l)]:=rfl
instance:EncOk (List Val):={ snap:=fun _ _ _=>by simp,frz:=fun _ _ _ _=>by simp }
@[simp] theorem drop_vals{l:List (List Val)}{i:Nat}:(encs l).drop i=cellsO l[i]?++restE l (i+1):=by
 have:=drop_encs l i
 simpa[show Enc.sz (List Val)=1 from rfl] using this
@[simp] theorem len_vals{l:List (List Val)}:(encs l).length=l.length:=by have:=encs_len l;simpa[show Enc.sz (List Val)=1 from rfl] using this
def kindsL(l:List Val):List Int:=l.map Val.kind
@[simp] theorem kindsL_len{l:List Val}:(kindsL l).length=l.length:=by simp[kindsL]
theorem put_kind{L:List Int}{i:Nat}{k:Int}(h:i<L.length):(encs L).set i (.i .i64 k)=encs (L.set i k):=by
 obtain⟨x,hx⟩:=get_of_lt h
 have:=put_encs (k:=0) hx (m:=[AVal.i .i64 k]) (y:=k) (by simp[Enc.sz]) (by simp)
 simpa[show Enc.sz Int=1 from rfl] using this
theorem take_set{L M:List Int}{i:Nat}{x:Int}(hi:i<L.length)(ht:L.take i=M.take i)(hx:M[i]?=some x):(L.set i x).take (i+1)=M.take (i+1):=by
 rw[List.take_add_one,List.take_add_one,hx,←ht,List.take_set_of_le (Nat.le_refl _),List.getElem?_set_self hi]
theorem rep_kinds:∀ n,repCells [AVal.i .i64 0] n=encs (List.replicate n (0:Int))
 | 0=>rfl
 | n+1=>by simp[repCells,List.replicate_succ,rep_kinds n]
end Go.RI
namespace Go.Proofs.YtbfajkcmehaliabDoor
open Go Go.RI
def Aq(X:Nat→Prop)(ov pv:AVal)(id:Nat):Prop:=(6≤id∧¬ X id)∧(∀ j m c,ov=.sl j 0 m c→id≠j)∧∀ j m c,pv=.sl j 0 m c→id≠j
structure MkI (X:Nat→Prop) (K:List Int) (tk:Bool) (g:GS) (ov pv:AVal) (cs:List AVal) (H:AHeap):Prop where
 gM:H.get 5=some (.cells [ov,.sl 4 0 g.hs.length (some g.hs.length),.fs tk false K.length (encs K),pv] 1 false)
 gH:H.get 4=some (.cells (encs g.hs) 1 false)
 nx:6≤H.next
 acc:Acc H 6 ov 5 g.out.length cs
 pl:Acc H 6 pv 1 g.pl.length (encs g.pl)
 dis:∀ i m c,ov=.sl i 0 m c→∀ j n d,pv=.sl j 0 n d→i≠j
 out:Out H (Aq X ov pv) cs g.out
def Fr(ov pv:AVal)(H H':AHeap):Prop:=H.next≤H'.next∧∀ id,id<H.next→id≠5→id≠4→(∀ j m c,ov=.sl j 0 m c→id≠j)→(∀ j m c,pv=.sl j 0 m c→id≠j)→H'.get id=H.get id
section
variable {G:AHeap} (hG:G.next=2)
include hG
theorem mk_box{X:Nat→Prop}{K:List Int}{tk:Bool}{g:GS}{ov pv:AVal}{cs:List AVal}{H H':AHeap}(h:MkI X K tk g ov pv cs H)(hn:H.next≤H'.next)(hk:∀ id,id<H.next→H'.get id=H.get id):MkI X K tk g ov pv cs H' :=
 { gM:=(hk _ (by have:=h.nx;omega)).trans h.gM,gH:=(hk _ (by have:=h.nx;omega)).trans h.gH,nx:=by have:=h.nx;omega,acc:=acc_keep h.acc hn fun id a b hv=>hk id (acc_lt h.acc _ _ _ hv).2,pl:=acc_keep h.pl hn fun id a b hv=>hk id (acc_lt h.pl _ _ _ hv).2,dis:=h.dis,out:=out_keep hn (fun id h1 h2=>⟨hk id h2,h1⟩) _ _ h.out }
set_option maxHeartbeats 1000000 in
theorem t_gcheck{X:Nat→Prop}{K:List Int}{tk:Bool}{g:GS}{ov pv:AVal}{cs:List AVal}{H:AHeap}(hM:MkI X K tk g ov pv cs H)(hlen:g.out.length<1000000)(o:Opn)(k:Int)(h1:o.kind=1→0≤o.n∧o.n<g.hs.length)(hX:∀ id,X id→id<H.next) :
  ∃ v H',theCalls IP G 2 37 [.p 5 0,.ag (Enc.cells o),.i .i64 k] H=some (v,H')∧v=.tu []∧∃ ov' cs',MkI X K tk (checkI K g o k) ov' pv cs' H'∧Fr ov pv H H'∧(∀ id,id<H.next→(∀ j m c,ov=.sl j 0 m c→id≠j)→∀ j m c,ov'=.sl j 0 m c→id≠j):=by
 obtain⟨gM,gH,nx,acc,pl,dis,out⟩:=hM
 have n3:2≤H.next:=by omega
 have n4:¬ 5=H.next:=by omega
 have n5:¬ 4=H.next:=by omega
 have n6:¬ H.next=5:=by omega
 have n7:¬ H.next=4:=by omega
 have stay:checkI K g o k=g→∀ o',∃ ov' cs',MkI X K tk (checkI K g o k) ov' pv cs' (H.push o')∧Fr ov pv H (H.push o')∧(∀ id,id<H.next→(∀ j m c,ov=.sl j 0 m c→id≠j)→∀ j m c,ov'=.sl j 0 m c→id≠j):=fun he o'=>by
  rw[he]
  exact⟨ov,cs,mk_box hG ⟨gM,gH,nx,acc,pl,dis,out⟩ (by simp) (fun id h=>get_push_lt h),⟨by simp,fun id h _ _ _ _=>get_push_lt h⟩,fun id _ h=>h⟩
 refine calls_nil_of ip37 rfl rfl ?_
 by_cases k1:o.kind=1
 ·obtain⟨a1,a2⟩:=h1 k1
  have a3:o.n.toNat<g.hs.length:=by omega
  obtain⟨hx,hxe⟩:∃ hx,g.hs[o.n.toNat]?=some hx:=get_of_lt a3
  have hxg:∀ h,(encs g.hs)[o.n.toNat]'h=.i .i64 hx:=fun h=>by have:=get_int (l:=g.hs) (i:=o.n.toNat);rw[hxe,List.getElem?_eq_getElem h] at this;exact Option.some.inj this
  by_cases hu:hx=-1
  ·by_cases hK:o.n<K.length
   ·have hK2:¬(K.length:Int)≤o.n:=by omega
    have a4:o.n.toNat<K.length:=by omega
    obtain⟨kx,hke⟩:∃ kx,K[o.n.toNat]?=some kx:=get_of_lt a4
    have hkg:∀ h,K[o.n.toNat]'h=kx:=fun h=>by rw[List.getElem?_eq_getElem h] at hke;exact Option.some.inj hke
    by_cases hkk:kx=k
    ·simp -implicitDefEqProofs [I37,gM,gH,n3,n4,n5,k1,a1,a2,hxe,hxg,hu,hK,hK2,hke,hkg,hkk]
     refine step_app (lo':=6) (acc_keep acc (by simp<;>omega) ?_) (m:=1) (ys:=[.i .i64 40,.i .i64 k,.sl (H.next+1) 0 1 (some 1),.s [],.ns]) (by omega) (by simp<;>omega) (more_lit (cs:=[.i .i64 40,.i .i64 k,.sl (H.next+1) 0 1 (some 1),.s [],.ns]) (e:=5) (ro:=false) (by simp) (by simp) (by omega)) (by simp) (by omega) (by omega) (by omega) (by omega) ?_
     ·intro id a b hv
      have:=acc_lt acc id a b hv
      simp -implicitDefEqProofs [show ¬ id=H.next+1+1 by omega,show ¬ id=H.next+1 by omega,show ¬ id=H.next by omega]
     intro H5 hn5 acc5 hf5
     simp at hn5 acc5
     have hf6:∀ id,id<H.next+2→(∀ j m c,ov=.sl j 0 m c→id≠j)→H5.get id=((H.push (.cells (Enc.cells o) 1 false)).push (.cells (Enc.cells o) 7 false)).get id:=fun id h1 h2=>by
      rw[hf5 id (by simp;omega) h2]
      rw[get_push_lt (by simp;omega)]
      simp -implicitDefEqProofs [k1]
     have ne0:∀ id,(id<6∨H.next≤id)→∀ j m c,ov=.sl j 0 m c→id≠j:=fun id h j m c hv=>by have:=acc_lt acc _ _ _ hv;omega
     have y0:∀ id,id<H.next→(∀ j m c,ov=.sl j 0 m c→id≠j)→H5.get id=H.get id:=fun id h1 h2=>by
      rw[hf6 id (by omega) h2,get_push_lt (by simp;omega),get_push_lt h1]
     have y3:=(y0 5 (by omega) (ne0 _ (.inl (by omega)))).trans gM
     have y2:=(y0 4 (by omega) (ne0 _ (.inl (by omega)))).trans gH
     have yB:H5.get H.next=some (.cells (Enc.cells o) 1 false):=by rw[hf6 _ (by omega) (ne0 _ (.inr (Nat.le_refl _)))];simp
     have yL:H5.get (H.next+1)=some (.cells (Enc.cells o) 7 false):=by rw[hf6 _ (by omega) (ne0 _ (.inr (by omega)))];simp
     have hpk:=put_kind (k:=k) a3
     have hE:(encs g.hs).length=g.hs.length:=by rw[encs_len];simp -implicitDefEqProofs [Enc.sz]
     have yB2:=yB
     simp -implicitDefEqProofs [k1] at yB2
     have a5:o.n.toNat+1≤g.hs.length:=by omega
     simp -implicitDefEqProofs [y3,y2,yB2,a1,a2,a3,a5,hpk,n4,n5,n6,n7]
     have hc:checkI K g o k=⟨g.out++[⟨40,k,[o],[],[]⟩],g.hs.set o.n.toNat k,g.pl⟩:=by
      unfold checkI
      rw[if_pos]
      simp -implicitDefEqProofs [saysI,k1,hxe,hu,hK,hke,hkk]
     rw[hc]
     obtain⟨H6,hH6⟩:∃ H6,H6=(H5.put 5 (some (.cells [.sl (H.next+1+1+1) 0 (g.out.length+1) none,.sl 4 0 g.hs.length (some g.hs.length),.fs tk false K.length (encs K),pv] 1 false))).put 4 (some (.cells (encs (g.hs.set o.n.toNat k)) 1 false)):=⟨_,rfl⟩
     have u1:H6.next=H5.next:=by rw[hH6];simp
     have u2:∀ id,id≠5→id≠4→H6.get id=H5.get id:=fun id h1 h2=>by rw[hH6];simp -implicitDefEqProofs [h1,h2]
     have u3:H6.get 5=some (.cells [.sl (H.next+1+1+1) 0 (g.out.length+1) none,.sl 4 0 g.hs.length (some g.hs.length),.fs tk false K.length (encs K),pv] 1 false):=by rw[hH6];simp
     have u4:H6.get 4=some (.cells (encs (g.hs.set o.n.toNat k)) 1 false):=by rw[hH6];simp
     simp only[←hH6]
     have hL:Sl H6 (Aq X (.sl (H.next+1+1+1) 0 (g.out.length+1) none) pv) (.sl (H.next+1) 0 1 (some 1)) 7 1 (encs [o]) :=
      .inr ⟨H.next+1,some 1,rfl,.inr rfl,⟨⟨by omega,fun h=>by have:=hX _ h;omega⟩,fun j m c hj=>by cases hj;omega,fun j m c hj=>by have:=acc_lt pl _ _ _ hj;omega⟩,by omega,by rw[u2 _ (by omega) (by omega),yL];simp,by simp⟩
     have hS:Sl H6 (Aq X (.sl (H.next+1+1+1) 0 (g.out.length+1) none) pv) .ns 1 0 (encs ([]:List Str)):=.inl (.inr ⟨rfl,rfl,rfl⟩)
     have accN:=acc_keep (H':=H6) acc5 (by omega) fun id a b hv=>by cases hv;exact u2 _ (by omega) (by omega)
     refine⟨_,⟨cs++[.i .i64 40,.i .i64 k,.sl (H.next+1) 0 1 (some 1),.s [],.ns],{
      gM:=by rw[u3];simp
      gH:=u4
      nx:=by omega
      acc:=by simpa using accN
      pl:=acc_keep pl (by omega) fun id a b hv=>by
       have:=acc_lt pl _ _ _ hv
       rw[u2 _ (by omega) (by omega)]
       exact y0 id (by omega) fun j m c hj=>(dis j m c hj id a b hv).symm
      dis:=fun i m c hi j n d hj=>by cases hi;have:=acc_lt pl _ _ _ hj;omega
      out:=out_add (s:=⟨40,k,[o],[],[]⟩) hL hS _ _ (out_keep (by omega) (fun id h1 h2=>⟨by rw[u2 _ (by have:=h1.1;omega) (by have:=h1.1;omega)];exact y0 id h2 h1.2.1,h1.1,fun j m c hj=>by cases hj;omega,h1.2.2⟩) _ _ out)}⟩,⟨by omega,fun id h1 h2 h3 h4 h5=>by rw[u2 _ h2 h3];exact y0 id h1 h4⟩,fun id h1 h2 j m c hj=>by cases hj;omega⟩
    ·have he:checkI K g o k=g:=by unfold checkI;rw[if_neg];simp -implicitDefEqProofs [saysI,hke,hkk]
     simp -implicitDefEqProofs [I37,gM,gH,n3,n4,n5,k1,a1,a2,hxe,hxg,hu,hK,hK2,hke,hkg,hkk]
     simpa using stay he _
   ·have hK2:(K.length:Int)≤o.n:=by omega
    have he:checkI K g o k=g:=by unfold checkI;rw[if_neg];simp -implicitDefEqProofs [saysI,hK]
    simp -implicitDefEqProofs [I37,gM,gH,n3,n4,n5,k1,a1,a2,hxe,hxg,hu,hK,hK2]
    simpa using stay he _
  ·have he:checkI K g o k=g:=by unfold checkI;rw[if_neg];simp -implicitDefEqProofs [saysI,hxe,hu]
   simp -implicitDefEqProofs [I37,gM,gH,n3,n4,n5,k1,a1,a2,hxe,hxg,hu]
   simpa using stay he _
 ·have he:checkI K g o k=g:=by unfold checkI;rw[if_neg];simp -implicitDefEqProofs [saysI,k1]
  simp -implicitDefEqProofs [I37,gM,gH,n3,n4,n5,k1]
  simpa using stay he _
end
end Go.Proofs.YtbfajkcmehaliabDoor
namespace Go.Proofs.YtbfajkcmehaliabDoor
open Go Go.RI
section
variable {G:AHeap} (hG:G.next=2)
include hG
set_option maxHeartbeats 1000000 in
theorem t_gmoved(l:List Opn)(hlen:l.length<1099511627776)(pl:List Int)(h:∀ o∈l,o.kind=2→0≤o.n∧o.n<pl.length)(hb:∀ o∈l,o.v.bulk<1099511627776)(t f tb:Bool)(vO vH vK:AVal):pureR IP G 22 [.fp [vO,vH,vK,.fs tb false pl.length (encs pl)],.fs t f l.length (encs l)]=some (.fs false false l.length (encs (l.map (movedO pl)))):=by
 refine pure_run ip22 rfl ?_
 simp -implicitDefEqProofs [I22,hG]
 refine wp_loop_list (l:=l) (by omega) (fun i todo e H=>∃ lv,e=[(0,.fp [vO,vH,vK,.fs tb false pl.length (encs pl)]),(4,lv),(7,.fs t f l.length (encs l)),(8,.i .i64 l.length),(9,.i .i64 i)]∧2≤H.next∧Acc H 2 lv 7 i (encs ((l.take i).map (movedO pl)))) ?_ ?_ ?_
 ·rintro i o todo e H' hx hd hlt hlt2 hlt3 ⟨lv,rfl,n3,hL⟩
  have hk2:=h o (List.mem_of_getElem? hx)
  have c1:=t_gownV hG o.v (hb o (List.mem_of_getElem? hx)) false false
  simp at c1
  clear hlt
  by_cases k2:o.kind=2
  ·obtain⟨a1,a2⟩:=hk2 k2
   obtain⟨p,hp⟩:=get_of_lt (l:=pl) (i:=o.n.toNat) (by omega)
   have hp2:∀ h,pl[o.n.toNat]'h=p:=fun h=>by rw[List.getElem?_eq_getElem h] at hp;exact Option.some.inj hp
   have hm:movedO pl o=⟨2,p,o.v⟩:=by unfold movedO;rw[if_pos k2,hp];cases o;simp at k2;simp -implicitDefEqProofs [k2]
   clear hk2
   simp -implicitDefEqProofs [L22a,hlt2,hlt3,hx,n3,c1,k2,a1,a2,hp,hp2]
   refine step_app (lo':=2) (acc_keep hL (by simp<;>omega) ?_) (m:=1) (ys:=Enc.cells (movedO pl o)) (by omega) (by simp<;>omega) (more_lit (cs:=Enc.cells (movedO pl o)) (e:=7) (ro:=false) (by simp -implicitDefEqProofs [hm]) (by simp) (by omega)) (by simp) (by omega) (by omega) (by omega) (by omega) ?_
   ·intro id a b hv
    have:=acc_lt hL id a b hv
    simp -implicitDefEqProofs [show ¬ id=H'.next+1 by omega,show ¬ id=H'.next by omega]
   intro H2 hn2 hL2 hf2
   simp at hn2 hL2
   simp -implicitDefEqProofs [hlt3]
   exact⟨by omega,by simpa[List.take_add_one,hx] using hL2⟩
  ·have hm:movedO pl o=o:=by unfold movedO;rw[if_neg k2]
   simp -implicitDefEqProofs [L22a,hlt2,hlt3,hx,n3,c1,k2]
   refine step_app (lo':=2) (acc_keep hL (by simp<;>omega) ?_) (m:=1) (ys:=Enc.cells (movedO pl o)) (by omega) (by simp<;>omega) (more_lit (cs:=Enc.cells (movedO pl o)) (e:=7) (ro:=false) (by simp -implicitDefEqProofs [hm]) (by simp) (by omega)) (by simp) (by omega) (by omega) (by omega) (by omega) ?_
   ·intro id a b hv
    have:=acc_lt hL id a b hv
    simp -implicitDefEqProofs [show ¬ id=H'.next+1 by omega,show ¬ id=H'.next by omega]
   intro H2 hn2 hL2 hf2
   simp at hn2 hL2
   simp -implicitDefEqProofs [hlt3]
   exact⟨by omega,by simpa[List.take_add_one,hx] using hL2⟩
 ·rintro e H' ⟨lv,rfl,hn,hL⟩
  rw[List.take_length] at hL
  have:=acc_frz (k:=15) hL frz_encs
  simp -implicitDefEqProofs [L22a,this]
 ·exact⟨.ns,by simp,by omega,acc_none⟩
theorem t_gnot(g:GS)(cs:List AVal)(hT:OutT cs g.out)(ta tb:Bool)(vK vp:AVal)(o:Opn)(kind:Int)(h1:o.kind=1→0≤o.n∧o.n<g.hs.length)(h2:o.kind=2→0≤o.n∧o.n<g.out.length) :
  pureR IP G 39 [.ag (Enc.cells o),.fp [.fp [.fs ta false g.out.length cs,.fs tb false g.hs.length (encs g.hs),vK,vp]],.fp [.i .i64 kind]]=some (.b (!decide (knownI g o=kind))):=by
 have c1:=t_known hG g cs hT ta tb vK vp o h1 h2
 simp at c1
 refine pure_run ip39 rfl ?_
 simp -implicitDefEqProofs [I39,hG,c1]
end
end Go.Proofs.YtbfajkcmehaliabDoor
namespace Go.Proofs.YtbfajkcmehaliabDoor
open Go Go.RI
section
variable {G:AHeap} (hG:G.next=2)
include hG
theorem t_idxO2(g:Nat)(c1 c2:List AVal)(p:Opn→Bool)(hg:∀ lo l H,theCalls IP G lo g l H=given H ((snaps H l).bind (pureR IP G g)))(l:List Opn)(hl:l.length<1099511627776)(hp:∀ o∈l,pureR IP G g [.ag (Enc.cells o),.fp c1,.fp c2]=some (.b (p o)))(t:Bool):pureR IP G 54 [.fs t false l.length (encs l),.fn (.func g) [] [.fp c1,.fp c2]]=some (.i .i64 (idxF p l 0)):=by
 simp only[snaps_eq] at hg
 refine pure_run ip54 rfl ?_
 simp -implicitDefEqProofs [I54,hG]
 refine wp_loop_list (l:=l) (by omega) (fun i todo e H=>e=[(0,.fs t false l.length (encs l)),(1,.fn (.func g) [] [.fp c1,.fp c2]),(7,.i .i64 l.length),(8,.i .i64 i)]∧H=G∧idxF p l 0=idxF p todo i) ?_ ?_ ?_
 ·rintro i x todo e H hx hd hlt hlt2 hlt3 ⟨rfl,rfl,hn⟩
  have cc:=hp x (List.mem_of_getElem? hx)
  simp at cc
  rw[idxF] at hn
  clear hlt
  simp -implicitDefEqProofs [L54a,hlt2,hlt3,hx,hg,cc,hG]
  refine test_intro ?_ ?_<;>intro h2<;>simp -implicitDefEqProofs [hlt3,hG]
  ·rw[hn,h2];simp
  ·rw[hn,h2];simp
 ·rintro e H ⟨rfl,rfl,hn⟩
  simp -implicitDefEqProofs [L54a,hG]
  rw[hn];rfl
 ·simp -implicitDefEqProofs [hG]
theorem t_anyO2(g:Nat)(c1 c2:List AVal)(p:Opn→Bool)(hg:∀ lo l H,theCalls IP G lo g l H=given H ((snaps H l).bind (pureR IP G g)))(l:List Opn)(hl:l.length<1099511627776)(hp:∀ o∈l,pureR IP G g [.ag (Enc.cells o),.fp c1,.fp c2]=some (.b (p o)))(t f:Bool):pureR IP G 38 [.fs t f l.length (encs l),.fn (.func g) [] [.fp c1,.fp c2]]=some (.b (l.any p)):=by
 have cc:=t_idxO2 hG g c1 c2 p hg l hl hp
 refine pure_run ip38 rfl ?_
 simp -implicitDefEqProofs [I38,hG,cc]
 rw[←idxF_any _ l 0 (by omega)]
theorem mk_snap{X:Nat→Prop}{K:List Int}{tk:Bool}{g:GS}{ov pv:AVal}{cs:List AVal}{H:AHeap}(hM:MkI X K tk g ov pv cs H)(k:Nat):∃ ta tb tp cs2,OutT cs2 g.out∧snapV H (k+5) (.p 5 0)=some (.fp [.fs ta false g.out.length cs2,.fs tb false g.hs.length (encs g.hs),.fs tk false K.length (encs K),.fs tp false g.pl.length (encs g.pl)]):=by
 obtain⟨gM,gH,nx,acc,pl,dis,out⟩:=hM
 obtain⟨cs2,e1,e2⟩:=out_snap (k:=k+1) _ _ out
 have s1:=acc_snap (k:=k+3) acc e1
 have s2:=hold_snap (k:=k+3) (H:=H) (lo:=4) (v:=.sl 4 0 g.hs.length (some g.hs.length)) (esz:=1) (n:=g.hs.length) (cells:=encs g.hs) (.inr ⟨4,some g.hs.length,rfl,.inr rfl,Nat.le_refl _,by omega,gH,by rw[encs_len];simp -implicitDefEqProofs [Enc.sz]⟩) snap_encs
 have s3:=acc_snap (k:=k+3) pl snap_encs
 simp at s1 s2 s3
 exact⟨decide (0<g.out.length),decide (0<g.hs.length),decide (0<g.pl.length),cs2,e2,by simp -implicitDefEqProofs [gM,s1,s2,s3]⟩
theorem chkL_snoc{K:List Int}{k:Int}:∀(l:List Opn) (g:GS) (o:Opn),chkL K k g (l++[o])=checkI K (chkL K k g l) o k
 | [],g,o=>rfl
 | p::l,g,o=>by rw[List.cons_append,chkL,chkL,chkL_snoc l]
omit hG in
theorem chkL_le{K:List Int}{k:Int}:∀(l:List Opn) (g:GS),(chkL K k g l).out.length≤g.out.length+l.length
  | [],g=>Nat.le_refl _
  | o::l,g=>by
    have h1:=chkL_le (K:=K) (k:=k) l (checkI K g o k)
    have h2:(checkI K g o k).out.length≤g.out.length+1:=by unfold checkI;split<;>simp
    simp only[chkL,List.length_cons]
    omega
def NoRow(id:Nat)(ov:AVal):Prop:=∀ j m c,ov=.sl j 0 m c→id≠j
set_option maxHeartbeats 1000000 in
theorem t_gchks{X:Nat→Prop}{K:List Int}{tk:Bool}{g:GS}{nh:Int}{m:Nat}{ov pv:AVal}{cs:List AVal}(hg:GoodG nh g m)(l:List Opn)(hl:∀ o∈l,opnFits nh g.out.length o=true)(hlen:g.out.length+l.length<1000000)(k:Int)(hk:k=1∨k=2)(b2 b3 b5:Nat)(w4:AVal)(c3:List AVal)
  (Q:Post) (H:AHeap) (hM:MkI X K tk g ov pv cs H) (g2:H.get b2=some (.cells [.p 5 0] 1 false)) (g3:H.get b3=some (.cells c3 1 false)) (g5:H.get b5=some (.cells [.i .i64 k] 1 false)) (hX:∀ id,X id→id<H.next) (hb:∀ b,b=b2∨b=b3∨b=b5→6≤b∧b<H.next∧NoRow b ov∧NoRow b pv)
  (hQ:∀ w ov' cs' H',MkI X K tk (chkL K k g l) ov' pv cs' H'→H'.get b2=some (.cells [.p 5 0] 1 false)→H'.get b3=some (.cells c3 1 false)→H'.get b5=some (.cells [.i .i64 k] 1 false)→H.next≤H'.next→(∀ b,b<H.next→NoRow b ov→NoRow b ov')→Fr ov pv H H' →
   Q (.exit 0) [(2,.p b2 0),(3,.p b3 0),(4,w4),(5,.p b5 0),(27,.fs false false l.length (encs l)),(28,.i .i64 l.length),(29,.i .i64 l.length),(30,w)] H') :
  wp (theCalls IP G 2) 2 (.loop L21a) Q [(2,.p b2 0),(3,.p b3 0),(4,w4),(5,.p b5 0),(27,.fs false false l.length (encs l)),(28,.i .i64 l.length),(29,.i .i64 0)] H:=by
 refine wp_loop_list (l:=l) (by omega) (fun i todo e H'=>e=[(2,.p b2 0),(3,.p b3 0),(4,w4),(5,.p b5 0),(27,.fs false false l.length (encs l)),(28,.i .i64 l.length),(29,.i .i64 i)]∧∃ ov' cs',MkI X K tk (chkL K k g (l.take i)) ov' pv cs' H'∧GoodG nh (chkL K k g (l.take i)) m∧(chkL K k g (l.take i)).out.length≤g.out.length+i∧g.out.length≤(chkL K k g (l.take i)).out.length∧H'.get b2=some (.cells [.p 5 0] 1 false)∧H'.get b3=some (.cells c3 1 false)∧H'.get b5=some (.cells [.i .i64 k] 1 false)∧H.next≤H'.next∧(∀ b,b<H.next→NoRow b ov→NoRow b ov')∧Fr ov pv H H') ?_ ?_ ?_
 ·rintro i o todo e H' hx hd hlt hlt2 hlt3 ⟨rfl,ov',cs',hM',hg',hle,hge,k2,k3,k5,hn,hnr,hfr⟩
  have ho:=hl o (List.mem_of_getElem? hx)
  have nx:=hM'.nx
  have n3:2≤H'.next:=by omega
  have bb2:=hb b2 (.inl rfl)
  have bb3:=hb b3 (.inr (.inl rfl))
  have bb5:=hb b5 (.inr (.inr rfl))
  have m2:¬ b2=H'.next:=by omega
  have m5:¬ b5=H'.next:=by omega
  obtain⟨H1,hH1⟩:∃ H1,H1=(H'.push (.cells [.i .i64 0,.i .i64 0,.i .i64 0,.i .i64 0,.s [],.ns,.ns] 1 false)).put H'.next (some (.cells (Enc.cells o) 1 false)):=⟨_,rfl⟩
  have hk1:∀ id,id<H'.next→H1.get id=H'.get id:=fun id h=>by rw[hH1];simp -implicitDefEqProofs [show ¬ id=H'.next by omega]
  have q3:H1.get H'.next=some (.cells (Enc.cells o) 1 false):=by rw[hH1];simp
  have q4:H1.next=H'.next+1:=by rw[hH1];simp
  have hM1:=mk_box hG hM' (H':=H1) (by omega) hk1
  obtain⟨v,H2,hc,rfl,ov2,cs2,hM2,hF2,hN2⟩:=t_gcheck hG hM1 (by omega) o k (fun h=>by have:=opnFits_home ho h;rw[hg'.hs];omega) (fun id h=>by have:=hX id h;omega)
  obtain⟨j1,j2,j3⟩:=checkI_good (K:=K) (k:=k) (o:=o) hg' (opnFits_mono (by omega) ho) hk
  have hjl:(checkI K (chkL K k g (l.take i)) o k).out.length≤(chkL K k g (l.take i)).out.length+1:=by unfold checkI;split<;>simp
  have htk:chkL K k g (l.take (i+1))=checkI K (chkL K k g (l.take i)) o k:=by rw[List.take_add_one,hx];exact chkL_snoc hG _ _ _
  have w2:=(hk1 b2 (by omega)).trans k2
  have w5:=(hk1 b5 (by omega)).trans k5
  simp at hH1 q3 hc
  clear hlt
  simp -implicitDefEqProofs [L21a,hlt2,hlt3,hx,n3,←hH1,q3,w2,w5,hc]
  refine⟨ov2,⟨cs2,by rw[htk];exact hM2⟩,by rw[htk];exact j1,by rw[htk];omega,by rw[htk];omega,?_,?_,?_,?_,?_,?_⟩
  ·rw[hF2.2 b2 (by omega) (by omega) (by omega) (hnr _ (by omega) bb2.2.2.1) bb2.2.2.2];exact w2
  ·rw[hF2.2 b3 (by omega) (by omega) (by omega) (hnr _ (by omega) bb3.2.2.1) bb3.2.2.2];exact(hk1 b3 (by omega)).trans k3
  ·rw[hF2.2 b5 (by omega) (by omega) (by omega) (hnr _ (by omega) bb5.2.2.1) bb5.2.2.2];exact w5
  ·have:=hF2.1;omega
  ·exact fun b h1 h2=>hN2 b (by omega) (hnr b h1 h2)
  ·exact⟨by have:=hF2.1;omega,fun id h1 h2 h3 h4 h5=>by rw[hF2.2 id (by omega) h2 h3 (hnr id h1 h4) h5,hk1 id (by omega)];exact hfr.2 id h1 h2 h3 h4 h5⟩
 ·rintro e H' ⟨rfl,ov',cs',hM',hg',hle,hge,k2,k3,k5,hn,hnr,hfr⟩
  rw[List.take_length] at hM'
  simp -implicitDefEqProofs [L21a]
  exact hQ _ ov' cs' H' hM' k2 k3 k5 hn hnr hfr
 ·exact⟨by simp,ov,cs,hM,hg,by simp -implicitDefEqProofs [chkL],by simp -implicitDefEqProofs [chkL],g2,g3,g5,Nat.le_refl _,fun _ _ h=>h,Nat.le_refl _,fun _ _ _ _ _ _=>rfl⟩
def N0(id:Nat):Prop:=False
theorem mk_boxX{X:Nat→Prop}{K:List Int}{tk:Bool}{g:GS}{ov pv:AVal}{cs:List AVal}{H H':AHeap}(h:MkI X K tk g ov pv cs H)(hn:H.next≤H'.next)(hk:∀ id,id<H.next→H'.get id=H.get id)(b:Nat)(hb:H.next≤b):MkI (fun id=>id=b) K tk g ov pv cs H' :=
 { gM:=(hk _ (by have:=h.nx;omega)).trans h.gM,gH:=(hk _ (by have:=h.nx;omega)).trans h.gH,nx:=by have:=h.nx;omega,acc:=acc_keep h.acc hn fun id a b hv=>hk id (acc_lt h.acc _ _ _ hv).2,pl:=acc_keep h.pl hn fun id a b hv=>hk id (acc_lt h.pl _ _ _ hv).2,dis:=h.dis,out:=out_keep hn (fun id h1 h2=>⟨hk id h2,⟨h1.1.1,by omega⟩,h1.2⟩) _ _ h.out }
theorem mk_put{K:List Int}{tk:Bool}{g:GS}{ov pv:AVal}{cs:List AVal}{H H':AHeap}(b:Nat)(h:MkI (fun id=>id=b) K tk g ov pv cs H)(hn:H'.next=H.next)(hk:∀ id,id≠b→H'.get id=H.get id)(hb:6≤b)(ho:NoRow b ov)(hp:NoRow b pv):MkI N0 K tk g ov pv cs H' :=
 { gM:=(hk _ (by omega)).trans h.gM,gH:=(hk _ (by omega)).trans h.gH,nx:=by have:=h.nx;omega,acc:=acc_keep h.acc (by omega) fun id a c hv=>hk id fun e=>ho id a c hv e.symm,pl:=acc_keep h.pl (by omega) fun id a c hv=>hk id fun e=>hp id a c hv e.symm,dis:=h.dis,out:=out_keep (by omega) (fun id h1 h2=>⟨hk id h1.1.2,⟨h1.1.1,fun h=>h⟩,h1.2⟩) _ _ h.out }
theorem mk_free{X:Nat→Prop}{K:List Int}{tk:Bool}{g:GS}{ov pv:AVal}{cs:List AVal}{H:AHeap}(h:MkI X K tk g ov pv cs H):MkI N0 K tk g ov pv cs H :=
 { gM:=h.gM,gH:=h.gH,nx:=h.nx,acc:=h.acc,pl:=h.pl,dis:=h.dis,out:=out_keep (Nat.le_refl _) (fun id h1 h2=>⟨rfl,⟨h1.1.1,fun h=>h⟩,h1.2⟩) _ _ h.out }
theorem mk_hs{X:Nat→Prop}{K:List Int}{tk:Bool}{g:GS}{ov pv:AVal}{cs:List AVal}{H:AHeap}(hM:MkI X K tk g ov pv cs H)(hs':List Int)(hl:hs'.length=g.hs.length):MkI X K tk ⟨g.out,hs',g.pl⟩ ov pv cs (H.put 4 (some (.cells (encs hs') 1 false))):=by
 obtain⟨H6,hH6⟩:∃ H6,H6=H.put 4 (some (.cells (encs hs') 1 false)):=⟨_,rfl⟩
 have hn:H6.next=H.next:=by rw[hH6];rfl
 have ne:∀(id:Nat),id≠4→H6.get id=H.get id:=fun id h=>by rw[hH6];simp -implicitDefEqProofs [h]
 have g2:H6.get 4=some (.cells (encs hs') 1 false):=by rw[hH6];simp
 rw[←hH6]
 have ho:Out H6 (Aq X ov pv) cs g.out:=out_keep (by omega) (fun id h1 h2=>⟨ne _ (by have:=h1.1;omega),h1⟩) _ _ hM.out
 exact{ gM:=by rw[ne _ (by omega),hM.gM,hl],gH:=g2,nx:=by have:=hM.nx;omega,acc:=acc_keep hM.acc (by omega) fun id a b hv=>ne _ (by have:=acc_lt hM.acc _ _ _ hv;omega),pl:=acc_keep hM.pl (by omega) fun id a b hv=>ne _ (by have:=acc_lt hM.pl _ _ _ hv;omega),dis:=hM.dis,out:=ho }
theorem mk_pl{X:Nat→Prop}{K:List Int}{tk:Bool}{g:GS}{ov pv:AVal}{cs:List AVal}{H H6:AHeap}(hM:MkI X K tk g ov pv cs H)(x:Int)(id0:Nat)(h0:H.next≤id0)(acc6:Acc H6 6 (.sl id0 0 (g.pl.length+1) none) 1 (g.pl.length+1) (encs g.pl++[.i .i64 x]))(hn:H.next≤H6.next)(fr:∀ id,id<H.next→NoRow id pv→H6.get id=H.get id) :
  MkI X K tk ⟨g.out,g.hs,g.pl++[x]⟩ ov (.sl id0 0 (g.pl.length+1) none) cs (H6.put 5 (some (.cells [ov,.sl 4 0 g.hs.length (some g.hs.length),.fs tk false K.length (encs K),.sl id0 0 (g.pl.length+1) none] 1 false))):=by
 have nx:=hM.nx
 obtain⟨o,hob⟩:∃ o,o=some (AObj.cells [ov,.sl 4 0 g.hs.length (some g.hs.length),.fs tk false K.length (encs K),.sl id0 0 (g.pl.length+1) none] 1 false):=⟨_,rfl⟩
 rw[←hob]
 have nr:∀ id,id<6→NoRow id pv:=fun id h j m c hj=>by have:=acc_lt hM.pl _ _ _ hj;omega
 have ne:∀(id:Nat),id≠5→(H6.put 5 o).get id=H6.get id:=fun id h=>by simp -implicitDefEqProofs [h]
 have hn':H.next≤(H6.put 5 o).next:=by simpa using hn
 have hacc:Acc (H6.put 5 o) 6 ov 5 g.out.length cs:=acc_keep hM.acc hn' fun id a b hv=>by
  have:=acc_lt hM.acc _ _ _ hv
  rw[ne _ (by omega)]
  exact fr _ this.2 fun j m c hj=>hM.dis id a b hv j m c hj
 have hpl:=acc_keep (H':=H6.put 5 o) acc6 (Nat.le_refl _) fun id a b hv=>by have:=acc_lt acc6 _ _ _ hv;exact ne _ (by omega)
 have hout:Out (H6.put 5 o) (Aq X ov (.sl id0 0 (g.pl.length+1) none)) cs g.out:=out_keep (P:=Aq X ov pv) hn' (fun id h1 h2=>⟨by rw[ne _ (by have:=h1.1;omega)];exact fr _ h2 h1.2.2,h1.1,h1.2.1,fun j m c hj=>by cases hj;omega⟩) _ _ hM.out
 exact{ gM:=by simp -implicitDefEqProofs [hob],gH:=by rw[ne _ (by omega),fr _ (by omega) (nr _ (by omega))];exact hM.gH,nx:=by omega,acc:=hacc,pl:=by simpa using hpl,dis:=fun i m c hi j n d hj=>by cases hj;have:=acc_lt hM.acc _ _ _ hi;omega,out:=hout }
theorem mk_out{X:Nat→Prop}{K:List Int}{tk:Bool}{g:GS}{ov pv:AVal}{cs:List AVal}{H H6:AHeap}(hM:MkI X K tk g ov pv cs H)(t:Stp)(lv nv:AVal)(id0:Nat)(h0:H.next≤id0)(acc6:Acc H6 6 (.sl id0 0 (g.out.length+1) none) 5 (g.out.length+1) (cs++[.i .i64 t.op,.i .i64 t.n,lv,.s t.s,nv]))(hn:H.next≤H6.next)(fr:∀ id,id<H.next→NoRow id ov→H6.get id=H.get id)
  (hL:Sl H (Aq X ov pv) lv 7 t.l.length (encs t.l)) (hS:Sl H (Aq X ov pv) nv 1 t.names.length (encs t.names)) :
  MkI X K tk ⟨g.out++[t],g.hs,g.pl⟩ (.sl id0 0 (g.out.length+1) none) pv (cs++[.i .i64 t.op,.i .i64 t.n,lv,.s t.s,nv]) (H6.put 5 (some (.cells [.sl id0 0 (g.out.length+1) none,.sl 4 0 g.hs.length (some g.hs.length),.fs tk false K.length (encs K),pv] 1 false))):=by
 have nx:=hM.nx
 obtain⟨o,hob⟩:∃ o,o=some (AObj.cells [.sl id0 0 (g.out.length+1) none,.sl 4 0 g.hs.length (some g.hs.length),.fs tk false K.length (encs K),pv] 1 false):=⟨_,rfl⟩
 rw[←hob]
 have nr:∀ id,id<6→NoRow id ov:=fun id h j m c hj=>by have:=acc_lt hM.acc _ _ _ hj;omega
 have ne:∀(id:Nat),id≠5→(H6.put 5 o).get id=H6.get id:=fun id h=>by simp -implicitDefEqProofs [h]
 have hn':H.next≤(H6.put 5 o).next:=by simpa using hn
 have hq:∀ id,Aq X ov pv id→id<H.next→(H6.put 5 o).get id=H.get id∧Aq X (.sl id0 0 (g.out.length+1) none) pv id:=fun id h1 h2 =>
  ⟨by rw[ne _ (by have:=h1.1;omega)];exact fr _ h2 h1.2.1,h1.1,fun j m c hj=>by cases hj;omega,h1.2.2⟩
 have hacc:=acc_keep (H':=H6.put 5 o) acc6 (Nat.le_refl _) fun id a b hv=>by have:=acc_lt acc6 _ _ _ hv;exact ne _ (by omega)
 have hpl:Acc (H6.put 5 o) 6 pv 1 g.pl.length (encs g.pl):=acc_keep hM.pl hn' fun id a b hv=>by
  have:=acc_lt hM.pl _ _ _ hv
  rw[ne _ (by omega)]
  exact fr _ this.2 fun j m c hj=>(hM.dis j m c hj id a b hv).symm
 have hout:=out_add (sl_keep hL hn' hq) (sl_keep hS hn' hq) _ _ (out_keep hn' hq _ _ hM.out)
 exact{ gM:=by simp -implicitDefEqProofs [hob],gH:=by rw[ne _ (by omega),fr _ (by omega) (nr _ (by omega))];exact hM.gH,nx:=by omega,acc:=by simpa using hacc,pl:=hpl,dis:=fun i m c hi j n d hj=>by cases hi;have:=acc_lt hM.pl _ _ _ hj;omega,out:=hout }
end
end Go.Proofs.YtbfajkcmehaliabDoor
namespace Go.RI
open Go
mutual
theorem fitsV_mono:∀(v:Val) (w w' left left':Int),w'≤w→left≤left'→(fitsV v w left).2=true→(fitsV v w' left').2=true∧(fitsV v w' left').1=(fitsV v w left).1+(left'-left)
  | .mk k n s l ns,w,w',left,left',hw,hl,h=>by
    simp only[fitsV] at h ⊢
    split at h
    · cases h
    · rename_i hc
      rw[if_neg hc]
      have hc':¬(8≤w'∨left'-(1+s.length)-lens ns<0∨ownV (.mk k n s l ns)=false):=fun h=>hc (by
        rcases h with h|h|h
        · exact .inl (by omega)
        · exact .inr (.inl (by omega))
        · exact .inr (.inr h))
      rw[if_neg hc']
      obtain⟨h1,h2⟩:=fitsL_mono l (w+1) (w'+1) _ (left'-(1+s.length)-lens ns) (by omega) (by omega) h
      exact⟨h1,by rw[h2];omega⟩
theorem fitsL_mono:∀(l:List Val) (w w' left left':Int),w'≤w→left≤left'→(fitsL l w left).2=true→(fitsL l w' left').2=true∧(fitsL l w' left').1=(fitsL l w left).1+(left'-left)
  | [],w,w',left,left',hw,hl,h=>⟨rfl,by simp only[fitsL];omega⟩
  | v::l,w,w',left,left',hw,hl,h=>by
    simp only[fitsL] at h ⊢
    split at h
    · rename_i hc
      obtain⟨h1,h2⟩:=fitsV_mono v w w' left left' hw hl hc
      rw[if_pos hc,if_pos h1]
      obtain⟨h3,h4⟩:=fitsL_mono l w w' _ (fitsV v w' left').1 hw (by omega) h
      exact⟨h3,by rw[h4,h2];omega⟩
    · cases h
end
theorem fits_hands{homes a:Int}{s:Stp}(h:stpFits homes a s=true)(ho:s.op=23∨s.op=40):s.l.length=1:=by
 unfold stpFits at h
 rcases ho with ho|ho<;>simp[needs,ho] at h<;>omega
end Go.RI
namespace Go.RI
open Go
structure FS where
 out:List Stp
 pl:List Opn
def allC(l:List Opn):Bool:=l.all fun o=>decide (o.kind=3)
def knownF(i:Stp):Option Val:=if allC i.l=true then stepV i (i.l.map Opn.v) else none
def NoIs(out:List Stp)(o:Opn):Prop:=o.kind=2→∀ s,out[o.n.toNat]?=some s→s.op≠23∧s.op≠40
structure GoodF (nh:Int) (f:FS) (m:Nat):Prop where
 fits:Fits nh f.out
 pl:f.pl.length=m
 plfit:∀ p∈f.pl,opnFits nh f.out.length p=true
 plno:∀ p∈f.pl,NoIs f.out p
 left:∀(k:Nat) (s:Stp),f.out[k]?=some s→knownF s=none∧∀ o∈s.l,NoIs f.out o
 le:f.out.length≤m
structure SemF (homes:List Val) (f:FS) (made md:List Val):Prop where
 run:stepsV homes f.out []=some made
 at_:∀(j:Nat) (p:Opn),f.pl[j]?=some p→md[j]?=some (ofO homes made p)
end Go.RI
namespace Go.RI
open Go
structure OpB where
 o:Opn
 b:Bool
instance:Enc OpB:=⟨7,fun x=>[.i .i64 x.o.kind,.i .i64 x.o.n,.i .i64 x.o.v.kind,.i .i64 x.o.v.n,.s x.o.v.s,if x.b then .ns else .fs false false x.o.v.l.length (encs x.o.v.l),if x.b then .ns else .fs false false x.o.v.names.length (encs x.o.v.names)],fun _=>rfl⟩
@[simp] theorem cells_opB(x:OpB):Enc.cells x=[.i .i64 x.o.kind,.i .i64 x.o.n,.i .i64 x.o.v.kind,.i .i64 x.o.v.n,.s x.o.v.s,if x.b then .ns else .fs false false x.o.v.l.length (encs x.o.v.l),if x.b then .ns else .fs false false x.o.v.names.length (encs x.o.v.names)]:=rfl
theorem sz_opB:Enc.sz OpB=7:=rfl
theorem hold_sl{H:AHeap}{lo esz n:Nat}{v:AVal}{cells:List AVal}{P:Nat→Prop}(h:Hold H lo v esz n cells)(hP:∀ id c,v=.sl id 0 n c→P id):Sl H P v esz n cells:=by
 rcases h with⟨h|h,rfl,rfl⟩|⟨id,c,h1,h2,h3,h4,h5,h6⟩
 ·exact .inl (.inl ⟨true,h⟩)
 ·exact .inl (.inr ⟨h,rfl,rfl⟩)
 ·exact .inr ⟨id,c,h1,h2,hP id c h1,h4,h5,h6⟩
end Go.RI
namespace Go.Proofs.YtbfajkcmehaliabDoor
open Go Go.RI
section
variable {G:AHeap} (hG:G.next=2)
include hG
set_option maxHeartbeats 4000000 in
theorem t_gstep{K:List Int}{tk:Bool}{g:GS}{nh:Int}{m:Nat}{ov pv:AVal}{cs:List AVal}{H:AHeap}(hM:MkI N0 K tk g ov pv cs H)(hg:GoodG nh g m)(s:Stp)(hfs:stpFits nh m s=true)(hok:okStp s)(hm:m<100000)(hlen:g.out.length<100000) :
  ∃ v H',theCalls IP G 2 21 [.p 5 0,.ag (Enc.cells s)] H=some (v,H')∧v=.tu []∧∃ ov' pv' cs',MkI N0 K tk (RI.stepG K g s) ov' pv' cs' H'∧H.next≤H'.next∧∀ id,id<4→H'.get id=H.get id:=by
 have nx:=hM.nx
 have hsl:=fits_most hfs
 have hfl:=fits_all hfs
 have n3:2≤H.next:=by omega
 have n3b:2≤H.next+1:=by omega
 obtain⟨l',hl'⟩:∃ l',l'=s.l.map (movedO g.pl):=⟨_,rfl⟩
 have hll:l'.length=s.l.length:=by rw[hl'];simp
 have hlf:∀ o∈l',opnFits nh g.out.length o=true:=fun o ho=>by
  rw[hl'] at ho
  obtain⟨p,hp,rfl⟩:=List.mem_map.1 ho
  exact moved_fits hg (hfl p hp)
 obtain⟨H1,hH1⟩:∃ H1,H1=(H.push (.cells [.p 5 0] 1 false)).push (.cells (Enc.cells s) 1 false):=⟨_,rfl⟩
 have hk1:∀ id,id<H.next→H1.get id=H.get id:=fun id h=>by rw[hH1,get_push_lt (by simp;omega),get_push_lt h]
 have q2:H1.get H.next=some (.cells [.p 5 0] 1 false):=by rw[hH1];simp
 have q3:H1.get (H.next+1)=some (.cells (Enc.cells s) 1 false):=by rw[hH1];simp
 have q4:H1.next=H.next+2:=by rw[hH1];simp
 have hM1:=mk_box hG hM (H':=H1) (by omega) hk1
 obtain⟨ta,tb,tp,cs2,hT,sm⟩:=mk_snap hG hM1 11
 have c1:=t_gmoved hG s.l (by omega) g.pl (fun o ho hk=>by have:=opnFits_step (hfl o ho) hk;rw[hg.pl];exact this) (fun o ho=>by have:=hok.2.2.2 o ho;unfold okO at this;exact this) false false tp (.fs ta false g.out.length cs2) (.fs tb false g.hs.length (encs g.hs)) (.fs tk false K.length (encs K))
 rw[←hl'] at c1
 have c2:=t_gtyped hG s.op
 have bx:∀(H:AHeap) (a b:Nat),boxR H (.p a b)=some (some (.p H.next 0),H.push (.cells [.p a b] 1 false)):=fun _ _ _=>rfl
 refine calls_nil_of ip21 rfl rfl ?_
 simp at hH1 q3 sm c1 c2
 simp -implicitDefEqProofs [I21,bx,←hH1,q2,q3,sm,c1]
 refine step_clone (lo':=H.next+2) (by simp) (by omega) (by omega) (by have:=bulkS_len s.names;have:=hok.1;omega) (by omega) ?_
 intro nv H2 hn2 hN hnew hf2
 have r2:=(hf2 H.next (by omega)).trans q2
 have r3:=(hf2 (H.next+1) (by omega)).trans q3
 have n4:2≤H2.next:=by omega
 have n5:¬ H.next+1=H2.next:=by omega
 have n6:¬ H.next=H2.next:=by omega
 obtain⟨o1,o2⟩:=hold_one hN
 simp -implicitDefEqProofs [r2,r3,o1,o2,c2,n3,n3b,n4,n5,n6]
 obtain⟨H4,hH4⟩:∃ H4,H4=((((H2.put (H.next+1) (some (.cells [.i .i64 s.op,.i .i64 s.n,.fs false false s.l.length (encs l'),.s s.s,.fs false false s.names.length (encs s.names)] 1 false))).put (H.next+1) (some (.cells [.i .i64 s.op,.i .i64 s.n,.fs false false s.l.length (encs l'),.s s.s,nv] 1 false))).push (.cells [.i .i64 0] 1 false)).put H2.next (some (.cells [.i .i64 (typedI s.op).2.1] 1 false))):=⟨_,rfl⟩
 have hn4:H4.next=H2.next+1:=by rw[hH4];simp
 have hk4:∀ id,id<H2.next→id≠H.next+1→H4.get id=H2.get id:=fun id h1 h2=>by rw[hH4];simp -implicitDefEqProofs [h2,show ¬ id=H2.next by omega]
 have hk5:∀ id,id<H.next→H4.get id=H.get id:=fun id h=>by rw[hk4 id (by omega) (by omega),hf2 id (by omega),hk1 id h]
 have x2:H4.get H.next=some (.cells [.p 5 0] 1 false):=by rw[hk4 _ (by omega) (by omega)];exact r2
 have x3:H4.get (H.next+1)=some (.cells [.i .i64 s.op,.i .i64 s.n,.fs false false s.l.length (encs l'),.s s.s,nv] 1 false):=by rw[hH4];simp -implicitDefEqProofs [n5]
 have x5:H4.get H2.next=some (.cells [.i .i64 (typedI s.op).2.1] 1 false):=by rw[hH4];simp
 have hM4:=mk_box hG hM (H':=H4) (by omega) hk5
 have hN4:Hold H4 (H.next+2) nv 1 s.names.length (encs s.names):=hold_keep hN (by omega) fun id c hv=>hk4 id (hold_lt hN _ _ _ hv).2 (by have:=(hold_lt hN _ _ _ hv).1;omega)
 have hNl:∀ id c,nv=.sl id 0 s.names.length c→H.next+2≤id∧id<H2.next:=fun id c hv=>hold_lt hN _ _ _ hv
 have nrO:∀ b,H.next≤b→NoRow b ov:=fun b h j m c hj=>by have:=acc_lt hM.acc _ _ _ hj;omega
 have nrP:∀ b,H.next≤b→NoRow b pv:=fun b h j m c hj=>by have:=acc_lt hM.pl _ _ _ hj;omega
 simp only[←hH4]
 have hlI:(l'.length:Int)=s.l.length:=by omega
 cases hty:(typedI s.op).2.2
 ·have hcg:chkG K g s=g:=by unfold chkG;rw[if_neg (by rw[hty];simp)]
  have hop:opG g s.op l'=s.op:=by unfold opG;rw[if_neg (by rw[hty];simp)]
  have htg:turnG K g s=⟨s.op,s.n,l',s.s,s.names⟩:=by unfold turnG;rw[hcg,←hl',hop]
  by_cases h40:s.op=40
  ·obtain⟨o,hol⟩:=one_len (fits_hands hfs (.inr h40))
   obtain⟨p,hp⟩:∃ p,p=movedO g.pl o:=⟨_,rfl⟩
   have ho1:l'=[p]:=by rw[hl',hol,hp];rfl
   have hpf:=hlf p (by rw[ho1];simp)
   have hl0:0<s.l.length:=by rw[hol];simp
   have hne:¬ s.l=[]:=by rw[hol];simp
   have hd0:(encs l')[0]?=some (.i .i64 p.kind):=by rw[ho1];simp
   have hd1:(encs l')[1]?=some (.i .i64 p.n):=by rw[ho1];simp
   have hg0:(l'[0]?.getD default)=p:=by rw[ho1];rfl
   by_cases hk1:p.kind=1
   ·obtain⟨a1,a2⟩:=opnFits_home hpf hk1
    have a3:p.n.toNat<g.hs.length:=by rw[hg.hs];omega
    have a4:p.n<g.hs.length:=by have:=hg.hs;omega
    have a5:p.n.toNat+1≤g.hs.length:=by omega
    have hpk:=put_kind (k:=s.n) a3
    have e3:¬ 5=4:=by omega
    have sp:∀ a b,same (.p a b) (.p a b)=true:=fun a b=>by simp -implicitDefEqProofs [same]
    have gtl:g.out.length<200000:=by omega
    have gM4:=hM4.gM
    have gH4:=hM4.gH
    obtain⟨Ht,hHt⟩:∃ Ht,Ht=H4.put 4 (some (.cells (encs (g.hs.set p.n.toNat s.n)) 1 false)):=⟨_,rfl⟩
    have hMt:MkI N0 K tk ⟨g.out,g.hs.set p.n.toNat s.n,g.pl⟩ ov pv cs Ht:=by rw[hHt];exact mk_hs hG hM4 _ (by simp)
    have hnt:Ht.next=H4.next:=by rw[hHt];rfl
    have kt:∀ id,id≠4→Ht.get id=H4.get id:=fun id h=>by rw[hHt];simp -implicitDefEqProofs [h]
    have nrT:∀ b,H.next≤b→b<H4.next→NoRow b ov:=fun b h _=>nrO b h
    have t2:=(kt _ (by omega)).trans x2
    have t3:=(kt _ (by omega)).trans x3
    have tN:Hold Ht (H.next+2) nv 1 s.names.length (encs s.names):=hold_keep hN4 (by omega) fun id c hv=>kt id (by have:=hNl id c hv;omega)
    have tfr:∀ id,id<4→Ht.get id=H.get id:=fun id h=>by rw[kt _ (by omega)];exact hk5 id (by omega)
    have tM:=hMt.gM
    have tnx:=hMt.nx
    have tacc:=hMt.acc
    have tpl:=hMt.pl
    dsimp only at tM tacc tpl
    have nrO2:∀ b,H.next≤b→b<H4.next→NoRow b ov:=nrT
    simp -implicitDefEqProofs [x3,x2,h40,hl0,hne,hd0,hd1,hk1,a1,a4,a5,gM4,gH4,hpk,←hHt,t2,t3,tM,hold_len tacc.hold,sp]
    refine step_app (lo':=6) (acc_keep tpl (by simp<;>omega) ?_) (m:=1) (ys:=[.i .i64 (g.out.length:Int)]) (by omega) (by simp<;>omega) (more_lit (cs:=[.i .i64 (g.out.length:Int)]) (e:=1) (ro:=false) (by simp) (by simp) (by omega)) (by simp) (by omega) (by omega) (by have:=hg.pl;omega) (by omega) ?_
    ·intro id a b hv
     have:=acc_lt tpl id a b hv
     simp -implicitDefEqProofs [show ¬ id=Ht.next by omega]
    intro H6 hn6 acc6 hf6
    simp at hn6 acc6
    have f6:∀ id,id<Ht.next→NoRow id pv→H6.get id=Ht.get id:=fun id h1 h2=>by rw[hf6 id (by simp;omega) h2];exact get_push_lt h1
    have hM6:=mk_pl hG hMt (g.out.length:Int) (Ht.next+1) (by omega) acc6 (by omega) f6
    have lowP:∀ id,id<6→NoRow id pv:=fun id h j m c hj=>by have:=acc_lt tpl _ _ _ hj;omega
    have p2:=(f6 H.next (by omega) (nrP _ (by omega))).trans t2
    have p3:=(f6 (H.next+1) (by omega) (nrP _ (by omega))).trans t3
    have pM:=(f6 5 (by omega) (lowP _ (by omega))).trans tM
    obtain⟨H7,hH7⟩:∃ H7,H7=H6.put 5 (some (.cells [ov,.sl 4 0 g.hs.length (some g.hs.length),.fs tk false K.length (encs K),.sl (Ht.next+1) 0 (g.pl.length+1) none] 1 false)):=⟨_,rfl⟩
    rw[List.length_set] at hM6
    rw[←hH7] at hM6
    have hn7:H7.next=H6.next:=by rw[hH7];rfl
    have k7:∀ id,id≠5→H7.get id=H6.get id:=fun id h=>by rw[hH7];simp -implicitDefEqProofs [h]
    have m2:=(k7 H.next (by omega)).trans p2
    have m3:=(k7 (H.next+1) (by omega)).trans p3
    have mM:=hM6.gM
    dsimp only at mM
    rw[List.length_set] at mM
    simp -implicitDefEqProofs [p2,p3,pM,←hH7,m2,m3,mM,sp]
    have macc:=hM6.acc
    dsimp only at macc
    refine step_app (lo':=6) (acc_keep macc (by simp<;>omega) ?_) (m:=1) (ys:=[.i .i64 s.op,.i .i64 s.n,.fs false false s.l.length (encs l'),.s s.s,nv]) (by omega) (by simp<;>omega) (more_lit (cs:=[.i .i64 s.op,.i .i64 s.n,.fs false false s.l.length (encs l'),.s s.s,nv]) (e:=5) (ro:=false) (by simp) (by simp) (by omega)) (by simp) (by omega) (by omega) (by omega) (by omega) ?_
    ·intro id a b hv
     have:=acc_lt macc id a b hv
     simp -implicitDefEqProofs [show ¬ id=H7.next by omega]
    intro H8 hn8 acc8 hf8
    simp at hn8 acc8
    have f8:∀ id,id<H7.next→NoRow id ov→H8.get id=H7.get id:=fun id h1 h2=>by rw[hf8 id (by simp;omega) h2];exact get_push_lt h1
    have lowO:∀ id,id<6→NoRow id ov:=fun id h j m c hj=>by have:=acc_lt tacc _ _ _ hj;omega
    have q8:=(f8 H.next (by omega) (nrO2 _ (by omega) (by omega))).trans m2
    have qM:=(f8 5 (by omega) (lowO _ (by omega))).trans mM
    have hLs:Sl H7 (Aq N0 ov (.sl (Ht.next+1) 0 (g.pl.length+1) none)) (.fs false false s.l.length (encs l')) 7 (⟨s.op,s.n,l',s.s,s.names⟩:Stp).l.length (encs (⟨s.op,s.n,l',s.s,s.names⟩:Stp).l):=by
     show Sl H7 _ _ 7 l'.length (encs l')
     rw[hll];exact .inl (.inl ⟨false,rfl⟩)
    have hSs:Sl H7 (Aq N0 ov (.sl (Ht.next+1) 0 (g.pl.length+1) none)) nv 1 (⟨s.op,s.n,l',s.s,s.names⟩:Stp).names.length (encs (⟨s.op,s.n,l',s.s,s.names⟩:Stp).names) :=
     hold_sl (hold_keep tN (by omega) fun id c hv=>by have:=hNl id c hv;rw[k7 _ (by omega)];exact f6 _ (by omega) (nrP _ (by omega))) fun id c hv=>by
      have:=hNl id c hv
      exact⟨⟨by omega,fun h=>h⟩,nrO2 _ (by omega) (by omega),fun j m c hj=>by cases hj;omega⟩
    have hM8:=mk_out hG hM6 ⟨s.op,s.n,l',s.s,s.names⟩ (.fs false false s.l.length (encs l')) nv (H7.next+1) (by omega) acc8 (by omega) f8 hLs hSs
    rw[List.length_set] at hM8
    simp -implicitDefEqProofs [q8,qM,sp]
    have hst:RI.stepG K g s=⟨g.out++[⟨s.op,s.n,l',s.s,s.names⟩],(g.hs.set p.n.toNat s.n),g.pl++[(g.out.length:Int)]⟩:=by
     unfold RI.stepG
     rw[htg,hcg]
     simp only[←hl',noteG,hg0]
     rw[if_pos ⟨h40,hk1⟩]
    rw[hst]
    refine⟨⟨_,_,_,hM8⟩,by omega,fun id h=>?_⟩
    rw[if_neg (show ¬ id=5 by omega),f8 _ (by omega) (lowO _ (by omega)),k7 _ (by omega),f6 _ (by omega) (lowP _ (by omega))]
    exact tfr id h
   ·skip
    have gtl:g.out.length<200000:=by omega
    have sp:∀ a b,same (.p a b) (.p a b)=true:=fun a b=>by simp -implicitDefEqProofs [same]
    have nrT:∀ b,H.next≤b→b<H4.next→NoRow b ov:=fun b h _=>nrO b h
    have hMt:MkI N0 K tk ⟨g.out,g.hs,g.pl⟩ ov pv cs H4:=hM4
    have t2:=x2
    have t3:=x3
    have tN:=hN4
    have tfr:∀ id,id<4→H4.get id=H.get id:=fun id h=>hk5 id (by omega)
    have tM:=hMt.gM
    have tnx:=hMt.nx
    have tacc:=hMt.acc
    have tpl:=hMt.pl
    dsimp only at tM tacc tpl
    have nrO2:∀ b,H.next≤b→b<H4.next→NoRow b ov:=nrT
    simp -implicitDefEqProofs [x3,h40,hl0,hne,hd0,hk1,t2,t3,tM,hold_len tacc.hold,sp]
    refine step_app (lo':=6) (acc_keep tpl (by simp<;>omega) ?_) (m:=1) (ys:=[.i .i64 (g.out.length:Int)]) (by omega) (by simp<;>omega) (more_lit (cs:=[.i .i64 (g.out.length:Int)]) (e:=1) (ro:=false) (by simp) (by simp) (by omega)) (by simp) (by omega) (by omega) (by have:=hg.pl;omega) (by omega) ?_
    ·intro id a b hv
     have:=acc_lt tpl id a b hv
     simp -implicitDefEqProofs [show ¬ id=H4.next by omega]
    intro H6 hn6 acc6 hf6
    simp at hn6 acc6
    have f6:∀ id,id<H4.next→NoRow id pv→H6.get id=H4.get id:=fun id h1 h2=>by rw[hf6 id (by simp;omega) h2];exact get_push_lt h1
    have hM6:=mk_pl hG hMt (g.out.length:Int) (H4.next+1) (by omega) acc6 (by omega) f6
    have lowP:∀ id,id<6→NoRow id pv:=fun id h j m c hj=>by have:=acc_lt tpl _ _ _ hj;omega
    have p2:=(f6 H.next (by omega) (nrP _ (by omega))).trans t2
    have p3:=(f6 (H.next+1) (by omega) (nrP _ (by omega))).trans t3
    have pM:=(f6 5 (by omega) (lowP _ (by omega))).trans tM
    obtain⟨H7,hH7⟩:∃ H7,H7=H6.put 5 (some (.cells [ov,.sl 4 0 g.hs.length (some g.hs.length),.fs tk false K.length (encs K),.sl (H4.next+1) 0 (g.pl.length+1) none] 1 false)):=⟨_,rfl⟩
    skip
    rw[←hH7] at hM6
    have hn7:H7.next=H6.next:=by rw[hH7];rfl
    have k7:∀ id,id≠5→H7.get id=H6.get id:=fun id h=>by rw[hH7];simp -implicitDefEqProofs [h]
    have m2:=(k7 H.next (by omega)).trans p2
    have m3:=(k7 (H.next+1) (by omega)).trans p3
    have mM:=hM6.gM
    dsimp only at mM
    skip
    simp -implicitDefEqProofs [p2,p3,pM,←hH7,m2,m3,mM,sp]
    have macc:=hM6.acc
    dsimp only at macc
    refine step_app (lo':=6) (acc_keep macc (by simp<;>omega) ?_) (m:=1) (ys:=[.i .i64 s.op,.i .i64 s.n,.fs false false s.l.length (encs l'),.s s.s,nv]) (by omega) (by simp<;>omega) (more_lit (cs:=[.i .i64 s.op,.i .i64 s.n,.fs false false s.l.length (encs l'),.s s.s,nv]) (e:=5) (ro:=false) (by simp) (by simp) (by omega)) (by simp) (by omega) (by omega) (by omega) (by omega) ?_
    ·intro id a b hv
     have:=acc_lt macc id a b hv
     simp -implicitDefEqProofs [show ¬ id=H7.next by omega]
    intro H8 hn8 acc8 hf8
    simp at hn8 acc8
    have f8:∀ id,id<H7.next→NoRow id ov→H8.get id=H7.get id:=fun id h1 h2=>by rw[hf8 id (by simp;omega) h2];exact get_push_lt h1
    have lowO:∀ id,id<6→NoRow id ov:=fun id h j m c hj=>by have:=acc_lt tacc _ _ _ hj;omega
    have q8:=(f8 H.next (by omega) (nrO2 _ (by omega) (by omega))).trans m2
    have qM:=(f8 5 (by omega) (lowO _ (by omega))).trans mM
    have hLs:Sl H7 (Aq N0 ov (.sl (H4.next+1) 0 (g.pl.length+1) none)) (.fs false false s.l.length (encs l')) 7 (⟨s.op,s.n,l',s.s,s.names⟩:Stp).l.length (encs (⟨s.op,s.n,l',s.s,s.names⟩:Stp).l):=by
     show Sl H7 _ _ 7 l'.length (encs l')
     rw[hll];exact .inl (.inl ⟨false,rfl⟩)
    have hSs:Sl H7 (Aq N0 ov (.sl (H4.next+1) 0 (g.pl.length+1) none)) nv 1 (⟨s.op,s.n,l',s.s,s.names⟩:Stp).names.length (encs (⟨s.op,s.n,l',s.s,s.names⟩:Stp).names) :=
     hold_sl (hold_keep tN (by omega) fun id c hv=>by have:=hNl id c hv;rw[k7 _ (by omega)];exact f6 _ (by omega) (nrP _ (by omega))) fun id c hv=>by
      have:=hNl id c hv
      exact⟨⟨by omega,fun h=>h⟩,nrO2 _ (by omega) (by omega),fun j m c hj=>by cases hj;omega⟩
    have hM8:=mk_out hG hM6 ⟨s.op,s.n,l',s.s,s.names⟩ (.fs false false s.l.length (encs l')) nv (H7.next+1) (by omega) acc8 (by omega) f8 hLs hSs
    skip
    simp -implicitDefEqProofs [q8,qM,sp]
    have hst:RI.stepG K g s=⟨g.out++[⟨s.op,s.n,l',s.s,s.names⟩],g.hs,g.pl++[(g.out.length:Int)]⟩:=by
     unfold RI.stepG
     rw[htg,hcg]
     simp only[←hl',noteG]
     rw[if_neg (by rw[hg0];exact fun h=>hk1 h.2)]
    rw[hst]
    refine⟨⟨_,_,_,hM8⟩,by omega,fun id h=>?_⟩
    rw[if_neg (show ¬ id=5 by omega),f8 _ (by omega) (lowO _ (by omega)),k7 _ (by omega),f6 _ (by omega) (lowP _ (by omega))]
    exact tfr id h
  ·skip
   have gtl:g.out.length<200000:=by omega
   have sp:∀ a b,same (.p a b) (.p a b)=true:=fun a b=>by simp -implicitDefEqProofs [same]
   have nrT:∀ b,H.next≤b→b<H4.next→NoRow b ov:=fun b h _=>nrO b h
   have hMt:MkI N0 K tk ⟨g.out,g.hs,g.pl⟩ ov pv cs H4:=hM4
   have t2:=x2
   have t3:=x3
   have tN:=hN4
   have tfr:∀ id,id<4→H4.get id=H.get id:=fun id h=>hk5 id (by omega)
   have tM:=hMt.gM
   have tnx:=hMt.nx
   have tacc:=hMt.acc
   have tpl:=hMt.pl
   dsimp only at tM tacc tpl
   have nrO2:∀ b,H.next≤b→b<H4.next→NoRow b ov:=nrT
   simp -implicitDefEqProofs [x3,h40,t2,t3,tM,hold_len tacc.hold,sp]
   refine step_app (lo':=6) (acc_keep tpl (by simp<;>omega) ?_) (m:=1) (ys:=[.i .i64 (g.out.length:Int)]) (by omega) (by simp<;>omega) (more_lit (cs:=[.i .i64 (g.out.length:Int)]) (e:=1) (ro:=false) (by simp) (by simp) (by omega)) (by simp) (by omega) (by omega) (by have:=hg.pl;omega) (by omega) ?_
   ·intro id a b hv
    have:=acc_lt tpl id a b hv
    simp -implicitDefEqProofs [show ¬ id=H4.next by omega]
   intro H6 hn6 acc6 hf6
   simp at hn6 acc6
   have f6:∀ id,id<H4.next→NoRow id pv→H6.get id=H4.get id:=fun id h1 h2=>by rw[hf6 id (by simp;omega) h2];exact get_push_lt h1
   have hM6:=mk_pl hG hMt (g.out.length:Int) (H4.next+1) (by omega) acc6 (by omega) f6
   have lowP:∀ id,id<6→NoRow id pv:=fun id h j m c hj=>by have:=acc_lt tpl _ _ _ hj;omega
   have p2:=(f6 H.next (by omega) (nrP _ (by omega))).trans t2
   have p3:=(f6 (H.next+1) (by omega) (nrP _ (by omega))).trans t3
   have pM:=(f6 5 (by omega) (lowP _ (by omega))).trans tM
   obtain⟨H7,hH7⟩:∃ H7,H7=H6.put 5 (some (.cells [ov,.sl 4 0 g.hs.length (some g.hs.length),.fs tk false K.length (encs K),.sl (H4.next+1) 0 (g.pl.length+1) none] 1 false)):=⟨_,rfl⟩
   skip
   rw[←hH7] at hM6
   have hn7:H7.next=H6.next:=by rw[hH7];rfl
   have k7:∀ id,id≠5→H7.get id=H6.get id:=fun id h=>by rw[hH7];simp -implicitDefEqProofs [h]
   have m2:=(k7 H.next (by omega)).trans p2
   have m3:=(k7 (H.next+1) (by omega)).trans p3
   have mM:=hM6.gM
   dsimp only at mM
   skip
   simp -implicitDefEqProofs [p2,p3,pM,←hH7,m2,m3,mM,sp]
   have macc:=hM6.acc
   dsimp only at macc
   refine step_app (lo':=6) (acc_keep macc (by simp<;>omega) ?_) (m:=1) (ys:=[.i .i64 s.op,.i .i64 s.n,.fs false false s.l.length (encs l'),.s s.s,nv]) (by omega) (by simp<;>omega) (more_lit (cs:=[.i .i64 s.op,.i .i64 s.n,.fs false false s.l.length (encs l'),.s s.s,nv]) (e:=5) (ro:=false) (by simp) (by simp) (by omega)) (by simp) (by omega) (by omega) (by omega) (by omega) ?_
   ·intro id a b hv
    have:=acc_lt macc id a b hv
    simp -implicitDefEqProofs [show ¬ id=H7.next by omega]
   intro H8 hn8 acc8 hf8
   simp at hn8 acc8
   have f8:∀ id,id<H7.next→NoRow id ov→H8.get id=H7.get id:=fun id h1 h2=>by rw[hf8 id (by simp;omega) h2];exact get_push_lt h1
   have lowO:∀ id,id<6→NoRow id ov:=fun id h j m c hj=>by have:=acc_lt tacc _ _ _ hj;omega
   have q8:=(f8 H.next (by omega) (nrO2 _ (by omega) (by omega))).trans m2
   have qM:=(f8 5 (by omega) (lowO _ (by omega))).trans mM
   have hLs:Sl H7 (Aq N0 ov (.sl (H4.next+1) 0 (g.pl.length+1) none)) (.fs false false s.l.length (encs l')) 7 (⟨s.op,s.n,l',s.s,s.names⟩:Stp).l.length (encs (⟨s.op,s.n,l',s.s,s.names⟩:Stp).l):=by
    show Sl H7 _ _ 7 l'.length (encs l')
    rw[hll];exact .inl (.inl ⟨false,rfl⟩)
   have hSs:Sl H7 (Aq N0 ov (.sl (H4.next+1) 0 (g.pl.length+1) none)) nv 1 (⟨s.op,s.n,l',s.s,s.names⟩:Stp).names.length (encs (⟨s.op,s.n,l',s.s,s.names⟩:Stp).names) :=
    hold_sl (hold_keep tN (by omega) fun id c hv=>by have:=hNl id c hv;rw[k7 _ (by omega)];exact f6 _ (by omega) (nrP _ (by omega))) fun id c hv=>by
     have:=hNl id c hv
     exact⟨⟨by omega,fun h=>h⟩,nrO2 _ (by omega) (by omega),fun j m c hj=>by cases hj;omega⟩
   have hM8:=mk_out hG hM6 ⟨s.op,s.n,l',s.s,s.names⟩ (.fs false false s.l.length (encs l')) nv (H7.next+1) (by omega) acc8 (by omega) f8 hLs hSs
   skip
   simp -implicitDefEqProofs [q8,qM,sp]
   have hst:RI.stepG K g s=⟨g.out++[⟨s.op,s.n,l',s.s,s.names⟩],g.hs,g.pl++[(g.out.length:Int)]⟩:=by
    unfold RI.stepG
    rw[htg,hcg]
    simp only[←hl',noteG]
    rw[if_neg (by exact fun h=>h40 h.1)]
   rw[hst]
   refine⟨⟨_,_,_,hM8⟩,by omega,fun id h=>?_⟩
   rw[if_neg (show ¬ id=5 by omega),f8 _ (by omega) (lowO _ (by omega)),k7 _ (by omega),f6 _ (by omega) (lowP _ (by omega))]
   exact tfr id h
 ·obtain⟨kind,hkd⟩:∃ kind,kind=(typedI s.op).2.1:=⟨_,rfl⟩
  have hk:kind=1∨kind=2:=by rw[hkd];exact typed_kind hty
  obtain⟨gc,hgc⟩:∃ gc,gc=chkL K kind g l':=⟨_,rfl⟩
  have hcg:chkG K g s=gc:=by unfold chkG;rw[if_pos hty,←hl',←hkd,hgc]
  obtain⟨gg,ggl,ggp⟩:=chkG_good (K:=K) hg hfs
  rw[hcg] at gg ggl ggp
  have ggm:gc.out.length≤g.out.length+l'.length:=by rw[hgc];exact chkL_le _ _
  have h40:¬ s.op=40:=by rcases typed_cases hty with h|h|h|h|h|h|h<;>omega
  have hMX:=mk_boxX hG hM (H':=H4) (by omega) hk5 (H.next+1) (by omega)
  rw[←hkd] at x5
  have key:=t_gchks hG (X:=fun id=>id=H.next+1) (tk:=tk) (K:=K) (ov:=ov) (pv:=pv) (cs:=cs) hg l' hlf (by omega) kind hk H.next (H.next+1) H2.next (.i .i64 (typedI s.op).1) [.i .i64 s.op,.i .i64 s.n,.fs false false s.l.length (encs l'),.s s.s,nv]
  rw[hll] at key
  simp -implicitDefEqProofs [x3]
  refine key _ H4 hMX x2 x3 x5 (fun id h=>by omega) (fun b hb=>by
   have:H.next≤b∧b<H4.next:=by rcases hb with rfl|rfl|rfl<;>omega
   exact⟨by omega,this.2,nrO b this.1,nrP b this.1⟩) ?_
  intro w ov2 cs3 H5 hM5 y2 y3 y5 hn5 hnr hfr
  rw[←hgc] at hM5
  obtain⟨ta5,tb5,tp5,cs5,hT5,sm5⟩:=mk_snap hG hM5 9
  have c3:=t_anyO2 hG 39 [.fp [.fs ta5 false gc.out.length cs5,.fs tb5 false gc.hs.length (encs gc.hs),.fs tk false K.length (encs K),.fs tp5 false gc.pl.length (encs gc.pl)]] [.i .i64 kind] (fun o=>!decide (knownI gc o=kind)) (fun lo l H=>pu39) l' (by omega) (fun o ho=>t_gnot hG gc cs5 hT5 ta5 tb5 (.fs tk false K.length (encs K)) (.fs tp5 false gc.pl.length (encs gc.pl)) o kind (fun h=>by have:=opnFits_home (hlf o ho) h;rw[gg.hs];omega) (fun h=>by have:=opnFits_step (hlf o ho) h;omega)) false false
  have ean:(l'.any fun o=>!decide (knownI gc o=kind))=!(l'.all fun o=>decide (knownI gc o=kind)):=by simp -implicitDefEqProofs [List.not_all_eq_any_not]
  rw[ean,hll] at c3
  have nrT:∀ b,H.next≤b→b<H4.next→NoRow b ov2:=fun b h1 h2=>hnr b h2 (nrO b h1)
  have hM5f:MkI N0 K tk ⟨gc.out,gc.hs,g.pl⟩ ov2 pv cs3 H5:=by rw[←ggp];exact mk_free hG hM5
  have hN5:Hold H5 (H.next+2) nv 1 s.names.length (encs s.names):=hold_keep hN4 (by omega) fun id c hv=>by have:=hNl id c hv;exact hfr.2 id (by omega) (by omega) (by omega) (nrO _ (by omega)) (nrP _ (by omega))
  have lowP0:∀ id,id<6→NoRow id pv:=fun id h j m c hj=>by have:=acc_lt hM.pl _ _ _ hj;omega
  have lowO0:∀ id,id<6→NoRow id ov:=fun id h j m c hj=>by have:=acc_lt hM.acc _ _ _ hj;omega
  have fr5:∀ id,id<4→H5.get id=H.get id:=fun id h=>by rw[hfr.2 id (by omega) (by omega) (by omega) (lowO0 _ (by omega)) (lowP0 _ (by omega))];exact hk5 id (by omega)
  have sp:∀ a b,same (.p a b) (.p a b)=true:=fun a b=>by simp -implicitDefEqProofs [same]
  have gtl:gc.out.length<200000:=by omega
  simp at sm5 c3
  cases hall:l'.all fun o=>decide (knownI gc o=kind)
  ·skip
   have htg:turnG K g s=⟨s.op,s.n,l',s.s,s.names⟩:=by
    unfold turnG opG
    rw[hcg,←hl',if_pos hty,if_neg]
    rw[←hkd,hall];simp
   have hMt:=hM5f
   have t2:=y2
   have t3:=y3
   have tN:=hN5
   have tfr:=fr5
   rw[hall] at c3
   simp -implicitDefEqProofs [y2,y3,y5,sm5,c3,h40]
   have tM:=hMt.gM
   have tnx:=hMt.nx
   have tacc:=hMt.acc
   have tpl:=hMt.pl
   dsimp only at tM tacc tpl
   have nrO2:∀ b,H.next≤b→b<H4.next→NoRow b ov2:=nrT
   simp -implicitDefEqProofs [t2,t3,tM,hold_len tacc.hold,sp]
   refine step_app (lo':=6) (acc_keep tpl (by simp<;>omega) ?_) (m:=1) (ys:=[.i .i64 (gc.out.length:Int)]) (by omega) (by simp<;>omega) (more_lit (cs:=[.i .i64 (gc.out.length:Int)]) (e:=1) (ro:=false) (by simp) (by simp) (by omega)) (by simp) (by omega) (by omega) (by have:=hg.pl;omega) (by omega) ?_
   ·intro id a b hv
    have:=acc_lt tpl id a b hv
    simp -implicitDefEqProofs [show ¬ id=H5.next by omega]
   intro H6 hn6 acc6 hf6
   simp at hn6 acc6
   have f6:∀ id,id<H5.next→NoRow id pv→H6.get id=H5.get id:=fun id h1 h2=>by rw[hf6 id (by simp;omega) h2];exact get_push_lt h1
   have hM6:=mk_pl hG hMt (gc.out.length:Int) (H5.next+1) (by omega) acc6 (by omega) f6
   have lowP:∀ id,id<6→NoRow id pv:=fun id h j m c hj=>by have:=acc_lt tpl _ _ _ hj;omega
   have p2:=(f6 H.next (by omega) (nrP _ (by omega))).trans t2
   have p3:=(f6 (H.next+1) (by omega) (nrP _ (by omega))).trans t3
   have pM:=(f6 5 (by omega) (lowP _ (by omega))).trans tM
   obtain⟨H7,hH7⟩:∃ H7,H7=H6.put 5 (some (.cells [ov2,.sl 4 0 gc.hs.length (some gc.hs.length),.fs tk false K.length (encs K),.sl (H5.next+1) 0 (g.pl.length+1) none] 1 false)):=⟨_,rfl⟩
   skip
   rw[←hH7] at hM6
   have hn7:H7.next=H6.next:=by rw[hH7];rfl
   have k7:∀ id,id≠5→H7.get id=H6.get id:=fun id h=>by rw[hH7];simp -implicitDefEqProofs [h]
   have m2:=(k7 H.next (by omega)).trans p2
   have m3:=(k7 (H.next+1) (by omega)).trans p3
   have mM:=hM6.gM
   dsimp only at mM
   skip
   simp -implicitDefEqProofs [p2,p3,pM,←hH7,m2,m3,mM,sp]
   have macc:=hM6.acc
   dsimp only at macc
   refine step_app (lo':=6) (acc_keep macc (by simp<;>omega) ?_) (m:=1) (ys:=[.i .i64 s.op,.i .i64 s.n,.fs false false s.l.length (encs l'),.s s.s,nv]) (by omega) (by simp<;>omega) (more_lit (cs:=[.i .i64 s.op,.i .i64 s.n,.fs false false s.l.length (encs l'),.s s.s,nv]) (e:=5) (ro:=false) (by simp) (by simp) (by omega)) (by simp) (by omega) (by omega) (by omega) (by omega) ?_
   ·intro id a b hv
    have:=acc_lt macc id a b hv
    simp -implicitDefEqProofs [show ¬ id=H7.next by omega]
   intro H8 hn8 acc8 hf8
   simp at hn8 acc8
   have f8:∀ id,id<H7.next→NoRow id ov2→H8.get id=H7.get id:=fun id h1 h2=>by rw[hf8 id (by simp;omega) h2];exact get_push_lt h1
   have lowO:∀ id,id<6→NoRow id ov2:=fun id h j m c hj=>by have:=acc_lt tacc _ _ _ hj;omega
   have q8:=(f8 H.next (by omega) (nrO2 _ (by omega) (by omega))).trans m2
   have qM:=(f8 5 (by omega) (lowO _ (by omega))).trans mM
   have hLs:Sl H7 (Aq N0 ov2 (.sl (H5.next+1) 0 (g.pl.length+1) none)) (.fs false false s.l.length (encs l')) 7 (⟨s.op,s.n,l',s.s,s.names⟩:Stp).l.length (encs (⟨s.op,s.n,l',s.s,s.names⟩:Stp).l):=by
    show Sl H7 _ _ 7 l'.length (encs l')
    rw[hll];exact .inl (.inl ⟨false,rfl⟩)
   have hSs:Sl H7 (Aq N0 ov2 (.sl (H5.next+1) 0 (g.pl.length+1) none)) nv 1 (⟨s.op,s.n,l',s.s,s.names⟩:Stp).names.length (encs (⟨s.op,s.n,l',s.s,s.names⟩:Stp).names) :=
    hold_sl (hold_keep tN (by omega) fun id c hv=>by have:=hNl id c hv;rw[k7 _ (by omega)];exact f6 _ (by omega) (nrP _ (by omega))) fun id c hv=>by
     have:=hNl id c hv
     exact⟨⟨by omega,fun h=>h⟩,nrO2 _ (by omega) (by omega),fun j m c hj=>by cases hj;omega⟩
   have hM8:=mk_out hG hM6 ⟨s.op,s.n,l',s.s,s.names⟩ (.fs false false s.l.length (encs l')) nv (H7.next+1) (by omega) acc8 (by omega) f8 hLs hSs
   skip
   simp -implicitDefEqProofs [q8,qM,sp]
   have hst:RI.stepG K g s=⟨gc.out++[⟨s.op,s.n,l',s.s,s.names⟩],gc.hs,g.pl++[(gc.out.length:Int)]⟩:=by
    unfold RI.stepG
    rw[htg,hcg]
    simp only[←hl',noteG]
    rw[if_neg (fun h=>h40 h.1)]
   rw[hst]
   refine⟨⟨_,_,_,hM8⟩,by omega,fun id h=>?_⟩
   rw[if_neg (show ¬ id=5 by omega),f8 _ (by omega) (lowO _ (by omega)),k7 _ (by omega),f6 _ (by omega) (lowP _ (by omega))]
   exact tfr id h
  ·skip
   have htg:turnG K g s=⟨(typedI s.op).1,s.n,l',s.s,s.names⟩:=by
    unfold turnG opG
    rw[hcg,←hl',if_pos hty,if_pos]
    rw[←hkd,hall]
   obtain⟨Ht,hHt⟩:∃ Ht,Ht=H5.put (H.next+1) (some (.cells [.i .i64 (typedI s.op).1,.i .i64 s.n,.fs false false s.l.length (encs l'),.s s.s,nv] 1 false)):=⟨_,rfl⟩
   have hnt:Ht.next=H5.next:=by rw[hHt];rfl
   have kt:∀ id,id≠H.next+1→Ht.get id=H5.get id:=fun id h=>by rw[hHt];simp -implicitDefEqProofs [h]
   have hMt:MkI N0 K tk ⟨gc.out,gc.hs,g.pl⟩ ov2 pv cs3 Ht:=by rw[←ggp];exact mk_put hG (H.next+1) hM5 hnt kt (by omega) (nrT _ (by omega) (by omega)) (nrP _ (by omega))
   have t2:=(kt _ (by omega)).trans y2
   have t3:Ht.get (H.next+1)=some (.cells [.i .i64 (typedI s.op).1,.i .i64 s.n,.fs false false s.l.length (encs l'),.s s.s,nv] 1 false):=by rw[hHt];simp
   have tN:Hold Ht (H.next+2) nv 1 s.names.length (encs s.names):=hold_keep hN5 (by omega) fun id c hv=>kt id (by have:=hNl id c hv;omega)
   have tfr:∀ id,id<4→Ht.get id=H.get id:=fun id h=>by rw[kt _ (by omega)];exact fr5 id h
   have hst40:¬(typedI s.op).1=40:=by rcases typed_cases hty with⟨_,h⟩|⟨_,h⟩|⟨_,h⟩|⟨_,h⟩|⟨_,h⟩|⟨_,h⟩|⟨_,h⟩<;>rw[h]<;>simp
   rw[hall] at c3
   have tM:=hMt.gM
   have tnx:=hMt.nx
   have tacc:=hMt.acc
   have tpl:=hMt.pl
   dsimp only at tM tacc tpl
   have nrO2:∀ b,H.next≤b→b<H4.next→NoRow b ov2:=nrT
   simp -implicitDefEqProofs [y2,y3,y5,sm5,c3,h40,hst40,n3b,←hHt,t2,t3,tM,hold_len tacc.hold,sp]
   refine step_app (lo':=6) (acc_keep tpl (by simp<;>omega) ?_) (m:=1) (ys:=[.i .i64 (gc.out.length:Int)]) (by omega) (by simp<;>omega) (more_lit (cs:=[.i .i64 (gc.out.length:Int)]) (e:=1) (ro:=false) (by simp) (by simp) (by omega)) (by simp) (by omega) (by omega) (by have:=hg.pl;omega) (by omega) ?_
   ·intro id a b hv
    have:=acc_lt tpl id a b hv
    simp -implicitDefEqProofs [show ¬ id=Ht.next by omega]
   intro H6 hn6 acc6 hf6
   simp at hn6 acc6
   have f6:∀ id,id<Ht.next→NoRow id pv→H6.get id=Ht.get id:=fun id h1 h2=>by rw[hf6 id (by simp;omega) h2];exact get_push_lt h1
   have hM6:=mk_pl hG hMt (gc.out.length:Int) (Ht.next+1) (by omega) acc6 (by omega) f6
   have lowP:∀ id,id<6→NoRow id pv:=fun id h j m c hj=>by have:=acc_lt tpl _ _ _ hj;omega
   have p2:=(f6 H.next (by omega) (nrP _ (by omega))).trans t2
   have p3:=(f6 (H.next+1) (by omega) (nrP _ (by omega))).trans t3
   have pM:=(f6 5 (by omega) (lowP _ (by omega))).trans tM
   obtain⟨H7,hH7⟩:∃ H7,H7=H6.put 5 (some (.cells [ov2,.sl 4 0 gc.hs.length (some gc.hs.length),.fs tk false K.length (encs K),.sl (Ht.next+1) 0 (g.pl.length+1) none] 1 false)):=⟨_,rfl⟩
   skip
   rw[←hH7] at hM6
   have hn7:H7.next=H6.next:=by rw[hH7];rfl
   have k7:∀ id,id≠5→H7.get id=H6.get id:=fun id h=>by rw[hH7];simp -implicitDefEqProofs [h]
   have m2:=(k7 H.next (by omega)).trans p2
   have m3:=(k7 (H.next+1) (by omega)).trans p3
   have mM:=hM6.gM
   dsimp only at mM
   skip
   simp -implicitDefEqProofs [p2,p3,pM,←hH7,m2,m3,mM,sp]
   have macc:=hM6.acc
   dsimp only at macc
   refine step_app (lo':=6) (acc_keep macc (by simp<;>omega) ?_) (m:=1) (ys:=[.i .i64 (typedI s.op).1,.i .i64 s.n,.fs false false s.l.length (encs l'),.s s.s,nv]) (by omega) (by simp<;>omega) (more_lit (cs:=[.i .i64 (typedI s.op).1,.i .i64 s.n,.fs false false s.l.length (encs l'),.s s.s,nv]) (e:=5) (ro:=false) (by simp) (by simp) (by omega)) (by simp) (by omega) (by omega) (by omega) (by omega) ?_
   ·intro id a b hv
    have:=acc_lt macc id a b hv
    simp -implicitDefEqProofs [show ¬ id=H7.next by omega]
   intro H8 hn8 acc8 hf8
   simp at hn8 acc8
   have f8:∀ id,id<H7.next→NoRow id ov2→H8.get id=H7.get id:=fun id h1 h2=>by rw[hf8 id (by simp;omega) h2];exact get_push_lt h1
   have lowO:∀ id,id<6→NoRow id ov2:=fun id h j m c hj=>by have:=acc_lt tacc _ _ _ hj;omega
   have q8:=(f8 H.next (by omega) (nrO2 _ (by omega) (by omega))).trans m2
   have qM:=(f8 5 (by omega) (lowO _ (by omega))).trans mM
   have hLs:Sl H7 (Aq N0 ov2 (.sl (Ht.next+1) 0 (g.pl.length+1) none)) (.fs false false s.l.length (encs l')) 7 (⟨(typedI s.op).1,s.n,l',s.s,s.names⟩:Stp).l.length (encs (⟨(typedI s.op).1,s.n,l',s.s,s.names⟩:Stp).l):=by
    show Sl H7 _ _ 7 l'.length (encs l')
    rw[hll];exact .inl (.inl ⟨false,rfl⟩)
   have hSs:Sl H7 (Aq N0 ov2 (.sl (Ht.next+1) 0 (g.pl.length+1) none)) nv 1 (⟨(typedI s.op).1,s.n,l',s.s,s.names⟩:Stp).names.length (encs (⟨(typedI s.op).1,s.n,l',s.s,s.names⟩:Stp).names) :=
    hold_sl (hold_keep tN (by omega) fun id c hv=>by have:=hNl id c hv;rw[k7 _ (by omega)];exact f6 _ (by omega) (nrP _ (by omega))) fun id c hv=>by
     have:=hNl id c hv
     exact⟨⟨by omega,fun h=>h⟩,nrO2 _ (by omega) (by omega),fun j m c hj=>by cases hj;omega⟩
   have hM8:=mk_out hG hM6 ⟨(typedI s.op).1,s.n,l',s.s,s.names⟩ (.fs false false s.l.length (encs l')) nv (H7.next+1) (by omega) acc8 (by omega) f8 hLs hSs
   skip
   simp -implicitDefEqProofs [q8,qM,sp]
   have hst:RI.stepG K g s=⟨gc.out++[⟨(typedI s.op).1,s.n,l',s.s,s.names⟩],gc.hs,g.pl++[(gc.out.length:Int)]⟩:=by
    unfold RI.stepG
    rw[htg,hcg]
    simp only[←hl',noteG]
    rw[if_neg (fun h=>h40 h.1)]
   rw[hst]
   refine⟨⟨_,_,_,hM8⟩,by omega,fun id h=>?_⟩
   rw[if_neg (show ¬ id=5 by omega),f8 _ (by omega) (lowO _ (by omega)),k7 _ (by omega),f6 _ (by omega) (lowP _ (by omega))]
   exact tfr id h
end
end Go.Proofs.YtbfajkcmehaliabDoor
namespace Go.Proofs.YtbfajkcmehaliabDoor
open Go Go.RI
section
variable {G:AHeap} (hG:G.next=2)
include hG
theorem t_gof_a(n:Nat)(hn:n≤64)(ov kv pv sv:AVal)(e2 e4:AVal)(Q:Post)(H:AHeap)(g3:H.get 5=some (.cells [ov,.sl 4 0 n (some n),kv,pv] 1 false))(g2:H.get 4=some (.cells (encs (List.replicate n (0:Int))) 1 false))(hx:6≤H.next)
  (hQ:∀ w H',H'.get 4=some (.cells (encs (List.replicate n (-1:Int))) 1 false)→(∀ id,id≠4→H'.get id=H.get id)→H'.next=H.next→Q (.exit 0) [(2,e2),(4,e4),(7,.p 5 0),(27,.i .i64 n),(28,.i .i64 n),(29,w)] H') :
  wp (theCalls IP G 2) 2 (.loop L5a) Q [(2,e2),(4,e4),(7,.p 5 0),(27,.i .i64 n),(28,.i .i64 0)] H:=by
 have hl:(List.replicate n (-1:Int)).length=n:=by simp
 have key:=wp_loop_list (call:=theCalls IP G 2) (lo:=2) (b:=L5a) (Q:=Q) (l:=List.replicate n (-1:Int)) (by omega) (fun i todo e H'=>e=[(2,e2),(4,e4),(7,.p 5 0),(27,.i .i64 n),(28,.i .i64 i)]∧∃ L:List Int,L.length=n∧L.take i=(List.replicate n (-1:Int)).take i∧H'.get 4=some (.cells (encs L) 1 false)∧(∀ id,id≠4→H'.get id=H.get id)∧H'.next=H.next) ?_ ?_ (e:=[(2,e2),(4,e4),(7,.p 5 0),(27,.i .i64 n),(28,.i .i64 0)]) (H:=H) ?_
 ·exact key
 ·rintro i x todo e H' hxi hd hlt hlt2 hlt3 ⟨rfl,L,hL,ht,k2,kf,kn⟩
  rw[hl] at hlt hlt2
  have k3:=(kf 5 (by omega)).trans g3
  have hpk:=put_kind (k:=(-1:Int)) (L:=L) (i:=i) (by omega)
  have hxm:x=-1:=by have:=List.mem_of_getElem? hxi;rw[List.mem_replicate] at this;exact this.2
  have hts:=take_set (L:=L) (M:=List.replicate n (-1:Int)) (x:=x) (by omega) ht hxi
  have hLi:i+1≤L.length:=by omega
  have hlt4:=hlt
  clear hlt
  simp -implicitDefEqProofs [L5a,hlt2,hlt3,k3,k2,hpk,hLi]
  refine⟨L.set i (-1),by simp -implicitDefEqProofs [hL],?_,rfl,fun id h=>?_,kn⟩
  ·simpa[hxm] using hts
  ·simp -implicitDefEqProofs [h,kf id h]
 ·rintro e H' ⟨rfl,L,hL,ht,k2,kf,kn⟩
  have he:L=List.replicate n (-1:Int):=by
   rw[hl] at ht
   rw[List.take_of_length_le (by omega),List.take_of_length_le (by omega)] at ht
   exact ht
  subst he
  rw[hl]
  simp -implicitDefEqProofs [L5a]
  exact hQ _ H' k2 kf kn
 ·exact⟨rfl,List.replicate n 0,by simp,by simp,g2,fun _ _=>rfl,rfl⟩
theorem gs_snoc{K:List Int}:∀(l:List Stp) (g:GS) (s:Stp),gsOf K g (l++[s])=RI.stepG K (gsOf K g l) s
 | [],g,s=>rfl
 | i::l,g,s=>by rw[List.cons_append,gsOf,gsOf,gs_snoc l]
theorem t_gof_b{K:List Int}{tk:Bool}(x:Pce)(hx:okPce x)(hc:checkP x=true)(xb:List AVal)(t1:Bool)(e2 e4:AVal)(Q:Post)(H:AHeap)(h0:∃ ov pv cs,MkI N0 K tk (gs0 x) ov pv cs H)
  (hQ:∀ w H' ov pv cs,MkI N0 K tk (gsP K x) ov pv cs H'→(∀ id,id<4→H'.get id=H.get id)→Q (.exit 2) [(2,e2),(4,e4),(7,.p 5 0),(39,.fs t1 false x.ins.length (encs x.ins)),(40,.i .i64 x.ins.length),(41,.i .i64 x.ins.length),(42,w)] H') :
  wp (theCalls IP G 2) 2 (.loop L5b) Q [(2,e2),(4,e4),(7,.p 5 0),(39,.fs t1 false x.ins.length (encs x.ins)),(40,.i .i64 x.ins.length),(41,.i .i64 0)] H:=by
 have hfits:=check_fits hc
 have hnum:=(checkP_iff.1 hc).1
 have hins:x.ins.length≤4096∧x.homes≤64:=by unfold numsP at hnum;omega
 refine wp_loop_list (l:=x.ins) (by omega) (fun i todo e H'=>e=[(2,e2),(4,e4),(7,.p 5 0),(39,.fs t1 false x.ins.length (encs x.ins)),(40,.i .i64 x.ins.length),(41,.i .i64 i)]∧(∃ ov pv cs,MkI N0 K tk (gsOf K (gs0 x) (x.ins.take i)) ov pv cs H')∧(∀ id,id<4→H'.get id=H.get id)) ?_ ?_ ?_
 ·rintro i s todo e H' hs hdr hlt hlt2 hlt3 ⟨rfl,⟨ov,pv,cs,hM⟩,hf⟩
  have pre:∀(k:Nat) (t:Stp),(x.ins.take i)[k]?=some t→stpFits x.homes (0+k:Nat) t=true:=fun k t hk=>by
   rw[List.getElem?_take] at hk
   split at hk
   ·simpa using hfits k t hk
   ·cases hk
  have hg:=gsOf_good (K:=K) (nh:=x.homes) (x.ins.take i) (gs0 x) 0 gs0_good pre
  obtain⟨r1,r2⟩:=gsOf_room (K:=K) (nh:=x.homes) (x.ins.take i) (gs0 x) 0 pre
  have er:room (gs0 x)=x.homes.toNat:=by simp -implicitDefEqProofs [room,gs0]
  have hti:(x.ins.take i).length=i:=by rw[List.length_take];omega
  rw[er,hti] at r1
  rw[hti,Nat.zero_add] at hg
  have hol:(gsOf K (gs0 x) (x.ins.take i)).out.length<100000:=by unfold room at r1;omega
  have nx:=hM.nx
  have n3:2≤H'.next:=by omega
  obtain⟨H1,hH1⟩:∃ H1,H1=(H'.push (.cells [.i .i64 0,.i .i64 0,.ns,.s [],.ns] 1 false)).put H'.next (some (.cells (Enc.cells s) 1 false)):=⟨_,rfl⟩
  have hk1:∀ id,id<H'.next→H1.get id=H'.get id:=fun id h=>by rw[hH1];simp -implicitDefEqProofs [show ¬ id=H'.next by omega]
  have q3:H1.get H'.next=some (.cells (Enc.cells s) 1 false):=by rw[hH1];simp
  have q4:H1.next=H'.next+1:=by rw[hH1];simp
  have hM1:=mk_box hG hM (H':=H1) (by omega) hk1
  obtain⟨v,H2,hcall,rfl,ov2,pv2,cs2,hM2,hn2,hf2⟩:=t_gstep hG hM1 hg s (hfits i s hs) (hx.1 s (List.mem_of_getElem? hs)) (by omega) hol
  have htk:gsOf K (gs0 x) (x.ins.take (i+1))=RI.stepG K (gsOf K (gs0 x) (x.ins.take i)) s:=by rw[List.take_add_one,hs];exact gs_snoc hG _ _ _
  simp at hH1 q3 hcall
  clear hlt
  simp -implicitDefEqProofs [L5b,hlt2,hlt3,hs,n3,←hH1,q3,hcall]
  refine⟨⟨ov2,pv2,cs2,by rw[htk];exact hM2⟩,fun id h=>?_⟩
  rw[hf2 id h,hk1 id (by omega)]
  exact hf id h
 ·rintro e H' ⟨rfl,⟨ov,pv,cs,hM⟩,hf⟩
  rw[List.take_length] at hM
  simp -implicitDefEqProofs [L5b]
  exact hQ _ H' ov pv cs hM hf
 ·exact⟨by simp,h0,fun _ _=>rfl⟩
end
end Go.Proofs.YtbfajkcmehaliabDoor
namespace Go.Proofs.YtbfajkcmehaliabDoor
open Go Go.RI
def CheckOk(G:AHeap):Prop:=∀ x:Pce,okPce x→∀ t1 t2 t3 t4:Bool,pureR IP G 20 [.ag (pceC x t1 t2 t3 t4)]=some (.i .i64 (if checkP x then 0 else 2))
end Go.Proofs.YtbfajkcmehaliabDoor
namespace Go.Proofs.YtbfajkcmehaliabDoor
open Go Go.RI
def guessE(K:List Int)(x:Pce):Int:=if checkP x=true then(if(gsP K x).out.length≤4096 then 0 else 5) else 2
def guessR(K:List Int)(x:Pce):Pce:=if guessE K x=0 then guessP K x else⟨0,0,0,0,[],[],0,0,⟨0,0,zeroVal⟩,0⟩
section
variable {G:AHeap} (hG:G.next=2)
include hG
set_option maxHeartbeats 2000000 in
theorem t_guessOf(c17:CheckOk G)(K:List Int)(hK:K.length<1099511627776)(x:Pce)(hx:okPce x)(t1 t2 tk:Bool):pureR IP G 5 [.ag (pceC x t1 t2 false false),.fs tk false K.length (encs K)]=some (.tu [.ag (Enc.cells (guessR K x)),.i .i64 (guessE K x)]):=by
 have c1:=c17 x hx t1 t2 false false
 have hx0:=hx
 obtain⟨ho1,ho2,ho3,ho4,ho5⟩:=hx
 simp only[pceC] at c1
 refine pure_run ip5 rfl ?_
 cases hc:checkP x
 ·rw[hc] at c1
  have e1:guessE K x=2:=by unfold guessE;rw[hc];rfl
  have e2:guessR K x=⟨0,0,0,0,[],[],0,0,⟨0,0,zeroVal⟩,0⟩:=by unfold guessR;rw[e1];rfl
  rw[e1,e2]
  simp at c1
  simp -implicitDefEqProofs [I5,hG,pceC,c1,zeroVal]
 ·rw[hc] at c1
  simp at c1
  have hck:=checkP_iff.1 hc
  have hnum:=hck.1
  unfold numsP at hnum
  obtain⟨hn,hhn⟩:∃ n:Nat,x.homes=n:=⟨x.homes.toNat,by omega⟩
  have hmk:(8:Int)*(hn:Int)≤281474976710656:=by omega
  rw[hhn] at c1
  simp -implicitDefEqProofs [I5,hG,pceC,c1,hhn,hmk,rep_kinds]
  refine t_gof_a hG hn (by omega) .ns (.fs tk false K.length (encs K)) .ns .ns (.p 2 0) (.p 3 0) _ _ (by simp -implicitDefEqProofs [hG]) (by simp -implicitDefEqProofs [hG]) (by simp -implicitDefEqProofs [hG]) ?_
  intro w H1 g2 gf gn
  have k0:=gf 2 (by omega)
  have k1:=gf 3 (by omega)
  have k3:=gf 5 (by omega)
  simp -implicitDefEqProofs [hG] at k0 k1 k3 gn
  simp -implicitDefEqProofs [k0]
  refine t_gof_b hG (K:=K) (tk:=tk) x hx0 hc [] t1 (.p 2 0) (.p 3 0) _ H1 ⟨.ns,.ns,[],?_⟩ ?_
  ·have hh:x.homes.toNat=hn:=by omega
   exact{ gM:=by simpa[gs0,hh] using k3,gH:=by simpa[gs0,hh] using g2,nx:=by omega,acc:=acc_none,pl:=acc_none,dis:=fun i m c h=>(by cases h),out:=rfl }
  ·intro w2 H2 ov pv cs hM hf
   have y0:=(hf 2 (by omega)).trans k0
   have y1:=(hf 3 (by omega)).trans k1
   have yM:=hM.gM
   have nx:=hM.nx
   have hlen:=guess_len (K:=K) hc
   have n3:2≤H2.next:=by omega
   by_cases hl:(gsP K x).out.length≤4096
   ·have e1:guessE K x=0:=by unfold guessE;rw[hc,if_pos rfl,if_pos hl]
    have e2:guessR K x=guessP K x:=by unfold guessR;rw[if_pos e1]
    rw[e1,e2]
    have hg:=gsP_good (K:=K) hc
    have hset:=List.all_eq_true.1 hck.2.2.2
    have hl2:¬(4096:Int)<((gsP K x).out.length:Int):=by omega
    have hl3:¬ 4096<(gsP K x).out.length:=by omega
    have hsl:x.sets.length≤64:=by omega
    obtain⟨Hp,hHp⟩:∃ Hp,Hp=H2.push (.cells (Enc.cells x.cond) 7 false):=⟨_,rfl⟩
    have hpn:Hp.next=H2.next+1:=by rw[hHp];rfl
    have hpk:∀ id,id<H2.next→Hp.get id=H2.get id:=fun id h=>by rw[hHp];exact get_push_lt h
    have hpr:Hp.get H2.next=some (.cells (Enc.cells x.cond) 7 false):=by rw[hHp];simp
    have hMp:=mk_box hG hM (H':=Hp) (by omega) hpk
    obtain⟨ta,tb,tp,cs2,hT,sm⟩:=mk_snap hG hMp 11
    have c2:=t_gmoved hG x.sets (by omega) (gsP K x).pl (fun o ho hk=>by have:=opnFits_step (hset o ho) hk;rw[hg.pl];omega) (fun o ho=>ho4 o ho) t2 false tp (.fs ta false (gsP K x).out.length cs2) (.fs tb false (gsP K x).hs.length (encs (gsP K x).hs)) (.fs tk false K.length (encs K))
    have hcd:x.cond.kind=2→0≤x.cond.n∧x.cond.n<(gsP K x).pl.length:=fun hk=>by
     have hcond:=hck.2.2.1
     unfold condP at hcond
     split at hcond
     ·have:=opnFits_step hcond hk;rw[hg.pl];omega
     ·simp only[Bool.and_eq_true,decide_eq_true_eq] at hcond;omega
    have c3:=t_gmoved hG [x.cond] (by simp) (gsP K x).pl (fun o ho hk=>by simp at ho;subst ho;exact hcd hk) (fun o ho=>by simp at ho;subst ho;exact ho5) true false tp (.fs ta false (gsP K x).out.length cs2) (.fs tb false (gsP K x).hs.length (encs (gsP K x).hs)) (.fs tk false K.length (encs K))
    have s2:=snap_lit (H:=Hp) (id:=H2.next) (esz:=7) (n:=1) (k:=15) (cap:=some 1) (cells:=Enc.cells x.cond) (cells':=Enc.cells x.cond) (by omega) hpr (by simp) (by simp) (by simp)
    have z0:=(hpk 2 (by omega)).trans y0
    have z1:=(hpk 3 (by omega)).trans y1
    have fz:∀ Kp:AHeap,Kp.next=Hp.next→(∀ id,6≤id→Kp.get id=Hp.get id)→frzV Kp 2 14 ov=some (.fs false false (gsP K x).out.length (encs (gsP K x).out)):=fun Kp h1 h2=>by
     refine hold_frz (k:=13) (hold_mono (acc_keep hMp.acc (by omega) fun id a b hv=>h2 id (acc_lt hMp.acc _ _ _ hv).1).hold (by omega)) ?_
     exact out_frz (P:=Aq N0 ov pv) (k:=11) (fun id h=>by have:=h.1.1;omega) _ _ (out_keep (by omega) (fun id h3 h4=>⟨h2 id h3.1.1,h3⟩) _ _ hMp.out)
    obtain⟨d1,d2⟩:=hold_one hM.acc.hold
    simp at sm c2 c3 s2 hHp
    have gi:(guessP K x).ins=(gsP K x).out:=rfl
    have gse:(guessP K x).sets=x.sets.map (movedO (gsP K x).pl):=rfl
    have gco:(guessP K x).cond=movedO (gsP K x).pl x.cond:=rfl
    have gr:(guessP K x).func=x.func∧(guessP K x).at_=x.at_∧(guessP K x).many=x.many∧(guessP K x).homes=x.homes∧(guessP K x).exit=x.exit∧(guessP K x).to=x.to∧(guessP K x).deep=x.deep:=⟨rfl,rfl,rfl,rfl,rfl,rfl,rfl⟩
    simp -implicitDefEqProofs [y0,yM,hold_len hM.acc.hold,hl2,hl3,←hHp]
    simp -implicitDefEqProofs [sm,c2,c3,s2,z0,z1,d1,d2,gi,gse,gco,gr,hhn]
    rw[fz _ (by simp) (fun id h=>by simp -implicitDefEqProofs [show ¬ id=2 by omega,show ¬ id=3 by omega])]
    simp
   ·have e1:guessE K x=5:=by unfold guessE;rw[hc,if_pos rfl,if_neg hl]
    have e2:guessR K x=⟨0,0,0,0,[],[],0,0,⟨0,0,zeroVal⟩,0⟩:=by unfold guessR;rw[e1];rfl
    rw[e1,e2]
    have hl2:(4096:Int)<((gsP K x).out.length:Int):=by omega
    have hl3:4096<(gsP K x).out.length:=by omega
    simp -implicitDefEqProofs [y0,y1,yM,hold_len hM.acc.hold,hl2,hl3,zeroVal]
end
end Go.Proofs.YtbfajkcmehaliabDoor
namespace Go.Proofs.YtbfajkcmehaliabDoor
open Go Go.RI
theorem tmod_pos(a n:Int)(hn:0<n):(if a.tmod n<0 then a.tmod n+n else a.tmod n)=a % n:=by
 have h1:=Int.emod_nonneg a (show n≠0 by omega)
 have h2:=Int.emod_lt_of_pos a hn
 rw[Int.tmod_eq_emod]
 by_cases h:0≤a∨n ∣ a
 ·rw[if_pos h,if_neg (by omega)];omega
 ·rw[if_neg h]
  have e:(n.natAbs:Int)=n:=by omega
  rw[e,if_pos (by omega)];omega
section
variable {G:AHeap} (hG:G.next=2)
include hG
theorem t_bring(a n:Int)(hn:0<n)(hb:n<4611686018427387904):pureR IP G 7 [.i .i64 a,.i .i64 n]=some (.i .i64 (a % n)):=by
 have e:=tmod_pos a n hn
 have h0:¬ n≤0:=by omega
 have h1:¬ n=0:=by omega
 refine pure_run ip7 rfl ?_
 simp -implicitDefEqProofs [I7,hG,h0,h1]
 refine test_intro ?_ ?_<;>intro h<;>simp -implicitDefEqProofs [hG]
 ·have h:=of_decide_eq_true h
  rw[if_pos h] at e
  have b1:=Int.emod_nonneg a h1
  have b2:=Int.emod_lt_of_pos a hn
  rw[e,wrap_ok (by omega) (by omega)]
 ·have h:=of_decide_eq_false h
  rw[if_neg h] at e
  exact e
end
end Go.Proofs.YtbfajkcmehaliabDoor
namespace Go.Proofs.YtbfajkcmehaliabDoor
open Go Go.RI
section
variable {G:AHeap} (hG:G.next=2)
include hG
theorem t_copyTexts(ns:List Str)(hn:ns.length<1099511627776)(t f:Bool):pureR IP G 57 [.fs t f ns.length (encs ns)]=some (.fs false false ns.length (encs ns)):=by
 refine pure_run ip57 rfl ?_
 simp -implicitDefEqProofs [I57,hG]
 refine step_app0 (lo':=2) (by simp) (by omega) (by omega) (by omega) (by omega) ?_
 intro v H1 hn1 hA hf1
 simp -implicitDefEqProofs [hG]
 exact hold_frz (k:=15) hA.hold frz_encs
theorem t_copyV1:∀ b,b<1099511627776→∀ v:Val,v.bulk≤b→∀ t1 t2:Bool,pureR IP G 44 [.ag [.i .i64 v.kind,.i .i64 v.n,.s v.s,.fs t1 false v.l.length (encs v.l),.fs t2 false v.names.length (encs v.names)]]=some (.ag (Enc.cells v)):=by
  intro b
  induction b with
  | zero=>intro _ v h;have:=v.bulk_pos;omega
  | succ b ih =>
    intro hb v hv t1 t2
    rw[Val.bulk_eq] at hv
    have hl1:=bulkL_len v.l
    have hl2:=bulkS_len v.names
    have c1:=t_copyTexts hG v.names (by omega)
    refine pure_run ip44 rfl ?_
    simp -implicitDefEqProofs [I44,hG,c1]
    refine wp_loop_list (l:=v.l) (by omega) (fun i todo e H=>∃ lv,e=[(1,.p 2 0),(2,.p 3 0),(3,.p 4 0),(4,.i .i64 i)]∧H.get 2=some (.cells [.i .i64 v.kind,.i .i64 v.n,.s v.s,.fs t1 false v.l.length (encs v.l),.fs t2 false v.names.length (encs v.names)] 1 false) ∧
      H.get 3=some (.cells [.i .i64 0,.i .i64 0,.s [],.ns,.ns] 1 false)∧H.get 4=some (.cells [.i .i64 v.kind,.i .i64 v.n,.s v.s,lv,.fs false false v.names.length (encs v.names)] 1 false)∧4<H.next∧Acc H 5 lv 5 i (encs (v.l.take i))) ?_ ?_ ?_
    · rintro i x todo e H hx hd hlt hlt2 hlt3 ⟨lv,rfl,g1,g2,g3,hn,hA⟩
      have c2:=ih (by omega) x (by have:=bulkL_mem (List.mem_of_getElem? hx);omega) false false
      simp at c2
      obtain⟨d,hd2⟩:∃ d,H.next=d+5:=⟨H.next-5,by omega⟩
      clear hlt
      simp -implicitDefEqProofs [L44a,hlt2,hlt3,hx,g1,g2,g3,c2,hd2]
      refine step_app (acc_keep hA (by simp) ?_) (lo':=5) (m:=1) (ys:=Enc.cells x) (by omega) (by simp<;>omega) (more_lit (cs:=Enc.cells x) (e:=5) (ro:=false) (by simp -implicitDefEqProofs [hd2]) (by simp) (by omega)) (by simp) (by omega) (by omega) (by omega) (by omega) ?_
      · intro id a b hv
        have:=acc_lt hA id a b hv
        simp (disch:=(simp -implicitDefEqProofs [hd2];omega)) only[get_push_lt]
      intro H1 hn1 hA1 hf1
      have f1:∀ id,id<5→H1.get id=H.get id:=fun id h=>by
        rw[hf1 id (by simp;omega) (fun id2 a b hv=>by have:=acc_lt hA id2 a b hv;omega)]
        exact get_push_lt (by omega)
      simp -implicitDefEqProofs [hd2] at hn1 hA1
      clear hf1
      have e1:=(f1 2 (by omega)).trans g1
      have e2:=(f1 3 (by omega)).trans g2
      have e3:=(f1 4 (by omega)).trans g3
      simp -implicitDefEqProofs [hd2,hlt3,e1,e2,e3]
      refine⟨by omega,acc_keep (by simpa[List.take_add_one,hx] using hA1) (by simp) fun id a b h=>?_⟩
      cases h
      simp
    · rintro e H ⟨lv,rfl,g1,g2,g3,hn,hA⟩
      simp -implicitDefEqProofs [L44a,g1]
      simp -implicitDefEqProofs [hG,g1,g2,g3]
      rw[List.take_length] at hA
      have f1:=fun o=>hold_frz (k:=14) (hold_in hA.hold (H':=H.put 3 o) (lo':=2) (by omega) (by simp) fun id h1 h2=>by simp -implicitDefEqProofs [show ¬ id=3 by omega]) frz_encs
      simp -implicitDefEqProofs [f1]
    · exact⟨.ns,rfl,by simp -implicitDefEqProofs [hG],by simp -implicitDefEqProofs [hG],by simp -implicitDefEqProofs [hG],by simp -implicitDefEqProofs [hG],acc_none⟩
theorem t_copyV(v:Val)(hv:v.bulk<1099511627776)(t1 t2:Bool):pureR IP G 44 [.ag [.i .i64 v.kind,.i .i64 v.n,.s v.s,.fs t1 false v.l.length (encs v.l),.fs t2 false v.names.length (encs v.names)]]=some (.ag (Enc.cells v)) :=
 t_copyV1 hG v.bulk hv v (Nat.le_refl _) t1 t2
end
end Go.Proofs.YtbfajkcmehaliabDoor
namespace Go.Proofs.YtbfajkcmehaliabDoor
open Go Go.RI
section
variable {G:AHeap} (hG:G.next=2)
include hG
theorem t_copied(l:List Opn)(hl:l.length<1099511627776)(ho:∀ o∈l,okO o)(t f:Bool):pureR IP G 43 [.fs t f l.length (encs l)]=some (.fs false false l.length (encs l)):=by
  refine pure_run ip43 rfl ?_
  simp -implicitDefEqProofs [I43,hG]
  refine wp_loop_list (l:=l) (by omega) (fun i todo e H=>∃ lv,e=[(0,.fs t f l.length (encs l)),(3,lv),(4,.i .i64 i)]∧2≤H.next∧Acc H 2 lv 7 i (encs (l.take i))) ?_ ?_ ?_
  ·rintro i x todo e H hx hd hlt hlt2 hlt3 ⟨lv,rfl,hn,hA⟩
   have c2:=t_copyV hG x.v (ho x (List.mem_of_getElem? hx)) false false
   simp at c2
   obtain⟨d,hd2⟩:∃ d,H.next=d+2:=⟨H.next-2,by omega⟩
   clear hlt
   simp -implicitDefEqProofs [L43a,hlt2,hlt3,hx,hd2,c2]
   refine step_app (acc_keep hA (by simp) ?_) (lo':=2) (m:=1) (ys:=Enc.cells x) (by omega) (by simp<;>omega) (more_lit (cs:=Enc.cells x) (e:=7) (ro:=false) (by simp -implicitDefEqProofs [hd2]) (by simp) (by omega)) (by simp) (by omega) (by omega) (by omega) (by omega) ?_
   ·intro id a b hv
    have:=acc_lt hA id a b hv
    simp (disch:=(simp -implicitDefEqProofs [hd2];omega)) only[get_push_lt]
   intro H1 hn1 hA1 hf1
   simp -implicitDefEqProofs [hd2] at hn1 hA1
   clear hf1
   simp -implicitDefEqProofs [hd2,hlt3]
   exact⟨by omega,by simpa[List.take_add_one,hx] using hA1⟩
  ·rintro e H ⟨lv,rfl,hn,hA⟩
   simp -implicitDefEqProofs [L43a,hG]
   rw[List.take_length] at hA
   exact hold_frz (k:=15) hA.hold frz_encs
  ·exact⟨.ns,rfl,by omega,acc_none⟩
theorem t_back(l:List Opn)(hl:l.length<1099511627776)(ho:∀ o∈l,okO o)(t f:Bool):pureR IP G 24 [.fs t f l.length (encs l)]=some (.fs false false l.length (encs l)):=by
  refine pure_run ip24 rfl ?_
  simp -implicitDefEqProofs [I24,hG]
  refine wp_loop_list (l:=l) (by omega) (fun i todo e H=>∃ lv,e=[(0,.fs t f l.length (encs l)),(3,lv),(4,.i .i64 i)]∧2≤H.next∧Acc H 2 lv 7 i (encs (l.take i))) ?_ ?_ ?_
  ·rintro i x todo e H hx hd hlt hlt2 hlt3 ⟨lv,rfl,hn,hA⟩
   obtain⟨d,hd2⟩:∃ d,H.next=d+2:=⟨H.next-2,by omega⟩
   clear hlt
   simp -implicitDefEqProofs [L24a,hlt2,hlt3,hx,hd2]
   refine step_app (acc_keep hA (by simp) ?_) (lo':=2) (m:=1) (ys:=Enc.cells x) (by omega) (by simp<;>omega) (more_lit (cs:=Enc.cells x) (e:=7) (ro:=false) (by simp -implicitDefEqProofs [hd2]) (by simp) (by omega)) (by simp) (by omega) (by omega) (by omega) (by omega) ?_
   ·intro id a b hv
    have:=acc_lt hA id a b hv
    simp (disch:=(simp -implicitDefEqProofs [hd2];omega)) only[get_push_lt]
   intro H1 hn1 hA1 hf1
   simp -implicitDefEqProofs [hd2] at hn1 hA1
   clear hf1
   simp -implicitDefEqProofs [hd2,hlt3]
   exact⟨by omega,by simpa[List.take_add_one,hx] using hA1⟩
  ·rintro e H ⟨lv,rfl,hn,hA⟩
   simp -implicitDefEqProofs [L24a,hG]
   rw[List.take_length] at hA
   exact hold_frz (k:=15) hA.hold frz_encs
  ·exact⟨.ns,rfl,by omega,acc_none⟩
theorem t_copyIns(s:Stp)(hs:okStp s)(t1 t2:Bool):pureR IP G 42 [.ag [.i .i64 s.op,.i .i64 s.n,.fs t1 false s.l.length (encs s.l),.s s.s,.fs t2 false s.names.length (encs s.names)]]=some (.ag (Enc.cells s)):=by
 obtain⟨a1,a2,a3,a4⟩:=hs
 have hl2:=bulkS_len s.names
 have c1:=t_copied hG s.l a3 a4 t1 false
 have c2:=t_copyTexts hG s.names (by omega) t2 false
 refine pure_run ip42 rfl ?_
 simp -implicitDefEqProofs [I42,hG,c1,c2]
end
end Go.Proofs.YtbfajkcmehaliabDoor
namespace Go.Proofs.YtbfajkcmehaliabDoor
open Go Go.RI
section
variable {G:AHeap} (hG:G.next=2)
include hG
set_option maxHeartbeats 1000000 in
theorem t_copyPce(x:Pce)(hx:okPce x)(t1 t2 t3 t4:Bool):pureR IP G 23 [.ag (pceC x t1 t2 t3 t4)]=some (.ag (Enc.cells x)):=by
 obtain⟨ho1,ho2,ho3,ho4,ho5⟩:=hx
 have c1:=t_copied hG x.sets ho3 ho4 t2 false
 have c2:=t_copyV hG x.cond.v ho5 t3 t4
 simp at c2
 refine pure_run ip23 rfl ?_
 simp -implicitDefEqProofs [I23,hG,pceC]
 refine wp_loop_list (l:=x.ins) (by omega) (fun i todo e H=>∃ lv,e=[(1,.p 2 0),(2,.p 3 0),(3,.p 4 0),(4,.i .i64 i)]∧H.get 2=some (.cells (pceC x t1 t2 t3 t4) 1 false) ∧
  (∃ z,H.get 3=some (.cells z 1 false)∧z.length=16)∧H.get 4=some (.cells ((pceC x t1 t2 t3 t4).set 4 lv) 1 false)∧4<H.next∧Acc H 5 lv 5 i (encs (x.ins.take i))) ?_ ?_ ?_
 ·rintro i s todo e H hs hd hlt hlt2 hlt3 ⟨lv,rfl,g1,⟨z,g2,hz⟩,g3,hn,hA⟩
  have c3:=t_copyIns hG s (ho1 s (List.mem_of_getElem? hs)) false false
  simp at c3
  obtain⟨d,hd2⟩:∃ d,H.next=d+5:=⟨H.next-5,by omega⟩
  simp only[pceC,List.set_cons_succ,List.set_cons_zero] at g1 g3
  clear hlt
  simp -implicitDefEqProofs [L23a,hlt2,hlt3,hs,g1,g3,c3,hd2]
  refine step_app (acc_keep hA (by simp) ?_) (lo':=5) (m:=1) (ys:=Enc.cells s) (by omega) (by simp<;>omega) (more_lit (cs:=Enc.cells s) (e:=5) (ro:=false) (by simp -implicitDefEqProofs [hd2]) (by simp) (by omega)) (by simp) (by omega) (by omega) (by omega) (by omega) ?_
  ·intro id a b hv
   have:=acc_lt hA id a b hv
   simp (disch:=(simp -implicitDefEqProofs [hd2];omega)) only[get_push_lt]
  intro H1 hn1 hA1 hf1
  have f1:∀ id,id<5→H1.get id=H.get id:=fun id h=>by
   rw[hf1 id (by simp;omega) (fun id2 a b hv=>by have:=acc_lt hA id2 a b hv;omega)]
   exact get_push_lt (by omega)
  simp -implicitDefEqProofs [hd2] at hn1 hA1
  clear hf1
  have e1:=(f1 2 (by omega)).trans g1
  have e2:=(f1 3 (by omega)).trans g2
  have e3:=(f1 4 (by omega)).trans g3
  simp -implicitDefEqProofs [hd2,hlt3,e1,e2,e3]
  refine⟨rfl,hz,_,rfl,by omega,acc_keep (by simpa[List.take_add_one,hs] using hA1) (by simp) fun id a b h=>?_⟩
  cases h
  simp
 ·rintro e H ⟨lv,rfl,g1,⟨z,g2,hz⟩,g3,hn,hA⟩
  simp only[pceC,List.set_cons_succ,List.set_cons_zero] at g1 g3
  obtain⟨z0,z1,z2,z3,z4,z5,z6,z7,z8,z9,z10,z11,z12,z13,z14,z15,rfl⟩:=list16 hz
  simp -implicitDefEqProofs [L23a,g1]
  simp -implicitDefEqProofs [hG,g1,g2,g3,c1,c2]
  rw[List.take_length] at hA
  have f1:=fun o p q=>hold_frz (k:=14) (hold_in hA.hold (H':=((H.put 4 p).put 4 q).put 3 o) (lo':=2) (by omega) (by simp) fun id h1 h2=>by simp -implicitDefEqProofs [show ¬ id=3 by omega,show ¬ id=4 by omega]) frz_encs
  simp -implicitDefEqProofs [f1]
 ·exact⟨.ns,rfl,by simp -implicitDefEqProofs [hG,pceC],⟨_,by simp -implicitDefEqProofs [hG];rfl,rfl⟩,by simp -implicitDefEqProofs [hG,pceC],by simp -implicitDefEqProofs [hG],acc_none⟩
end
end Go.Proofs.YtbfajkcmehaliabDoor
namespace Go.Proofs.YtbfajkcmehaliabDoor
open Go Go.RI
section
variable {G:AHeap} (hG:G.next=2)
include hG
def outC(x:Pce)(lv:AVal):List AVal:=[.i .i64 x.func,.i .i64 x.at_,.i .i64 x.many,.i .i64 x.homes,lv,.ns,.i .i64 x.exit,.i .i64 x.to,.i .i64 0,.i .i64 0,.i .i64 0,.i .i64 0,.s [],.ns,.ns,.i .i64 x.deep]
set_option maxHeartbeats 1000000 in
theorem t_meant(x:Pce)(hx:okPce x)(t1 t2 t3 t4:Bool):pureR IP G 6 [.ag (pceC x t1 t2 t3 t4)]=some (.ag (Enc.cells x)):=by
 have c0:=t_copyPce hG x hx t1 t2 t3 t4
 simp -implicitDefEqProofs [pceC] at c0
 obtain⟨ho1,ho2,ho3,ho4,ho5⟩:=hx
 have c1:=t_back hG x.sets ho3 ho4 false false
 refine pure_run ip6 rfl ?_
 simp -implicitDefEqProofs [I6,hG,pceC,c0]
 refine wp_loop_list (l:=x.ins) (by omega) (fun i todo e H=>∃ lv,e=[(2,.p 3 0),(3,.p 4 0),(4,.p 5 0),(5,.i .i64 i)]∧H.get 4=some (.cells (Enc.cells x) 1 false) ∧
  (∃ z,H.get 3=some (.cells z 1 false)∧z.length=16)∧H.get 5=some (.cells (outC x lv) 1 false)∧5<H.next∧Acc H 6 lv 5 i (encs (x.ins.take i))) ?_ ?_ ?_
 ·rintro i s todo e H hs hd hlt hlt2 hlt3 ⟨lv,rfl,g1,⟨z,g2,hz⟩,g3,hn,hA⟩
  obtain⟨a1,a2,a3,a4⟩:=ho1 s (List.mem_of_getElem? hs)
  have c3:=t_back hG s.l a3 a4 false false
  obtain⟨d,hd2⟩:∃ d,H.next=d+6:=⟨H.next-6,by omega⟩
  simp only[pceC,outC,cells_pce] at g1 g3
  clear hlt
  simp -implicitDefEqProofs [L6a,hlt2,hlt3,hs,g1,g3,c3,hd2]
  refine step_app (acc_keep hA (by simp) ?_) (lo':=6) (m:=1) (ys:=Enc.cells s) (by omega) (by simp<;>omega) (more_lit (cs:=Enc.cells s) (e:=5) (ro:=false) (by simp -implicitDefEqProofs [hd2]) (by simp) (by omega)) (by simp) (by omega) (by omega) (by omega) (by omega) ?_
  ·intro id a b hv
   have:=acc_lt hA id a b hv
   simp (disch:=(simp -implicitDefEqProofs [hd2];omega)) only[get_push_lt]
  intro H1 hn1 hA1 hf1
  have f1:∀ id,id<6→H1.get id=H.get id:=fun id h=>by
   rw[hf1 id (by simp;omega) (fun id2 a b hv=>by have:=acc_lt hA id2 a b hv;omega)]
   exact get_push_lt (by omega)
  simp -implicitDefEqProofs [hd2] at hn1 hA1
  clear hf1
  have e1:=(f1 4 (by omega)).trans g1
  have e2:=(f1 3 (by omega)).trans g2
  have e3:=(f1 5 (by omega)).trans g3
  simp -implicitDefEqProofs [hd2,hlt3,e1,e2,e3]
  refine⟨hz,_,rfl,by omega,acc_keep (by simpa[List.take_add_one,hs] using hA1) (by simp) fun id a b h=>?_⟩
  cases h
  simp
 ·rintro e H ⟨lv,rfl,g1,⟨z,g2,hz⟩,g3,hn,hA⟩
  simp only[pceC,outC,cells_pce] at g1 g3
  obtain⟨z0,z1,z2,z3,z4,z5,z6,z7,z8,z9,z10,z11,z12,z13,z14,z15,rfl⟩:=list16 hz
  simp -implicitDefEqProofs [L6a,g1]
  simp -implicitDefEqProofs [hG,g1,g2,g3,c1]
  rw[List.take_length] at hA
  have f1:=fun o p q=>hold_frz (k:=14) (hold_in hA.hold (H':=((H.put 5 p).put 5 q).put 3 o) (lo':=2) (by omega) (by simp) fun id h1 h2=>by simp -implicitDefEqProofs [show ¬ id=3 by omega,show ¬ id=5 by omega]) frz_encs
  simp -implicitDefEqProofs [f1]
 ·exact⟨.ns,rfl,by simp -implicitDefEqProofs [hG,pceC],⟨_,by simp -implicitDefEqProofs [hG];rfl,rfl⟩,by simp -implicitDefEqProofs [hG,outC],by simp -implicitDefEqProofs [hG],acc_none⟩
end
end Go.Proofs.YtbfajkcmehaliabDoor
namespace Go.RI
open Go
def chk1(s:Stp):Bool:=decide (s.op=40)&&(decide (s.l.length=1)&&decide ((s.l[0]?.getD default).kind=1))
def homeN(s:Stp):Nat:=((s.l[0]?.getD default).n % 64).toNat
def bump(d:Int)(M:List Int)(s:Stp):List Int:=if chk1 s=true then M.set (homeN s) (M[homeN s]?.getD 0+d) else M
theorem homeN_lt(s:Stp):homeN s<64:=by unfold homeN;omega
theorem bump_len{d:Int}{M:List Int}{s:Stp}:(bump d M s).length=M.length:=by
 unfold bump
 split
 ·simp
 ·rfl
theorem bump_bd{d B:Int}{M:List Int}{s:Stp}(hd:-1≤d∧d≤1)(hB:0≤B)(h:∀ v∈M,-B≤v∧v≤B):∀ v∈bump d M s,-(B+1)≤v∧v≤B+1:=by
 intro v hv
 unfold bump at hv
 split at hv
 ·rcases List.mem_or_eq_of_mem_set hv with h1|h1
  ·have:=h v h1;omega
  ·cases hx:M[homeN s]? with
   | none=>rw[hx] at h1;simp at h1;omega
   | some x=>rw[hx] at h1;simp at h1;have:=h x (List.mem_of_getElem? hx);omega
 ·have:=h v hv;omega
theorem bumps_len{d:Int}:∀ {l:List Stp} {M:List Int},(l.foldl (bump d) M).length=M.length
 | [],M=>rfl
 | s::l,M=>by rw[List.foldl_cons,bumps_len,bump_len]
theorem bumps_bd{d:Int}(hd:-1≤d∧d≤1):∀ {l:List Stp} {M:List Int} {B:Int},0≤B→(∀ v∈M,-B≤v∧v≤B)→∀ v∈l.foldl (bump d) M,-(B+l.length)≤v∧v≤B+l.length
  | [],M,B,hB,h=>by intro v hv;have:=h v hv;simp;omega
  | s::l,M,B,hB,h=>by
    intro v hv
    have:=bumps_bd hd (l:=l) (B:=B+1) (by omega) (bump_bd (s:=s) hd hB h) v hv
    simp only[List.length_cons]
    omega
theorem bump_get{d nh a:Int}{M:List Int}{s:Stp}{h:Nat}(hnh:nh≤64)(hM:M.length=64)(hs:stpFits nh a s=true)(hh:h<64):(bump d M s)[h]?.getD 0=M[h]?.getD 0+(if isChk h s=true then d else 0):=by
 unfold bump
 split
 ·rename_i hc
  unfold chk1 at hc
  simp only[Bool.and_eq_true,decide_eq_true_eq] at hc
  obtain⟨h1,h2,h3⟩:=hc
  obtain⟨o,hl⟩:=one_len h2
  have ho:s.l[0]?.getD default=o:=by rw[hl];rfl
  rw[ho] at h3
  obtain⟨b1,b2⟩:=opnFits_home (fits_all hs o (by rw[hl];simp)) h3
  have hn:homeN s=o.n.toNat:=by unfold homeN;rw[ho,Int.emod_eq_of_lt b1 (by omega)]
  rw[hn]
  by_cases he:o.n=h
  ·have:isChk h s=true:=by unfold isChk;rw[ho];simp[h1,h2,h3,he]
   have hx:o.n.toNat=h:=by omega
   rw[if_pos this,hx,List.getElem?_set_self (by omega)]
   rfl
  ·have:¬ isChk h s=true:=by unfold isChk;rw[ho];simp[he]
   rw[if_neg this,List.getElem?_set_ne (by omega)]
   simp
 ·rename_i hc
  have:¬ isChk h s=true:=fun hx=>by
   unfold isChk at hx
   simp only[Bool.and_eq_true,decide_eq_true_eq] at hx
   exact hc (by unfold chk1;simp only[Bool.and_eq_true,decide_eq_true_eq];exact⟨hx.1,hx.2.1,hx.2.2.1⟩)
  rw[if_neg this];simp
theorem bumps_get{d nh:Int}(hnh:nh≤64){h:Nat}(hh:h<64):∀ {l:List Stp} {M:List Int},M.length=64→(∀ s∈l,∃ a,stpFits nh a s=true)→(l.foldl (bump d) M)[h]?.getD 0=M[h]?.getD 0+d*(l.countP (isChk h):Nat)
  | [],M,hM,_=>by simp
  | s::l,M,hM,hf=>by
    obtain⟨a,hs⟩:=hf s (by simp)
    rw[List.foldl_cons,bumps_get hnh hh (by rw[bump_len];exact hM) fun t ht=>hf t (by simp[ht]),bump_get hnh hM hs hh,List.countP_cons]
    split
    · push_cast;rw[Int.mul_add];omega
    · simp
theorem guess_more{K:List Int}{x:Pce}(hc:checkP x=true)(hy:∀ s∈(gsP K x).out,∃ a,stpFits x.homes a s=true):∀ v∈x.ins.foldl (bump (-1)) ((gsP K x).out.foldl (bump 1) (List.replicate 64 0)),v=0∨v=1:=by
 intro v hv
 obtain⟨h,hh⟩:=List.getElem?_of_mem hv
 have hn:=(checkP_iff.1 hc).1
 unfold numsP at hn
 have hl:h<64:=by
  rcases Nat.lt_or_ge h 64 with h1|h1
  ·exact h1
  ·rw[List.getElem?_eq_none (by rw[bumps_len,bumps_len];simpa using h1)] at hh;cases hh
 have h1:=bumps_get (d:=-1) (nh:=x.homes) (by omega) hl (l:=x.ins) (M:=(gsP K x).out.foldl (bump 1) (List.replicate 64 0)) (by rw[bumps_len];simp) fun s hs=>by
  obtain⟨k,hk⟩:=List.getElem?_of_mem hs
  exact⟨_,check_fits hc k s hk⟩
 have h2:=bumps_get (d:=1) (nh:=x.homes) (by omega) hl (l:=(gsP K x).out) (M:=List.replicate 64 0) (by simp) hy
 obtain⟨e,e1,e2⟩:=guess_checks (K:=K) hc (h:=h) (by omega)
 rw[hh] at h1
 have h3:(List.replicate 64 (0:Int))[h]?.getD 0=0:=by rw[List.getElem?_replicate];split<;>rfl
 rw[h3] at h2
 simp only[Option.getD_some] at h1
 omega
end Go.RI
