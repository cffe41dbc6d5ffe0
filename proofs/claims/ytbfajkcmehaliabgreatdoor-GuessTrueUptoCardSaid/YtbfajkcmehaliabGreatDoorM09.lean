import Derived.Test.YtbfajkcmehaliabGreatDoorM08
set_option linter.unusedVariables false
set_option linter.unusedSimpArgs false
set_option linter.unusedSectionVars false
/- RI, part SK: a piece that leans on kinds, in plain terms (chapter 22). Conditions: none. -/
namespace Go.RI
open Go
def makesI(op n:Int):Int :=
 if op=6∨op=8∨op=10∨op=11∨op=12∨op=13∨op=41∨op=43∨op=44∨op=45∨op=48 then 1
 else if op=7∨op=14∨op=15∨op=16∨op=17∨op=42∨op=46∨op=47∨op=49 then 2
 else if op=20∨op=18 then 4
 else if op=21 then 5
 else if op=40 then n
 else -1
def typedI(op:Int):Int×Int×Bool :=
 if op=6 then(41,1,true) else if op=7 then(42,2,true) else if op=9 then(43,1,true) else if op=10 then(44,1,true)
 else if op=11 then(45,1,true) else if op=16 then(46,1,true) else if op=17 then(47,1,true) else(0,0,false)
structure GS where
 out:List Stp
 hs:List Int
 pl:List Int
def stpKind(i:Stp):Int:=makesI i.op i.n
def knownI(g:GS)(o:Opn):Int:=if o.kind=1 then g.hs[o.n.toNat]?.getD 0 else if o.kind=2 then stpKind (g.out[o.n.toNat]?.getD default) else o.v.kind
def saysI(K:List Int)(g:GS)(o:Opn)(k:Int):Bool:=decide (o.kind=1)&&(decide (g.hs[o.n.toNat]?.getD 0=-1)&&(decide (o.n<K.length)&&decide (K[o.n.toNat]?.getD 0=k)))
def checkI(K:List Int)(g:GS)(o:Opn)(k:Int):GS:=if saysI K g o k=true then⟨g.out++[⟨40,k,[o],[],[]⟩],g.hs.set o.n.toNat k,g.pl⟩ else g
def chkL(K:List Int)(k:Int):GS→List Opn→GS
 | g,[]=>g
 | g,o::l=>chkL K k (checkI K g o k) l
def movedO(pl:List Int)(o:Opn):Opn:=if o.kind=2 then{ o with n:=pl[o.n.toNat]?.getD 0 } else o
def chkG(K:List Int)(g:GS)(i:Stp):GS:=if(typedI i.op).2.2=true then chkL K (typedI i.op).2.1 g (i.l.map (movedO g.pl)) else g
def opG(g:GS)(op:Int)(l:List Opn):Int:=if(typedI op).2.2=true then(if l.all (fun o=>decide (knownI g o=(typedI op).2.1))=true then(typedI op).1 else op) else op
def noteG(hs:List Int)(i:Stp)(l:List Opn):List Int:=if i.op=40∧(l[0]?.getD default).kind=1 then hs.set (l[0]?.getD default).n.toNat i.n else hs
def turnG(K:List Int)(g:GS)(i:Stp):Stp:=⟨opG (chkG K g i) i.op (i.l.map (movedO g.pl)),i.n,i.l.map (movedO g.pl),i.s,i.names⟩
def stepG(K:List Int)(g:GS)(i:Stp):GS:=⟨(chkG K g i).out++[turnG K g i],noteG (chkG K g i).hs i (i.l.map (movedO g.pl)),g.pl++[((chkG K g i).out.length:Int)]⟩
def gsOf(K:List Int):GS→List Stp→GS
 | g,[]=>g
 | g,i::l=>gsOf K (stepG K g i) l
def gs0(x:Pce):GS:=⟨[],List.replicate x.homes.toNat (-1),[]⟩
def gsP(K:List Int)(x:Pce):GS:=gsOf K (gs0 x) x.ins
def guessP(K:List Int)(x:Pce):Pce:={ x with ins:=(gsP K x).out,sets:=x.sets.map (movedO (gsP K x).pl),cond:=movedO (gsP K x).pl x.cond }
theorem typed_kind{op:Int}(h:(typedI op).2.2=true):(typedI op).2.1=1∨(typedI op).2.1=2:=by
 unfold typedI at h ⊢
 repeat' split
 all_goals simp_all
theorem typed_cases{op:Int}(h:(typedI op).2.2=true):(op=6∧typedI op=(41,1,true))∨(op=7∧typedI op=(42,2,true))∨(op=9∧typedI op=(43,1,true))∨(op=10∧typedI op=(44,1,true))∨(op=11∧typedI op=(45,1,true))∨(op=16∧typedI op=(46,1,true))∨(op=17∧typedI op=(47,1,true)):=by
 by_cases h1:op=6
 ·subst h1;exact .inl ⟨rfl,rfl⟩
 by_cases h2:op=7
 ·subst h2;exact .inr (.inl ⟨rfl,rfl⟩)
 by_cases h3:op=9
 ·subst h3;exact .inr (.inr (.inl ⟨rfl,rfl⟩))
 by_cases h4:op=10
 ·subst h4;exact .inr (.inr (.inr (.inl ⟨rfl,rfl⟩)))
 by_cases h5:op=11
 ·subst h5;exact .inr (.inr (.inr (.inr (.inl ⟨rfl,rfl⟩))))
 by_cases h6:op=16
 ·subst h6;exact .inr (.inr (.inr (.inr (.inr (.inl ⟨rfl,rfl⟩)))))
 by_cases h7:op=17
 ·subst h7;exact .inr (.inr (.inr (.inr (.inr (.inr ⟨rfl,rfl⟩)))))
 simp[typedI,h1,h2,h3,h4,h5,h6,h7] at h
structure GoodG (nh:Int) (g:GS) (m:Nat):Prop where
 fits:Fits nh g.out
 hs:g.hs.length=nh.toNat
 pl:g.pl.length=m
 at_:∀(j:Nat) (p:Int),g.pl[j]?=some p→0≤p∧p<g.out.length
theorem chk_fits{nh a k:Int}{o:Opn}(hk:k=1∨k=2)(h:opnFits nh a o=true):stpFits nh a ⟨40,k,[o],[],[]⟩=true:=by
 rcases hk with rfl|rfl<;>simp[stpFits,needs,nmd,h]
theorem checkI_good{K:List Int}{nh k:Int}{g:GS}{m:Nat}{o:Opn}(hg:GoodG nh g m)(ho:opnFits nh g.out.length o=true)(hk:k=1∨k=2) :
  GoodG nh (checkI K g o k) m∧g.out.length≤(checkI K g o k).out.length∧(checkI K g o k).pl=g.pl:=by
 unfold checkI
 split
 ·refine⟨⟨fits_add hg.fits (chk_fits hk ho),by simpa using hg.hs,hg.pl,fun j p h=>?_⟩,by simp,rfl⟩
  have:=hg.at_ j p h
  simp;omega
 ·exact⟨hg,Nat.le_refl _,rfl⟩
theorem chkL_good{K:List Int}{nh k:Int}{m:Nat}(hk:k=1∨k=2):∀(l:List Opn) (g:GS),GoodG nh g m→(∀ o∈l,opnFits nh g.out.length o=true) →
    GoodG nh (chkL K k g l) m∧g.out.length≤(chkL K k g l).out.length∧(chkL K k g l).pl=g.pl
  | [],g,hg,_=>⟨hg,Nat.le_refl _,rfl⟩
  | o::l,g,hg,h=>by
    obtain⟨h1,h2,h3⟩:=checkI_good (K:=K) hg (h o (by simp)) hk
    obtain⟨h4,h5,h6⟩:=chkL_good (K:=K) hk l _ h1 fun o ho=>opnFits_mono (by omega) (h o (by simp[ho]))
    exact⟨h4,by simp only[chkL];omega,h6.trans h3⟩
theorem moved_fits{nh:Int}{g:GS}{m:Nat}{o:Opn}(hg:GoodG nh g m)(h:opnFits nh m o=true):opnFits nh g.out.length (movedO g.pl o)=true:=by
 unfold movedO
 by_cases h2:o.kind=2
 ·rw[if_pos h2]
  unfold opnFits at h ⊢
  rw[if_neg (by omega),if_pos h2] at h
  simp only[Bool.and_eq_true,decide_eq_true_eq] at h
  obtain⟨p,hp⟩:=get_of_lt (l:=g.pl) (i:=o.n.toNat) (by rw[hg.pl];omega)
  have:=hg.at_ _ _ hp
  simp[h2,hp,this,h.2]
 ·rw[if_neg h2]
  unfold opnFits at h ⊢
  rw[if_neg h2] at h ⊢
  exact h
theorem chkG_good{K:List Int}{nh:Int}{g:GS}{m:Nat}{i:Stp}(hg:GoodG nh g m)(hi:stpFits nh m i=true) :
  GoodG nh (chkG K g i) m∧g.out.length≤(chkG K g i).out.length∧(chkG K g i).pl=g.pl:=by
 unfold chkG
 split
 ·rename_i h
  refine chkL_good (typed_kind h) _ g hg fun o ho=>?_
  obtain⟨o',ho',rfl⟩:=List.mem_map.1 ho
  exact moved_fits hg (fits_all hi o' ho')
 ·exact⟨hg,Nat.le_refl _,rfl⟩
theorem needs_typed{i:Stp}{l:List Opn}(h:(typedI i.op).2.2=true):needs ⟨(typedI i.op).1,i.n,l,i.s,i.names⟩=needs i∧(needs i).1=(if i.op=6∨i.op=7 then 1 else 2)∧(needs i).2.1=(needs i).1:=by
 rcases typed_cases h with⟨h1,h2⟩|⟨h1,h2⟩|⟨h1,h2⟩|⟨h1,h2⟩|⟨h1,h2⟩|⟨h1,h2⟩|⟨h1,h2⟩<;>simp only[h2]<;>simp[needs,h1,bareI,nmd]
theorem needs_op{g:GS}{i:Stp}{l l':List Opn}:needs ⟨opG g i.op l,i.n,l',i.s,i.names⟩=needs i:=by
 unfold opG
 split
 ·split
  ·rename_i h _;exact(needs_typed h).1
  ·rfl
 ·rfl
theorem turn_fits{K:List Int}{nh:Int}{g:GS}{m:Nat}{i:Stp}(hg:GoodG nh g m)(hi:stpFits nh m i=true):stpFits nh (chkG K g i).out.length (turnG K g i)=true:=by
 obtain⟨h1,h2,h3⟩:=chkG_good (K:=K) hg hi
 unfold stpFits
 unfold turnG
 rw[needs_op]
 have hi2:=hi
 unfold stpFits at hi
 simp only[Bool.and_eq_true,List.all_eq_true,decide_eq_true_eq,List.length_map] at hi ⊢
 refine⟨hi.1,fun o ho=>?_⟩
 obtain⟨o',ho',rfl⟩:=List.mem_map.1 ho
 exact opnFits_mono (by omega) (moved_fits hg (fits_all hi2 o' ho'))
theorem noteG_len{hs:List Int}{i:Stp}{l:List Opn}:(noteG hs i l).length=hs.length:=by
 unfold noteG;split<;>simp
theorem stepG_good{K:List Int}{nh:Int}{g:GS}{m:Nat}{i:Stp}(hg:GoodG nh g m)(hi:stpFits nh m i=true):GoodG nh (stepG K g i) (m+1):=by
 obtain⟨h1,h2,h3⟩:=chkG_good (K:=K) hg hi
 refine⟨fits_add h1.fits (turn_fits hg hi),?_,by simp[stepG,hg.pl],fun j p h=>?_⟩
 ·simp only[stepG,noteG_len];exact h1.hs
 ·simp only[stepG] at h ⊢
  rcases Nat.lt_or_ge j g.pl.length with h4|h4
  ·rw[List.getElem?_append_left h4] at h
   have:=hg.at_ j p h
   simp;omega
  ·rw[List.getElem?_append_right h4] at h
   rcases Nat.eq_zero_or_pos (j-g.pl.length) with h5|h5
   ·rw[h5] at h
    simp at h
    subst h
    simp;omega
   ·rw[List.getElem?_eq_none (by simp;omega)] at h;cases h
theorem gsOf_good{K:List Int}{nh:Int}:∀(l:List Stp) (g:GS) (m:Nat),GoodG nh g m→(∀(k:Nat) (s:Stp),l[k]?=some s→stpFits nh (m+k:Nat) s=true)→GoodG nh (gsOf K g l) (m+l.length)
  | [],g,m,hg,_=>hg
  | i::l,g,m,hg,h=>by
    have h1:=stepG_good (K:=K) hg (h 0 i rfl)
    have h2:=gsOf_good (K:=K) l _ (m+1) h1 fun k s hk=>by
      have:=h (k+1) s (by simpa using hk)
      rwa [show m+(k+1)=m+1+k by omega] at this
    simp only[gsOf,List.length_cons]
    rwa [show m+1+l.length=m+(l.length+1) by omega] at h2
theorem gs0_good{x:Pce}:GoodG x.homes (gs0 x) 0:=⟨fun k s h=>by simp[gs0] at h,by simp[gs0],rfl,fun j p h=>by simp[gs0] at h⟩
theorem gsP_good{K:List Int}{x:Pce}(hc:checkP x=true):GoodG x.homes (gsP K x) x.ins.length:=by
 have:=gsOf_good (K:=K) x.ins (gs0 x) 0 gs0_good fun k s h=>by have:=check_fits hc k s h;simpa using this
 simpa[gsP] using this
theorem guessP_check{K:List Int}{x:Pce}(hc:checkP x=true)(hl:(gsP K x).out.length≤4096):checkP (guessP K x)=true:=by
 have hg:=gsP_good (K:=K) hc
 rw[checkP_iff] at hc ⊢
 obtain⟨h1,h2,h3,h4⟩:=hc
 refine⟨?_,stepsFit_of _ 0 fun k s hk=>by rw[show((0:Nat):Int)+(k:Int)=k by omega];exact hg.fits k s hk,?_,?_⟩
 ·unfold numsP at h1 ⊢
  simp only[guessP,List.length_map]
  refine⟨h1.1,h1.2.1,h1.2.2.1,h1.2.2.2.1,h1.2.2.2.2.1,by omega,h1.2.2.2.2.2.2⟩
 ·unfold condP at h3
  show(if x.exit=2 then opnFits x.homes ((gsP K x).out.length:Int) (movedO (gsP K x).pl x.cond) else decide ((movedO (gsP K x).pl x.cond).kind=0)&&decide ((movedO (gsP K x).pl x.cond).n=0)&&noneV (movedO (gsP K x).pl x.cond).v)=true
  by_cases he:x.exit=2
  ·rw[if_pos he] at h3 ⊢;exact moved_fits hg h3
  ·rw[if_neg he] at h3 ⊢
   have hk:¬ x.cond.kind=2:=by
    simp only[Bool.and_eq_true,decide_eq_true_eq] at h3
    omega
   rw[movedO,if_neg hk]
   exact h3
 ·rw[List.all_eq_true] at h4 ⊢
  intro o ho
  simp only[guessP] at ho ⊢
  obtain⟨o',ho',rfl⟩:=List.mem_map.1 ho
  exact moved_fits hg (h4 o' ho')
end Go.RI
namespace Go.RI
open Go
end Go.RI
namespace Go.RI
open Go
theorem steps_app{homes:List Val}:∀(a b:List Stp) (m:List Val),stepsV homes (a++b) m=(stepsV homes a m).bind (stepsV homes b)
  | [],b,m=>rfl
  | i::a,b,m=>by
    simp only[List.cons_append,stepsV]
    cases h:stepV i (i.l.map (ofO homes m)) with
    | none=>rfl
    | some v=>exact steps_app a b _
theorem steps_pre{homes:List Val}:∀(l:List Stp) (m made:List Val),stepsV homes l m=some made→∃ more,made=m++more∧more.length=l.length
  | [],m,made,h=>by cases h;exact⟨[],by simp,rfl⟩
  | i::l,m,made,h=>by
    simp only[stepsV] at h
    split at h
    · rename_i v hv
      obtain⟨more,h1,h2⟩:=steps_pre l _ _ h
      exact⟨v::more,by rw[h1];simp,by simp[h2]⟩
    · cases h
theorem steps_len{homes:List Val}{l:List Stp}{made:List Val}(h:stepsV homes l []=some made):made.length=l.length:=by
 obtain⟨more,h1,h2⟩:=steps_pre _ _ _ h
 simp[h1,h2]
theorem steps_at{homes:List Val}:∀(l:List Stp) (m made:List Val) (k:Nat) (s:Stp),stepsV homes l m=some made→l[k]?=some s→∃ v w,made[m.length+k]?=some v∧stepV s w=some v
  | [],_,_,_,_,_,hs=>by simp at hs
  | i::l,m,made,k,s,h,hs=>by
    simp only[stepsV] at h
    split at h
    · rename_i v hv
      cases k with
      | zero =>
        obtain⟨more,h1,h2⟩:=steps_pre l _ _ h
        simp at hs
        subst hs
        exact⟨v,_,by rw[h1];simp,hv⟩
      | succ k =>
        obtain⟨v,w,h1,h2⟩:=steps_at l _ _ k s h (by simpa using hs)
        refine⟨v,w,?_,h2⟩
        rw[←h1]
        congr 1
        simp;omega
    · cases h
theorem bin_int{op:Int}{a b v:Val}(ho:op=10∨op=11∨op=12∨op=13)(h:resV (binaryV op a b)=some v):v.kind=1:=by
 obtain⟨rfl,h1,h2⟩:=res_eq h
 unfold binaryV at h1 h2 ⊢
 split
 ·rename_i hc;rw[if_pos hc] at h2;cases h2
 rename_i hc
 rw[if_neg hc] at h1
 simp only at h1 ⊢
 unfold binV2 at h1 ⊢
 rw[if_neg (by omega),if_neg (by omega)] at h1 ⊢
 by_cases hk:a.kind=1∧b.kind=1
 ·rw[if_pos hk] at h1 ⊢
  rcases ho with rfl|rfl|rfl|rfl
  ·rfl
  ·rfl
  ·by_cases hb:b.n=0
   ·simp[intsV,hb] at h1
   ·simp[intsV,hb,numV]
  ·by_cases hb:b.n=0
   ·simp[intsV,hb] at h1
   ·simp[intsV,hb,numV]
 ·rw[if_neg hk] at h1
  exfalso
  split at h1
  ·rcases ho with rfl|rfl|rfl|rfl<;>simp[textsV] at h1
  ·rw[if_neg (by omega),if_neg (by omega),if_neg (by omega)] at h1;cases h1
theorem bin_yes{op:Int}{a b v:Val}(ho:op=14∨op=15∨op=16∨op=17)(h:resV (binaryV op a b)=some v):v.kind=2:=by
 obtain⟨rfl,h1,h2⟩:=res_eq h
 unfold binaryV at h1 h2 ⊢
 split
 ·rename_i hc;rw[if_pos hc] at h2;cases h2
 rename_i hc
 rw[if_neg hc] at h1
 simp only at h1 ⊢
 unfold binV2 at h1 ⊢
 rcases ho with rfl|rfl|rfl|rfl
 ·rfl
 ·rfl
 ·rw[if_neg (by omega),if_neg (by omega)] at h1 ⊢
  split
  ·rfl
  rename_i hk
  rw[if_neg hk] at h1
  split
  ·rfl
  rename_i hk2
  rw[if_neg hk2,if_neg (by omega),if_neg (by omega),if_neg (by omega)] at h1
  cases h1
 ·rw[if_neg (by omega),if_neg (by omega)] at h1 ⊢
  split
  ·rfl
  rename_i hk
  rw[if_neg hk] at h1
  split
  ·rfl
  rename_i hk2
  rw[if_neg hk2,if_neg (by omega),if_neg (by omega),if_neg (by omega)] at h1
  cases h1
theorem made_kind{v:Val}(h:(madeV v).2=0):(madeV v).1=v:=by
 unfold madeV at h ⊢
 split
 ·rfl
 ·rename_i hm;rw[if_neg hm] at h;cases h
theorem bin_push{a b v:Val}(h:resV (binaryV 18 a b)=some v):v.kind=4:=by
 obtain⟨rfl,h1,h2⟩:=res_eq h
 unfold binaryV at h1 h2 ⊢
 split
 ·rename_i hc;rw[if_pos hc] at h2;cases h2
 rename_i hc
 rw[if_neg hc] at h1
 simp only at h1 ⊢
 unfold binV2 at h1 ⊢
 rw[if_neg (by omega),if_neg (by omega)] at h1 ⊢
 split
 ·rename_i hk;rw[if_pos hk] at h1;simp[intsV] at h1
 rename_i hk
 rw[if_neg hk] at h1
 split
 ·rename_i hk2;rw[if_pos hk2] at h1;simp[textsV] at h1
 rename_i hk2
 rw[if_neg hk2] at h1
 split
 ·rename_i hk3
  rw[if_pos hk3] at h1
  unfold longerV at h1 ⊢
  rw[made_kind h1]
  rfl
 ·rename_i hk3
  rw[if_neg hk3,if_neg (by omega),if_neg (by omega)] at h1
  cases h1
theorem un_kind{op:Int}{a v:Val}(h:resV (unaryV op a)=some v):(op=6∨op=8→v.kind=1)∧(op=7→v.kind=2):=by
 obtain⟨rfl,h1,h2⟩:=res_eq h
 unfold unaryV at h1 h2 ⊢
 split
 ·rename_i hc;rw[if_pos hc] at h2;cases h2
 rename_i hc
 rw[if_neg hc] at h1
 constructor
 ·rintro(rfl|rfl)
  ·by_cases hk:a.kind=1
   ·simp[hk,numV]
   ·simp[hk] at h1
  ·by_cases hk:a.kind=3∨a.kind=4
   ·simp[hk,numV]
   ·simp[hk] at h1
 ·rintro rfl
  by_cases hk:a.kind=2
  ·simp[hk,yesV]
  ·simp[hk] at h1
theorem list_kind{l:List Val}{v:Val}(h:resV (listV l)=some v):v.kind=4:=by
 obtain⟨rfl,h1,h2⟩:=res_eq h
 unfold listV at h1 h2 ⊢
 split
 ·rename_i hc;rw[if_pos hc] at h1;simp only at h1 ⊢;rw[made_kind h1];rfl
 ·rename_i hc;rw[if_neg hc] at h2;cases h2
theorem rec_kind{ns:List Str}{l:List Val}{v:Val}(h:resV (recV ns l)=some v):v.kind=5:=by
 obtain⟨rfl,h1,h2⟩:=res_eq h
 unfold recV at h1 h2 ⊢
 split
 ·rename_i hc;rw[if_pos hc] at h1;simp only at h1 ⊢;rw[made_kind h1];rfl
 ·rename_i hc;rw[if_neg hc] at h2;cases h2
theorem ints_res{op:Int}{a b v:Val}(h:intsS op a b=some v):a.kind=1∧b.kind=1∧resV (binaryV op a b)=some v:=by
 unfold intsS at h
 split at h
 ·rename_i hk;exact⟨hk.1,hk.2,h⟩
 ·cases h
theorem ints_nine{a b v:Val}(h:intsS 9 a b=some v):v.kind=1:=by
 obtain⟨h1,h2,h3⟩:=ints_res h
 obtain⟨rfl,h4,h5⟩:=res_eq h3
 unfold binaryV at h4 h5 ⊢
 split
 ·rename_i hc;rw[if_pos hc] at h5;cases h5
 simp[binV2,h1,h2,intsV,numV]
theorem stepV_op{i:Stp}{l:List Val}{v:Val}(h:stepV i l=some v):opS i l=some v∧(needs i).2.2=true:=by
 unfold stepV at h
 split at h
 ·rename_i hc;exact⟨h,hc.1⟩
 ·cases h
theorem makes_kind{i:Stp}{l:List Val}{v:Val}(h:stepV i l=some v)(hk:stpKind i≠-1):v.kind=stpKind i:=by
 obtain⟨h,hn⟩:=stepV_op h
 unfold stpKind makesI at hk ⊢
 split
 ·rename_i ho
  rcases ho with h1|h1|h1|h1|h1|h1|h1|h1|h1|h1|h1
  ·simp[opS,h1,needs] at h;exact(un_kind h).1 (.inl rfl)
  ·simp[opS,h1,needs] at h;exact(un_kind h).1 (.inr rfl)
  ·simp[opS,h1,needs] at h;exact bin_int (by omega) h
  ·simp[opS,h1,needs] at h;exact bin_int (by omega) h
  ·simp[opS,h1,needs] at h;exact bin_int (by omega) h
  ·simp[opS,h1,needs] at h;exact bin_int (by omega) h
  ·simp[opS,h1] at h;exact(un_kind h).1 (.inl rfl)
  ·simp[opS,h1] at h;exact ints_nine h
  ·simp[opS,h1] at h;exact bin_int (op:=10) (by omega) (ints_res h).2.2
  ·simp[opS,h1] at h;exact bin_int (op:=11) (by omega) (ints_res h).2.2
  ·simp[opS,h1] at h;exact ints_nine h
 rename_i c1
 rw[if_neg c1] at hk
 split
 ·rename_i ho
  rcases ho with h1|h1|h1|h1|h1|h1|h1|h1|h1
  ·simp[opS,h1,needs] at h;exact(un_kind h).2 rfl
  ·simp[opS,h1,needs] at h;exact bin_yes (by omega) h
  ·simp[opS,h1,needs] at h;exact bin_yes (by omega) h
  ·simp[opS,h1,needs] at h;exact bin_yes (by omega) h
  ·simp[opS,h1,needs] at h;exact bin_yes (by omega) h
  ·simp[opS,h1] at h;exact(un_kind h).2 rfl
  ·simp[opS,h1] at h;exact bin_yes (op:=16) (by omega) (ints_res h).2.2
  ·simp[opS,h1] at h;exact bin_yes (op:=17) (by omega) (ints_res h).2.2
  ·simp[opS,h1] at h;exact bin_yes (op:=16) (by omega) (ints_res h).2.2
 rename_i c2
 rw[if_neg c2] at hk
 split
 ·rename_i ho
  rcases ho with h1|h1
  ·simp[opS,h1] at h;exact list_kind h
  ·simp[opS,h1,needs] at h;exact bin_push h
 rename_i c3
 rw[if_neg c3] at hk
 split
 ·rename_i h1;simp[opS,h1] at h;exact rec_kind h
 rename_i c4
 rw[if_neg c4] at hk
 split
 ·rename_i h1
  simp[opS,h1] at h
  rw[←h.2,h.1]
 ·rename_i c5
  rw[if_neg c5] at hk
  exact absurd rfl hk
theorem typed_makes{i:Stp}{l:List Opn}{vs:List Val}(h:(typedI i.op).2.2=true)(hv:∀ v∈vs,v.kind=(typedI i.op).2.1):stepV ⟨(typedI i.op).1,i.n,l,i.s,i.names⟩ vs=stepV i vs:=by
 obtain⟨n1,n2,n3⟩:=needs_typed (l:=l) h
 unfold stepV
 rw[n1]
 split
 ·rename_i hc
  have hlen:(vs.length:Int)=(needs i).1:=by omega
  rcases typed_cases h with⟨h1,h2⟩|⟨h1,h2⟩|⟨h1,h2⟩|⟨h1,h2⟩|⟨h1,h2⟩|⟨h1,h2⟩|⟨h1,h2⟩
  ·simp only[opS,h2];simp[h1,n2]
  ·simp only[opS,h2];simp[h1,n2]
  all_goals
   rw[n2,if_neg (by omega)] at hlen
   obtain⟨a,b,rfl⟩:∃ a b,vs=[a,b]:=by
    match vs,hlen with
    | [a,b],_=>exact⟨a,b,rfl⟩
   rw[h2] at hv
   have ha:=hv a (by simp)
   have hb:=hv b (by simp)
   simp only at ha hb
   simp only[opS,h2]
   simp[h1,n2,intsS,ha,hb]
 ·rfl
end Go.RI
namespace Go.RI
open Go
def Wrong(K:List Int)(homes:List Val):Prop:=∃(h:Nat) (k:Int) (v:Val),K[h]?=some k∧(k=1∨k=2)∧homes[h]?=some v∧v.kind≠k
structure Sem (homes:List Val) (g:GS) (made md:List Val):Prop where
 run:stepsV homes g.out []=some made
 at_:∀(j:Nat) (p:Int),g.pl[j]?=some p→made[p.toNat]?=md[j]?
 hs:∀(h:Nat) (k:Int),g.hs[h]?=some k→k≠-1→∃ v,homes[h]?=some v∧v.kind=k
theorem says_iff{K:List Int}{g:GS}{o:Opn}{k:Int}(h:saysI K g o k=true):o.kind=1∧g.hs[o.n.toNat]?.getD 0=-1∧o.n<K.length∧K[o.n.toNat]?.getD 0=k:=by
 simpa[saysI] using h
theorem chk_makes{k:Int}{o:Opn}{v:Val}(hk:k=1∨k=2)(hv:mayV v=true):stepV ⟨40,k,[o],[],[]⟩ [v]=if v.kind=k then some v else none:=by
 rcases hk with rfl|rfl<;>simp[stepV,needs,nmd,opS,hv]
theorem checkI_sem{K:List Int}{homes made md:List Val}{nh k:Int}{g:GS}{m:Nat}{o:Opn}(hall:homes.all mayV=true)(hlen:(homes.length:Int)=nh)(hg:GoodG nh g m)(hs:Sem homes g made md)(ho:opnFits nh g.out.length o=true)(hk:k=1∨k=2) :
  (∃ made1,Sem homes (checkI K g o k) made1 md)∨(stepsV homes (checkI K g o k).out []=none∧Wrong K homes):=by
 unfold checkI
 split
 ·rename_i h
  obtain⟨h1,h2,h3,h4⟩:=says_iff h
  obtain⟨b1,b2⟩:=opnFits_home ho h1
  obtain⟨v,hv⟩:=get_of_lt (l:=homes) (i:=o.n.toNat) (by omega)
  obtain⟨kk,hkk⟩:=get_of_lt (l:=K) (i:=o.n.toNat) (by omega)
  rw[hkk] at h4
  have h4:kk=k:=h4
  subst h4
  have hm:mayV v=true:=List.all_eq_true.1 hall v (List.mem_of_getElem? hv)
  have hof:ofO homes made o=v:=by simp[ofO,h1,hv]
  have hr:stepsV homes (g.out++[⟨40,kk,[o],[],[]⟩]) []=if v.kind=kk then some (made++[v]) else none:=by
   rw[steps_app,hs.run]
   simp only[Option.bind_some,stepsV,List.map_cons,List.map_nil,hof]
   rw[chk_makes hk hm]
   by_cases hkv:v.kind=kk
   ·rw[if_pos hkv,if_pos hkv]
   ·rw[if_neg hkv,if_neg hkv]
  by_cases hkv:v.kind=kk
  ·rw[if_pos hkv] at hr
   refine .inl ⟨made++[v],hr,fun j p hp=>?_,fun h k hh hne=>?_⟩
   ·have:=hg.at_ j p hp
    have hl:=steps_len hs.run
    rw[List.getElem?_append_left (by omega)]
    exact hs.at_ j p hp
   ·simp only at hh
    by_cases he:h=o.n.toNat
    ·subst he
     have hlt:o.n.toNat<g.hs.length:=by rw[hg.hs];omega
     rw[List.getElem?_set_self hlt] at hh
     cases hh
     exact⟨v,hv,hkv⟩
    ·rw[List.getElem?_set_ne (fun e=>he e.symm)] at hh
     exact hs.hs h k hh hne
  ·rw[if_neg hkv] at hr
   exact .inr ⟨hr,o.n.toNat,kk,v,hkk,hk,hv,hkv⟩
 ·exact .inl ⟨made,hs⟩
theorem checkI_ext{K:List Int}{g:GS}{o:Opn}{k:Int}:∃ C,(checkI K g o k).out=g.out++C:=by
 unfold checkI
 split
 ·exact⟨_,rfl⟩
 ·exact⟨[],by simp⟩
theorem chkL_ext{K:List Int}{k:Int}:∀(l:List Opn) (g:GS),∃ C,(chkL K k g l).out=g.out++C
  | [],g=>⟨[],by simp[chkL]⟩
  | o::l,g=>by
    obtain⟨C,h1⟩:=checkI_ext (K:=K) (g:=g) (o:=o) (k:=k)
    obtain⟨D,h2⟩:=chkL_ext (K:=K) (k:=k) l (checkI K g o k)
    exact⟨C++D,by rw[chkL,h2,h1,List.append_assoc]⟩
theorem chkG_ext{K:List Int}{g:GS}{i:Stp}:∃ C,(chkG K g i).out=g.out++C:=by
 unfold chkG
 split
 ·exact chkL_ext _ _
 ·exact⟨[],by simp⟩
theorem stepG_ext{K:List Int}{g:GS}{i:Stp}:∃ C,(stepG K g i).out=g.out++C:=by
 obtain⟨C,h⟩:=chkG_ext (K:=K) (g:=g) (i:=i)
 exact⟨C++[turnG K g i],by simp[stepG,h]⟩
theorem gsOf_ext{K:List Int}:∀(l:List Stp) (g:GS),∃ C,(gsOf K g l).out=g.out++C
  | [],g=>⟨[],by simp[gsOf]⟩
  | i::l,g=>by
    obtain⟨C,h1⟩:=stepG_ext (K:=K) (g:=g) (i:=i)
    obtain⟨D,h2⟩:=gsOf_ext (K:=K) l (stepG K g i)
    exact⟨C++D,by rw[gsOf,h2,h1,List.append_assoc]⟩
theorem none_ext{homes:List Val}{a b C:List Stp}(h:stepsV homes a []=none)(e:b=a++C):stepsV homes b []=none:=by
 rw[e,steps_app,h];rfl
theorem chkL_sem{K:List Int}{homes md:List Val}{nh k:Int}{m:Nat}(hall:homes.all mayV=true)(hlen:(homes.length:Int)=nh)(hk:k=1∨k=2):∀(l:List Opn) (g:GS) (made:List Val),GoodG nh g m→Sem homes g made md→(∀ o∈l,opnFits nh g.out.length o=true) →
    (∃ made1,Sem homes (chkL K k g l) made1 md)∨(stepsV homes (chkL K k g l).out []=none∧Wrong K homes)
  | [],g,made,_,hs,_=>.inl ⟨made,hs⟩
  | o::l,g,made,hg,hs,h=>by
    obtain⟨h1,h2,h3⟩:=checkI_good (K:=K) hg (h o (by simp)) hk
    rcases checkI_sem (K:=K) hall hlen hg hs (h o (by simp)) hk with⟨made1,hs1⟩|⟨hn,hw⟩
    · exact chkL_sem hall hlen hk l _ made1 h1 hs1 fun o ho=>opnFits_mono (by omega) (h o (by simp[ho]))
    · obtain⟨C,hC⟩:=chkL_ext (K:=K) (k:=k) l (checkI K g o k)
      exact .inr ⟨none_ext hn hC,hw⟩
theorem chkG_sem{K:List Int}{homes made md:List Val}{nh:Int}{g:GS}{m:Nat}{i:Stp}(hall:homes.all mayV=true)(hlen:(homes.length:Int)=nh)(hg:GoodG nh g m)(hs:Sem homes g made md)(hi:stpFits nh m i=true) :
  (∃ made1,Sem homes (chkG K g i) made1 md)∨(stepsV homes (chkG K g i).out []=none∧Wrong K homes):=by
 unfold chkG
 split
 ·rename_i h
  refine chkL_sem hall hlen (typed_kind h) _ g made hg hs fun o ho=>?_
  obtain⟨o',ho',rfl⟩:=List.mem_map.1 ho
  exact moved_fits hg (fits_all hi o' ho')
 ·exact .inl ⟨made,hs⟩
theorem moved_of{homes made md:List Val}{nh:Int}{g:GS}{m:Nat}{o:Opn}{pl:List Int}(hpl:g.pl=pl)(hg:GoodG nh g m)(hs:Sem homes g made md)(h:opnFits nh m o=true):ofO homes made (movedO pl o)=ofO homes md o:=by
 subst hpl
 unfold movedO
 by_cases h2:o.kind=2
 ·rw[if_pos h2]
  obtain⟨b1,b2⟩:=opnFits_step h h2
  obtain⟨p,hp⟩:=get_of_lt (l:=g.pl) (i:=o.n.toNat) (by rw[hg.pl];omega)
  have:=hs.at_ _ _ hp
  simp[ofO,h2,hp,this]
 ·rw[if_neg h2]
  simp[ofO,h2]
theorem known_kind{homes made md:List Val}{nh:Int}{g:GS}{m:Nat}{o:Opn}{k:Int}(hlen:(homes.length:Int)=nh)(hg:GoodG nh g m)(hs:Sem homes g made md)(ho:opnFits nh g.out.length o=true)(hk:knownI g o=k)(hne:k≠-1):(ofO homes made o).kind=k:=by
 unfold knownI at hk
 split at hk
 ·rename_i h1
  obtain⟨b1,b2⟩:=opnFits_home ho h1
  obtain⟨x,hx⟩:=get_of_lt (l:=g.hs) (i:=o.n.toNat) (by rw[hg.hs];omega)
  rw[hx] at hk
  have hk:x=k:=hk
  subst hk
  obtain⟨v,hv,hvk⟩:=hs.hs _ _ hx hne
  simp[ofO,h1,hv,hvk]
 ·split at hk
  ·rename_i h2
   obtain⟨b1,b2⟩:=opnFits_step ho h2
   obtain⟨s,hs2⟩:=get_of_lt (l:=g.out) (i:=o.n.toNat) (by omega)
   rw[hs2] at hk
   have hk:stpKind s=k:=hk
   obtain⟨v,w,h3,h4⟩:=steps_at _ _ _ _ _ hs.run hs2
   have h3:made[o.n.toNat]?=some v:=by simpa using h3
   have:=makes_kind h4 (by rw[hk];exact hne)
   simp[ofO,h2,h3,this,hk]
  ·rename_i h1 h2
   simpa[ofO,h1,h2] using hk
theorem turn_makes{K:List Int}{homes made1 md:List Val}{nh:Int}{g:GS}{m:Nat}{i:Stp}(hlen:(homes.length:Int)=nh)(hg0:GoodG nh g m)(hs:Sem homes (chkG K g i) made1 md)(hi:stpFits nh m i=true) :
  stepV (turnG K g i) ((turnG K g i).l.map (ofO homes made1))=stepV i (i.l.map (ofO homes md)):=by
 obtain⟨hg,hle,hpl⟩:=chkG_good (K:=K) hg0 hi
 have hv:(turnG K g i).l.map (ofO homes made1)=i.l.map (ofO homes md):=by
  simp only[turnG,List.map_map]
  refine List.map_congr_left fun o ho=>?_
  exact moved_of hpl hg hs (fits_all hi o ho)
 rw[hv]
 have key:∀ l:List Opn,stepV ⟨i.op,i.n,l,i.s,i.names⟩ (i.l.map (ofO homes md))=stepV i (i.l.map (ofO homes md)):=fun l=>rfl
 unfold turnG opG
 split
 ·rename_i ht
  split
  ·rename_i hk
   refine typed_makes ht fun v hvm=>?_
   rw[←hv] at hvm
   simp only[turnG,List.map_map] at hvm
   obtain⟨o,ho,rfl⟩:=List.mem_map.1 hvm
   have h1:=List.all_eq_true.1 hk (movedO g.pl o) (List.mem_map_of_mem ho)
   simp only[decide_eq_true_eq] at h1
   refine known_kind hlen hg hs (opnFits_mono (by omega) (moved_fits hg0 (fits_all hi o ho))) h1 ?_
   have:=typed_kind ht
   omega
  ·exact key _
 ·exact key _
theorem stepG_sem{K:List Int}{homes made md:List Val}{nh:Int}{g:GS}{m:Nat}{i:Stp}(hall:homes.all mayV=true)(hlen:(homes.length:Int)=nh)(hg:GoodG nh g m)(hm:md.length=m)(hs:Sem homes g made md)(hi:stpFits nh m i=true) :
    (match stepV i (i.l.map (ofO homes md)) with
      | some v=>∃ made',Sem homes (stepG K g i) made' (md++[v])
      | none=>stepsV homes (stepG K g i).out []=none)∨(stepsV homes (stepG K g i).out []=none∧Wrong K homes):=by
  obtain⟨hg1,hle,hpl⟩:=chkG_good (K:=K) hg hi
  rcases chkG_sem (K:=K) hall hlen hg hs hi with⟨made1,hs1⟩|⟨hn,hw⟩
  · have ht:=turn_makes hlen hg hs1 hi
    have hr:stepsV homes (stepG K g i).out []=(stepV i (i.l.map (ofO homes md))).map fun v=>made1++[v]:=by
      simp only[stepG]
      rw[steps_app,hs1.run]
      simp only[Option.bind_some,stepsV,ht]
      cases stepV i (i.l.map (ofO homes md))<;>rfl
    refine .inl ?_
    cases hv:stepV i (i.l.map (ofO homes md)) with
    | none=>rw[hv] at hr;exact hr
    | some v =>
      rw[hv] at hr
      have hl1:=steps_len hs1.run
      refine⟨made1++[v],hr,fun j p hp=>?_,fun h k hh hne=>?_⟩
      · simp only[stepG] at hp
        rcases Nat.lt_or_ge j g.pl.length with h4|h4
        · rw[List.getElem?_append_left h4,←hpl] at hp
          have:=hg1.at_ j p hp
          rw[List.getElem?_append_left (by omega),List.getElem?_append_left (by rw[hm,←hg.pl];exact h4)]
          exact hs1.at_ j p hp
        · rw[List.getElem?_append_right h4] at hp
          rcases Nat.eq_zero_or_pos (j-g.pl.length) with h5|h5
          · rw[h5] at hp
            simp at hp
            subst hp
            have e:j=md.length:=by have:=hg.pl;omega
            subst e
            simp[hl1]
          · rw[List.getElem?_eq_none (by simp;omega)] at hp;cases hp
      · simp only[stepG] at hh
        unfold noteG at hh
        split at hh
        · rename_i hc
          obtain⟨c1,c2⟩:=hc
          have hf1:i.l.length=1:=by
            have:=hi
            unfold stpFits at this
            simp[needs,c1] at this
            omega
          obtain⟨o,ho⟩:=one_len hf1
          have hmo:movedO g.pl o=o:=by
            rw[ho] at c2
            simp only[List.map_cons,List.map_nil,List.getElem?_cons_zero,Option.getD_some] at c2
            unfold movedO at c2 ⊢
            by_cases h2:o.kind=2
            · rw[if_pos h2] at c2;simp only at c2;omega
            · rw[if_neg h2]
          rw[ho] at c2 hh
          simp only[List.map_cons,List.map_nil,List.getElem?_cons_zero,Option.getD_some,hmo] at c2 hh
          have hof:=fits_all hi o (by rw[ho];simp)
          obtain⟨b1,b2⟩:=opnFits_home hof c2
          by_cases he:h=o.n.toNat
          · subst he
            rw[List.getElem?_set_self (by rw[hg1.hs];omega)] at hh
            have hh:i.n=k:=Option.some.inj hh
            obtain⟨w,hw⟩:=get_of_lt (l:=homes) (i:=o.n.toNat) (by omega)
            have h7:=(stepV_op hv).1
            rw[ho] at h7
            have h8:ofO homes md o=w:=by simp[ofO,c2,hw]
            simp[opS,c1,h8] at h7
            exact⟨w,hw,by omega⟩
          · rw[List.getElem?_set_ne (fun e=>he e.symm)] at hh
            exact hs1.hs h k hh hne
        · exact hs1.hs h k hh hne
  · refine .inr ⟨none_ext (C:=[turnG K g i]) hn rfl,hw⟩
theorem gsOf_sem{K:List Int}{homes:List Val}{nh:Int}(hall:homes.all mayV=true)(hlen:(homes.length:Int)=nh):∀(l:List Stp) (g:GS) (m:Nat) (made md:List Val),GoodG nh g m→md.length=m→Sem homes g made md→(∀(k:Nat) (s:Stp),l[k]?=some s→stpFits nh (m+k:Nat) s=true) →
    (match stepsV homes l md with
      | some md'=>∃ made',Sem homes (gsOf K g l) made' md'
      | none=>stepsV homes (gsOf K g l).out []=none)∨(stepsV homes (gsOf K g l).out []=none∧Wrong K homes)
  | [],g,m,made,md,_,_,hs,_=>.inl ⟨made,hs⟩
  | i::l,g,m,made,md,hg,hm,hs,h=>by
    have hi:stpFits nh m i=true:=h 0 i rfl
    have h1:=stepG_good (K:=K) hg hi
    obtain⟨C,hC⟩:=gsOf_ext (K:=K) l (stepG K g i)
    rcases stepG_sem (K:=K) hall hlen hg hm hs hi with h2|⟨h2,hw⟩
    · simp only[stepsV,gsOf]
      cases hv:stepV i (i.l.map (ofO homes md)) with
      | none =>
        rw[hv] at h2
        exact .inl (none_ext h2 hC)
      | some v =>
        rw[hv] at h2
        obtain⟨made',hs'⟩:=h2
        exact gsOf_sem hall hlen l _ (m+1) made' (md++[v]) h1 (by simp[hm]) hs' fun k s hk=>by
          have:=h (k+1) s (by simpa using hk)
          rwa [show m+(k+1)=m+1+k by omega] at this
    · exact .inr ⟨none_ext h2 hC,hw⟩
theorem guess_do{K:List Int}{x:Pce}(hc:checkP x=true)(hl:(gsP K x).out.length≤4096)(homes:List Val):doP (guessP K x) homes=doP x homes∨(doP (guessP K x) homes=none∧Wrong K homes):=by
  have hcy:=guessP_check (K:=K) hc hl
  unfold doP
  rw[hcy,hc]
  by_cases hh:(homes.length:Int)=x.homes
  · cases hall:homes.all mayV
    · rw[if_neg (by simp),if_neg (by simp)];exact .inl rfl
    · rw[if_pos ⟨rfl,hh,rfl⟩,if_pos ⟨rfl,hh,rfl⟩]
      have hg:=gsP_good (K:=K) hc
      have key:=gsOf_sem (K:=K) (nh:=x.homes) hall hh x.ins (gs0 x) 0 [] [] gs0_good rfl ⟨rfl,fun j p h=>by simp[gs0] at h,fun h k hk hne=>by
        simp only[gs0] at hk
        have:=List.mem_of_getElem? hk
        rw[List.mem_replicate] at this
        exact absurd this.2 hne⟩ fun k s h=>by have:=check_fits hc k s h;simpa using this
      have e1:(guessP K x).ins=(gsOf K (gs0 x) x.ins).out:=rfl
      rw[e1]
      rcases key with h|⟨h,hw⟩
      · left
        cases hs:stepsV homes x.ins [] with
        | none=>rw[hs] at h;simp only at h;rw[h]
        | some md =>
          rw[hs] at h
          obtain⟨made,hsm⟩:=h
          rw[hsm.run]
          simp only
          have hsm:Sem homes (gsP K x) made md:=hsm
          have hck:=checkP_iff.1 hc
          have e2:toP (guessP K x) homes made=toP x homes md:=by
            unfold toP
            show(if x.exit=2 then _ else _)=_
            by_cases he:x.exit=2
            · rw[if_pos he,if_pos he]
              have hcond:=hck.2.2.1
              unfold condP at hcond
              rw[if_pos he] at hcond
              have:ofO homes made (guessP K x).cond=ofO homes md x.cond:=moved_of rfl hg hsm hcond
              rw[this]
              rfl
            · rw[if_neg he,if_neg he];rfl
          have e3:(guessP K x).sets.map (ofO homes made)=x.sets.map (ofO homes md):=by
            simp only[guessP,List.map_map]
            exact List.map_congr_left fun o ho=>moved_of rfl hg hsm (List.all_eq_true.1 hck.2.2.2 o ho)
          rw[e2,e3]
      · rw[h];exact .inr ⟨rfl,hw⟩
  · rw[if_neg (fun h=>hh h.2.1),if_neg (fun h=>hh h.2.1)];exact .inl rfl
end Go.RI
namespace Go.RI
open Go
def OutT(cs:List AVal)(out:List Stp):Prop:=cs.length=out.length*5∧∀(j:Nat) (s:Stp),out[j]?=some s→∃ t1 f1 t2 f2,(cs.drop (j*5)).take 5=[.i .i64 s.op,.i .i64 s.n,.fs t1 f1 s.l.length (encs s.l),.s s.s,.fs t2 f2 s.names.length (encs s.names)]
def Sl(H:AHeap)(P:Nat→Prop)(v:AVal)(esz n:Nat)(cells:List AVal):Prop :=
 ((∃ f,v=.fs false f n cells)∨(v=.ns∧n=0∧cells=[]))∨∃ id c,v=.sl id 0 n c∧(c=none∨c=some n)∧P id∧id<H.next∧H.get id=some (.cells cells esz false)∧cells.length=n*esz
theorem sl_keep{H H':AHeap}{P P':Nat→Prop}{v:AVal}{esz n:Nat}{cells:List AVal}(h:Sl H P v esz n cells)(hn:H.next≤H'.next)(hk:∀ id,P id→id<H.next→H'.get id=H.get id∧P' id):Sl H' P' v esz n cells:=by
 rcases h with h|⟨id,c,h1,h2,h3,h4,h5,h6⟩
 ·exact .inl h
 ·obtain⟨k1,k2⟩:=hk id h3 h4
  exact .inr ⟨id,c,h1,h2,k2,by omega,k1.trans h5,h6⟩
theorem sl_frz{H:AHeap}{P:Nat→Prop}{lo esz n k:Nat}{v:AVal}{cells:List AVal}(h:Sl H P v esz n cells)(hP:∀ id,P id→lo≤id)(hc:mapO (frzV H lo k) cells=some cells):frzV H lo (k+1) v=some (.fs false false n cells):=by
 rcases h with(⟨f,rfl⟩|⟨rfl,rfl,rfl⟩)|⟨id,c,rfl,hcap,h1,h2,h3,h4⟩
 ·rfl
 ·rfl
 ·by_cases hn:n=0
  ·subst hn
   have:cells=[]:=List.eq_nil_of_length_eq_zero (by simpa using h4)
   subst this
   rfl
  ·exact frz_lit hn (hP _ h1) h3 h4 (by rcases hcap with rfl|rfl<;>simp) hc
theorem sl_snap{H:AHeap}{P:Nat→Prop}{esz n k:Nat}{v:AVal}{cells:List AVal}(h:Sl H P v esz n cells)(hc:mapO (snapV H k) cells=some cells):∃ t f,snapV H (k+1) v=some (.fs t f n cells):=by
 rcases h with(⟨f,rfl⟩|⟨rfl,rfl,rfl⟩)|⟨id,c,rfl,hcap,h1,h2,h3,h4⟩
 ·exact⟨_,_,rfl⟩
 ·exact⟨_,_,rfl⟩
 ·by_cases hn:n=0
  ·subst hn
   have:cells=[]:=List.eq_nil_of_length_eq_zero (by simpa using h4)
   subst this
   exact⟨_,_,rfl⟩
  ·exact⟨_,_,snap_lit hn h3 h4 (by rcases hcap with rfl|rfl<;>simp) hc⟩
def Out(H:AHeap)(P:Nat→Prop):List AVal→List Stp→Prop
 | cs,[]=>cs=[]
 | cs,s::l=>∃ lv nv cs',cs=.i .i64 s.op::.i .i64 s.n::lv::.s s.s::nv::cs'∧Sl H P lv 7 s.l.length (encs s.l)∧Sl H P nv 1 s.names.length (encs s.names)∧Out H P cs' l
theorem out_keep{H H':AHeap}{P P':Nat→Prop}(hn:H.next≤H'.next)(hk:∀ id,P id→id<H.next→H'.get id=H.get id∧P' id):∀(l:List Stp) (cs:List AVal),Out H P cs l→Out H' P' cs l
 | [],cs,h=>h
 | s::l,cs,⟨lv,nv,cs',h,h1,h2,h3⟩=>⟨lv,nv,cs',h,sl_keep h1 hn hk,sl_keep h2 hn hk,out_keep hn hk l cs' h3⟩
theorem out_add{H:AHeap}{P:Nat→Prop}{s:Stp}{lv nv:AVal}(h1:Sl H P lv 7 s.l.length (encs s.l))(h2:Sl H P nv 1 s.names.length (encs s.names)):∀(l:List Stp) (cs:List AVal),Out H P cs l→Out H P (cs++[.i .i64 s.op,.i .i64 s.n,lv,.s s.s,nv]) (l++[s])
 | [],cs,h=>by subst h;exact⟨lv,nv,[],rfl,h1,h2,rfl⟩
 | t::l,cs,⟨lv',nv',cs',h,k1,k2,k3⟩=>⟨lv',nv',cs'++_,by rw[h];rfl,k1,k2,out_add h1 h2 l cs' k3⟩
theorem out_frz{H:AHeap}{P:Nat→Prop}{lo k:Nat}(hP:∀ id,P id→lo≤id):∀(l:List Stp) (cs:List AVal),Out H P cs l→mapO (frzV H lo (k+2)) cs=some (encs l)
  | [],cs,h=>by subst h;rfl
  | s::l,cs,⟨lv,nv,cs',h,k1,k2,k3⟩=>by
    subst h
    have e1:=sl_frz (k:=k+1) k1 hP frz_encs
    have e2:=sl_frz (k:=k+1) k2 hP frz_encs
    have e3:=out_frz (k:=k) hP l cs' k3
    simp[e1,e2,e3]
theorem out_snap{H:AHeap}{P:Nat→Prop}{k:Nat}:∀(l:List Stp) (cs:List AVal),Out H P cs l→∃ cs2,mapO (snapV H (k+2)) cs=some cs2∧OutT cs2 l
  | [],cs,h=>by subst h;exact⟨[],rfl,rfl,fun j s h=>by simp at h⟩
  | s::l,cs,⟨lv,nv,cs',h,k1,k2,k3⟩=>by
    subst h
    obtain⟨t1,f1,e1⟩:=sl_snap (k:=k+1) k1 snap_encs
    obtain⟨t2,f2,e2⟩:=sl_snap (k:=k+1) k2 snap_encs
    obtain⟨c2,e3,e4,e5⟩:=out_snap (k:=k) l cs' k3
    refine⟨.i .i64 s.op::.i .i64 s.n::.fs t1 f1 s.l.length (encs s.l)::.s s.s::.fs t2 f2 s.names.length (encs s.names)::c2,by simp[e1,e2,e3],by simp[e4];omega,fun j x hx=>?_⟩
    cases j with
    | zero=>simp at hx;subst hx;exact⟨t1,f1,t2,f2,by simp⟩
    | succ j =>
      obtain⟨a,b,c,d,h⟩:=e5 j x (by simpa using hx)
      exact⟨a,b,c,d,by rw[←h];simp[show(j+1)*5=j*5+1+1+1+1+1 by omega]⟩
end Go.RI
namespace Go.Proofs.YtbfajkcmehaliabGreatDoor
open Go Go.RI
section
variable {G:AHeap} (hG:G.next=2)
include hG
theorem t_makes(op n:Int)(lv nv:AVal)(s:Str):pureR IP G 71 [.ag [.i .i64 op,.i .i64 n,lv,.s s,nv]]=some (.i .i64 (makesI op n)):=by
 by_cases h0:op=6
 ·subst h0;refine pure_run ip71 rfl ?_;simp -implicitDefEqProofs [I71,hG,makesI]
 by_cases h1:op=8
 ·subst h1;refine pure_run ip71 rfl ?_;simp -implicitDefEqProofs [I71,hG,makesI]
 by_cases h2:op=10
 ·subst h2;refine pure_run ip71 rfl ?_;simp -implicitDefEqProofs [I71,hG,makesI]
 by_cases h3:op=11
 ·subst h3;refine pure_run ip71 rfl ?_;simp -implicitDefEqProofs [I71,hG,makesI]
 by_cases h4:op=12
 ·subst h4;refine pure_run ip71 rfl ?_;simp -implicitDefEqProofs [I71,hG,makesI]
 by_cases h5:op=13
 ·subst h5;refine pure_run ip71 rfl ?_;simp -implicitDefEqProofs [I71,hG,makesI]
 by_cases h6:op=41
 ·subst h6;refine pure_run ip71 rfl ?_;simp -implicitDefEqProofs [I71,hG,makesI]
 by_cases h7:op=43
 ·subst h7;refine pure_run ip71 rfl ?_;simp -implicitDefEqProofs [I71,hG,makesI]
 by_cases h8:op=44
 ·subst h8;refine pure_run ip71 rfl ?_;simp -implicitDefEqProofs [I71,hG,makesI]
 by_cases h9:op=45
 ·subst h9;refine pure_run ip71 rfl ?_;simp -implicitDefEqProofs [I71,hG,makesI]
 by_cases h10:op=48
 ·subst h10;refine pure_run ip71 rfl ?_;simp -implicitDefEqProofs [I71,hG,makesI]
 by_cases h11:op=7
 ·subst h11;refine pure_run ip71 rfl ?_;simp -implicitDefEqProofs [I71,hG,makesI]
 by_cases h12:op=14
 ·subst h12;refine pure_run ip71 rfl ?_;simp -implicitDefEqProofs [I71,hG,makesI]
 by_cases h13:op=15
 ·subst h13;refine pure_run ip71 rfl ?_;simp -implicitDefEqProofs [I71,hG,makesI]
 by_cases h14:op=16
 ·subst h14;refine pure_run ip71 rfl ?_;simp -implicitDefEqProofs [I71,hG,makesI]
 by_cases h15:op=17
 ·subst h15;refine pure_run ip71 rfl ?_;simp -implicitDefEqProofs [I71,hG,makesI]
 by_cases h16:op=42
 ·subst h16;refine pure_run ip71 rfl ?_;simp -implicitDefEqProofs [I71,hG,makesI]
 by_cases h17:op=46
 ·subst h17;refine pure_run ip71 rfl ?_;simp -implicitDefEqProofs [I71,hG,makesI]
 by_cases h18:op=47
 ·subst h18;refine pure_run ip71 rfl ?_;simp -implicitDefEqProofs [I71,hG,makesI]
 by_cases h19:op=49
 ·subst h19;refine pure_run ip71 rfl ?_;simp -implicitDefEqProofs [I71,hG,makesI]
 by_cases h20:op=20
 ·subst h20;refine pure_run ip71 rfl ?_;simp -implicitDefEqProofs [I71,hG,makesI]
 by_cases h21:op=18
 ·subst h21;refine pure_run ip71 rfl ?_;simp -implicitDefEqProofs [I71,hG,makesI]
 by_cases h22:op=21
 ·subst h22;refine pure_run ip71 rfl ?_;simp -implicitDefEqProofs [I71,hG,makesI]
 by_cases h23:op=40
 ·subst h23;refine pure_run ip71 rfl ?_;simp -implicitDefEqProofs [I71,hG,makesI]
 refine pure_run ip71 rfl ?_
 simp -implicitDefEqProofs [I71,hG,makesI,h0,h1,h2,h3,h4,h5,h6,h7,h8,h9,h10,h11,h12,h13,h14,h15,h16,h17,h18,h19,h20,h21,h22,h23]
theorem t_gtyped(op:Int):pureR IP G 45 [.i .i64 op]=some (.tu [.i .i64 (typedI op).1,.i .i64 (typedI op).2.1,.b (typedI op).2.2]):=by
 by_cases h0:op=6
 ·subst h0;refine pure_run ip45 rfl ?_;simp -implicitDefEqProofs [I45,hG,typedI]
 by_cases h1:op=7
 ·subst h1;refine pure_run ip45 rfl ?_;simp -implicitDefEqProofs [I45,hG,typedI]
 by_cases h2:op=9
 ·subst h2;refine pure_run ip45 rfl ?_;simp -implicitDefEqProofs [I45,hG,typedI]
 by_cases h3:op=10
 ·subst h3;refine pure_run ip45 rfl ?_;simp -implicitDefEqProofs [I45,hG,typedI]
 by_cases h4:op=11
 ·subst h4;refine pure_run ip45 rfl ?_;simp -implicitDefEqProofs [I45,hG,typedI]
 by_cases h5:op=16
 ·subst h5;refine pure_run ip45 rfl ?_;simp -implicitDefEqProofs [I45,hG,typedI]
 by_cases h6:op=17
 ·subst h6;refine pure_run ip45 rfl ?_;simp -implicitDefEqProofs [I45,hG,typedI]
 refine pure_run ip45 rfl ?_
 simp -implicitDefEqProofs [I45,hG,typedI,h0,h1,h2,h3,h4,h5,h6]
theorem t_known(g:GS)(cs:List AVal)(hT:OutT cs g.out)(ta tb:Bool)(vK vp:AVal)(o:Opn)(h1:o.kind=1→0≤o.n∧o.n<g.hs.length)(h2:o.kind=2→0≤o.n∧o.n<g.out.length) :
  pureR IP G 49 [.fp [.fs ta false g.out.length cs,.fs tb false g.hs.length (encs g.hs),vK,vp],.ag (Enc.cells o)]=some (.i .i64 (knownI g o)):=by
 unfold knownI
 by_cases k1:o.kind=1
 ·obtain⟨a1,a2⟩:=h1 k1
  obtain⟨x,hx⟩:=get_of_lt (l:=g.hs) (i:=o.n.toNat) (by omega)
  have hx2:g.hs[o.n.toNat]'(by omega)=x:=by rw[List.getElem?_eq_getElem (by omega)] at hx;exact Option.some.inj hx
  rw[if_pos k1,hx]
  clear h1 h2
  refine pure_run ip49 rfl ?_
  simp -implicitDefEqProofs [I49,hG,k1,a1,a2,hx,hx2]
 by_cases k2:o.kind=2
 ·obtain⟨a1,a2⟩:=h2 k2
  obtain⟨x,hx⟩:=get_of_lt (l:=g.out) (i:=o.n.toNat) (by omega)
  obtain⟨t1,f1,t2,f2,hc⟩:=hT.2 _ _ hx
  have c1:=t_makes hG x.op x.n (.fs t1 false x.l.length (encs x.l)) (.fs t2 false x.names.length (encs x.names)) x.s
  have hl:=hT.1
  have b1:5≤cs.length-o.n.toNat*5:=by omega
  rw[if_neg k1,if_pos k2,hx]
  clear h1 h2
  refine pure_run ip49 rfl ?_
  simp -implicitDefEqProofs [I49,hG,k2,a1,a2,hc,c1,b1,stpKind]
 ·rw[if_neg k1,if_neg k2]
  refine pure_run ip49 rfl ?_
  simp -implicitDefEqProofs [I49,hG,k1,k2]
end
end Go.Proofs.YtbfajkcmehaliabGreatDoor
namespace Go.RI
open Go
theorem count_set_le:∀(hs:List Int) (n:Nat) (v:Int),v≠-1→(hs.set n v).count (-1)≤hs.count (-1)
  | [],n,v,_=>by simp
  | a::hs,0,v,hv=>by
    simp only[List.set_cons_zero,List.count_cons]
    have:(v==(-1:Int))=false:=by simpa using hv
    rw[this];simp
  | a::hs,n+1,v,hv=>by
    have:=count_set_le hs n v hv
    simp only[List.set_cons_succ,List.count_cons]
    omega
theorem count_set_lt:∀(hs:List Int) (n:Nat) (v:Int),v≠-1→hs[n]?=some (-1)→(hs.set n v).count (-1)+1=hs.count (-1)
  | [],n,v,_,h=>by simp at h
  | a::hs,0,v,hv,h=>by
    simp at h
    subst h
    simp only[List.set_cons_zero,List.count_cons]
    have:(v==(-1:Int))=false:=by simpa using hv
    rw[this];simp
  | a::hs,n+1,v,hv,h=>by
    have:=count_set_lt hs n v hv (by simpa using h)
    simp only[List.set_cons_succ,List.count_cons]
    omega
theorem getD_neg{hs:List Int}{n:Nat}(h:hs[n]?.getD 0=-1):hs[n]?=some (-1):=by
 cases hx:hs[n]? with
 | none=>rw[hx] at h;simp at h
 | some x=>rw[hx] at h;simp at h;rw[h]
def room(g:GS):Nat:=g.out.length+g.hs.count (-1)
theorem checkI_room{K:List Int}{g:GS}{o:Opn}{k:Int}(hk:k=1∨k=2):room (checkI K g o k)≤room g:=by
 unfold checkI
 split
 ·rename_i h
  obtain⟨_,h2,_,_⟩:=says_iff h
  have:=count_set_lt g.hs o.n.toNat k (by omega) (getD_neg h2)
  simp only[room,List.length_append,List.length_singleton]
  omega
 ·exact Nat.le_refl _
theorem chkL_room{K:List Int}{k:Int}(hk:k=1∨k=2):∀(l:List Opn) (g:GS),room (chkL K k g l)≤room g
 | [],g=>Nat.le_refl _
 | o::l,g=>Nat.le_trans (chkL_room hk l _) (checkI_room hk)
theorem chkG_room{K:List Int}{g:GS}{i:Stp}:room (chkG K g i)≤room g:=by
 unfold chkG
 split
 ·rename_i h;exact chkL_room (typed_kind h) _ _
 ·exact Nat.le_refl _
theorem note_neg{nh a:Int}{i:Stp}(hi:stpFits nh a i=true)(ho:i.op=40):0≤i.n:=by
 unfold stpFits at hi
 simp[needs,ho] at hi
 first|omega|exact hi.1.1.1.2
theorem stepG_room{K:List Int}{nh a:Int}{g:GS}{i:Stp}(hi:stpFits nh a i=true):room (stepG K g i)≤room g+1∧g.out.length+1≤(stepG K g i).out.length:=by
 have h1:=chkG_room (K:=K) (g:=g) (i:=i)
 obtain⟨C,h2⟩:=chkG_ext (K:=K) (g:=g) (i:=i)
 refine⟨?_,by simp[stepG,h2]⟩
 unfold room at h1 ⊢
 simp only[stepG,List.length_append,List.length_singleton]
 have:(noteG (chkG K g i).hs i (i.l.map (movedO g.pl))).count (-1)≤(chkG K g i).hs.count (-1):=by
  unfold noteG
  split
  ·rename_i hc
   have:=note_neg hi hc.1
   exact count_set_le _ _ _ (by omega)
  ·exact Nat.le_refl _
 omega
theorem gsOf_room{K:List Int}{nh:Int}:∀(l:List Stp) (g:GS) (m:Nat),(∀(k:Nat) (s:Stp),l[k]?=some s→stpFits nh (m+k:Nat) s=true)→room (gsOf K g l)≤room g+l.length∧g.out.length+l.length≤(gsOf K g l).out.length
  | [],g,m,_=>⟨Nat.le_refl _,Nat.le_refl _⟩
  | i::l,g,m,h=>by
    obtain⟨h1,h2⟩:=stepG_room (K:=K) (g:=g) (h 0 i rfl)
    obtain⟨h3,h4⟩:=gsOf_room (K:=K) l (stepG K g i) (m+1) fun k s hk=>by
      have:=h (k+1) s (by simpa using hk)
      rwa [show m+(k+1)=m+1+k by omega] at this
    simp only[gsOf,List.length_cons]
    omega
theorem guess_len{K:List Int}{x:Pce}(hc:checkP x=true):x.ins.length≤(gsP K x).out.length∧(gsP K x).out.length≤x.ins.length+x.homes.toNat:=by
 obtain⟨h1,h2⟩:=gsOf_room (K:=K) (nh:=x.homes) x.ins (gs0 x) 0 fun k s h=>by simpa using check_fits hc k s h
 have e:room (gs0 x)=x.homes.toNat:=by simp[room,gs0]
 rw[e] at h1
 unfold room at h1
 have e2:(gs0 x).out.length=0:=rfl
 rw[e2] at h2
 unfold gsP
 omega
end Go.RI
namespace Go.RI
open Go
instance:Enc (List Val):=⟨1,fun l=>[.fs false false l.length (encs l)],fun _=>rfl⟩
@[simp] theorem cells_vals{l:List Val}:Enc.cells l=[AVal.fs false false l.length (encs l)]:=rfl
instance:EncOk (List Val):={ snap:=fun _ _ _=>by simp,frz:=fun _ _ _ _=>by simp }
@[simp] theorem drop_vals{l:List (List Val)}{i:Nat}:(encs l).drop i=cellsO l[i]?++restE l (i+1):=by
 have:=drop_encs l i
 simpa[show Enc.sz (List Val)=1 from rfl] using this
@[simp] theorem len_vals{l:List (List Val)}:(encs l).length=l.length:=by have:=encs_len l;simpa[show Enc.sz (List Val)=1 from rfl] using this
def kindsL(l:List Val):List Int:=l.map Val.kind
@[simp] theorem kindsL_len{l:List Val}:(kindsL l).length=l.length:=by simp[kindsL]
theorem put_kind{L:List Int}{i:Nat}{k:Int}(h:i<L.length):(encs L).set i (.i .i64 k)=encs (L.set i k):=by
 obtain⟨x,hx⟩:=get_of_lt h
 have:=put_encs (k:=0) hx (m:=[AVal.i .i64 k]) (y:=k) (by simp[Enc.sz]) (by simp)
 simpa[show Enc.sz Int=1 from rfl] using this
theorem take_set{L M:List Int}{i:Nat}{x:Int}(hi:i<L.length)(ht:L.take i=M.take i)(hx:M[i]?=some x):(L.set i x).take (i+1)=M.take (i+1):=by
 rw[List.take_add_one,List.take_add_one,hx,←ht,List.take_set_of_le (Nat.le_refl _),List.getElem?_set_self hi]
theorem rep_kinds:∀ n,repCells [AVal.i .i64 0] n=encs (List.replicate n (0:Int))
 | 0=>rfl
 | n+1=>by simp[repCells,List.replicate_succ,rep_kinds n]
end Go.RI
namespace Go.Proofs.YtbfajkcmehaliabGreatDoor
open Go Go.RI
def Aq(X:Nat→Prop)(ov pv:AVal)(id:Nat):Prop:=(6≤id∧¬ X id)∧(∀ j m c,ov=.sl j 0 m c→id≠j)∧∀ j m c,pv=.sl j 0 m c→id≠j
structure MkI (X:Nat→Prop) (K:List Int) (tk:Bool) (g:GS) (ov pv:AVal) (cs:List AVal) (H:AHeap):Prop where
 gM:H.get 5=some (.cells [ov,.sl 4 0 g.hs.length (some g.hs.length),.fs tk false K.length (encs K),pv] 1 false)
 gH:H.get 4=some (.cells (encs g.hs) 1 false)
 nx:6≤H.next
 acc:Acc H 6 ov 5 g.out.length cs
 pl:Acc H 6 pv 1 g.pl.length (encs g.pl)
 dis:∀ i m c,ov=.sl i 0 m c→∀ j n d,pv=.sl j 0 n d→i≠j
 out:Out H (Aq X ov pv) cs g.out
def Fr(ov pv:AVal)(H H':AHeap):Prop:=H.next≤H'.next∧∀ id,id<H.next→id≠5→id≠4→(∀ j m c,ov=.sl j 0 m c→id≠j)→(∀ j m c,pv=.sl j 0 m c→id≠j)→H'.get id=H.get id
section
variable {G:AHeap} (hG:G.next=2)
include hG
theorem mk_box{X:Nat→Prop}{K:List Int}{tk:Bool}{g:GS}{ov pv:AVal}{cs:List AVal}{H H':AHeap}(h:MkI X K tk g ov pv cs H)(hn:H.next≤H'.next)(hk:∀ id,id<H.next→H'.get id=H.get id):MkI X K tk g ov pv cs H' :=
 { gM:=(hk _ (by have:=h.nx;omega)).trans h.gM,gH:=(hk _ (by have:=h.nx;omega)).trans h.gH,nx:=by have:=h.nx;omega,acc:=acc_keep h.acc hn fun id a b hv=>hk id (acc_lt h.acc _ _ _ hv).2,pl:=acc_keep h.pl hn fun id a b hv=>hk id (acc_lt h.pl _ _ _ hv).2,dis:=h.dis,out:=out_keep hn (fun id h1 h2=>⟨hk id h2,h1⟩) _ _ h.out }
set_option maxHeartbeats 1000000 in
theorem t_gcheck{X:Nat→Prop}{K:List Int}{tk:Bool}{g:GS}{ov pv:AVal}{cs:List AVal}{H:AHeap}(hM:MkI X K tk g ov pv cs H)(hlen:g.out.length<1000000)(o:Opn)(k:Int)(h1:o.kind=1→0≤o.n∧o.n<g.hs.length)(hX:∀ id,X id→id<H.next) :
  ∃ v H',theCalls IP G 2 46 [.p 5 0,.ag (Enc.cells o),.i .i64 k] H=some (v,H')∧v=.tu []∧∃ ov' cs',MkI X K tk (checkI K g o k) ov' pv cs' H'∧Fr ov pv H H'∧(∀ id,id<H.next→(∀ j m c,ov=.sl j 0 m c→id≠j)→∀ j m c,ov'=.sl j 0 m c→id≠j):=by
 obtain⟨gM,gH,nx,acc,pl,dis,out⟩:=hM
 have n3:2≤H.next:=by omega
 have n4:¬ 5=H.next:=by omega
 have n5:¬ 4=H.next:=by omega
 have n6:¬ H.next=5:=by omega
 have n7:¬ H.next=4:=by omega
 have stay:checkI K g o k=g→∀ o',∃ ov' cs',MkI X K tk (checkI K g o k) ov' pv cs' (H.push o')∧Fr ov pv H (H.push o')∧(∀ id,id<H.next→(∀ j m c,ov=.sl j 0 m c→id≠j)→∀ j m c,ov'=.sl j 0 m c→id≠j):=fun he o'=>by
  rw[he]
  exact⟨ov,cs,mk_box hG ⟨gM,gH,nx,acc,pl,dis,out⟩ (by simp) (fun id h=>get_push_lt h),⟨by simp,fun id h _ _ _ _=>get_push_lt h⟩,fun id _ h=>h⟩
 refine calls_nil_of ip46 rfl rfl ?_
 by_cases k1:o.kind=1
 ·obtain⟨a1,a2⟩:=h1 k1
  have a3:o.n.toNat<g.hs.length:=by omega
  obtain⟨hx,hxe⟩:∃ hx,g.hs[o.n.toNat]?=some hx:=get_of_lt a3
  have hxg:∀ h,(encs g.hs)[o.n.toNat]'h=.i .i64 hx:=fun h=>by have:=get_int (l:=g.hs) (i:=o.n.toNat);rw[hxe,List.getElem?_eq_getElem h] at this;exact Option.some.inj this
  by_cases hu:hx=-1
  ·by_cases hK:o.n<K.length
   ·have hK2:¬(K.length:Int)≤o.n:=by omega
    have a4:o.n.toNat<K.length:=by omega
    obtain⟨kx,hke⟩:∃ kx,K[o.n.toNat]?=some kx:=get_of_lt a4
    have hkg:∀ h,K[o.n.toNat]'h=kx:=fun h=>by rw[List.getElem?_eq_getElem h] at hke;exact Option.some.inj hke
    by_cases hkk:kx=k
    ·simp -implicitDefEqProofs [I46,gM,gH,n3,n4,n5,k1,a1,a2,hxe,hxg,hu,hK,hK2,hke,hkg,hkk]
     refine step_app (lo':=6) (acc_keep acc (by simp<;>omega) ?_) (m:=1) (ys:=[.i .i64 40,.i .i64 k,.sl (H.next+1) 0 1 (some 1),.s [],.ns]) (by omega) (by simp<;>omega) (more_lit (cs:=[.i .i64 40,.i .i64 k,.sl (H.next+1) 0 1 (some 1),.s [],.ns]) (e:=5) (ro:=false) (by simp) (by simp) (by omega)) (by simp) (by omega) (by omega) (by omega) (by omega) ?_
     ·intro id a b hv
      have:=acc_lt acc id a b hv
      simp -implicitDefEqProofs [show ¬ id=H.next+1+1 by omega,show ¬ id=H.next+1 by omega,show ¬ id=H.next by omega]
     intro H5 hn5 acc5 hf5
     simp at hn5 acc5
     have hf6:∀ id,id<H.next+2→(∀ j m c,ov=.sl j 0 m c→id≠j)→H5.get id=((H.push (.cells (Enc.cells o) 1 false)).push (.cells (Enc.cells o) 7 false)).get id:=fun id h1 h2=>by
      rw[hf5 id (by simp;omega) h2]
      rw[get_push_lt (by simp;omega)]
      simp -implicitDefEqProofs [k1]
     have ne0:∀ id,(id<6∨H.next≤id)→∀ j m c,ov=.sl j 0 m c→id≠j:=fun id h j m c hv=>by have:=acc_lt acc _ _ _ hv;omega
     have y0:∀ id,id<H.next→(∀ j m c,ov=.sl j 0 m c→id≠j)→H5.get id=H.get id:=fun id h1 h2=>by
      rw[hf6 id (by omega) h2,get_push_lt (by simp;omega),get_push_lt h1]
     have y3:=(y0 5 (by omega) (ne0 _ (.inl (by omega)))).trans gM
     have y2:=(y0 4 (by omega) (ne0 _ (.inl (by omega)))).trans gH
     have yB:H5.get H.next=some (.cells (Enc.cells o) 1 false):=by rw[hf6 _ (by omega) (ne0 _ (.inr (Nat.le_refl _)))];simp
     have yL:H5.get (H.next+1)=some (.cells (Enc.cells o) 7 false):=by rw[hf6 _ (by omega) (ne0 _ (.inr (by omega)))];simp
     have hpk:=put_kind (k:=k) a3
     have hE:(encs g.hs).length=g.hs.length:=by rw[encs_len];simp -implicitDefEqProofs [Enc.sz]
     have yB2:=yB
     simp -implicitDefEqProofs [k1] at yB2
     have a5:o.n.toNat+1≤g.hs.length:=by omega
     simp -implicitDefEqProofs [y3,y2,yB2,a1,a2,a3,a5,hpk,n4,n5,n6,n7]
     have hc:checkI K g o k=⟨g.out++[⟨40,k,[o],[],[]⟩],g.hs.set o.n.toNat k,g.pl⟩:=by
      unfold checkI
      rw[if_pos]
      simp -implicitDefEqProofs [saysI,k1,hxe,hu,hK,hke,hkk]
     rw[hc]
     obtain⟨H6,hH6⟩:∃ H6,H6=(H5.put 5 (some (.cells [.sl (H.next+1+1+1) 0 (g.out.length+1) none,.sl 4 0 g.hs.length (some g.hs.length),.fs tk false K.length (encs K),pv] 1 false))).put 4 (some (.cells (encs (g.hs.set o.n.toNat k)) 1 false)):=⟨_,rfl⟩
     have u1:H6.next=H5.next:=by rw[hH6];simp
     have u2:∀ id,id≠5→id≠4→H6.get id=H5.get id:=fun id h1 h2=>by rw[hH6];simp -implicitDefEqProofs [h1,h2]
     have u3:H6.get 5=some (.cells [.sl (H.next+1+1+1) 0 (g.out.length+1) none,.sl 4 0 g.hs.length (some g.hs.length),.fs tk false K.length (encs K),pv] 1 false):=by rw[hH6];simp
     have u4:H6.get 4=some (.cells (encs (g.hs.set o.n.toNat k)) 1 false):=by rw[hH6];simp
     simp only[←hH6]
     have hL:Sl H6 (Aq X (.sl (H.next+1+1+1) 0 (g.out.length+1) none) pv) (.sl (H.next+1) 0 1 (some 1)) 7 1 (encs [o]) :=
      .inr ⟨H.next+1,some 1,rfl,.inr rfl,⟨⟨by omega,fun h=>by have:=hX _ h;omega⟩,fun j m c hj=>by cases hj;omega,fun j m c hj=>by have:=acc_lt pl _ _ _ hj;omega⟩,by omega,by rw[u2 _ (by omega) (by omega),yL];simp,by simp⟩
     have hS:Sl H6 (Aq X (.sl (H.next+1+1+1) 0 (g.out.length+1) none) pv) .ns 1 0 (encs ([]:List Str)):=.inl (.inr ⟨rfl,rfl,rfl⟩)
     have accN:=acc_keep (H':=H6) acc5 (by omega) fun id a b hv=>by cases hv;exact u2 _ (by omega) (by omega)
     refine⟨_,⟨cs++[.i .i64 40,.i .i64 k,.sl (H.next+1) 0 1 (some 1),.s [],.ns],{
      gM:=by rw[u3];simp
      gH:=u4
      nx:=by omega
      acc:=by simpa using accN
      pl:=acc_keep pl (by omega) fun id a b hv=>by
       have:=acc_lt pl _ _ _ hv
       rw[u2 _ (by omega) (by omega)]
       exact y0 id (by omega) fun j m c hj=>(dis j m c hj id a b hv).symm
      dis:=fun i m c hi j n d hj=>by cases hi;have:=acc_lt pl _ _ _ hj;omega
      out:=out_add (s:=⟨40,k,[o],[],[]⟩) hL hS _ _ (out_keep (by omega) (fun id h1 h2=>⟨by rw[u2 _ (by have:=h1.1;omega) (by have:=h1.1;omega)];exact y0 id h2 h1.2.1,h1.1,fun j m c hj=>by cases hj;omega,h1.2.2⟩) _ _ out)}⟩,⟨by omega,fun id h1 h2 h3 h4 h5=>by rw[u2 _ h2 h3];exact y0 id h1 h4⟩,fun id h1 h2 j m c hj=>by cases hj;omega⟩
    ·have he:checkI K g o k=g:=by unfold checkI;rw[if_neg];simp -implicitDefEqProofs [saysI,hke,hkk]
     simp -implicitDefEqProofs [I46,gM,gH,n3,n4,n5,k1,a1,a2,hxe,hxg,hu,hK,hK2,hke,hkg,hkk]
     simpa using stay he _
   ·have hK2:(K.length:Int)≤o.n:=by omega
    have he:checkI K g o k=g:=by unfold checkI;rw[if_neg];simp -implicitDefEqProofs [saysI,hK]
    simp -implicitDefEqProofs [I46,gM,gH,n3,n4,n5,k1,a1,a2,hxe,hxg,hu,hK,hK2]
    simpa using stay he _
  ·have he:checkI K g o k=g:=by unfold checkI;rw[if_neg];simp -implicitDefEqProofs [saysI,hxe,hu]
   simp -implicitDefEqProofs [I46,gM,gH,n3,n4,n5,k1,a1,a2,hxe,hxg,hu]
   simpa using stay he _
 ·have he:checkI K g o k=g:=by unfold checkI;rw[if_neg];simp -implicitDefEqProofs [saysI,k1]
  simp -implicitDefEqProofs [I46,gM,gH,n3,n4,n5,k1]
  simpa using stay he _
end
end Go.Proofs.YtbfajkcmehaliabGreatDoor
namespace Go.Proofs.YtbfajkcmehaliabGreatDoor
open Go Go.RI
section
variable {G:AHeap} (hG:G.next=2)
include hG
set_option maxHeartbeats 1000000 in
theorem t_gmoved(l:List Opn)(hlen:l.length<1099511627776)(pl:List Int)(h:∀ o∈l,o.kind=2→0≤o.n∧o.n<pl.length)(hb:∀ o∈l,o.v.bulk<1099511627776)(t f tb:Bool)(vO vH vK:AVal):pureR IP G 24 [.fp [vO,vH,vK,.fs tb false pl.length (encs pl)],.fs t f l.length (encs l)]=some (.fs false false l.length (encs (l.map (movedO pl)))):=by
 refine pure_run ip24 rfl ?_
 simp -implicitDefEqProofs [I24,hG]
 refine wp_loop_list (l:=l) (by omega) (fun i todo e H=>∃ lv,e=[(0,.fp [vO,vH,vK,.fs tb false pl.length (encs pl)]),(4,lv),(7,.fs t f l.length (encs l)),(8,.i .i64 l.length),(9,.i .i64 i)]∧2≤H.next∧Acc H 2 lv 7 i (encs ((l.take i).map (movedO pl)))) ?_ ?_ ?_
 ·rintro i o todo e H' hx hd hlt hlt2 hlt3 ⟨lv,rfl,n3,hL⟩
  have hk2:=h o (List.mem_of_getElem? hx)
  have c1:=t_gownV hG o.v (hb o (List.mem_of_getElem? hx)) false false
  simp at c1
  clear hlt
  by_cases k2:o.kind=2
  ·obtain⟨a1,a2⟩:=hk2 k2
   obtain⟨p,hp⟩:=get_of_lt (l:=pl) (i:=o.n.toNat) (by omega)
   have hp2:∀ h,pl[o.n.toNat]'h=p:=fun h=>by rw[List.getElem?_eq_getElem h] at hp;exact Option.some.inj hp
   have hm:movedO pl o=⟨2,p,o.v⟩:=by unfold movedO;rw[if_pos k2,hp];cases o;simp at k2;simp -implicitDefEqProofs [k2]
   clear hk2
   simp -implicitDefEqProofs [L24a,hlt2,hlt3,hx,n3,c1,k2,a1,a2,hp,hp2]
   refine step_app (lo':=2) (acc_keep hL (by simp<;>omega) ?_) (m:=1) (ys:=Enc.cells (movedO pl o)) (by omega) (by simp<;>omega) (more_lit (cs:=Enc.cells (movedO pl o)) (e:=7) (ro:=false) (by simp -implicitDefEqProofs [hm]) (by simp) (by omega)) (by simp) (by omega) (by omega) (by omega) (by omega) ?_
   ·intro id a b hv
    have:=acc_lt hL id a b hv
    simp -implicitDefEqProofs [show ¬ id=H'.next+1 by omega,show ¬ id=H'.next by omega]
   intro H2 hn2 hL2 hf2
   simp at hn2 hL2
   simp -implicitDefEqProofs [hlt3]
   exact⟨by omega,by simpa[List.take_add_one,hx] using hL2⟩
  ·have hm:movedO pl o=o:=by unfold movedO;rw[if_neg k2]
   simp -implicitDefEqProofs [L24a,hlt2,hlt3,hx,n3,c1,k2]
   refine step_app (lo':=2) (acc_keep hL (by simp<;>omega) ?_) (m:=1) (ys:=Enc.cells (movedO pl o)) (by omega) (by simp<;>omega) (more_lit (cs:=Enc.cells (movedO pl o)) (e:=7) (ro:=false) (by simp -implicitDefEqProofs [hm]) (by simp) (by omega)) (by simp) (by omega) (by omega) (by omega) (by omega) ?_
   ·intro id a b hv
    have:=acc_lt hL id a b hv
    simp -implicitDefEqProofs [show ¬ id=H'.next+1 by omega,show ¬ id=H'.next by omega]
   intro H2 hn2 hL2 hf2
   simp at hn2 hL2
   simp -implicitDefEqProofs [hlt3]
   exact⟨by omega,by simpa[List.take_add_one,hx] using hL2⟩
 ·rintro e H' ⟨lv,rfl,hn,hL⟩
  rw[List.take_length] at hL
  have:=acc_frz (k:=15) hL frz_encs
  simp -implicitDefEqProofs [L24a,this]
 ·exact⟨.ns,by simp,by omega,acc_none⟩
theorem t_gnot(g:GS)(cs:List AVal)(hT:OutT cs g.out)(ta tb:Bool)(vK vp:AVal)(o:Opn)(kind:Int)(h1:o.kind=1→0≤o.n∧o.n<g.hs.length)(h2:o.kind=2→0≤o.n∧o.n<g.out.length) :
  pureR IP G 48 [.ag (Enc.cells o),.fp [.fp [.fs ta false g.out.length cs,.fs tb false g.hs.length (encs g.hs),vK,vp]],.fp [.i .i64 kind]]=some (.b (!decide (knownI g o=kind))):=by
 have c1:=t_known hG g cs hT ta tb vK vp o h1 h2
 simp at c1
 refine pure_run ip48 rfl ?_
 simp -implicitDefEqProofs [I48,hG,c1]
end
end Go.Proofs.YtbfajkcmehaliabGreatDoor
namespace Go.Proofs.YtbfajkcmehaliabGreatDoor
open Go Go.RI
section
variable {G:AHeap} (hG:G.next=2)
include hG
theorem t_idxO2(g:Nat)(c1 c2:List AVal)(p:Opn→Bool)(hg:∀ lo l H,theCalls IP G lo g l H=given H ((snaps H l).bind (pureR IP G g)))(l:List Opn)(hl:l.length<1099511627776)(hp:∀ o∈l,pureR IP G g [.ag (Enc.cells o),.fp c1,.fp c2]=some (.b (p o)))(t:Bool):pureR IP G 70 [.fs t false l.length (encs l),.fn (.func g) [] [.fp c1,.fp c2]]=some (.i .i64 (idxF p l 0)):=by
 simp only[snaps_eq] at hg
 refine pure_run ip70 rfl ?_
 simp -implicitDefEqProofs [I70,hG]
 refine wp_loop_list (l:=l) (by omega) (fun i todo e H=>e=[(0,.fs t false l.length (encs l)),(1,.fn (.func g) [] [.fp c1,.fp c2]),(7,.i .i64 l.length),(8,.i .i64 i)]∧H=G∧idxF p l 0=idxF p todo i) ?_ ?_ ?_
 ·rintro i x todo e H hx hd hlt hlt2 hlt3 ⟨rfl,rfl,hn⟩
  have cc:=hp x (List.mem_of_getElem? hx)
  simp at cc
  rw[idxF] at hn
  clear hlt
  simp -implicitDefEqProofs [L70a,hlt2,hlt3,hx,hg,cc,hG]
  refine test_intro ?_ ?_<;>intro h2<;>simp -implicitDefEqProofs [hlt3,hG]
  ·rw[hn,h2];simp
  ·rw[hn,h2];simp
 ·rintro e H ⟨rfl,rfl,hn⟩
  simp -implicitDefEqProofs [L70a,hG]
  rw[hn];rfl
 ·simp -implicitDefEqProofs [hG]
theorem t_anyO2(g:Nat)(c1 c2:List AVal)(p:Opn→Bool)(hg:∀ lo l H,theCalls IP G lo g l H=given H ((snaps H l).bind (pureR IP G g)))(l:List Opn)(hl:l.length<1099511627776)(hp:∀ o∈l,pureR IP G g [.ag (Enc.cells o),.fp c1,.fp c2]=some (.b (p o)))(t f:Bool):pureR IP G 47 [.fs t f l.length (encs l),.fn (.func g) [] [.fp c1,.fp c2]]=some (.b (l.any p)):=by
 have cc:=t_idxO2 hG g c1 c2 p hg l hl hp
 refine pure_run ip47 rfl ?_
 simp -implicitDefEqProofs [I47,hG,cc]
 rw[←idxF_any _ l 0 (by omega)]
theorem mk_snap{X:Nat→Prop}{K:List Int}{tk:Bool}{g:GS}{ov pv:AVal}{cs:List AVal}{H:AHeap}(hM:MkI X K tk g ov pv cs H)(k:Nat):∃ ta tb tp cs2,OutT cs2 g.out∧snapV H (k+5) (.p 5 0)=some (.fp [.fs ta false g.out.length cs2,.fs tb false g.hs.length (encs g.hs),.fs tk false K.length (encs K),.fs tp false g.pl.length (encs g.pl)]):=by
 obtain⟨gM,gH,nx,acc,pl,dis,out⟩:=hM
 obtain⟨cs2,e1,e2⟩:=out_snap (k:=k+1) _ _ out
 have s1:=acc_snap (k:=k+3) acc e1
 have s2:=hold_snap (k:=k+3) (H:=H) (lo:=4) (v:=.sl 4 0 g.hs.length (some g.hs.length)) (esz:=1) (n:=g.hs.length) (cells:=encs g.hs) (.inr ⟨4,some g.hs.length,rfl,.inr rfl,Nat.le_refl _,by omega,gH,by rw[encs_len];simp -implicitDefEqProofs [Enc.sz]⟩) snap_encs
 have s3:=acc_snap (k:=k+3) pl snap_encs
 simp at s1 s2 s3
 exact⟨decide (0<g.out.length),decide (0<g.hs.length),decide (0<g.pl.length),cs2,e2,by simp -implicitDefEqProofs [gM,s1,s2,s3]⟩
theorem chkL_snoc{K:List Int}{k:Int}:∀(l:List Opn) (g:GS) (o:Opn),chkL K k g (l++[o])=checkI K (chkL K k g l) o k
 | [],g,o=>rfl
 | p::l,g,o=>by rw[List.cons_append,chkL,chkL,chkL_snoc l]
omit hG in
theorem chkL_le{K:List Int}{k:Int}:∀(l:List Opn) (g:GS),(chkL K k g l).out.length≤g.out.length+l.length
  | [],g=>Nat.le_refl _
  | o::l,g=>by
    have h1:=chkL_le (K:=K) (k:=k) l (checkI K g o k)
    have h2:(checkI K g o k).out.length≤g.out.length+1:=by unfold checkI;split<;>simp
    simp only[chkL,List.length_cons]
    omega
def NoRow(id:Nat)(ov:AVal):Prop:=∀ j m c,ov=.sl j 0 m c→id≠j
set_option maxHeartbeats 1000000 in
theorem t_gchks{X:Nat→Prop}{K:List Int}{tk:Bool}{g:GS}{nh:Int}{m:Nat}{ov pv:AVal}{cs:List AVal}(hg:GoodG nh g m)(l:List Opn)(hl:∀ o∈l,opnFits nh g.out.length o=true)(hlen:g.out.length+l.length<1000000)(k:Int)(hk:k=1∨k=2)(b2 b3 b5:Nat)(w4:AVal)(c3:List AVal)
  (Q:Post) (H:AHeap) (hM:MkI X K tk g ov pv cs H) (g2:H.get b2=some (.cells [.p 5 0] 1 false)) (g3:H.get b3=some (.cells c3 1 false)) (g5:H.get b5=some (.cells [.i .i64 k] 1 false)) (hX:∀ id,X id→id<H.next) (hb:∀ b,b=b2∨b=b3∨b=b5→6≤b∧b<H.next∧NoRow b ov∧NoRow b pv)
  (hQ:∀ w ov' cs' H',MkI X K tk (chkL K k g l) ov' pv cs' H'→H'.get b2=some (.cells [.p 5 0] 1 false)→H'.get b3=some (.cells c3 1 false)→H'.get b5=some (.cells [.i .i64 k] 1 false)→H.next≤H'.next→(∀ b,b<H.next→NoRow b ov→NoRow b ov')→Fr ov pv H H' →
   Q (.exit 0) [(2,.p b2 0),(3,.p b3 0),(4,w4),(5,.p b5 0),(27,.fs false false l.length (encs l)),(28,.i .i64 l.length),(29,.i .i64 l.length),(30,w)] H') :
  wp (theCalls IP G 2) 2 (.loop L23a) Q [(2,.p b2 0),(3,.p b3 0),(4,w4),(5,.p b5 0),(27,.fs false false l.length (encs l)),(28,.i .i64 l.length),(29,.i .i64 0)] H:=by
 refine wp_loop_list (l:=l) (by omega) (fun i todo e H'=>e=[(2,.p b2 0),(3,.p b3 0),(4,w4),(5,.p b5 0),(27,.fs false false l.length (encs l)),(28,.i .i64 l.length),(29,.i .i64 i)]∧∃ ov' cs',MkI X K tk (chkL K k g (l.take i)) ov' pv cs' H'∧GoodG nh (chkL K k g (l.take i)) m∧(chkL K k g (l.take i)).out.length≤g.out.length+i∧g.out.length≤(chkL K k g (l.take i)).out.length∧H'.get b2=some (.cells [.p 5 0] 1 false)∧H'.get b3=some (.cells c3 1 false)∧H'.get b5=some (.cells [.i .i64 k] 1 false)∧H.next≤H'.next∧(∀ b,b<H.next→NoRow b ov→NoRow b ov')∧Fr ov pv H H') ?_ ?_ ?_
 ·rintro i o todo e H' hx hd hlt hlt2 hlt3 ⟨rfl,ov',cs',hM',hg',hle,hge,k2,k3,k5,hn,hnr,hfr⟩
  have ho:=hl o (List.mem_of_getElem? hx)
  have nx:=hM'.nx
  have n3:2≤H'.next:=by omega
  have bb2:=hb b2 (.inl rfl)
  have bb3:=hb b3 (.inr (.inl rfl))
  have bb5:=hb b5 (.inr (.inr rfl))
  have m2:¬ b2=H'.next:=by omega
  have m5:¬ b5=H'.next:=by omega
  obtain⟨H1,hH1⟩:∃ H1,H1=(H'.push (.cells [.i .i64 0,.i .i64 0,.i .i64 0,.i .i64 0,.s [],.ns,.ns] 1 false)).put H'.next (some (.cells (Enc.cells o) 1 false)):=⟨_,rfl⟩
  have hk1:∀ id,id<H'.next→H1.get id=H'.get id:=fun id h=>by rw[hH1];simp -implicitDefEqProofs [show ¬ id=H'.next by omega]
  have q3:H1.get H'.next=some (.cells (Enc.cells o) 1 false):=by rw[hH1];simp
  have q4:H1.next=H'.next+1:=by rw[hH1];simp
  have hM1:=mk_box hG hM' (H':=H1) (by omega) hk1
  obtain⟨v,H2,hc,rfl,ov2,cs2,hM2,hF2,hN2⟩:=t_gcheck hG hM1 (by omega) o k (fun h=>by have:=opnFits_home ho h;rw[hg'.hs];omega) (fun id h=>by have:=hX id h;omega)
  obtain⟨j1,j2,j3⟩:=checkI_good (K:=K) (k:=k) (o:=o) hg' (opnFits_mono (by omega) ho) hk
  have hjl:(checkI K (chkL K k g (l.take i)) o k).out.length≤(chkL K k g (l.take i)).out.length+1:=by unfold checkI;split<;>simp
  have htk:chkL K k g (l.take (i+1))=checkI K (chkL K k g (l.take i)) o k:=by rw[List.take_add_one,hx];exact chkL_snoc hG _ _ _
  have w2:=(hk1 b2 (by omega)).trans k2
  have w5:=(hk1 b5 (by omega)).trans k5
  simp at hH1 q3 hc
  clear hlt
  simp -implicitDefEqProofs [L23a,hlt2,hlt3,hx,n3,←hH1,q3,w2,w5,hc]
  refine⟨ov2,⟨cs2,by rw[htk];exact hM2⟩,by rw[htk];exact j1,by rw[htk];omega,by rw[htk];omega,?_,?_,?_,?_,?_,?_⟩
  ·rw[hF2.2 b2 (by omega) (by omega) (by omega) (hnr _ (by omega) bb2.2.2.1) bb2.2.2.2];exact w2
  ·rw[hF2.2 b3 (by omega) (by omega) (by omega) (hnr _ (by omega) bb3.2.2.1) bb3.2.2.2];exact(hk1 b3 (by omega)).trans k3
  ·rw[hF2.2 b5 (by omega) (by omega) (by omega) (hnr _ (by omega) bb5.2.2.1) bb5.2.2.2];exact w5
  ·have:=hF2.1;omega
  ·exact fun b h1 h2=>hN2 b (by omega) (hnr b h1 h2)
  ·exact⟨by have:=hF2.1;omega,fun id h1 h2 h3 h4 h5=>by rw[hF2.2 id (by omega) h2 h3 (hnr id h1 h4) h5,hk1 id (by omega)];exact hfr.2 id h1 h2 h3 h4 h5⟩
 ·rintro e H' ⟨rfl,ov',cs',hM',hg',hle,hge,k2,k3,k5,hn,hnr,hfr⟩
  rw[List.take_length] at hM'
  simp -implicitDefEqProofs [L23a]
  exact hQ _ ov' cs' H' hM' k2 k3 k5 hn hnr hfr
 ·exact⟨by simp,ov,cs,hM,hg,by simp -implicitDefEqProofs [chkL],by simp -implicitDefEqProofs [chkL],g2,g3,g5,Nat.le_refl _,fun _ _ h=>h,Nat.le_refl _,fun _ _ _ _ _ _=>rfl⟩
def N0(id:Nat):Prop:=False
theorem mk_boxX{X:Nat→Prop}{K:List Int}{tk:Bool}{g:GS}{ov pv:AVal}{cs:List AVal}{H H':AHeap}(h:MkI X K tk g ov pv cs H)(hn:H.next≤H'.next)(hk:∀ id,id<H.next→H'.get id=H.get id)(b:Nat)(hb:H.next≤b):MkI (fun id=>id=b) K tk g ov pv cs H' :=
 { gM:=(hk _ (by have:=h.nx;omega)).trans h.gM,gH:=(hk _ (by have:=h.nx;omega)).trans h.gH,nx:=by have:=h.nx;omega,acc:=acc_keep h.acc hn fun id a b hv=>hk id (acc_lt h.acc _ _ _ hv).2,pl:=acc_keep h.pl hn fun id a b hv=>hk id (acc_lt h.pl _ _ _ hv).2,dis:=h.dis,out:=out_keep hn (fun id h1 h2=>⟨hk id h2,⟨h1.1.1,by omega⟩,h1.2⟩) _ _ h.out }
theorem mk_put{K:List Int}{tk:Bool}{g:GS}{ov pv:AVal}{cs:List AVal}{H H':AHeap}(b:Nat)(h:MkI (fun id=>id=b) K tk g ov pv cs H)(hn:H'.next=H.next)(hk:∀ id,id≠b→H'.get id=H.get id)(hb:6≤b)(ho:NoRow b ov)(hp:NoRow b pv):MkI N0 K tk g ov pv cs H' :=
 { gM:=(hk _ (by omega)).trans h.gM,gH:=(hk _ (by omega)).trans h.gH,nx:=by have:=h.nx;omega,acc:=acc_keep h.acc (by omega) fun id a c hv=>hk id fun e=>ho id a c hv e.symm,pl:=acc_keep h.pl (by omega) fun id a c hv=>hk id fun e=>hp id a c hv e.symm,dis:=h.dis,out:=out_keep (by omega) (fun id h1 h2=>⟨hk id h1.1.2,⟨h1.1.1,fun h=>h⟩,h1.2⟩) _ _ h.out }
theorem mk_free{X:Nat→Prop}{K:List Int}{tk:Bool}{g:GS}{ov pv:AVal}{cs:List AVal}{H:AHeap}(h:MkI X K tk g ov pv cs H):MkI N0 K tk g ov pv cs H :=
 { gM:=h.gM,gH:=h.gH,nx:=h.nx,acc:=h.acc,pl:=h.pl,dis:=h.dis,out:=out_keep (Nat.le_refl _) (fun id h1 h2=>⟨rfl,⟨h1.1.1,fun h=>h⟩,h1.2⟩) _ _ h.out }
theorem mk_hs{X:Nat→Prop}{K:List Int}{tk:Bool}{g:GS}{ov pv:AVal}{cs:List AVal}{H:AHeap}(hM:MkI X K tk g ov pv cs H)(hs':List Int)(hl:hs'.length=g.hs.length):MkI X K tk ⟨g.out,hs',g.pl⟩ ov pv cs (H.put 4 (some (.cells (encs hs') 1 false))):=by
 obtain⟨H6,hH6⟩:∃ H6,H6=H.put 4 (some (.cells (encs hs') 1 false)):=⟨_,rfl⟩
 have hn:H6.next=H.next:=by rw[hH6];rfl
 have ne:∀(id:Nat),id≠4→H6.get id=H.get id:=fun id h=>by rw[hH6];simp -implicitDefEqProofs [h]
 have g2:H6.get 4=some (.cells (encs hs') 1 false):=by rw[hH6];simp
 rw[←hH6]
 have ho:Out H6 (Aq X ov pv) cs g.out:=out_keep (by omega) (fun id h1 h2=>⟨ne _ (by have:=h1.1;omega),h1⟩) _ _ hM.out
 exact{ gM:=by rw[ne _ (by omega),hM.gM,hl],gH:=g2,nx:=by have:=hM.nx;omega,acc:=acc_keep hM.acc (by omega) fun id a b hv=>ne _ (by have:=acc_lt hM.acc _ _ _ hv;omega),pl:=acc_keep hM.pl (by omega) fun id a b hv=>ne _ (by have:=acc_lt hM.pl _ _ _ hv;omega),dis:=hM.dis,out:=ho }
theorem mk_pl{X:Nat→Prop}{K:List Int}{tk:Bool}{g:GS}{ov pv:AVal}{cs:List AVal}{H H6:AHeap}(hM:MkI X K tk g ov pv cs H)(x:Int)(id0:Nat)(h0:H.next≤id0)(acc6:Acc H6 6 (.sl id0 0 (g.pl.length+1) none) 1 (g.pl.length+1) (encs g.pl++[.i .i64 x]))(hn:H.next≤H6.next)(fr:∀ id,id<H.next→NoRow id pv→H6.get id=H.get id) :
  MkI X K tk ⟨g.out,g.hs,g.pl++[x]⟩ ov (.sl id0 0 (g.pl.length+1) none) cs (H6.put 5 (some (.cells [ov,.sl 4 0 g.hs.length (some g.hs.length),.fs tk false K.length (encs K),.sl id0 0 (g.pl.length+1) none] 1 false))):=by
 have nx:=hM.nx
 obtain⟨o,hob⟩:∃ o,o=some (AObj.cells [ov,.sl 4 0 g.hs.length (some g.hs.length),.fs tk false K.length (encs K),.sl id0 0 (g.pl.length+1) none] 1 false):=⟨_,rfl⟩
 rw[←hob]
 have nr:∀ id,id<6→NoRow id pv:=fun id h j m c hj=>by have:=acc_lt hM.pl _ _ _ hj;omega
 have ne:∀(id:Nat),id≠5→(H6.put 5 o).get id=H6.get id:=fun id h=>by simp -implicitDefEqProofs [h]
 have hn':H.next≤(H6.put 5 o).next:=by simpa using hn
 have hacc:Acc (H6.put 5 o) 6 ov 5 g.out.length cs:=acc_keep hM.acc hn' fun id a b hv=>by
  have:=acc_lt hM.acc _ _ _ hv
  rw[ne _ (by omega)]
  exact fr _ this.2 fun j m c hj=>hM.dis id a b hv j m c hj
 have hpl:=acc_keep (H':=H6.put 5 o) acc6 (Nat.le_refl _) fun id a b hv=>by have:=acc_lt acc6 _ _ _ hv;exact ne _ (by omega)
 have hout:Out (H6.put 5 o) (Aq X ov (.sl id0 0 (g.pl.length+1) none)) cs g.out:=out_keep (P:=Aq X ov pv) hn' (fun id h1 h2=>⟨by rw[ne _ (by have:=h1.1;omega)];exact fr _ h2 h1.2.2,h1.1,h1.2.1,fun j m c hj=>by cases hj;omega⟩) _ _ hM.out
 exact{ gM:=by simp -implicitDefEqProofs [hob],gH:=by rw[ne _ (by omega),fr _ (by omega) (nr _ (by omega))];exact hM.gH,nx:=by omega,acc:=hacc,pl:=by simpa using hpl,dis:=fun i m c hi j n d hj=>by cases hj;have:=acc_lt hM.acc _ _ _ hi;omega,out:=hout }
theorem mk_out{X:Nat→Prop}{K:List Int}{tk:Bool}{g:GS}{ov pv:AVal}{cs:List AVal}{H H6:AHeap}(hM:MkI X K tk g ov pv cs H)(t:Stp)(lv nv:AVal)(id0:Nat)(h0:H.next≤id0)(acc6:Acc H6 6 (.sl id0 0 (g.out.length+1) none) 5 (g.out.length+1) (cs++[.i .i64 t.op,.i .i64 t.n,lv,.s t.s,nv]))(hn:H.next≤H6.next)(fr:∀ id,id<H.next→NoRow id ov→H6.get id=H.get id)
  (hL:Sl H (Aq X ov pv) lv 7 t.l.length (encs t.l)) (hS:Sl H (Aq X ov pv) nv 1 t.names.length (encs t.names)) :
  MkI X K tk ⟨g.out++[t],g.hs,g.pl⟩ (.sl id0 0 (g.out.length+1) none) pv (cs++[.i .i64 t.op,.i .i64 t.n,lv,.s t.s,nv]) (H6.put 5 (some (.cells [.sl id0 0 (g.out.length+1) none,.sl 4 0 g.hs.length (some g.hs.length),.fs tk false K.length (encs K),pv] 1 false))):=by
 have nx:=hM.nx
 obtain⟨o,hob⟩:∃ o,o=some (AObj.cells [.sl id0 0 (g.out.length+1) none,.sl 4 0 g.hs.length (some g.hs.length),.fs tk false K.length (encs K),pv] 1 false):=⟨_,rfl⟩
 rw[←hob]
 have nr:∀ id,id<6→NoRow id ov:=fun id h j m c hj=>by have:=acc_lt hM.acc _ _ _ hj;omega
 have ne:∀(id:Nat),id≠5→(H6.put 5 o).get id=H6.get id:=fun id h=>by simp -implicitDefEqProofs [h]
 have hn':H.next≤(H6.put 5 o).next:=by simpa using hn
 have hq:∀ id,Aq X ov pv id→id<H.next→(H6.put 5 o).get id=H.get id∧Aq X (.sl id0 0 (g.out.length+1) none) pv id:=fun id h1 h2 =>
  ⟨by rw[ne _ (by have:=h1.1;omega)];exact fr _ h2 h1.2.1,h1.1,fun j m c hj=>by cases hj;omega,h1.2.2⟩
 have hacc:=acc_keep (H':=H6.put 5 o) acc6 (Nat.le_refl _) fun id a b hv=>by have:=acc_lt acc6 _ _ _ hv;exact ne _ (by omega)
 have hpl:Acc (H6.put 5 o) 6 pv 1 g.pl.length (encs g.pl):=acc_keep hM.pl hn' fun id a b hv=>by
  have:=acc_lt hM.pl _ _ _ hv
  rw[ne _ (by omega)]
  exact fr _ this.2 fun j m c hj=>(hM.dis j m c hj id a b hv).symm
 have hout:=out_add (sl_keep hL hn' hq) (sl_keep hS hn' hq) _ _ (out_keep hn' hq _ _ hM.out)
 exact{ gM:=by simp -implicitDefEqProofs [hob],gH:=by rw[ne _ (by omega),fr _ (by omega) (nr _ (by omega))];exact hM.gH,nx:=by omega,acc:=by simpa using hacc,pl:=hpl,dis:=fun i m c hi j n d hj=>by cases hi;have:=acc_lt hM.pl _ _ _ hj;omega,out:=hout }
end
end Go.Proofs.YtbfajkcmehaliabGreatDoor
namespace Go.RI
open Go
mutual
theorem fitsV_mono:∀(v:Val) (w w' left left':Int),w'≤w→left≤left'→(fitsV v w left).2=true→(fitsV v w' left').2=true∧(fitsV v w' left').1=(fitsV v w left).1+(left'-left)
  | .mk k n s l ns,w,w',left,left',hw,hl,h=>by
    simp only[fitsV] at h ⊢
    split at h
    · cases h
    · rename_i hc
      rw[if_neg hc]
      have hc':¬(8≤w'∨left'-(1+s.length)-lens ns<0∨ownV (.mk k n s l ns)=false):=fun h=>hc (by
        rcases h with h|h|h
        · exact .inl (by omega)
        · exact .inr (.inl (by omega))
        · exact .inr (.inr h))
      rw[if_neg hc']
      obtain⟨h1,h2⟩:=fitsL_mono l (w+1) (w'+1) _ (left'-(1+s.length)-lens ns) (by omega) (by omega) h
      exact⟨h1,by rw[h2];omega⟩
theorem fitsL_mono:∀(l:List Val) (w w' left left':Int),w'≤w→left≤left'→(fitsL l w left).2=true→(fitsL l w' left').2=true∧(fitsL l w' left').1=(fitsL l w left).1+(left'-left)
  | [],w,w',left,left',hw,hl,h=>⟨rfl,by simp only[fitsL];omega⟩
  | v::l,w,w',left,left',hw,hl,h=>by
    simp only[fitsL] at h ⊢
    split at h
    · rename_i hc
      obtain⟨h1,h2⟩:=fitsV_mono v w w' left left' hw hl hc
      rw[if_pos hc,if_pos h1]
      obtain⟨h3,h4⟩:=fitsL_mono l w w' _ (fitsV v w' left').1 hw (by omega) h
      exact⟨h3,by rw[h4,h2];omega⟩
    · cases h
end
theorem fits_hands{homes a:Int}{s:Stp}(h:stpFits homes a s=true)(ho:s.op=23∨s.op=40):s.l.length=1:=by
 unfold stpFits at h
 rcases ho with ho|ho<;>simp[needs,ho] at h<;>omega
end Go.RI
namespace Go.RI
open Go
structure FS where
 out:List Stp
 pl:List Opn
def allC(l:List Opn):Bool:=l.all fun o=>decide (o.kind=3)
def knownF(i:Stp):Option Val:=if allC i.l=true then stepV i (i.l.map Opn.v) else none
def NoIs(out:List Stp)(o:Opn):Prop:=o.kind=2→∀ s,out[o.n.toNat]?=some s→s.op≠23∧s.op≠40
structure GoodF (nh:Int) (f:FS) (m:Nat):Prop where
 fits:Fits nh f.out
 pl:f.pl.length=m
 plfit:∀ p∈f.pl,opnFits nh f.out.length p=true
 plno:∀ p∈f.pl,NoIs f.out p
 left:∀(k:Nat) (s:Stp),f.out[k]?=some s→knownF s=none∧∀ o∈s.l,NoIs f.out o
 le:f.out.length≤m
structure SemF (homes:List Val) (f:FS) (made md:List Val):Prop where
 run:stepsV homes f.out []=some made
 at_:∀(j:Nat) (p:Opn),f.pl[j]?=some p→md[j]?=some (ofO homes made p)
end Go.RI
namespace Go.RI
open Go
structure OpB where
 o:Opn
 b:Bool
instance:Enc OpB:=⟨7,fun x=>[.i .i64 x.o.kind,.i .i64 x.o.n,.i .i64 x.o.v.kind,.i .i64 x.o.v.n,.s x.o.v.s,if x.b then .ns else .fs false false x.o.v.l.length (encs x.o.v.l),if x.b then .ns else .fs false false x.o.v.names.length (encs x.o.v.names)],fun _=>rfl⟩
@[simp] theorem cells_opB(x:OpB):Enc.cells x=[.i .i64 x.o.kind,.i .i64 x.o.n,.i .i64 x.o.v.kind,.i .i64 x.o.v.n,.s x.o.v.s,if x.b then .ns else .fs false false x.o.v.l.length (encs x.o.v.l),if x.b then .ns else .fs false false x.o.v.names.length (encs x.o.v.names)]:=rfl
theorem sz_opB:Enc.sz OpB=7:=rfl
theorem opn_bulk{nh a:Int}{o:Opn}(h:opnFits nh a o=true):o.v.bulk≤2304:=by
 have hz:noneV o.v=true→o.v.bulk≤2304:=fun h=>by rw[(sameV_iff _ _).1 h];decide
 unfold opnFits at h
 split at h
 ·simp only[Bool.and_eq_true] at h;exact hz h.2
 split at h
 ·simp only[Bool.and_eq_true] at h;exact hz h.2
 split at h
 ·simp only[Bool.and_eq_true] at h;exact may_bulk h.2
 ·cases h
theorem stp_fok{nh a:Int}{j:Stp}(h:stpFits nh a j=true)(h1:bulkS j.names<549755813888)(h2:j.s.length<549755813887):okStp j∧bulkL (j.l.map Opn.v)<68719476736:=by
 have hl:=fits_most h
 refine⟨⟨h1,h2,by omega,fun o ho=>by have:=opn_bulk (fits_all h o ho);unfold okO;omega⟩,?_⟩
 have:=bulkL_le (B:=2304) (l:=j.l.map Opn.v) (fun v hv=>by
  obtain⟨o,ho,rfl⟩:=List.mem_map.1 hv
  exact opn_bulk (fits_all h o ho))
 simp at this
 omega
theorem hold_sl{H:AHeap}{lo esz n:Nat}{v:AVal}{cells:List AVal}{P:Nat→Prop}(h:Hold H lo v esz n cells)(hP:∀ id c,v=.sl id 0 n c→P id):Sl H P v esz n cells:=by
 rcases h with⟨h|h,rfl,rfl⟩|⟨id,c,h1,h2,h3,h4,h5,h6⟩
 ·exact .inl (.inl ⟨true,h⟩)
 ·exact .inl (.inr ⟨h,rfl,rfl⟩)
 ·exact .inr ⟨id,c,h1,h2,hP id c h1,h4,h5,h6⟩
theorem get_of_mem{α:Type}{l:List α}{x:α}(h:x∈l):∃ n:Nat,l[n]?=some x:=by
 obtain⟨n,hn,rfl⟩:=List.getElem_of_mem h
 exact⟨n,List.getElem?_eq_getElem hn⟩
end Go.RI
namespace Go.Proofs.YtbfajkcmehaliabGreatDoor
open Go Go.RI
section
variable {G:AHeap} (hG:G.next=2)
include hG
set_option maxHeartbeats 4000000 in
theorem t_gstep{K:List Int}{tk:Bool}{g:GS}{nh:Int}{m:Nat}{ov pv:AVal}{cs:List AVal}{H:AHeap}(hM:MkI N0 K tk g ov pv cs H)(hg:GoodG nh g m)(s:Stp)(hfs:stpFits nh m s=true)(hok:okStp s)(hm:m<100000)(hlen:g.out.length<100000) :
  ∃ v H',theCalls IP G 2 23 [.p 5 0,.ag (Enc.cells s)] H=some (v,H')∧v=.tu []∧∃ ov' pv' cs',MkI N0 K tk (RI.stepG K g s) ov' pv' cs' H'∧H.next≤H'.next∧∀ id,id<4→H'.get id=H.get id:=by
 have nx:=hM.nx
 have hsl:=fits_most hfs
 have hfl:=fits_all hfs
 have n3:2≤H.next:=by omega
 have n3b:2≤H.next+1:=by omega
 obtain⟨l',hl'⟩:∃ l',l'=s.l.map (movedO g.pl):=⟨_,rfl⟩
 have hll:l'.length=s.l.length:=by rw[hl'];simp
 have hlf:∀ o∈l',opnFits nh g.out.length o=true:=fun o ho=>by
  rw[hl'] at ho
  obtain⟨p,hp,rfl⟩:=List.mem_map.1 ho
  exact moved_fits hg (hfl p hp)
 obtain⟨H1,hH1⟩:∃ H1,H1=(H.push (.cells [.p 5 0] 1 false)).push (.cells (Enc.cells s) 1 false):=⟨_,rfl⟩
 have hk1:∀ id,id<H.next→H1.get id=H.get id:=fun id h=>by rw[hH1,get_push_lt (by simp;omega),get_push_lt h]
 have q2:H1.get H.next=some (.cells [.p 5 0] 1 false):=by rw[hH1];simp
 have q3:H1.get (H.next+1)=some (.cells (Enc.cells s) 1 false):=by rw[hH1];simp
 have q4:H1.next=H.next+2:=by rw[hH1];simp
 have hM1:=mk_box hG hM (H':=H1) (by omega) hk1
 obtain⟨ta,tb,tp,cs2,hT,sm⟩:=mk_snap hG hM1 11
 have c1:=t_gmoved hG s.l (by omega) g.pl (fun o ho hk=>by have:=opnFits_step (hfl o ho) hk;rw[hg.pl];exact this) (fun o ho=>by have:=hok.2.2.2 o ho;unfold okO at this;exact this) false false tp (.fs ta false g.out.length cs2) (.fs tb false g.hs.length (encs g.hs)) (.fs tk false K.length (encs K))
 rw[←hl'] at c1
 have c2:=t_gtyped hG s.op
 have bx:∀(H:AHeap) (a b:Nat),boxR H (.p a b)=some (some (.p H.next 0),H.push (.cells [.p a b] 1 false)):=fun _ _ _=>rfl
 refine calls_nil_of ip23 rfl rfl ?_
 simp at hH1 q3 sm c1 c2
 simp -implicitDefEqProofs [I23,bx,←hH1,q2,q3,sm,c1]
 refine step_clone (lo':=H.next+2) (by simp) (by omega) (by omega) (by have:=bulkS_len s.names;have:=hok.1;omega) (by omega) ?_
 intro nv H2 hn2 hN hnew hf2
 have r2:=(hf2 H.next (by omega)).trans q2
 have r3:=(hf2 (H.next+1) (by omega)).trans q3
 have n4:2≤H2.next:=by omega
 have n5:¬ H.next+1=H2.next:=by omega
 have n6:¬ H.next=H2.next:=by omega
 obtain⟨o1,o2⟩:=hold_one hN
 simp -implicitDefEqProofs [r2,r3,o1,o2,c2,n3,n3b,n4,n5,n6]
 obtain⟨H4,hH4⟩:∃ H4,H4=((((H2.put (H.next+1) (some (.cells [.i .i64 s.op,.i .i64 s.n,.fs false false s.l.length (encs l'),.s s.s,.fs false false s.names.length (encs s.names)] 1 false))).put (H.next+1) (some (.cells [.i .i64 s.op,.i .i64 s.n,.fs false false s.l.length (encs l'),.s s.s,nv] 1 false))).push (.cells [.i .i64 0] 1 false)).put H2.next (some (.cells [.i .i64 (typedI s.op).2.1] 1 false))):=⟨_,rfl⟩
 have hn4:H4.next=H2.next+1:=by rw[hH4];simp
 have hk4:∀ id,id<H2.next→id≠H.next+1→H4.get id=H2.get id:=fun id h1 h2=>by rw[hH4];simp -implicitDefEqProofs [h2,show ¬ id=H2.next by omega]
 have hk5:∀ id,id<H.next→H4.get id=H.get id:=fun id h=>by rw[hk4 id (by omega) (by omega),hf2 id (by omega),hk1 id h]
 have x2:H4.get H.next=some (.cells [.p 5 0] 1 false):=by rw[hk4 _ (by omega) (by omega)];exact r2
 have x3:H4.get (H.next+1)=some (.cells [.i .i64 s.op,.i .i64 s.n,.fs false false s.l.length (encs l'),.s s.s,nv] 1 false):=by rw[hH4];simp -implicitDefEqProofs [n5]
 have x5:H4.get H2.next=some (.cells [.i .i64 (typedI s.op).2.1] 1 false):=by rw[hH4];simp
 have hM4:=mk_box hG hM (H':=H4) (by omega) hk5
 have hN4:Hold H4 (H.next+2) nv 1 s.names.length (encs s.names):=hold_keep hN (by omega) fun id c hv=>hk4 id (hold_lt hN _ _ _ hv).2 (by have:=(hold_lt hN _ _ _ hv).1;omega)
 have hNl:∀ id c,nv=.sl id 0 s.names.length c→H.next+2≤id∧id<H2.next:=fun id c hv=>hold_lt hN _ _ _ hv
 have nrO:∀ b,H.next≤b→NoRow b ov:=fun b h j m c hj=>by have:=acc_lt hM.acc _ _ _ hj;omega
 have nrP:∀ b,H.next≤b→NoRow b pv:=fun b h j m c hj=>by have:=acc_lt hM.pl _ _ _ hj;omega
 simp only[←hH4]
 have hlI:(l'.length:Int)=s.l.length:=by omega
 cases hty:(typedI s.op).2.2
 ·have hcg:chkG K g s=g:=by unfold chkG;rw[if_neg (by rw[hty];simp)]
  have hop:opG g s.op l'=s.op:=by unfold opG;rw[if_neg (by rw[hty];simp)]
  have htg:turnG K g s=⟨s.op,s.n,l',s.s,s.names⟩:=by unfold turnG;rw[hcg,←hl',hop]
  by_cases h40:s.op=40
  ·obtain⟨o,hol⟩:=one_len (fits_hands hfs (.inr h40))
   obtain⟨p,hp⟩:∃ p,p=movedO g.pl o:=⟨_,rfl⟩
   have ho1:l'=[p]:=by rw[hl',hol,hp];rfl
   have hpf:=hlf p (by rw[ho1];simp)
   have hl0:0<s.l.length:=by rw[hol];simp
   have hne:¬ s.l=[]:=by rw[hol];simp
   have hd0:(encs l')[0]?=some (.i .i64 p.kind):=by rw[ho1];simp
   have hd1:(encs l')[1]?=some (.i .i64 p.n):=by rw[ho1];simp
   have hg0:(l'[0]?.getD default)=p:=by rw[ho1];rfl
   by_cases hk1:p.kind=1
   ·obtain⟨a1,a2⟩:=opnFits_home hpf hk1
    have a3:p.n.toNat<g.hs.length:=by rw[hg.hs];omega
    have a4:p.n<g.hs.length:=by have:=hg.hs;omega
    have a5:p.n.toNat+1≤g.hs.length:=by omega
    have hpk:=put_kind (k:=s.n) a3
    have e3:¬ 5=4:=by omega
    have sp:∀ a b,same (.p a b) (.p a b)=true:=fun a b=>by simp -implicitDefEqProofs [same]
    have gtl:g.out.length<200000:=by omega
    have gM4:=hM4.gM
    have gH4:=hM4.gH
    obtain⟨Ht,hHt⟩:∃ Ht,Ht=H4.put 4 (some (.cells (encs (g.hs.set p.n.toNat s.n)) 1 false)):=⟨_,rfl⟩
    have hMt:MkI N0 K tk ⟨g.out,g.hs.set p.n.toNat s.n,g.pl⟩ ov pv cs Ht:=by rw[hHt];exact mk_hs hG hM4 _ (by simp)
    have hnt:Ht.next=H4.next:=by rw[hHt];rfl
    have kt:∀ id,id≠4→Ht.get id=H4.get id:=fun id h=>by rw[hHt];simp -implicitDefEqProofs [h]
    have nrT:∀ b,H.next≤b→b<H4.next→NoRow b ov:=fun b h _=>nrO b h
    have t2:=(kt _ (by omega)).trans x2
    have t3:=(kt _ (by omega)).trans x3
    have tN:Hold Ht (H.next+2) nv 1 s.names.length (encs s.names):=hold_keep hN4 (by omega) fun id c hv=>kt id (by have:=hNl id c hv;omega)
    have tfr:∀ id,id<4→Ht.get id=H.get id:=fun id h=>by rw[kt _ (by omega)];exact hk5 id (by omega)
    have tM:=hMt.gM
    have tnx:=hMt.nx
    have tacc:=hMt.acc
    have tpl:=hMt.pl
    dsimp only at tM tacc tpl
    have nrO2:∀ b,H.next≤b→b<H4.next→NoRow b ov:=nrT
    simp -implicitDefEqProofs [x3,x2,h40,hl0,hne,hd0,hd1,hk1,a1,a4,a5,gM4,gH4,hpk,←hHt,t2,t3,tM,hold_len tacc.hold,sp]
    refine step_app (lo':=6) (acc_keep tpl (by simp<;>omega) ?_) (m:=1) (ys:=[.i .i64 (g.out.length:Int)]) (by omega) (by simp<;>omega) (more_lit (cs:=[.i .i64 (g.out.length:Int)]) (e:=1) (ro:=false) (by simp) (by simp) (by omega)) (by simp) (by omega) (by omega) (by have:=hg.pl;omega) (by omega) ?_
    ·intro id a b hv
     have:=acc_lt tpl id a b hv
     simp -implicitDefEqProofs [show ¬ id=Ht.next by omega]
    intro H6 hn6 acc6 hf6
    simp at hn6 acc6
    have f6:∀ id,id<Ht.next→NoRow id pv→H6.get id=Ht.get id:=fun id h1 h2=>by rw[hf6 id (by simp;omega) h2];exact get_push_lt h1
    have hM6:=mk_pl hG hMt (g.out.length:Int) (Ht.next+1) (by omega) acc6 (by omega) f6
    have lowP:∀ id,id<6→NoRow id pv:=fun id h j m c hj=>by have:=acc_lt tpl _ _ _ hj;omega
    have p2:=(f6 H.next (by omega) (nrP _ (by omega))).trans t2
    have p3:=(f6 (H.next+1) (by omega) (nrP _ (by omega))).trans t3
    have pM:=(f6 5 (by omega) (lowP _ (by omega))).trans tM
    obtain⟨H7,hH7⟩:∃ H7,H7=H6.put 5 (some (.cells [ov,.sl 4 0 g.hs.length (some g.hs.length),.fs tk false K.length (encs K),.sl (Ht.next+1) 0 (g.pl.length+1) none] 1 false)):=⟨_,rfl⟩
    rw[List.length_set] at hM6
    rw[←hH7] at hM6
    have hn7:H7.next=H6.next:=by rw[hH7];rfl
    have k7:∀ id,id≠5→H7.get id=H6.get id:=fun id h=>by rw[hH7];simp -implicitDefEqProofs [h]
    have m2:=(k7 H.next (by omega)).trans p2
    have m3:=(k7 (H.next+1) (by omega)).trans p3
    have mM:=hM6.gM
    dsimp only at mM
    rw[List.length_set] at mM
    simp -implicitDefEqProofs [p2,p3,pM,←hH7,m2,m3,mM,sp]
    have macc:=hM6.acc
    dsimp only at macc
    refine step_app (lo':=6) (acc_keep macc (by simp<;>omega) ?_) (m:=1) (ys:=[.i .i64 s.op,.i .i64 s.n,.fs false false s.l.length (encs l'),.s s.s,nv]) (by omega) (by simp<;>omega) (more_lit (cs:=[.i .i64 s.op,.i .i64 s.n,.fs false false s.l.length (encs l'),.s s.s,nv]) (e:=5) (ro:=false) (by simp) (by simp) (by omega)) (by simp) (by omega) (by omega) (by omega) (by omega) ?_
    ·intro id a b hv
     have:=acc_lt macc id a b hv
     simp -implicitDefEqProofs [show ¬ id=H7.next by omega]
    intro H8 hn8 acc8 hf8
    simp at hn8 acc8
    have f8:∀ id,id<H7.next→NoRow id ov→H8.get id=H7.get id:=fun id h1 h2=>by rw[hf8 id (by simp;omega) h2];exact get_push_lt h1
    have lowO:∀ id,id<6→NoRow id ov:=fun id h j m c hj=>by have:=acc_lt tacc _ _ _ hj;omega
    have q8:=(f8 H.next (by omega) (nrO2 _ (by omega) (by omega))).trans m2
    have qM:=(f8 5 (by omega) (lowO _ (by omega))).trans mM
    have hLs:Sl H7 (Aq N0 ov (.sl (Ht.next+1) 0 (g.pl.length+1) none)) (.fs false false s.l.length (encs l')) 7 (⟨s.op,s.n,l',s.s,s.names⟩:Stp).l.length (encs (⟨s.op,s.n,l',s.s,s.names⟩:Stp).l):=by
     show Sl H7 _ _ 7 l'.length (encs l')
     rw[hll];exact .inl (.inl ⟨false,rfl⟩)
    have hSs:Sl H7 (Aq N0 ov (.sl (Ht.next+1) 0 (g.pl.length+1) none)) nv 1 (⟨s.op,s.n,l',s.s,s.names⟩:Stp).names.length (encs (⟨s.op,s.n,l',s.s,s.names⟩:Stp).names) :=
     hold_sl (hold_keep tN (by omega) fun id c hv=>by have:=hNl id c hv;rw[k7 _ (by omega)];exact f6 _ (by omega) (nrP _ (by omega))) fun id c hv=>by
      have:=hNl id c hv
      exact⟨⟨by omega,fun h=>h⟩,nrO2 _ (by omega) (by omega),fun j m c hj=>by cases hj;omega⟩
    have hM8:=mk_out hG hM6 ⟨s.op,s.n,l',s.s,s.names⟩ (.fs false false s.l.length (encs l')) nv (H7.next+1) (by omega) acc8 (by omega) f8 hLs hSs
    rw[List.length_set] at hM8
    simp -implicitDefEqProofs [q8,qM,sp]
    have hst:RI.stepG K g s=⟨g.out++[⟨s.op,s.n,l',s.s,s.names⟩],(g.hs.set p.n.toNat s.n),g.pl++[(g.out.length:Int)]⟩:=by
     unfold RI.stepG
     rw[htg,hcg]
     simp only[←hl',noteG,hg0]
     rw[if_pos ⟨h40,hk1⟩]
    rw[hst]
    refine⟨⟨_,_,_,hM8⟩,by omega,fun id h=>?_⟩
    rw[if_neg (show ¬ id=5 by omega),f8 _ (by omega) (lowO _ (by omega)),k7 _ (by omega),f6 _ (by omega) (lowP _ (by omega))]
    exact tfr id h
   ·skip
    have gtl:g.out.length<200000:=by omega
    have sp:∀ a b,same (.p a b) (.p a b)=true:=fun a b=>by simp -implicitDefEqProofs [same]
    have nrT:∀ b,H.next≤b→b<H4.next→NoRow b ov:=fun b h _=>nrO b h
    have hMt:MkI N0 K tk ⟨g.out,g.hs,g.pl⟩ ov pv cs H4:=hM4
    have t2:=x2
    have t3:=x3
    have tN:=hN4
    have tfr:∀ id,id<4→H4.get id=H.get id:=fun id h=>hk5 id (by omega)
    have tM:=hMt.gM
    have tnx:=hMt.nx
    have tacc:=hMt.acc
    have tpl:=hMt.pl
    dsimp only at tM tacc tpl
    have nrO2:∀ b,H.next≤b→b<H4.next→NoRow b ov:=nrT
    simp -implicitDefEqProofs [x3,h40,hl0,hne,hd0,hk1,t2,t3,tM,hold_len tacc.hold,sp]
    refine step_app (lo':=6) (acc_keep tpl (by simp<;>omega) ?_) (m:=1) (ys:=[.i .i64 (g.out.length:Int)]) (by omega) (by simp<;>omega) (more_lit (cs:=[.i .i64 (g.out.length:Int)]) (e:=1) (ro:=false) (by simp) (by simp) (by omega)) (by simp) (by omega) (by omega) (by have:=hg.pl;omega) (by omega) ?_
    ·intro id a b hv
     have:=acc_lt tpl id a b hv
     simp -implicitDefEqProofs [show ¬ id=H4.next by omega]
    intro H6 hn6 acc6 hf6
    simp at hn6 acc6
    have f6:∀ id,id<H4.next→NoRow id pv→H6.get id=H4.get id:=fun id h1 h2=>by rw[hf6 id (by simp;omega) h2];exact get_push_lt h1
    have hM6:=mk_pl hG hMt (g.out.length:Int) (H4.next+1) (by omega) acc6 (by omega) f6
    have lowP:∀ id,id<6→NoRow id pv:=fun id h j m c hj=>by have:=acc_lt tpl _ _ _ hj;omega
    have p2:=(f6 H.next (by omega) (nrP _ (by omega))).trans t2
    have p3:=(f6 (H.next+1) (by omega) (nrP _ (by omega))).trans t3
    have pM:=(f6 5 (by omega) (lowP _ (by omega))).trans tM
    obtain⟨H7,hH7⟩:∃ H7,H7=H6.put 5 (some (.cells [ov,.sl 4 0 g.hs.length (some g.hs.length),.fs tk false K.length (encs K),.sl (H4.next+1) 0 (g.pl.length+1) none] 1 false)):=⟨_,rfl⟩
    skip
    rw[←hH7] at hM6
    have hn7:H7.next=H6.next:=by rw[hH7];rfl
    have k7:∀ id,id≠5→H7.get id=H6.get id:=fun id h=>by rw[hH7];simp -implicitDefEqProofs [h]
    have m2:=(k7 H.next (by omega)).trans p2
    have m3:=(k7 (H.next+1) (by omega)).trans p3
    have mM:=hM6.gM
    dsimp only at mM
    skip
    simp -implicitDefEqProofs [p2,p3,pM,←hH7,m2,m3,mM,sp]
    have macc:=hM6.acc
    dsimp only at macc
    refine step_app (lo':=6) (acc_keep macc (by simp<;>omega) ?_) (m:=1) (ys:=[.i .i64 s.op,.i .i64 s.n,.fs false false s.l.length (encs l'),.s s.s,nv]) (by omega) (by simp<;>omega) (more_lit (cs:=[.i .i64 s.op,.i .i64 s.n,.fs false false s.l.length (encs l'),.s s.s,nv]) (e:=5) (ro:=false) (by simp) (by simp) (by omega)) (by simp) (by omega) (by omega) (by omega) (by omega) ?_
    ·intro id a b hv
     have:=acc_lt macc id a b hv
     simp -implicitDefEqProofs [show ¬ id=H7.next by omega]
    intro H8 hn8 acc8 hf8
    simp at hn8 acc8
    have f8:∀ id,id<H7.next→NoRow id ov→H8.get id=H7.get id:=fun id h1 h2=>by rw[hf8 id (by simp;omega) h2];exact get_push_lt h1
    have lowO:∀ id,id<6→NoRow id ov:=fun id h j m c hj=>by have:=acc_lt tacc _ _ _ hj;omega
    have q8:=(f8 H.next (by omega) (nrO2 _ (by omega) (by omega))).trans m2
    have qM:=(f8 5 (by omega) (lowO _ (by omega))).trans mM
    have hLs:Sl H7 (Aq N0 ov (.sl (H4.next+1) 0 (g.pl.length+1) none)) (.fs false false s.l.length (encs l')) 7 (⟨s.op,s.n,l',s.s,s.names⟩:Stp).l.length (encs (⟨s.op,s.n,l',s.s,s.names⟩:Stp).l):=by
     show Sl H7 _ _ 7 l'.length (encs l')
     rw[hll];exact .inl (.inl ⟨false,rfl⟩)
    have hSs:Sl H7 (Aq N0 ov (.sl (H4.next+1) 0 (g.pl.length+1) none)) nv 1 (⟨s.op,s.n,l',s.s,s.names⟩:Stp).names.length (encs (⟨s.op,s.n,l',s.s,s.names⟩:Stp).names) :=
     hold_sl (hold_keep tN (by omega) fun id c hv=>by have:=hNl id c hv;rw[k7 _ (by omega)];exact f6 _ (by omega) (nrP _ (by omega))) fun id c hv=>by
      have:=hNl id c hv
      exact⟨⟨by omega,fun h=>h⟩,nrO2 _ (by omega) (by omega),fun j m c hj=>by cases hj;omega⟩
    have hM8:=mk_out hG hM6 ⟨s.op,s.n,l',s.s,s.names⟩ (.fs false false s.l.length (encs l')) nv (H7.next+1) (by omega) acc8 (by omega) f8 hLs hSs
    skip
    simp -implicitDefEqProofs [q8,qM,sp]
    have hst:RI.stepG K g s=⟨g.out++[⟨s.op,s.n,l',s.s,s.names⟩],g.hs,g.pl++[(g.out.length:Int)]⟩:=by
     unfold RI.stepG
     rw[htg,hcg]
     simp only[←hl',noteG]
     rw[if_neg (by rw[hg0];exact fun h=>hk1 h.2)]
    rw[hst]
    refine⟨⟨_,_,_,hM8⟩,by omega,fun id h=>?_⟩
    rw[if_neg (show ¬ id=5 by omega),f8 _ (by omega) (lowO _ (by omega)),k7 _ (by omega),f6 _ (by omega) (lowP _ (by omega))]
    exact tfr id h
  ·skip
   have gtl:g.out.length<200000:=by omega
   have sp:∀ a b,same (.p a b) (.p a b)=true:=fun a b=>by simp -implicitDefEqProofs [same]
   have nrT:∀ b,H.next≤b→b<H4.next→NoRow b ov:=fun b h _=>nrO b h
   have hMt:MkI N0 K tk ⟨g.out,g.hs,g.pl⟩ ov pv cs H4:=hM4
   have t2:=x2
   have t3:=x3
   have tN:=hN4
   have tfr:∀ id,id<4→H4.get id=H.get id:=fun id h=>hk5 id (by omega)
   have tM:=hMt.gM
   have tnx:=hMt.nx
   have tacc:=hMt.acc
   have tpl:=hMt.pl
   dsimp only at tM tacc tpl
   have nrO2:∀ b,H.next≤b→b<H4.next→NoRow b ov:=nrT
   simp -implicitDefEqProofs [x3,h40,t2,t3,tM,hold_len tacc.hold,sp]
   refine step_app (lo':=6) (acc_keep tpl (by simp<;>omega) ?_) (m:=1) (ys:=[.i .i64 (g.out.length:Int)]) (by omega) (by simp<;>omega) (more_lit (cs:=[.i .i64 (g.out.length:Int)]) (e:=1) (ro:=false) (by simp) (by simp) (by omega)) (by simp) (by omega) (by omega) (by have:=hg.pl;omega) (by omega) ?_
   ·intro id a b hv
    have:=acc_lt tpl id a b hv
    simp -implicitDefEqProofs [show ¬ id=H4.next by omega]
   intro H6 hn6 acc6 hf6
   simp at hn6 acc6
   have f6:∀ id,id<H4.next→NoRow id pv→H6.get id=H4.get id:=fun id h1 h2=>by rw[hf6 id (by simp;omega) h2];exact get_push_lt h1
   have hM6:=mk_pl hG hMt (g.out.length:Int) (H4.next+1) (by omega) acc6 (by omega) f6
   have lowP:∀ id,id<6→NoRow id pv:=fun id h j m c hj=>by have:=acc_lt tpl _ _ _ hj;omega
   have p2:=(f6 H.next (by omega) (nrP _ (by omega))).trans t2
   have p3:=(f6 (H.next+1) (by omega) (nrP _ (by omega))).trans t3
   have pM:=(f6 5 (by omega) (lowP _ (by omega))).trans tM
   obtain⟨H7,hH7⟩:∃ H7,H7=H6.put 5 (some (.cells [ov,.sl 4 0 g.hs.length (some g.hs.length),.fs tk false K.length (encs K),.sl (H4.next+1) 0 (g.pl.length+1) none] 1 false)):=⟨_,rfl⟩
   skip
   rw[←hH7] at hM6
   have hn7:H7.next=H6.next:=by rw[hH7];rfl
   have k7:∀ id,id≠5→H7.get id=H6.get id:=fun id h=>by rw[hH7];simp -implicitDefEqProofs [h]
   have m2:=(k7 H.next (by omega)).trans p2
   have m3:=(k7 (H.next+1) (by omega)).trans p3
   have mM:=hM6.gM
   dsimp only at mM
   skip
   simp -implicitDefEqProofs [p2,p3,pM,←hH7,m2,m3,mM,sp]
   have macc:=hM6.acc
   dsimp only at macc
   refine step_app (lo':=6) (acc_keep macc (by simp<;>omega) ?_) (m:=1) (ys:=[.i .i64 s.op,.i .i64 s.n,.fs false false s.l.length (encs l'),.s s.s,nv]) (by omega) (by simp<;>omega) (more_lit (cs:=[.i .i64 s.op,.i .i64 s.n,.fs false false s.l.length (encs l'),.s s.s,nv]) (e:=5) (ro:=false) (by simp) (by simp) (by omega)) (by simp) (by omega) (by omega) (by omega) (by omega) ?_
   ·intro id a b hv
    have:=acc_lt macc id a b hv
    simp -implicitDefEqProofs [show ¬ id=H7.next by omega]
   intro H8 hn8 acc8 hf8
   simp at hn8 acc8
   have f8:∀ id,id<H7.next→NoRow id ov→H8.get id=H7.get id:=fun id h1 h2=>by rw[hf8 id (by simp;omega) h2];exact get_push_lt h1
   have lowO:∀ id,id<6→NoRow id ov:=fun id h j m c hj=>by have:=acc_lt tacc _ _ _ hj;omega
   have q8:=(f8 H.next (by omega) (nrO2 _ (by omega) (by omega))).trans m2
   have qM:=(f8 5 (by omega) (lowO _ (by omega))).trans mM
   have hLs:Sl H7 (Aq N0 ov (.sl (H4.next+1) 0 (g.pl.length+1) none)) (.fs false false s.l.length (encs l')) 7 (⟨s.op,s.n,l',s.s,s.names⟩:Stp).l.length (encs (⟨s.op,s.n,l',s.s,s.names⟩:Stp).l):=by
    show Sl H7 _ _ 7 l'.length (encs l')
    rw[hll];exact .inl (.inl ⟨false,rfl⟩)
   have hSs:Sl H7 (Aq N0 ov (.sl (H4.next+1) 0 (g.pl.length+1) none)) nv 1 (⟨s.op,s.n,l',s.s,s.names⟩:Stp).names.length (encs (⟨s.op,s.n,l',s.s,s.names⟩:Stp).names) :=
    hold_sl (hold_keep tN (by omega) fun id c hv=>by have:=hNl id c hv;rw[k7 _ (by omega)];exact f6 _ (by omega) (nrP _ (by omega))) fun id c hv=>by
     have:=hNl id c hv
     exact⟨⟨by omega,fun h=>h⟩,nrO2 _ (by omega) (by omega),fun j m c hj=>by cases hj;omega⟩
   have hM8:=mk_out hG hM6 ⟨s.op,s.n,l',s.s,s.names⟩ (.fs false false s.l.length (encs l')) nv (H7.next+1) (by omega) acc8 (by omega) f8 hLs hSs
   skip
   simp -implicitDefEqProofs [q8,qM,sp]
   have hst:RI.stepG K g s=⟨g.out++[⟨s.op,s.n,l',s.s,s.names⟩],g.hs,g.pl++[(g.out.length:Int)]⟩:=by
    unfold RI.stepG
    rw[htg,hcg]
    simp only[←hl',noteG]
    rw[if_neg (by exact fun h=>h40 h.1)]
   rw[hst]
   refine⟨⟨_,_,_,hM8⟩,by omega,fun id h=>?_⟩
   rw[if_neg (show ¬ id=5 by omega),f8 _ (by omega) (lowO _ (by omega)),k7 _ (by omega),f6 _ (by omega) (lowP _ (by omega))]
   exact tfr id h
 ·obtain⟨kind,hkd⟩:∃ kind,kind=(typedI s.op).2.1:=⟨_,rfl⟩
  have hk:kind=1∨kind=2:=by rw[hkd];exact typed_kind hty
  obtain⟨gc,hgc⟩:∃ gc,gc=chkL K kind g l':=⟨_,rfl⟩
  have hcg:chkG K g s=gc:=by unfold chkG;rw[if_pos hty,←hl',←hkd,hgc]
  obtain⟨gg,ggl,ggp⟩:=chkG_good (K:=K) hg hfs
  rw[hcg] at gg ggl ggp
  have ggm:gc.out.length≤g.out.length+l'.length:=by rw[hgc];exact chkL_le _ _
  have h40:¬ s.op=40:=by rcases typed_cases hty with h|h|h|h|h|h|h<;>omega
  have hMX:=mk_boxX hG hM (H':=H4) (by omega) hk5 (H.next+1) (by omega)
  rw[←hkd] at x5
  have key:=t_gchks hG (X:=fun id=>id=H.next+1) (tk:=tk) (K:=K) (ov:=ov) (pv:=pv) (cs:=cs) hg l' hlf (by omega) kind hk H.next (H.next+1) H2.next (.i .i64 (typedI s.op).1) [.i .i64 s.op,.i .i64 s.n,.fs false false s.l.length (encs l'),.s s.s,nv]
  rw[hll] at key
  simp -implicitDefEqProofs [x3]
  refine key _ H4 hMX x2 x3 x5 (fun id h=>by omega) (fun b hb=>by
   have:H.next≤b∧b<H4.next:=by rcases hb with rfl|rfl|rfl<;>omega
   exact⟨by omega,this.2,nrO b this.1,nrP b this.1⟩) ?_
  intro w ov2 cs3 H5 hM5 y2 y3 y5 hn5 hnr hfr
  rw[←hgc] at hM5
  obtain⟨ta5,tb5,tp5,cs5,hT5,sm5⟩:=mk_snap hG hM5 9
  have c3:=t_anyO2 hG 48 [.fp [.fs ta5 false gc.out.length cs5,.fs tb5 false gc.hs.length (encs gc.hs),.fs tk false K.length (encs K),.fs tp5 false gc.pl.length (encs gc.pl)]] [.i .i64 kind] (fun o=>!decide (knownI gc o=kind)) (fun lo l H=>pu48) l' (by omega) (fun o ho=>t_gnot hG gc cs5 hT5 ta5 tb5 (.fs tk false K.length (encs K)) (.fs tp5 false gc.pl.length (encs gc.pl)) o kind (fun h=>by have:=opnFits_home (hlf o ho) h;rw[gg.hs];omega) (fun h=>by have:=opnFits_step (hlf o ho) h;omega)) false false
  have ean:(l'.any fun o=>!decide (knownI gc o=kind))=!(l'.all fun o=>decide (knownI gc o=kind)):=by simp -implicitDefEqProofs [List.not_all_eq_any_not]
  rw[ean,hll] at c3
  have nrT:∀ b,H.next≤b→b<H4.next→NoRow b ov2:=fun b h1 h2=>hnr b h2 (nrO b h1)
  have hM5f:MkI N0 K tk ⟨gc.out,gc.hs,g.pl⟩ ov2 pv cs3 H5:=by rw[←ggp];exact mk_free hG hM5
  have hN5:Hold H5 (H.next+2) nv 1 s.names.length (encs s.names):=hold_keep hN4 (by omega) fun id c hv=>by have:=hNl id c hv;exact hfr.2 id (by omega) (by omega) (by omega) (nrO _ (by omega)) (nrP _ (by omega))
  have lowP0:∀ id,id<6→NoRow id pv:=fun id h j m c hj=>by have:=acc_lt hM.pl _ _ _ hj;omega
  have lowO0:∀ id,id<6→NoRow id ov:=fun id h j m c hj=>by have:=acc_lt hM.acc _ _ _ hj;omega
  have fr5:∀ id,id<4→H5.get id=H.get id:=fun id h=>by rw[hfr.2 id (by omega) (by omega) (by omega) (lowO0 _ (by omega)) (lowP0 _ (by omega))];exact hk5 id (by omega)
  have sp:∀ a b,same (.p a b) (.p a b)=true:=fun a b=>by simp -implicitDefEqProofs [same]
  have gtl:gc.out.length<200000:=by omega
  simp at sm5 c3
  cases hall:l'.all fun o=>decide (knownI gc o=kind)
  ·skip
   have htg:turnG K g s=⟨s.op,s.n,l',s.s,s.names⟩:=by
    unfold turnG opG
    rw[hcg,←hl',if_pos hty,if_neg]
    rw[←hkd,hall];simp
   have hMt:=hM5f
   have t2:=y2
   have t3:=y3
   have tN:=hN5
   have tfr:=fr5
   rw[hall] at c3
   simp -implicitDefEqProofs [y2,y3,y5,sm5,c3,h40]
   have tM:=hMt.gM
   have tnx:=hMt.nx
   have tacc:=hMt.acc
   have tpl:=hMt.pl
   dsimp only at tM tacc tpl
   have nrO2:∀ b,H.next≤b→b<H4.next→NoRow b ov2:=nrT
   simp -implicitDefEqProofs [t2,t3,tM,hold_len tacc.hold,sp]
   refine step_app (lo':=6) (acc_keep tpl (by simp<;>omega) ?_) (m:=1) (ys:=[.i .i64 (gc.out.length:Int)]) (by omega) (by simp<;>omega) (more_lit (cs:=[.i .i64 (gc.out.length:Int)]) (e:=1) (ro:=false) (by simp) (by simp) (by omega)) (by simp) (by omega) (by omega) (by have:=hg.pl;omega) (by omega) ?_
   ·intro id a b hv
    have:=acc_lt tpl id a b hv
    simp -implicitDefEqProofs [show ¬ id=H5.next by omega]
   intro H6 hn6 acc6 hf6
   simp at hn6 acc6
   have f6:∀ id,id<H5.next→NoRow id pv→H6.get id=H5.get id:=fun id h1 h2=>by rw[hf6 id (by simp;omega) h2];exact get_push_lt h1
   have hM6:=mk_pl hG hMt (gc.out.length:Int) (H5.next+1) (by omega) acc6 (by omega) f6
   have lowP:∀ id,id<6→NoRow id pv:=fun id h j m c hj=>by have:=acc_lt tpl _ _ _ hj;omega
   have p2:=(f6 H.next (by omega) (nrP _ (by omega))).trans t2
   have p3:=(f6 (H.next+1) (by omega) (nrP _ (by omega))).trans t3
   have pM:=(f6 5 (by omega) (lowP _ (by omega))).trans tM
   obtain⟨H7,hH7⟩:∃ H7,H7=H6.put 5 (some (.cells [ov2,.sl 4 0 gc.hs.length (some gc.hs.length),.fs tk false K.length (encs K),.sl (H5.next+1) 0 (g.pl.length+1) none] 1 false)):=⟨_,rfl⟩
   skip
   rw[←hH7] at hM6
   have hn7:H7.next=H6.next:=by rw[hH7];rfl
   have k7:∀ id,id≠5→H7.get id=H6.get id:=fun id h=>by rw[hH7];simp -implicitDefEqProofs [h]
   have m2:=(k7 H.next (by omega)).trans p2
   have m3:=(k7 (H.next+1) (by omega)).trans p3
   have mM:=hM6.gM
   dsimp only at mM
   skip
   simp -implicitDefEqProofs [p2,p3,pM,←hH7,m2,m3,mM,sp]
   have macc:=hM6.acc
   dsimp only at macc
   refine step_app (lo':=6) (acc_keep macc (by simp<;>omega) ?_) (m:=1) (ys:=[.i .i64 s.op,.i .i64 s.n,.fs false false s.l.length (encs l'),.s s.s,nv]) (by omega) (by simp<;>omega) (more_lit (cs:=[.i .i64 s.op,.i .i64 s.n,.fs false false s.l.length (encs l'),.s s.s,nv]) (e:=5) (ro:=false) (by simp) (by simp) (by omega)) (by simp) (by omega) (by omega) (by omega) (by omega) ?_
   ·intro id a b hv
    have:=acc_lt macc id a b hv
    simp -implicitDefEqProofs [show ¬ id=H7.next by omega]
   intro H8 hn8 acc8 hf8
   simp at hn8 acc8
   have f8:∀ id,id<H7.next→NoRow id ov2→H8.get id=H7.get id:=fun id h1 h2=>by rw[hf8 id (by simp;omega) h2];exact get_push_lt h1
   have lowO:∀ id,id<6→NoRow id ov2:=fun id h j m c hj=>by have:=acc_lt tacc _ _ _ hj;omega
   have q8:=(f8 H.next (by omega) (nrO2 _ (by omega) (by omega))).trans m2
   have qM:=(f8 5 (by omega) (lowO _ (by omega))).trans mM
   have hLs:Sl H7 (Aq N0 ov2 (.sl (H5.next+1) 0 (g.pl.length+1) none)) (.fs false false s.l.length (encs l')) 7 (⟨s.op,s.n,l',s.s,s.names⟩:Stp).l.length (encs (⟨s.op,s.n,l',s.s,s.names⟩:Stp).l):=by
    show Sl H7 _ _ 7 l'.length (encs l')
    rw[hll];exact .inl (.inl ⟨false,rfl⟩)
   have hSs:Sl H7 (Aq N0 ov2 (.sl (H5.next+1) 0 (g.pl.length+1) none)) nv 1 (⟨s.op,s.n,l',s.s,s.names⟩:Stp).names.length (encs (⟨s.op,s.n,l',s.s,s.names⟩:Stp).names) :=
    hold_sl (hold_keep tN (by omega) fun id c hv=>by have:=hNl id c hv;rw[k7 _ (by omega)];exact f6 _ (by omega) (nrP _ (by omega))) fun id c hv=>by
     have:=hNl id c hv
     exact⟨⟨by omega,fun h=>h⟩,nrO2 _ (by omega) (by omega),fun j m c hj=>by cases hj;omega⟩
   have hM8:=mk_out hG hM6 ⟨s.op,s.n,l',s.s,s.names⟩ (.fs false false s.l.length (encs l')) nv (H7.next+1) (by omega) acc8 (by omega) f8 hLs hSs
   skip
   simp -implicitDefEqProofs [q8,qM,sp]
   have hst:RI.stepG K g s=⟨gc.out++[⟨s.op,s.n,l',s.s,s.names⟩],gc.hs,g.pl++[(gc.out.length:Int)]⟩:=by
    unfold RI.stepG
    rw[htg,hcg]
    simp only[←hl',noteG]
    rw[if_neg (fun h=>h40 h.1)]
   rw[hst]
   refine⟨⟨_,_,_,hM8⟩,by omega,fun id h=>?_⟩
   rw[if_neg (show ¬ id=5 by omega),f8 _ (by omega) (lowO _ (by omega)),k7 _ (by omega),f6 _ (by omega) (lowP _ (by omega))]
   exact tfr id h
  ·skip
   have htg:turnG K g s=⟨(typedI s.op).1,s.n,l',s.s,s.names⟩:=by
    unfold turnG opG
    rw[hcg,←hl',if_pos hty,if_pos]
    rw[←hkd,hall]
   obtain⟨Ht,hHt⟩:∃ Ht,Ht=H5.put (H.next+1) (some (.cells [.i .i64 (typedI s.op).1,.i .i64 s.n,.fs false false s.l.length (encs l'),.s s.s,nv] 1 false)):=⟨_,rfl⟩
   have hnt:Ht.next=H5.next:=by rw[hHt];rfl
   have kt:∀ id,id≠H.next+1→Ht.get id=H5.get id:=fun id h=>by rw[hHt];simp -implicitDefEqProofs [h]
   have hMt:MkI N0 K tk ⟨gc.out,gc.hs,g.pl⟩ ov2 pv cs3 Ht:=by rw[←ggp];exact mk_put hG (H.next+1) hM5 hnt kt (by omega) (nrT _ (by omega) (by omega)) (nrP _ (by omega))
   have t2:=(kt _ (by omega)).trans y2
   have t3:Ht.get (H.next+1)=some (.cells [.i .i64 (typedI s.op).1,.i .i64 s.n,.fs false false s.l.length (encs l'),.s s.s,nv] 1 false):=by rw[hHt];simp
   have tN:Hold Ht (H.next+2) nv 1 s.names.length (encs s.names):=hold_keep hN5 (by omega) fun id c hv=>kt id (by have:=hNl id c hv;omega)
   have tfr:∀ id,id<4→Ht.get id=H.get id:=fun id h=>by rw[kt _ (by omega)];exact fr5 id h
   have hst40:¬(typedI s.op).1=40:=by rcases typed_cases hty with⟨_,h⟩|⟨_,h⟩|⟨_,h⟩|⟨_,h⟩|⟨_,h⟩|⟨_,h⟩|⟨_,h⟩<;>rw[h]<;>simp
   rw[hall] at c3
   have tM:=hMt.gM
   have tnx:=hMt.nx
   have tacc:=hMt.acc
   have tpl:=hMt.pl
   dsimp only at tM tacc tpl
   have nrO2:∀ b,H.next≤b→b<H4.next→NoRow b ov2:=nrT
   simp -implicitDefEqProofs [y2,y3,y5,sm5,c3,h40,hst40,n3b,←hHt,t2,t3,tM,hold_len tacc.hold,sp]
   refine step_app (lo':=6) (acc_keep tpl (by simp<;>omega) ?_) (m:=1) (ys:=[.i .i64 (gc.out.length:Int)]) (by omega) (by simp<;>omega) (more_lit (cs:=[.i .i64 (gc.out.length:Int)]) (e:=1) (ro:=false) (by simp) (by simp) (by omega)) (by simp) (by omega) (by omega) (by have:=hg.pl;omega) (by omega) ?_
   ·intro id a b hv
    have:=acc_lt tpl id a b hv
    simp -implicitDefEqProofs [show ¬ id=Ht.next by omega]
   intro H6 hn6 acc6 hf6
   simp at hn6 acc6
   have f6:∀ id,id<Ht.next→NoRow id pv→H6.get id=Ht.get id:=fun id h1 h2=>by rw[hf6 id (by simp;omega) h2];exact get_push_lt h1
   have hM6:=mk_pl hG hMt (gc.out.length:Int) (Ht.next+1) (by omega) acc6 (by omega) f6
   have lowP:∀ id,id<6→NoRow id pv:=fun id h j m c hj=>by have:=acc_lt tpl _ _ _ hj;omega
   have p2:=(f6 H.next (by omega) (nrP _ (by omega))).trans t2
   have p3:=(f6 (H.next+1) (by omega) (nrP _ (by omega))).trans t3
   have pM:=(f6 5 (by omega) (lowP _ (by omega))).trans tM
   obtain⟨H7,hH7⟩:∃ H7,H7=H6.put 5 (some (.cells [ov2,.sl 4 0 gc.hs.length (some gc.hs.length),.fs tk false K.length (encs K),.sl (Ht.next+1) 0 (g.pl.length+1) none] 1 false)):=⟨_,rfl⟩
   skip
   rw[←hH7] at hM6
   have hn7:H7.next=H6.next:=by rw[hH7];rfl
   have k7:∀ id,id≠5→H7.get id=H6.get id:=fun id h=>by rw[hH7];simp -implicitDefEqProofs [h]
   have m2:=(k7 H.next (by omega)).trans p2
   have m3:=(k7 (H.next+1) (by omega)).trans p3
   have mM:=hM6.gM
   dsimp only at mM
   skip
   simp -implicitDefEqProofs [p2,p3,pM,←hH7,m2,m3,mM,sp]
   have macc:=hM6.acc
   dsimp only at macc
   refine step_app (lo':=6) (acc_keep macc (by simp<;>omega) ?_) (m:=1) (ys:=[.i .i64 (typedI s.op).1,.i .i64 s.n,.fs false false s.l.length (encs l'),.s s.s,nv]) (by omega) (by simp<;>omega) (more_lit (cs:=[.i .i64 (typedI s.op).1,.i .i64 s.n,.fs false false s.l.length (encs l'),.s s.s,nv]) (e:=5) (ro:=false) (by simp) (by simp) (by omega)) (by simp) (by omega) (by omega) (by omega) (by omega) ?_
   ·intro id a b hv
    have:=acc_lt macc id a b hv
    simp -implicitDefEqProofs [show ¬ id=H7.next by omega]
   intro H8 hn8 acc8 hf8
   simp at hn8 acc8
   have f8:∀ id,id<H7.next→NoRow id ov2→H8.get id=H7.get id:=fun id h1 h2=>by rw[hf8 id (by simp;omega) h2];exact get_push_lt h1
   have lowO:∀ id,id<6→NoRow id ov2:=fun id h j m c hj=>by have:=acc_lt tacc _ _ _ hj;omega
   have q8:=(f8 H.next (by omega) (nrO2 _ (by omega) (by omega))).trans m2
   have qM:=(f8 5 (by omega) (lowO _ (by omega))).trans mM
   have hLs:Sl H7 (Aq N0 ov2 (.sl (Ht.next+1) 0 (g.pl.length+1) none)) (.fs false false s.l.length (encs l')) 7 (⟨(typedI s.op).1,s.n,l',s.s,s.names⟩:Stp).l.length (encs (⟨(typedI s.op).1,s.n,l',s.s,s.names⟩:Stp).l):=by
    show Sl H7 _ _ 7 l'.length (encs l')
    rw[hll];exact .inl (.inl ⟨false,rfl⟩)
   have hSs:Sl H7 (Aq N0 ov2 (.sl (Ht.next+1) 0 (g.pl.length+1) none)) nv 1 (⟨(typedI s.op).1,s.n,l',s.s,s.names⟩:Stp).names.length (encs (⟨(typedI s.op).1,s.n,l',s.s,s.names⟩:Stp).names) :=
    hold_sl (hold_keep tN (by omega) fun id c hv=>by have:=hNl id c hv;rw[k7 _ (by omega)];exact f6 _ (by omega) (nrP _ (by omega))) fun id c hv=>by
     have:=hNl id c hv
     exact⟨⟨by omega,fun h=>h⟩,nrO2 _ (by omega) (by omega),fun j m c hj=>by cases hj;omega⟩
   have hM8:=mk_out hG hM6 ⟨(typedI s.op).1,s.n,l',s.s,s.names⟩ (.fs false false s.l.length (encs l')) nv (H7.next+1) (by omega) acc8 (by omega) f8 hLs hSs
   skip
   simp -implicitDefEqProofs [q8,qM,sp]
   have hst:RI.stepG K g s=⟨gc.out++[⟨(typedI s.op).1,s.n,l',s.s,s.names⟩],gc.hs,g.pl++[(gc.out.length:Int)]⟩:=by
    unfold RI.stepG
    rw[htg,hcg]
    simp only[←hl',noteG]
    rw[if_neg (fun h=>h40 h.1)]
   rw[hst]
   refine⟨⟨_,_,_,hM8⟩,by omega,fun id h=>?_⟩
   rw[if_neg (show ¬ id=5 by omega),f8 _ (by omega) (lowO _ (by omega)),k7 _ (by omega),f6 _ (by omega) (lowP _ (by omega))]
   exact tfr id h
end
end Go.Proofs.YtbfajkcmehaliabGreatDoor
