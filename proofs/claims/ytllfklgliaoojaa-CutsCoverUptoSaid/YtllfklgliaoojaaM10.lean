import Derived.Test.YtllfklgliaoojaaM09
set_option linter.unusedVariables false
set_option linter.unusedSimpArgs false
set_option linter.unusedSectionVars false
/- RI, part UA: programs, places, blocks (chapters 15, 17, 19). Conditions: none. -/
namespace Go.RI
open Go
structure Ins3 where
 op:Int
 a:Int
 b:Int
 deriving Inhabited
structure Fnc where
 name:Str
 args:Int
 locals:Int
 code:List Ins3
 deriving Inhabited
structure Prg where
 funcs:List Fnc
 consts:List Val
 deriving Inhabited
structure Hnd where
 at_:Int
 height:Int
 deriving Inhabited
structure Plc where
 reached:Bool
 height:Int
 tries:List Hnd
 deriving Inhabited
structure Blk where
 at_:Nat
 many:Nat
 exit:Int
 to:Int
 deriving Inhabited
instance:Enc Ins3:=⟨3,fun x=>[.i .i64 x.op,.i .i64 x.a,.i .i64 x.b],fun _=>rfl⟩
@[simp] theorem cells_ins3{x:Ins3}:Enc.cells x=[AVal.i .i64 x.op,.i .i64 x.a,.i .i64 x.b]:=rfl
instance:Enc Fnc:=⟨4,fun x=>[.s x.name,.i .i64 x.args,.i .i64 x.locals,.fs false false x.code.length (encs x.code)],fun _=>rfl⟩
@[simp] theorem cells_fnc{x:Fnc}:Enc.cells x=[AVal.s x.name,.i .i64 x.args,.i .i64 x.locals,.fs false false x.code.length (encs x.code)]:=rfl
instance:Enc Prg:=⟨2,fun x=>[.fs false false x.funcs.length (encs x.funcs),.fs false false x.consts.length (encs x.consts)],fun _=>rfl⟩
@[simp] theorem cells_prg{x:Prg}:Enc.cells x=[AVal.fs false false x.funcs.length (encs x.funcs),.fs false false x.consts.length (encs x.consts)]:=rfl
instance:Enc Hnd:=⟨2,fun x=>[.i .i64 x.at_,.i .i64 x.height],fun _=>rfl⟩
@[simp] theorem cells_hnd{x:Hnd}:Enc.cells x=[AVal.i .i64 x.at_,.i .i64 x.height]:=rfl
instance:Enc Plc:=⟨3,fun x=>[.b x.reached,.i .i64 x.height,.fs false false x.tries.length (encs x.tries)],fun _=>rfl⟩
@[simp] theorem cells_plc{x:Plc}:Enc.cells x=[AVal.b x.reached,.i .i64 x.height,.fs false false x.tries.length (encs x.tries)]:=rfl
instance:Enc Blk:=⟨4,fun x=>[.i .i64 x.at_,.i .i64 x.many,.i .i64 x.exit,.i .i64 x.to],fun _=>rfl⟩
@[simp] theorem cells_blk{x:Blk}:Enc.cells x=[AVal.i .i64 x.at_,.i .i64 x.many,.i .i64 x.exit,.i .i64 x.to]:=rfl
instance:EncOk Ins3:={ snap:=fun _ _ _=>by simp,frz:=fun _ _ _ _=>by simp }
instance:EncOk Fnc:={ snap:=fun _ _ _=>by simp,frz:=fun _ _ _ _=>by simp }
instance:EncOk Prg:={ snap:=fun _ _ _=>by simp,frz:=fun _ _ _ _=>by simp }
instance:EncOk Hnd:={ snap:=fun _ _ _=>by simp,frz:=fun _ _ _ _=>by simp }
instance:EncOk Plc:={ snap:=fun _ _ _=>by simp,frz:=fun _ _ _ _=>by simp }
instance:EncOk Blk:={ snap:=fun _ _ _=>by simp,frz:=fun _ _ _ _=>by simp }
@[simp] theorem drop_ins3{l:List Ins3}{i:Nat}:(encs l).drop (i*3)=cellsO l[i]?++restE l (i+1):=drop_encs l i
@[simp] theorem drop_fnc{l:List Fnc}{i:Nat}:(encs l).drop (i*4)=cellsO l[i]?++restE l (i+1):=drop_encs l i
@[simp] theorem drop_blk{l:List Blk}{i:Nat}:(encs l).drop (i*4)=cellsO l[i]?++restE l (i+1):=drop_encs l i
@[simp] theorem drop_plc{l:List Plc}{i:Nat}:(encs l).drop (i*3)=cellsO l[i]?++restE l (i+1):=drop_encs l i
@[simp] theorem drop_hnd{l:List Hnd}{i:Nat}:(encs l).drop (i*2)=cellsO l[i]?++restE l (i+1):=drop_encs l i
@[simp] theorem len_ins3{l:List Ins3}:(encs l).length=l.length*3:=encs_len l
@[simp] theorem len_fnc{l:List Fnc}:(encs l).length=l.length*4:=encs_len l
@[simp] theorem len_blk{l:List Blk}:(encs l).length=l.length*4:=encs_len l
@[simp] theorem len_plc{l:List Plc}:(encs l).length=l.length*3:=encs_len l
@[simp] theorem len_hnd{l:List Hnd}:(encs l).length=l.length*2:=encs_len l
@[simp] theorem take_ins3{l:List Ins3}:(encs l).take (l.length*3)=encs l:=List.take_of_length_le (by simp)
@[simp] theorem take_fnc{l:List Fnc}:(encs l).take (l.length*4)=encs l:=List.take_of_length_le (by simp)
@[simp] theorem take_blk{l:List Blk}:(encs l).take (l.length*4)=encs l:=List.take_of_length_le (by simp)
@[simp] theorem take_plc{l:List Plc}:(encs l).take (l.length*3)=encs l:=List.take_of_length_le (by simp)
@[simp] theorem take_hnd{l:List Hnd}:(encs l).take (l.length*2)=encs l:=List.take_of_length_le (by simp)
def plainI(x:Ins3):Bool:=decide (1≤x.op)&&decide (x.op≤23)
def turnI(x:Ins3):Bool:=decide (x.op=24)||decide (x.op=25)
def tryI(x:Ins3):Bool:=decide (x.op=26)
def rch(pl:List Plc)(i:Nat):Bool:=(pl[i]?.map Plc.reached).getD false
def leads(code:List Ins3)(j i:Nat):Prop:=∃ x,code[j]?=some x∧((i=j+1∧x.op≠24∧x.op≠28∧x.op≠30)∨((turnI x=true∨tryI x=true)∧x.a=i))
structure Known (code:List Ins3) (pl:List Plc):Prop where
 len:pl.length=code.length
 zero:rch pl 0=true
 on:∀ i x,code[i]?=some x→rch pl i=true→(x.op≠24→x.op≠28→x.op≠30→rch pl (i+1)=true)∧(turnI x=true∨tryI x=true→0≤x.a∧rch pl x.a.toNat=true)
 from_:∀ i,rch pl i=true→i≠0→∃ j,rch pl j=true∧leads code j i
def addI(ks:List Int)(k:Int):List Int:=if k∈ks then ks else ks++[k]
theorem mem_addI{ks:List Int}{k j:Int}:j∈addI ks k↔j∈ks∨j=k:=by
 unfold addI
 split
 ·rename_i h
  exact⟨.inl,fun h1=>h1.elim id fun e=>e▸h⟩
 ·simp
def begS(n:Nat)(pl:List Plc)(ks:List Int)(i:Nat)(x:Ins3):List Int :=
 if plainI x=true∨rch pl i=false then ks else
  let ks':=if turnI x=true∨tryI x=true then addI ks x.a else ks
  if i+1<n∧rch pl (i+1)=true then addI ks' ((i:Int)+1) else ks'
def begG(n:Nat)(pl:List Plc):List Ins3→Nat→List Int→List Int
 | [],_,ks=>ks
 | x::l,i,ks=>begG n pl l (i+1) (begS n pl ks i x)
def begP(code:List Ins3)(pl:List Plc):List Int:=begG code.length pl code 0 [0]
def Cause(n:Nat)(pl:List Plc)(i:Nat)(x:Ins3)(k:Int):Prop:=plainI x=false∧rch pl i=true∧(((turnI x=true∨tryI x=true)∧k=x.a)∨(k=(i:Int)+1∧i+1<n∧rch pl (i+1)=true))
theorem mem_begS{n:Nat}{pl:List Plc}{ks:List Int}{i:Nat}{x:Ins3}{k:Int}:k∈begS n pl ks i x↔k∈ks∨Cause n pl i x k:=by
 unfold begS Cause
 by_cases h:plainI x=true∨rch pl i=false
 ·rw[if_pos h]
  constructor
  ·exact .inl
  ·rintro(h1|⟨h1,h2,_⟩)
   ·exact h1
   ·rcases h with h|h
    ·rw[h] at h1;cases h1
    ·rw[h] at h2;cases h2
 ·rw[if_neg h]
  rw[not_or] at h
  have h1:plainI x=false:=by simpa using h.1
  have h2:rch pl i=true:=by simpa using h.2
  simp only
  by_cases h3:turnI x=true∨tryI x=true<;>by_cases h4:i+1<n∧rch pl (i+1)=true
  ·rw[if_pos h3,if_pos h4,mem_addI,mem_addI]
   constructor
   ·rintro((h|h)|h)
    ·exact .inl h
    ·exact .inr ⟨h1,h2,.inl ⟨h3,h⟩⟩
    ·exact .inr ⟨h1,h2,.inr ⟨h,h4⟩⟩
   ·rintro(h|⟨_,_,⟨_,h⟩|⟨h,_⟩⟩)
    ·exact .inl (.inl h)
    ·exact .inl (.inr h)
    ·exact .inr h
  ·rw[if_pos h3,if_neg h4,mem_addI]
   constructor
   ·rintro(h|h)
    ·exact .inl h
    ·exact .inr ⟨h1,h2,.inl ⟨h3,h⟩⟩
   ·rintro(h|⟨_,_,⟨_,h⟩|⟨_,h⟩⟩)
    ·exact .inl h
    ·exact .inr h
    ·exact absurd h h4
  ·rw[if_neg h3,if_pos h4,mem_addI]
   constructor
   ·rintro(h|h)
    ·exact .inl h
    ·exact .inr ⟨h1,h2,.inr ⟨h,h4⟩⟩
   ·rintro(h|⟨_,_,⟨h,_⟩|⟨h,_⟩⟩)
    ·exact .inl h
    ·exact absurd h h3
    ·exact .inr h
  ·rw[if_neg h3,if_neg h4]
   constructor
   ·exact .inl
   ·rintro(h|⟨_,_,⟨h,_⟩|⟨_,h⟩⟩)
    ·exact h
    ·exact absurd h h3
    ·exact absurd h h4
theorem mem_begG{n:Nat}{pl:List Plc}{k:Int}:∀(l:List Ins3) (i:Nat) (ks:List Int),k∈begG n pl l i ks↔k∈ks∨∃(j:Nat) (x:Ins3),l[j]?=some x∧Cause n pl (i+j) x k
  | [],i,ks=>by simp[begG]
  | x::l,i,ks=>by
    rw[begG,mem_begG l (i+1),mem_begS]
    constructor
    · rintro((h|h)|⟨j,y,h1,h2⟩)
      · exact .inl h
      · exact .inr ⟨0,x,rfl,h⟩
      · exact .inr ⟨j+1,y,by simpa using h1,by rw[show i+(j+1)=i+1+j by omega];exact h2⟩
    · rintro(h|⟨j,y,h1,h2⟩)
      · exact .inl (.inl h)
      · cases j with
        | zero=>simp at h1;subst h1;exact .inl (.inr h2)
        | succ j=>exact .inr ⟨j,y,by simpa using h1,by rw[show i+1+j=i+(j+1) by omega];exact h2⟩
theorem mem_begP{code:List Ins3}{pl:List Plc}{k:Int}:k∈begP code pl↔k=0∨∃(j:Nat) (x:Ins3),code[j]?=some x∧Cause code.length pl j x k:=by
 unfold begP
 rw[mem_begG]
 simp
def isBeg(ks:List Int)(i:Nat):Bool:=decide ((i:Int)∈ks)
def blockG(ks:List Int)(at_:Nat):List Ins3→Nat→Nat→Blk
  | [],_,many=>⟨at_,many,0,0⟩
  | x::l,i,many =>
    if at_<i∧isBeg ks i=true then⟨at_,many,0,i⟩
    else if turnI x=true then⟨at_,many+1,if x.op=25 then 2 else 1,x.a⟩
    else if plainI x=false then⟨at_,many,3,i⟩
    else blockG ks at_ l (i+1) (many+1)
def blockP(code:List Ins3)(ks:List Int)(at_:Nat):Blk:=blockG ks at_ (code.drop at_) at_ 0
def blocksG(code:List Ins3)(ks:List Int):List Nat→List Blk
 | []=>[]
 | i::l=>(if isBeg ks i=true∧0<(blockP code ks i).many then [blockP code ks i] else [])++blocksG code ks l
def blocksP(code:List Ins3)(ks:List Int):List Blk:=blocksG code ks (List.range code.length)
theorem blockG_spec{code:List Ins3}{ks:List Int}{at_:Nat}:∀(l:List Ins3) (i many:Nat),l=code.drop i→at_+many=i→(∀ k x,at_≤k→k<i→code[k]?=some x→plainI x=true) →
    (blockG ks at_ l i many).at_=at_∧i≤at_+(blockG ks at_ l i many).many∧(∀ k,at_<k→i≤k→k<at_+(blockG ks at_ l i many).many→isBeg ks k=false) ∧
    (∀ k x,i≤k→k<at_+(blockG ks at_ l i many).many→code[k]?=some x→plainI x=true∨(turnI x=true∧k+1=at_+(blockG ks at_ l i many).many)) ∧
    (∀ k,i≤k→k<at_+(blockG ks at_ l i many).many→k<code.length) ∧
    (at_+(blockG ks at_ l i many).many<code.length→(at_<at_+(blockG ks at_ l i many).many∧isBeg ks (at_+(blockG ks at_ l i many).many)=true)∨(∃ k x,k+1=at_+(blockG ks at_ l i many).many∧i≤k∧code[k]?=some x∧turnI x=true)∨(∃ x,code[at_+(blockG ks at_ l i many).many]?=some x∧plainI x=false∧turnI x=false))
  | [],i,many,hl,hm,hp=>by
    have hi:code.length≤i:=by
      have:=congrArg List.length hl
      simp at this
      omega
    simp only[blockG]
    exact⟨trivial,by omega,fun k h1 h2 h3=>by omega,fun k x h1 h2=>by omega,fun k h1 h2=>by omega,fun h=>by omega⟩
  | x::l,i,many,hl,hm,hp=>by
    have hx:code[i]?=some x:=by
      have:=congrArg (fun l=>l[0]?) hl
      simpa using this.symm
    have hil:=lt_of_get hx
    rw[blockG]
    by_cases h1:at_<i∧isBeg ks i=true
    · rw[if_pos h1]
      simp only
      refine⟨trivial,by omega,fun k _ h2 h3=>by omega,fun k y h2 h3=>by omega,fun k h2 h3=>by omega,fun h=>.inl ⟨by omega,?_⟩⟩
      rw[hm];exact h1.2
    rw[if_neg h1]
    have hnb:at_<i→isBeg ks i=false:=fun h=>by
      cases hb:isBeg ks i
      · rfl
      · exact absurd ⟨h,hb⟩ h1
    by_cases h2:turnI x=true
    · rw[if_pos h2]
      simp only
      refine⟨trivial,by omega,fun k h3 h4 h5=>?_,fun k y h3 h4 hy=>?_,fun k h3 h4=>by omega,fun h=>.inr (.inl ⟨i,x,by omega,Nat.le_refl _,hx,h2⟩)⟩
      · have:k=i:=by omega
        subst this;exact hnb h3
      · have:k=i:=by omega
        subst this
        rw[hx] at hy;cases hy
        exact .inr ⟨h2,by omega⟩
    rw[if_neg h2]
    by_cases h3:plainI x=false
    · rw[if_pos h3]
      simp only
      refine⟨trivial,by omega,fun k _ h4 h5=>by omega,fun k y h4 h5=>by omega,fun k h4 h5=>by omega,fun h=>.inr (.inr ⟨x,by rw[hm];exact hx,h3,by simpa using h2⟩)⟩
    rw[if_neg h3]
    have h3':plainI x=true:=by simpa using h3
    have hl':l=code.drop (i+1):=by
      have:=congrArg List.tail hl
      simpa using this
    obtain⟨a1,a2,a3,a4,a5,a6⟩:=blockG_spec (code:=code) (ks:=ks) (at_:=at_) l (i+1) (many+1) hl' (by omega) fun k y h4 h5 hy=>by
      by_cases hk:k<i
      · exact hp k y h4 hk hy
      · have:k=i:=by omega
        subst this
        rw[hx] at hy;cases hy;exact h3'
    refine⟨a1,by omega,fun k h4 h5 h6=>?_,fun k y h4 h5 hy=>?_,fun k h4 h5=>?_,fun h=>?_⟩
    · by_cases hk:k=i
      · subst hk;exact hnb h4
      · exact a3 k h4 (by omega) h6
    · by_cases hk:k=i
      · subst hk;rw[hx] at hy;cases hy;exact .inl h3'
      · exact a4 k y (by omega) h5 hy
    · by_cases hk:k=i
      · omega
      · exact a5 k (by omega) h5
    · rcases a6 h with h|⟨k,y,h4,h5,h6⟩|h
      · exact .inl h
      · exact .inr (.inl ⟨k,y,h4,by omega,h6⟩)
      · exact .inr (.inr h)
end Go.RI
namespace Go.RI
open Go
structure BlkOk (code:List Ins3) (ks:List Int) (j m:Nat):Prop where
 le:j≤code.length→j+m≤code.length
 mid:∀ k,j<k→k<j+m→isBeg ks k=false
 in_:∀ k x,j≤k→k<j+m→code[k]?=some x→plainI x=true∨(turnI x=true∧k+1=j+m)
 max:j+m<code.length→(0<m∧isBeg ks (j+m)=true)∨(∃ k x,k+1=j+m∧j≤k∧code[k]?=some x∧turnI x=true)∨(∃ x,code[j+m]?=some x∧plainI x=false∧turnI x=false)
theorem blockP_at{code:List Ins3}{ks:List Int}{j:Nat}:(blockP code ks j).at_=j :=
 (blockG_spec (ks:=ks) (code.drop j) j 0 rfl (by omega) fun k x h1 h2=>by omega).1
theorem blockP_ok(code:List Ins3)(ks:List Int)(j:Nat):BlkOk code ks j (blockP code ks j).many:=by
 obtain⟨a1,a2,a3,a4,a5,a6⟩:=blockG_spec (code:=code) (ks:=ks) (at_:=j) (code.drop j) j 0 rfl (by omega) fun k x h1 h2=>by omega
 refine⟨fun h=>?_,fun k h1 h2=>a3 k h1 (by omega) h2,fun k x h1 h2 hx=>a4 k x h1 h2 hx,fun h=>?_⟩
 ·show j+(blockG ks j (code.drop j) j 0).many≤code.length
  rcases Nat.lt_or_ge 0 (blockG ks j (code.drop j) j 0).many with h1|h1
  ·have:=a5 (j+(blockG ks j (code.drop j) j 0).many-1) (by omega) (by omega)
   omega
  ·omega
 ·rcases a6 h with⟨h1,h2⟩|h1|h1
  ·exact .inl ⟨show 0<(blockG ks j (code.drop j) j 0).many by omega,h2⟩
  ·exact .inr (.inl h1)
  ·exact .inr (.inr h1)
theorem beg_iff{code:List Ins3}{pl:List Plc}{k:Nat}:isBeg (begP code pl) k=true↔k=0∨∃(j:Nat) (x:Ins3),code[j]?=some x∧Cause code.length pl j x k:=by
 unfold isBeg
 rw[decide_eq_true_eq,mem_begP]
 simp
theorem plain_not{x:Ins3}(h:plainI x=true):turnI x=false∧tryI x=false∧x.op≠24∧x.op≠28∧x.op≠30:=by
 unfold plainI at h
 simp only[Bool.and_eq_true,decide_eq_true_eq] at h
 unfold turnI tryI
 simp only[Bool.or_eq_false_iff,decide_eq_false_iff_not]
 omega
def goodI(x:Ins3):Bool:=plainI x||turnI x
section
variable {code:List Ins3} {pl:List Plc}
theorem beg_rch(hK:Known code pl){j:Nat}(h:isBeg (begP code pl) j=true):rch pl j=true:=by
 rcases beg_iff.1 h with rfl|⟨i,x,hx,_,hr,⟨ht,hk⟩|⟨_,_,h2⟩⟩
 ·exact hK.zero
 ·have:=(hK.on i x hx hr).2 ht
  have e:x.a.toNat=j:=by omega
  rw[e] at this;exact this.2
 ·rename_i h1
  have e:i+1=j:=by omega
  rw[e] at h2;exact h2
theorem cover_some(hK:Known code pl):∀(i:Nat) (x:Ins3),code[i]?=some x→rch pl i=true→goodI x=true→∃ j,j≤i∧isBeg (begP code pl) j=true∧i<j+(blockP code (begP code pl) j).many:=by
  intro i
  induction i using Nat.strongRecOn with
  | ind i ih =>
    intro x hx hr hg
    have hil:=lt_of_get hx
    by_cases hb:isBeg (begP code pl) i=true
    · refine⟨i,Nat.le_refl _,hb,?_⟩
      have hB:=blockP_ok code (begP code pl) i
      rcases Nat.lt_or_ge 0 (blockP code (begP code pl) i).many with h|h
      · omega
      · have e:(blockP code (begP code pl) i).many=0:=by omega
        rw[e] at hB
        rcases hB.max hil with⟨h1,_⟩|⟨k,y,h1,h2,_⟩|⟨y,h1,h2,h3⟩
        · omega
        · omega
        · rw[Nat.add_zero,hx] at h1
          cases h1
          unfold goodI at hg
          rw[h2,h3] at hg
          cases hg
    · have hi0:i≠0:=fun e=>hb (beg_iff.2 (.inl e))
      obtain⟨j,hj,y,hy,hl⟩:=hK.from_ i hr hi0
      have hnc:¬ Cause code.length pl j y i:=fun h=>hb (beg_iff.2 (.inr ⟨j,y,hy,h⟩))
      cases hp:plainI y
      · exfalso
        rcases hl with⟨rfl,_⟩|⟨ht,ha⟩
        · exact hnc ⟨hp,hj,.inr ⟨by omega,hil,hr⟩⟩
        · exact hnc ⟨hp,hj,.inl ⟨ht,ha.symm⟩⟩
      · obtain⟨n1,n2,_⟩:=plain_not hp
        rcases hl with⟨rfl,_⟩|⟨ht,_⟩
        · obtain⟨b,h1,h2,h3⟩:=ih j (by omega) y hy hj (by unfold goodI;rw[hp];rfl)
          refine⟨b,by omega,h2,?_⟩
          rcases Nat.lt_or_ge (j+1) (b+(blockP code (begP code pl) b).many) with h|h
          · exact h
          · exfalso
            have hB:=blockP_ok code (begP code pl) b
            have e:b+(blockP code (begP code pl) b).many=j+1:=by omega
            have hm:=hB.max (by omega)
            rw[e] at hm
            rcases hm with⟨_,h4⟩|⟨k,z,h4,h5,h6,h7⟩|⟨z,h4,h5,h6⟩
            · exact hb h4
            · have:k=j:=by omega
              subst this
              rw[hy] at h6;cases h6
              rw[n1] at h7;cases h7
            · rw[hx] at h4;cases h4
              unfold goodI at hg
              rw[h5,h6] at hg;cases hg
        · rcases ht with h|h
          · rw[n1] at h;cases h
          · rw[n2] at h;cases h
theorem cover_one{i j1 j2:Nat}(h1:j1≤i)(b1:isBeg (begP code pl) j1=true)(m1:i<j1+(blockP code (begP code pl) j1).many)(h2:j2≤i)(b2:isBeg (begP code pl) j2=true)(m2:i<j2+(blockP code (begP code pl) j2).many):j1=j2:=by
 rcases Nat.lt_trichotomy j1 j2 with h|h|h
 ·have:=(blockP_ok code (begP code pl) j1).mid j2 h (by omega)
  rw[b2] at this;cases this
 ·exact h
 ·have:=(blockP_ok code (begP code pl) j2).mid j1 h (by omega)
  rw[b1] at this;cases this
theorem cover_from(hK:Known code pl){i j:Nat}(h1:j≤i)(hj:j<code.length)(b1:isBeg (begP code pl) j=true)(m1:i<j+(blockP code (begP code pl) j).many):rch pl i=true∧∃ x,code[i]?=some x∧goodI x=true:=by
  have hB:=blockP_ok code (begP code pl) j
  have hle:=hB.le (by omega)
  have hr:∀ d,j+d≤i→rch pl (j+d)=true:=by
    intro d
    induction d with
    | zero=>intro _;exact beg_rch hK b1
    | succ d ih =>
      intro hd
      obtain⟨x,hx⟩:=get_of_lt (l:=code) (i:=j+d) (by omega)
      rcases hB.in_ (j+d) x (by omega) (by omega) hx with hp|⟨_,h⟩
      · obtain⟨_,_,p1,p2,p3⟩:=plain_not hp
        exact(hK.on (j+d) x hx (ih (by omega))).1 p1 p2 p3
      · omega
  have hri:=hr (i-j) (by omega)
  rw[show j+(i-j)=i by omega] at hri
  obtain⟨x,hx⟩:=get_of_lt (l:=code) (i:=i) (by omega)
  refine⟨hri,x,hx,?_⟩
  unfold goodI
  rcases hB.in_ i x h1 m1 hx with h|⟨h,_⟩
  · rw[h];rfl
  · rw[h,Bool.or_true]
def inB(b:Blk)(i:Nat):Bool:=decide (b.at_≤i)&&decide (i<b.at_+b.many)
def cover:List Blk→Nat→Nat
 | [],_=>0
 | b::l,i=>(if inB b i=true then 1 else 0)+cover l i
theorem cover_app:∀(a b:List Blk) (i:Nat),cover (a++b) i=cover a i+cover b i
 | [],b,i=>by simp[cover]
 | x::a,b,i=>by rw[List.cons_append,cover,cover,cover_app a b];omega
theorem cover_none{ks:List Int}{i:Nat}:∀ l:List Nat,(∀ j∈l,isBeg ks j=true→j≤i→¬ i<j+(blockP code ks j).many)→cover (blocksG code ks l) i=0
  | [],_=>rfl
  | j::l,h=>by
    rw[blocksG,cover_app,cover_none l fun k hk=>h k (by simp[hk])]
    split
    · rename_i hc
      have h1:=h j (by simp) hc.1
      simp only[cover,inB,blockP_at]
      by_cases h2:j≤i
      · simp[h2,h1 h2]
      · simp[h2]
    · rfl
theorem cover_uno{ks:List Int}{i j0:Nat}:∀ l:List Nat,l.Nodup→j0∈l→isBeg ks j0=true→j0≤i→i<j0+(blockP code ks j0).many→(∀ j∈l,isBeg ks j=true→j≤i→i<j+(blockP code ks j).many→j=j0)→cover (blocksG code ks l) i=1
  | [],_,h,_,_,_,_=>by cases h
  | j::l,hnd,hm,hb,hle,hlt,hu=>by
    rw[List.nodup_cons] at hnd
    rw[blocksG,cover_app]
    by_cases hj:j=j0
    · subst hj
      rw[cover_none l fun k hk h1 h2 h3=>by
        have:=hu k (by simp[hk]) h1 h2 h3
        subst this
        exact hnd.1 hk]
      rw[if_pos ⟨hb,by omega⟩]
      simp only[cover,inB,blockP_at]
      simp[hle,hlt]
    · have hm':j0∈l:=by
        rcases List.mem_cons.1 hm with h|h
        · exact absurd h.symm hj
        · exact h
      rw[cover_uno l hnd.2 hm' hb hle hlt fun k hk=>hu k (by simp[hk])]
      split
      · rename_i hc
        simp only[cover,inB,blockP_at]
        by_cases h2:j≤i
        · by_cases h3:i<j+(blockP code ks j).many
          · exact absurd (hu j (by simp) hc.1 h2 h3) hj
          · simp[h2,h3]
        · simp[h2]
      · rfl
theorem cuts_cover(hK:Known code pl){i:Nat}{x:Ins3}(hx:code[i]?=some x):cover (blocksP code (begP code pl)) i=if rch pl i=true∧goodI x=true then 1 else 0:=by
 have hil:=lt_of_get hx
 unfold blocksP
 by_cases h:rch pl i=true∧goodI x=true
 ·rw[if_pos h]
  obtain⟨j,h1,h2,h3⟩:=cover_some hK i x hx h.1 h.2
  exact cover_uno _ List.nodup_range (by simp;omega) h2 h1 h3 fun k _ b1 b2 b3=>cover_one b2 b1 b3 h1 h2 h3
 ·rw[if_neg h]
  refine cover_none _ fun j hj b1 b2 b3=>h ?_
  obtain⟨h1,y,h2,h3⟩:=cover_from hK b2 (by simpa using hj) b1 b3
  rw[hx] at h2;cases h2
  exact⟨h1,h3⟩
theorem blocks_mem{ks:List Int}{b:Blk}:∀ l:List Nat,b∈blocksG code ks l→∃ j∈l,isBeg ks j=true∧b=blockP code ks j∧0<b.many
  | [],h=>by cases h
  | j::l,h=>by
    rw[blocksG] at h
    rcases List.mem_append.1 h with h|h
    · split at h
      · rename_i hc
        simp at h
        subst h
        exact⟨j,by simp,hc.1,rfl,hc.2⟩
      · cases h
    · obtain⟨k,h1,h2⟩:=blocks_mem l h
      exact⟨k,by simp[h1],h2⟩
theorem blocks_sub{ks:List Int}:∀ l:List Nat,((blocksG code ks l).map Blk.at_).Sublist l
  | []=>by simp[blocksG]
  | j::l=>by
    rw[blocksG,List.map_append]
    have:=blocks_sub (ks:=ks) l
    split
    · simp only[List.map_cons,List.map_nil,List.singleton_append,blockP_at]
      exact this.cons_cons _
    · exact this.cons _
theorem blocks_rise{ks:List Int}{n:Nat}{a b:Blk}(ha:(blocksP code ks)[n]?=some a)(hb:(blocksP code ks)[n+1]?=some b):a.at_<b.at_:=by
  have hp:((blocksP code ks).map Blk.at_).Pairwise (· < ·):=List.Pairwise.sublist (blocks_sub _) List.pairwise_lt_range
  have h1:=lt_of_get hb
  have:=List.pairwise_iff_getElem.1 hp n (n+1) (by simp;omega) (by simpa using h1) (by omega)
  rw[List.getElem?_eq_getElem (by omega)] at ha hb
  have e1:=Option.some.inj ha
  have e2:=Option.some.inj hb
  simpa[e1,e2] using this
theorem blocks_fit{ks:List Int}{b:Blk}(h:b∈blocksP code ks):0<b.many∧b.at_+b.many≤code.length:=by
 obtain⟨j,h1,h2,h3,h4⟩:=blocks_mem _ h
 refine⟨h4,?_⟩
 rw[h3,blockP_at]
 exact(blockP_ok code ks j).le (by simp at h1;omega)
theorem cuts_into{i:Nat}{x:Ins3}(hx:code[i]?=some x)(hr:rch pl i=true)(hp:plainI x=false){to:Int}(hto:to=(i:Int)+1∨((turnI x=true∨tryI x=true)∧to=x.a)){b:Blk}(hb:b∈blocksP code (begP code pl)):¬((b.at_:Int)<to∧to<(b.at_:Int)+b.many):=by
 rintro⟨h1,h2⟩
 obtain⟨j,_,h4,h5,h6⟩:=blocks_mem _ hb
 have hat:b.at_=j:=by rw[h5,blockP_at]
 have hB:=blockP_ok code (begP code pl) j
 rw[←h5] at hB
 rw[hat] at h1 h2
 obtain⟨k,rfl⟩:∃ k:Nat,to=k:=⟨to.toNat,by omega⟩
 rcases hto with h|⟨ht,ha⟩
 ·have hk:k=i+1:=by omega
  subst hk
  rcases hB.in_ i x (by omega) (by omega) hx with h7|⟨_,h7⟩
  ·rw[hp] at h7;cases h7
  ·omega
 ·have:=hB.mid k (by omega) (by omega)
  rw[beg_iff.2 (.inr ⟨i,x,hx,hp,hr,.inl ⟨ht,ha⟩⟩)] at this
  cases this
end
end Go.RI
namespace Go.RI
open Go
instance:Enc (List Val):=⟨1,fun l=>[.fs false false l.length (encs l)],fun _=>rfl⟩
@[simp] theorem cells_vals{l:List Val}:Enc.cells l=[AVal.fs false false l.length (encs l)]:=rfl
instance:EncOk (List Val):={ snap:=fun _ _ _=>by simp,frz:=fun _ _ _ _=>by simp }
@[simp] theorem drop_vals{l:List (List Val)}{i:Nat}:(encs l).drop i=cellsO l[i]?++restE l (i+1):=by
 have:=drop_encs l i
 simpa[show Enc.sz (List Val)=1 from rfl] using this
@[simp] theorem len_vals{l:List (List Val)}:(encs l).length=l.length:=by have:=encs_len l;simpa[show Enc.sz (List Val)=1 from rfl] using this
def kindsL(l:List Val):List Int:=l.map Val.kind
@[simp] theorem kindsL_len{l:List Val}:(kindsL l).length=l.length:=by simp[kindsL]
end Go.RI
namespace Go.RI
open Go
def rowsK(ks:List Int):List (AVal×AVal):=ks.map fun k=>(AVal.i .i64 k,AVal.b true)
theorem eq_int{a b:Int}:eqCells [1] [.i .i64 a] [.i .i64 b]=some (decide (a=b)):=by
 simp only[eqCells,if_pos]
 by_cases h:a=b<;>simp[h]
theorem find_K{k:Int}:∀(ks:List Int) (i:Nat),(k∈ks→∃ j,findA false [1] [.i .i64 k] (rowsK ks) i=some (some (j,.b true))∧i≤j∧ks[j-i]?=some k)∧(k∉ks→findA false [1] [.i .i64 k] (rowsK ks) i=some none)
  | [],i=>by simp[findA,rowsK]
  | a::ks,i=>by
    obtain⟨h1,h2⟩:=find_K (k:=k) ks (i+1)
    have e:rowsK (a::ks)=(AVal.i .i64 a,AVal.b true)::rowsK ks:=rfl
    have ek:keyC false (AVal.i .i64 a)=some [.i .i64 a]:=rfl
    rw[e]
    simp only[findA,ek,eq_int]
    by_cases ha:k=a
    · subst ha
      simp only[decide_true]
      exact⟨fun _=>⟨i,rfl,Nat.le_refl _,by simp⟩,fun h=>absurd (by simp) h⟩
    · rw[decide_eq_false ha]
      simp only
      refine⟨fun h=>?_,fun h=>h2 fun h3=>h (by simp[h3])⟩
      rcases List.mem_cons.1 h with h|h
      · exact absurd h ha
      · obtain⟨j,h3,h4,h5⟩:=h1 h
        exact⟨j,h3,by omega,by rw[show j-i=(j-(i+1))+1 by omega];simpa using h5⟩
theorem look_K{H:AHeap}{ks:List Int}{id:Nat}{k:Int}(h:H.get id=some (.map (rowsK ks))):lookV H false [1] (.b false) false (.m id) (.i .i64 k)=some (.b (decide (k∈ks))):=by
 obtain⟨h1,h2⟩:=find_K (k:=k) ks 0
 have ek:keyC false (AVal.i .i64 k)=some [.i .i64 k]:=rfl
 simp only[lookV,mapEs,h,ek,eq_int,decide_true,if_pos]
 by_cases hk:k∈ks
 ·obtain⟨j,h3,_⟩:=h1 hk
  rw[h3];simp[hk]
 ·rw[h2 hk];simp[hk]
theorem set_K{ks:List Int}{j:Nat}{k:Int}(h:ks[j]?=some k):(rowsK ks).set j (AVal.i .i64 k,AVal.b true)=rowsK ks:=by
 refine set_same ?_
 simp[rowsK,h]
theorem mapup_K{H:AHeap}{ks:List Int}{id lo:Nat}{k:Int}(h:H.get id=some (.map (rowsK ks)))(hlo:lo≤id):mapupV lo H false [1] (.i .i64 k) (.b true) (.m id)=some (H.put id (some (.map (rowsK (addI ks k))))):=by
 obtain⟨h1,h2⟩:=find_K (k:=k) ks 0
 have ek:keyC false (AVal.i .i64 k)=some [.i .i64 k]:=rfl
 have ht:(AVal.b true).tup=false:=rfl
 simp only[mapupV,h,ek,eq_int,decide_true,if_pos,ht,hlo,and_self]
 by_cases hk:k∈ks
 ·obtain⟨j,h3,_,h5⟩:=h1 hk
  rw[h3]
  simp only
  rw[set_K (by simpa using h5)]
  unfold addI
  rw[if_pos hk]
 ·rw[h2 hk]
  simp only
  unfold addI
  rw[if_neg hk]
  simp[rowsK]
end Go.RI
namespace Go.RI
open Go
def aims(x:Ins3)(i:Nat):List Nat :=
 if x.op=28∨x.op=30 then [] else if x.op=24 then [x.a.toNat] else if x.op=25∨x.op=26 then [x.a.toNat,i+1] else [i+1]
def Came(pl:List Plc)(lf:List Int)(at_:Nat)(pl':List Plc)(lf':List Int):Prop :=
 at_<pl.length∧((rch pl at_=true∧pl'=pl∧lf'=lf)∨(rch pl at_=false∧∃ p:Plc,p.reached=true∧pl'=pl.set at_ p∧lf'=lf++[(at_:Int)]))
inductive CameAll:List Plc→List Int→List Nat→List Plc→List Int→Prop where
 | nil {pl lf}:CameAll pl lf [] pl lf
 | cons {pl lf a l pl1 lf1 pl2 lf2} (h:Came pl lf a pl1 lf1) (h2:CameAll pl1 lf1 l pl2 lf2):CameAll pl lf (a::l) pl2 lf2
theorem rch_set{pl:List Plc}{a i:Nat}{p:Plc}(h:a<pl.length):rch (pl.set a p) i=if i=a then p.reached else rch pl i:=by
 unfold rch
 by_cases e:i=a
 ·subst e;simp[List.getElem?_set_self h]
 ·rw[if_neg e,List.getElem?_set_ne (fun h=>e h.symm)]
theorem rch_lt{pl:List Plc}{i:Nat}(h:rch pl i=true):i<pl.length:=by
 rcases Nat.lt_or_ge i pl.length with h1|h1
 ·exact h1
 ·unfold rch at h;rw[List.getElem?_eq_none h1] at h;cases h
theorem came_len{pl:List Plc}{lf:List Int}{a:Nat}{pl':List Plc}{lf':List Int}(h:Came pl lf a pl' lf'):pl'.length=pl.length:=by
 rcases h.2 with⟨_,h,_⟩|⟨_,p,_,h,_⟩<;>rw[h]
 simp
theorem came_at{pl:List Plc}{lf:List Int}{a:Nat}{pl':List Plc}{lf':List Int}(h:Came pl lf a pl' lf'):rch pl' a=true:=by
 rcases h.2 with⟨h1,h2,_⟩|⟨_,p,h1,h2,_⟩
 ·rw[h2];exact h1
 ·rw[h2,rch_set h.1,if_pos rfl];exact h1
theorem came_mono{pl:List Plc}{lf:List Int}{a:Nat}{pl':List Plc}{lf':List Int}(h:Came pl lf a pl' lf'){i:Nat}(hi:rch pl i=true):rch pl' i=true:=by
 rcases h.2 with⟨_,h2,_⟩|⟨_,p,h1,h2,_⟩
 ·rw[h2];exact hi
 ·rw[h2,rch_set h.1]
  split
  ·exact h1
  ·exact hi
theorem came_from{pl:List Plc}{lf:List Int}{a:Nat}{pl':List Plc}{lf':List Int}(h:Came pl lf a pl' lf'){i:Nat}(hi:rch pl' i=true):rch pl i=true∨(i=a∧(i:Int)∈lf'):=by
 rcases h.2 with⟨_,h2,_⟩|⟨_,p,h1,h2,h3⟩
 ·rw[h2] at hi;exact .inl hi
 ·rw[h2,rch_set h.1] at hi
  by_cases e:i=a
  ·exact .inr ⟨e,by rw[h3,e];simp⟩
  ·rw[if_neg e] at hi;exact .inl hi
theorem came_left{pl:List Plc}{lf:List Int}{a:Nat}{pl':List Plc}{lf':List Int}(h:Came pl lf a pl' lf'){k:Int}(hk:k∈lf'):k∈lf∨k=a:=by
 rcases h.2 with⟨_,_,h3⟩|⟨_,p,_,_,h3⟩
 ·rw[h3] at hk;exact .inl hk
 ·rw[h3] at hk;simpa using hk
theorem came_keep{pl:List Plc}{lf:List Int}{a:Nat}{pl':List Plc}{lf':List Int}(h:Came pl lf a pl' lf'){k:Int}(hk:k∈lf):k∈lf':=by
 rcases h.2 with⟨_,_,h3⟩|⟨_,p,_,_,h3⟩
 ·rw[h3];exact hk
 ·rw[h3];simp[hk]
def dark:List Plc→Nat
 | []=>0
 | p::l=>(if p.reached=true then 0 else 1)+dark l
theorem dark_set:∀(pl:List Plc) (a:Nat) (p:Plc),rch pl a=false→a<pl.length→p.reached=true→dark (pl.set a p)+1=dark pl
  | [],_,_,_,h,_=>by simp at h
  | q::l,0,p,h,_,hp=>by
    have hq:q.reached=false:=by simpa[rch] using h
    simp[dark,hp,hq];omega
  | q::l,a+1,p,h,hl,hp=>by
    have:=dark_set l a p (by simpa[rch] using h) (by simpa using hl) hp
    simp only[List.set_cons_succ,dark]
    omega
theorem came_dark{pl:List Plc}{lf:List Int}{a:Nat}{pl':List Plc}{lf':List Int}(h:Came pl lf a pl' lf'):2*dark pl'+lf'.length≤2*dark pl+lf.length:=by
 rcases h.2 with⟨_,h2,h3⟩|⟨h1,p,h4,h2,h3⟩
 ·rw[h2,h3];exact Nat.le_refl _
 ·have:=dark_set pl a p h1 h.1 h4
  rw[h2,h3,List.length_append,List.length_singleton]
  omega
theorem all_dark{pl:List Plc}{lf:List Int}{l:List Nat}{pl':List Plc}{lf':List Int}(h:CameAll pl lf l pl' lf'):2*dark pl'+lf'.length≤2*dark pl+lf.length:=by
 induction h with
 | nil=>exact Nat.le_refl _
 | cons h _ ih=>exact Nat.le_trans ih (came_dark h)
theorem all_len{pl:List Plc}{lf:List Int}{l:List Nat}{pl':List Plc}{lf':List Int}(h:CameAll pl lf l pl' lf'):pl'.length=pl.length:=by
 induction h with
 | nil=>rfl
 | cons h _ ih=>exact ih.trans (came_len h)
theorem all_mono{pl:List Plc}{lf:List Int}{l:List Nat}{pl':List Plc}{lf':List Int}(h:CameAll pl lf l pl' lf'){i:Nat}(hi:rch pl i=true):rch pl' i=true:=by
 induction h with
 | nil=>exact hi
 | cons h _ ih=>exact ih (came_mono h hi)
theorem all_at{pl:List Plc}{lf:List Int}{l:List Nat}{pl':List Plc}{lf':List Int}(h:CameAll pl lf l pl' lf'):∀ i∈l,rch pl' i=true:=by
  induction h with
  | nil=>simp
  | cons h h2 ih =>
    intro i hi
    rcases List.mem_cons.1 hi with rfl|hi
    · exact all_mono h2 (came_at h)
    · exact ih i hi
theorem all_keep{pl:List Plc}{lf:List Int}{l:List Nat}{pl':List Plc}{lf':List Int}(h:CameAll pl lf l pl' lf'){k:Int}(hk:k∈lf):k∈lf':=by
 induction h with
 | nil=>exact hk
 | cons h _ ih=>exact ih (came_keep h hk)
theorem all_from{pl:List Plc}{lf:List Int}{l:List Nat}{pl':List Plc}{lf':List Int}(h:CameAll pl lf l pl' lf'){i:Nat}(hi:rch pl' i=true):rch pl i=true∨(i∈l∧(i:Int)∈lf'):=by
  induction h with
  | nil=>exact .inl hi
  | cons h h2 ih =>
    rcases ih hi with h3|⟨h3,h4⟩
    · rcases came_from h h3 with h5|⟨h5,h6⟩
      · exact .inl h5
      · exact .inr ⟨by simp[h5],all_keep h2 h6⟩
    · exact .inr ⟨by simp[h3],h4⟩
theorem all_left{pl:List Plc}{lf:List Int}{l:List Nat}{pl':List Plc}{lf':List Int}(h:CameAll pl lf l pl' lf'){k:Int}(hk:k∈lf'):k∈lf∨∃ i∈l,k=(i:Int):=by
  induction h with
  | nil=>exact .inl hk
  | cons h _ ih =>
    rcases ih hk with h3|⟨i,h3,h4⟩
    · rcases came_left h h3 with h5|h5
      · exact .inl h5
      · exact .inr ⟨_,by simp,h5⟩
    · exact .inr ⟨i,by simp[h3],h4⟩
structure KnownL (code:List Ins3) (pl:List Plc) (lf:List Int):Prop where
 len:pl.length=code.length
 zero:rch pl 0=true
 left:∀ k∈lf,∃ i:Nat,k=(i:Int)∧rch pl i=true
 on:∀(i:Nat) x,code[i]?=some x→rch pl i=true→(i:Int)∉lf→∀ j∈aims x i,rch pl j=true
 from_:∀ i,rch pl i=true→i≠0→∃ j x,rch pl j=true∧code[j]?=some x∧i∈aims x j
theorem known_step{code:List Ins3}{pl pl':List Plc}{lf lf':List Int}{i:Nat}{x:Ins3}(hK:KnownL code pl (lf++[(i:Int)]))(hx:code[i]?=some x)(h:CameAll pl lf (aims x i) pl' lf'):KnownL code pl' lf':=by
 have hi:rch pl i=true:=by
  obtain⟨j,h1,h2⟩:=hK.left i (by simp)
  have:j=i:=by omega
  rw[this] at h2;exact h2
 refine⟨(all_len h).trans hK.len,all_mono h hK.zero,fun k hk=>?_,fun j y hy hr hn a ha=>?_,fun j hj h0=>?_⟩
 ·rcases all_left h hk with h1|⟨j,h1,h2⟩
  ·obtain⟨j,h2,h3⟩:=hK.left k (by simp[h1])
   exact⟨j,h2,all_mono h h3⟩
  ·exact⟨j,h2,all_at h j h1⟩
 ·by_cases hji:j=i
  ·subst hji
   rw[hx] at hy;cases hy
   exact all_at h a ha
  ·rcases all_from h hr with h1|⟨_,h2⟩
   ·refine all_mono h (hK.on j y hy h1 (fun hm=>?_) a ha)
    rcases List.mem_append.1 hm with hm|hm
    ·exact hn (all_keep h hm)
    ·simp at hm;omega
   ·exact absurd h2 hn
 ·rcases all_from h hj with h1|⟨h1,_⟩
  ·obtain⟨k,y,h2,h3,h4⟩:=hK.from_ j h1 h0
   exact⟨k,y,all_mono h h2,h3,h4⟩
  ·exact⟨i,x,all_mono h hi,hx,h1⟩
theorem known_of{code:List Ins3}{pl:List Plc}(hK:KnownL code pl [])(hA:∀ x∈code,x.op=24∨x.op=25∨x.op=26→0≤x.a):Known code pl:=by
 refine⟨hK.len,hK.zero,fun i x hx hr=>⟨fun h1 h2 h3=>?_,fun h=>?_⟩,fun i hr h0=>?_⟩
 ·refine hK.on i x hx hr (by simp) (i+1) ?_
  unfold aims
  rw[if_neg (by omega),if_neg h1]
  split<;>simp
 ·have ho:x.op=24∨x.op=25∨x.op=26:=by
   unfold turnI tryI at h
   simp only[Bool.or_eq_true,decide_eq_true_eq] at h
   omega
  refine⟨hA x (List.mem_of_getElem? hx) ho,hK.on i x hx hr (by simp) _ ?_⟩
  unfold aims
  rw[if_neg (by omega)]
  split
  ·simp
  ·rw[if_pos (by omega)];simp
 ·obtain⟨j,x,h1,h2,h3⟩:=hK.from_ i hr h0
  refine⟨j,h1,x,h2,?_⟩
  unfold aims at h3
  split at h3
  ·cases h3
  ·split at h3
   ·rename_i n1 h4
    simp at h3
    have:=hA x (List.mem_of_getElem? h2) (by omega)
    exact .inr ⟨.inl (by unfold turnI;simp[h4]),by omega⟩
   ·split at h3
    ·rename_i n1 n2 h4
     have:=hA x (List.mem_of_getElem? h2) (by omega)
     rcases List.mem_cons.1 h3 with h5|h5
     ·refine .inr ⟨?_,by omega⟩
      unfold turnI tryI
      rcases h4 with h4|h4<;>simp[h4]
     ·simp at h5
      exact .inl ⟨h5,by omega,by omega,by omega⟩
    ·rename_i n1 n2 n3
     simp at h3
     exact .inl ⟨h3,by omega,by omega,by omega⟩
end Go.RI
namespace Go.RI
open Go
def Lf(H:AHeap)(lo:Nat)(v:AVal)(l:List Int):Prop:=(v=.ns∧l=[])∨∃ id c,v=.sl id 0 l.length none∧lo≤id∧id<H.next∧H.get id=some (.cells c 1 false)∧l.length≤c.length∧c.take l.length=encs l
def TrV(H:AHeap)(P:Nat→Prop)(v:AVal)(l:List Hnd):Prop:=(v=.ns∧l=[])∨∃ id a c,v=.sl id 0 l.length a∧(a=none∨∃ m,a=some m∧l.length≤m)∧P id∧id<H.next∧H.get id=some (.cells c 2 false)∧l.length*2≤c.length∧c.take (l.length*2)=encs l
def TrS(H:AHeap)(P:Nat→Prop)(v:AVal)(l:List Hnd):Prop:=(v=.ns∧l=[])∨∃ id c,v=.sl id 0 l.length (some l.length)∧P id∧id<H.next∧H.get id=some (.cells c 2 false)∧l.length*2≤c.length∧c.take (l.length*2)=encs l
theorem trS_V{H:AHeap}{P:Nat→Prop}{v:AVal}{l:List Hnd}(h:TrS H P v l):TrV H P v l:=by
 rcases h with h|⟨id,c,h1,h2⟩
 ·exact .inl h
 ·exact .inr ⟨id,_,c,h1,.inr ⟨_,rfl,Nat.le_refl _⟩,h2⟩
theorem trS_keep{H H':AHeap}{P P':Nat→Prop}{v:AVal}{l:List Hnd}(h:TrS H P v l)(hn:H.next≤H'.next)(hk:∀ id,P id→id<H.next→H'.get id=H.get id∧P' id):TrS H' P' v l:=by
 rcases h with h|⟨id,c,h1,h3,h4,h5,h6⟩
 ·exact .inl h
 ·obtain⟨k1,k2⟩:=hk id h3 h4
  exact .inr ⟨id,c,h1,k2,by omega,k1.trans h5,h6⟩
theorem trV_one{H:AHeap}{P:Nat→Prop}{v:AVal}{l:List Hnd}(h:TrV H P v l):v.tup=false∧v.cells=[v]:=by
 rcases h with⟨rfl,_⟩|⟨id,a,c,rfl,_⟩<;>exact⟨rfl,rfl⟩
theorem trV_len{H:AHeap}{P:Nat→Prop}{v:AVal}{l:List Hnd}(h:TrV H P v l)(H':AHeap):lenV H' 0 v=some l.length:=by
 rcases h with⟨rfl,rfl⟩|⟨id,a,c,rfl,_⟩<;>rfl
theorem lf_len{H:AHeap}{lo:Nat}{v:AVal}{l:List Int}(h:Lf H lo v l)(H':AHeap):lenV H' 0 v=some l.length:=by
 rcases h with⟨rfl,rfl⟩|⟨id,c,rfl,_⟩<;>rfl
theorem lf_keep{H H':AHeap}{lo:Nat}{v:AVal}{l:List Int}(h:Lf H lo v l)(hn:H.next≤H'.next)(hk:∀ id n c,v=.sl id 0 n c→H'.get id=H.get id):Lf H' lo v l:=by
 rcases h with h|⟨id,c,h1,h2,h3,h4,h5⟩
 ·exact .inl h
 ·exact .inr ⟨id,c,h1,h2,by omega,(hk id _ _ h1).trans h4,h5⟩
theorem lf_lt{H:AHeap}{lo:Nat}{v:AVal}{l:List Int}(h:Lf H lo v l):∀ id n c,v=.sl id 0 n c→lo≤id∧id<H.next:=by
 intro id n c hv
 rcases h with⟨h,_⟩|⟨id0,c0,h,h1,h2,_⟩
 ·rw[h] at hv;cases hv
 ·rw[h] at hv;cases hv;exact⟨h1,h2⟩
def Plcs(H:AHeap)(P:Nat→Prop):List AVal→List Plc→Prop
 | cs,[]=>cs=[]
 | cs,p::l=>∃ tv cs',cs=.b p.reached::.i .i64 p.height::tv::cs'∧TrS H P tv p.tries∧Plcs H P cs' l
theorem plcs_len{H:AHeap}{P:Nat→Prop}:∀(l:List Plc) (cs:List AVal),Plcs H P cs l→cs.length=l.length*3
  | [],cs,h=>by subst h;rfl
  | p::l,cs,⟨tv,cs',h,_,h2⟩=>by
    have:=plcs_len l cs' h2
    subst h
    simp;omega
theorem plcs_keep{H H':AHeap}{P P':Nat→Prop}(hn:H.next≤H'.next)(hk:∀ id,P id→id<H.next→H'.get id=H.get id∧P' id):∀(l:List Plc) (cs:List AVal),Plcs H P cs l→Plcs H' P' cs l
 | [],cs,h=>h
 | p::l,cs,⟨tv,cs',h,h1,h3⟩=>⟨tv,cs',h,trS_keep h1 hn hk,plcs_keep hn hk l cs' h3⟩
theorem plcs_get{H:AHeap}{P:Nat→Prop}:∀(l:List Plc) (cs:List AVal),Plcs H P cs l→∀(j:Nat) (p:Plc),l[j]?=some p→∃ tv,(cs.drop (j*3)).take 3=[.b p.reached,.i .i64 p.height,tv]∧cs[j*3]?=some (.b p.reached)∧cs[j*3+1]?=some (.i .i64 p.height)∧cs[j*3+2]?=some tv∧TrS H P tv p.tries
  | [],cs,h,j,p,hj=>by simp at hj
  | q::l,cs,⟨tv,cs',h,k1,k3⟩,j,p,hj=>by
    subst h
    cases j with
    | zero=>simp at hj;subst hj;exact⟨tv,by simp,by simp,by simp,by simp,k1⟩
    | succ j =>
      obtain⟨a,h1,h2,h3,h4,h5⟩:=plcs_get l cs' k3 j p (by simpa using hj)
      refine⟨a,?_,?_,?_,?_,h5⟩
      · rw[←h1];simp[show(j+1)*3=j*3+1+1+1 by omega]
      · rw[←h2];simp[show(j+1)*3=j*3+1+1+1 by omega]
      · rw[←h3,show(j+1)*3+1=j*3+1+1+1+1 by omega];simp
      · rw[←h4,show(j+1)*3+2=j*3+2+1+1+1 by omega];simp
theorem plcs_set{H:AHeap}{P:Nat→Prop}{q:Plc}{tv:AVal}(hq:TrS H P tv q.tries):∀(l:List Plc) (cs:List AVal) (j:Nat),Plcs H P cs l→j<l.length→Plcs H P (putCells cs (j*3) [.b q.reached,.i .i64 q.height,tv]) (l.set j q)
  | [],_,_,_,h=>by simp at h
  | p::l,cs,0,⟨tv0,cs',h,k1,k3⟩,_=>by
    subst h
    exact⟨tv,cs',by simp,hq,k3⟩
  | p::l,cs,j+1,⟨tv0,cs',h,k1,k3⟩,hj=>by
    subst h
    have:=plcs_set hq l cs' j k3 (by simpa using hj)
    refine⟨tv0,putCells cs' (j*3) [.b q.reached,.i .i64 q.height,tv],?_,k1,this⟩
    rw[show(j+1)*3=j*3+1+1+1 by omega]
    simp
theorem plcs_rep{H:AHeap}{P:Nat→Prop}:∀ n,Plcs H P (repCells [.b false,.i .i64 0,.ns] n) (List.replicate n ⟨false,0,[]⟩)
 | 0=>rfl
 | n+1=>⟨.ns,repCells [.b false,.i .i64 0,.ns] n,by simp[repCells,List.replicate_succ],.inl ⟨rfl,rfl⟩,plcs_rep n⟩
section
variable {call:CallI} {lo:Nat} {xs:List Item} {kill:List Nat} {Q:Post} {dst:Option Nat} {op:IOp} {re:List (Nat×IOp×Option (Nat×Bool))} {e:Env} {H:AHeap}
theorem step_lf{lo' b:Nat}{v:AVal}{l:List Int}{k:Int}(h:Lf H lo' v l)(hll:lo≤lo')(hlo:lo'≤H.next)(hb:H.get b=some (.cells [.i .i64 k] 1 false))(hl:l.length<1000000)
  (kk:∀ H':AHeap,H'.next=H.next+1→Lf H' lo' (.sl H.next 0 (l.length+1) none) (l++[k])→(∀ id,id<H.next→(∀ id0 n0 c0,v=.sl id0 0 n0 c0→id≠id0)→H'.get id=H.get id)→stepP call lo xs kill Q dst op re e (some (some (.sl H.next 0 (l.length+1) none),H'))) :
  stepP call lo xs kill Q dst op re e (appR lo H 1 8 (some v) (some (.sl b 0 1 (some 1)))):=by
 have hy:moreV H 1 (.sl b 0 1 (some 1))=some (1,[.i .i64 k]):=more_lit hb (by simp) (by omega)
 have hs:(2*(l.length+1)+192)*8≤281474976710656:=by omega
 rcases h with⟨rfl,rfl⟩|⟨id0,c,rfl,h1,h2,h3,h4,h5⟩
 ·have e1:appR lo H 1 8 (some .ns) (some (.sl b 0 1 (some 1)))=some (some (.sl H.next 0 1 none),H.push (.cells [.i .i64 k] 1 false)):=by simp[appR,appV,hy]
  rw[e1]
  exact kk _ (by simp) (.inr ⟨H.next,[.i .i64 k],rfl,hlo,by simp,by simp,by simp,by simp⟩) fun id hid _=>get_push_lt hid
 ·have h1':lo≤id0:=by omega
  have e1:appR lo H 1 8 (some (.sl id0 0 l.length none)) (some (.sl b 0 1 (some 1)))=some (some (.sl H.next 0 (l.length+1) none),(H.put id0 none).push (.cells (c.take l.length++[.i .i64 k]) 1 false)):=by
   simp[appR,appV,hy,h1',hs,h3,h4]
  rw[e1]
  refine kk _ (by simp) (.inr ⟨H.next,c.take l.length++[.i .i64 k],by simp,hlo,by simp,by simp,by simp;omega,?_⟩) fun id hid hne=>?_
  ·rw[List.take_of_length_le (by simp;omega),h5];simp
  ·simp[show ¬ id=H.next by omega,hne id0 _ _ rfl]
theorem step_tr{lo' b:Nat}{P:Nat→Prop}{v:AVal}{l:List Hnd}{k:Hnd}(h:TrS H P v l)(hP:P H.next)(hb:H.get b=some (.cells (Enc.cells k) 2 false))(hl:l.length<1000000)
  (kk:∀ H':AHeap,H'.next=H.next+1→TrV H' P (.sl H.next 0 (l.length+1) none) (l++[k])→(∀ id,id<H.next→H'.get id=H.get id)→stepP call lo xs kill Q dst op re e (some (some (.sl H.next 0 (l.length+1) none),H'))) :
  stepP call lo xs kill Q dst op re e (appR lo H 2 16 (some v) (some (.sl b 0 1 (some 1)))):=by
 have hy:moreV H 2 (.sl b 0 1 (some 1))=some (1,Enc.cells k):=more_lit hb (by simp) (by omega)
 have hs:(2*(l.length+1)+192)*16≤281474976710656:=by omega
 rcases h with⟨rfl,rfl⟩|⟨id0,c,rfl,h1,h2,h3,h4,h5⟩
 ·have e1:appR lo H 2 16 (some .ns) (some (.sl b 0 1 (some 1)))=some (some (.sl H.next 0 1 none),H.push (.cells (Enc.cells k) 2 false)):=by simp[appR,appV,hy]
  rw[e1]
  exact kk _ (by simp) (.inr ⟨H.next,none,Enc.cells k,rfl,.inl rfl,hP,by simp,by simp,by simp,by simp⟩) fun id hid=>get_push_lt hid
 ·by_cases h0:l.length=0
  ·have hl0:l=[]:=List.eq_nil_of_length_eq_zero h0
   subst hl0
   have e1:appR lo H 2 16 (some (.sl id0 0 0 (some 0))) (some (.sl b 0 1 (some 1)))=some (some (.sl H.next 0 1 none),H.push (.cells (Enc.cells k) 2 false)):=by simp[appR,appV,hy]
   simp only[List.length_nil]
   rw[e1]
   exact kk _ (by simp) (.inr ⟨H.next,none,Enc.cells k,rfl,.inl rfl,hP,by simp,by simp,by simp,by simp⟩) fun id hid=>get_push_lt hid
  ·have hr:rowAt H id0 0 (l.length*2)=some (encs l):=by simp[rowAt,h3,h4,h5]
   have hn:¬ l.length+1≤l.length:=by omega
   have hl0:¬ l=[]:=fun h=>by rw[h] at h0;exact h0 rfl
   have e1:appR lo H 2 16 (some (.sl id0 0 l.length (some l.length))) (some (.sl b 0 1 (some 1)))=some (some (.sl H.next 0 (l.length+1) none),H.push (.cells (encs l++Enc.cells k) 2 false)):=by
    simp[appR,appV,hy,hn,h0,hl0,hs,hr]
   rw[e1]
   refine kk _ (by simp) (.inr ⟨H.next,none,encs l++Enc.cells k,by simp,.inl rfl,hP,by simp,by simp,by simp<;>omega,?_⟩) fun id hid=>get_push_lt hid
   rw[List.take_of_length_le (by simp;omega)];simp
end
end Go.RI
namespace Go.RI
open Go
theorem pure_ex{IP:FuncId→Option IFunc}{G:AHeap}{f:FuncId}{fn:IFunc}(hf:IP f=some fn){args:List AVal}(hl:args.length=fn.np){R:AVal→Prop}
  (h:wp (theCalls IP G G.next) G.next fn.body (fin fn.res fun u H1=>∃ v,frzV H1 G.next 16 u=some v∧R v) (initEnv 0 args) G):∃ v,pureR IP G f args=some v∧R v:=by
 obtain⟨n,u,H1,hb,v,hv,hr⟩:=body_wp (theCalls_knows _) hl (by rw[ends_fin];exact h)
 exact⟨v,pureR_some ⟨fn,n,u,H1,hf,hb,hv⟩,hr⟩
def IsB(v:AVal):Prop:=∃ b,v=.b b
@[simp] theorem isB_b{b:Bool}:IsB (.b b):=⟨b,rfl⟩
def IsI(v:AVal):Prop:=∃ n,v=.i .i64 n
@[simp] theorem isI_i{n:Int}:IsI (.i .i64 n):=⟨n,rfl⟩
def IsBP(P:Prop)(v:AVal):Prop:=∃ b,v=.b b∧(b=true→P)
@[simp] theorem isBP_b{P:Prop}{b:Bool}:IsBP P (.b b)↔(b=true→P):=by
 unfold IsBP
 constructor
 ·rintro⟨c,h1,h2⟩
  cases h1;exact h2
 ·exact fun h=>⟨b,rfl,h⟩
def IsII(v:AVal):Prop:=∃ a b,v=.tu [.i .i64 a,.i .i64 b]
@[simp] theorem isII_i{a b:Int}:IsII (.tu [.i .i64 a,.i .i64 b]):=⟨a,b,rfl⟩
def okFnc(f:Fnc):Prop:=f.name.length<274877906944∧f.code.length<1099511627776
def okPrg(P:Prg):Prop:=P.funcs.length<1099511627776∧P.consts.length<1099511627776∧(∀ f∈P.funcs,okFnc f)∧∀ v∈P.consts,v.bulk<274877906944
theorem choose_b{α:Type}{l:List α}{F:α→Option AVal}(h:∀ a∈l,∃ v,F a=some v∧IsB v):∃ p:α→Bool,∀ a∈l,F a=some (.b (p a)):=by
 classical
 refine⟨fun a=>if h:∃ b,F a=some (.b b) then h.choose else false,fun a ha=>?_⟩
 obtain⟨v,h1,b,rfl⟩:=h a ha
 have h2:∃ b,F a=some (.b b):=⟨b,h1⟩
 simp only[dif_pos h2]
 exact h2.choose_spec
end Go.RI
namespace Go.Proofs.Ytllfklgliaoojaa
open Go Go.RI
def siteC(P:Prg)(f:Fnc)(x:Ins3)(t1 t2 t3:Bool):AVal:=.ag [.fp [.fs t1 false P.funcs.length (encs P.funcs),.fs t2 false P.consts.length (encs P.consts)],.fp [.s f.name,.i .i64 f.args,.i .i64 f.locals,.fs t3 false f.code.length (encs f.code)],.i .i64 x.op,.i .i64 x.a,.i .i64 x.b]
section
variable {G:AHeap} (hG:G.next=1)
include hG
theorem t_plain(op:Int):pureR IP G 8 [.i .i64 op]=some (.b (decide (1≤op)&&decide (op≤23))):=by
 refine pure_run ip8 rfl ?_
 simp -implicitDefEqProofs [I8,hG]
 repeat' ((first|refine guard_intro ?_ ?_|refine test_intro ?_ ?_)<;>intro h<;>(try simp -implicitDefEqProofs [h,hG]))
 all_goals ((try simp only[decide_eq_true_eq,decide_eq_false_iff_not] at *)<;>(try simp_all)<;>(try (intros;omega)))
theorem t_moves(P:Prg)(x:Ins3)(t1 t2:Bool):∃ v,pureR IP G 40 [.ag [.fs t1 false P.funcs.length (encs P.funcs),.fs t2 false P.consts.length (encs P.consts)],.ag (Enc.cells x)]=some v∧IsII v:=by
 by_cases h21:x.op=21
 ·by_cases h1:0≤x.a
  ·by_cases h2:x.a<P.consts.length
   ·obtain⟨m,hm⟩:∃ m:Nat,x.a=m:=⟨x.a.toNat,by omega⟩
    obtain⟨w,hw⟩:=get_of_lt (l:=P.consts) (i:=m) (by omega)
    have h3:m<P.consts.length:=lt_of_get hw
    have hw3:∀ h,P.consts[m]'h=w:=fun h=>by rw[List.getElem?_eq_getElem h] at hw;exact Option.some.inj hw
    refine pure_ex ip40 rfl ?_
    simp -implicitDefEqProofs [I40,hG,h21,hm,h3,hw,hw3]
   ·refine pure_ex ip40 rfl ?_
    simp -implicitDefEqProofs [I40,hG,h21,h1,h2]
  ·refine pure_ex ip40 rfl ?_
   simp -implicitDefEqProofs [I40,hG,h21,h1]
 by_cases h29:x.op=29
 ·by_cases h1:0≤x.a
  ·by_cases h2:x.a<P.funcs.length
   ·obtain⟨m,hm⟩:∃ m:Nat,x.a=m:=⟨x.a.toNat,by omega⟩
    obtain⟨w,hw⟩:=get_of_lt (l:=P.funcs) (i:=m) (by omega)
    have h3:m<P.funcs.length:=lt_of_get hw
    have hw3:∀ h,P.funcs[m]'h=w:=fun h=>by rw[List.getElem?_eq_getElem h] at hw;exact Option.some.inj hw
    refine pure_ex ip40 rfl ?_
    simp -implicitDefEqProofs [I40,hG,h29,hm,h3,hw,hw3]
   ·refine pure_ex ip40 rfl ?_
    simp -implicitDefEqProofs [I40,hG,h29,h1,h2]
  ·refine pure_ex ip40 rfl ?_
   simp -implicitDefEqProofs [I40,hG,h29,h1]
 refine pure_ex ip40 rfl ?_
 simp -implicitDefEqProofs [I40,hG,h21,h29]
 repeat' ((first|refine guard_intro ?_ ?_|refine test_intro ?_ ?_)<;>intro h<;>(try simp -implicitDefEqProofs [h,hG,h21,h29]))
end
end Go.Proofs.Ytllfklgliaoojaa
namespace Go.Proofs.Ytllfklgliaoojaa
open Go Go.RI
def Aw(lo:Nat)(lv:AVal)(id:Nat):Prop:=lo≤id∧∀ j m c,lv=.sl j 0 m c→id≠j
structure LookI (lo b r n:Nat) (pl:List Plc) (lf:List Int) (odd:Bool) (lv:AVal) (cs:List AVal) (H:AHeap):Prop where
 gB:H.get b=some (.cells [.sl r 0 n (some n),lv,.b odd] 1 false)
 gR:H.get r=some (.cells cs 3 false)
 len:pl.length=n
 nx:lo≤H.next
 lt:b<lo∧r<lo∧b≠r
 plc:Plcs H (Aw lo lv) cs pl
 lft:Lf H lo lv lf
theorem trV_snap{H:AHeap}{P:Nat→Prop}{v:AVal}{l:List Hnd}{k:Nat}(h:TrV H P v l):∃ t,snapV H (k+2) v=some (.fs t false l.length (encs l)):=by
 rcases h with⟨rfl,rfl⟩|⟨id,a,c,rfl,ha,_,_,h3,h4,h5⟩
 ·exact⟨false,rfl⟩
 ·by_cases h0:l.length=0
  ·have:l=[]:=List.eq_nil_of_length_eq_zero h0
   subst this
   exact⟨false,by simp -implicitDefEqProofs [snapV]⟩
  ·have hc:capOk l.length a=true:=by
    rcases ha with rfl|⟨m,rfl,hm⟩
    ·rfl
    ·simp -implicitDefEqProofs [capOk,hm]
   have hr:rowO H id 0 l.length=some (encs l):=by simp -implicitDefEqProofs [rowO,h3,h4,h5]
   have hs:mapO (snapV H (k+1)) (encs l)=some (encs l):=snap_encs
   refine⟨true,?_⟩
   show(if l.length=0 then _ else _)=_
   rw[if_neg h0,hc]
   simp only[if_true,hr]
   show(mapO (snapV H (k+1)) (encs l)).map _=_
   rw[hs];rfl
section
variable {G:AHeap} (hG:G.next=1)
include hG
theorem t_neqT(a b:List Hnd)(ha:a.length<1099511627776)(hb:b.length<1099511627776)(t1 t2:Bool):∃ v,pureR IP G 39 [.fs t1 false a.length (encs a),.fs t2 false b.length (encs b)]=some v∧IsB v:=by
 by_cases hl:a.length=b.length
 ·refine pure_ex ip39 rfl ?_
  simp -implicitDefEqProofs [I39,hG,hl]
  refine wp_loop_list (l:=a) (by omega) (fun i todo e H=>e=[(0,.fs t1 false b.length (encs a)),(1,.fs t2 false b.length (encs b)),(12,.i .i64 b.length),(13,.i .i64 i)]∧H=G) ?_ ?_ ?_
  ·rintro i x todo e H hx hd hlt hlt2 hlt3 ⟨rfl,rfl⟩
   obtain⟨y,hy⟩:=get_of_lt (l:=b) (i:=i) (by omega)
   have hlt4:(i:Int)<(b.length:Int):=by omega
   clear hlt
   simp -implicitDefEqProofs [L39a,hlt2,hlt3,hlt4,hx,hy]
   refine test_intro ?_ ?_<;>intro h2<;>simp -implicitDefEqProofs [hlt3,hG]
  ·rintro e H ⟨rfl,rfl⟩
   simp -implicitDefEqProofs [L39a,hl,hG]
  ·simp -implicitDefEqProofs [hG,hl]
 ·have hl2:¬(a.length:Int)=b.length:=by omega
  refine pure_ex ip39 rfl ?_
  simp -implicitDefEqProofs [I39,hG,hl,hl2]
end
end Go.Proofs.Ytllfklgliaoojaa
namespace Go.Proofs.Ytllfklgliaoojaa
open Go Go.RI
def ComeR(lo b r n:Nat)(pl:List Plc)(lf:List Int)(odd:Bool)(lv:AVal)(at_:Int)(tr:List Hnd)(H:AHeap)(v:AVal)(H':AHeap):Prop :=
 v=.tu []∧∃ pl' lf' odd' lv' cs',LookI lo b r n pl' lf' odd' lv' cs' H'∧(odd'=false→odd=false∧Came pl lf at_.toNat pl' lf')∧lf'.length≤lf.length+1∧H.next≤H'.next∧(∀ id,id<H.next→id≠b→id≠r→(∀ j m c,lv=.sl j 0 m c→id≠j)→H'.get id=H.get id)∧(lv'=lv∨∃ j m c,lv'=.sl j 0 m c∧H.next≤j)∧(∀ p∈pl',p∈pl∨p.tries=tr)∧(odd'=true→odd=false→lf'=lf∧pl'=pl)
theorem slT{lo:Nat}{call:CallI}{H:AHeap}{P:Nat→Prop}{v:AVal}{l:List Hnd}(h:TrV H P v l):∃ v',slR 2 H (some v) (some none) (some (some l.length)) (some (some l.length))=some (some v',H)∧TrS H P v' l:=by
 rcases h with⟨rfl,rfl⟩|⟨id,a,c,rfl,ha,h1,h2,h3,h4,h5⟩
 ·exact⟨.ns,by simp -implicitDefEqProofs [slR,slV],.inl ⟨rfl,rfl⟩⟩
 ·refine⟨.sl id 0 l.length (some l.length),?_,.inr ⟨id,c,rfl,h1,h2,h3,h4,h5⟩⟩
  rcases ha with rfl|⟨m,rfl,hm⟩
  ·simp -implicitDefEqProofs [slR,slV]
  ·simp -implicitDefEqProofs [slR,slV,hm]
section
variable {G:AHeap} (hG:G.next=1)
include hG
set_option maxHeartbeats 1000000 in
theorem t_come{lo b r n c0:Nat}{pl:List Plc}{lf:List Int}{odd:Bool}{lv:AVal}{cs:List AVal}{H:AHeap}(hI:LookI lo b r n pl lf odd lv cs H)(hc0:c0≤b∧c0≤r∧c0≤lo)(hn:n<100000)(hlf:lf.length<900000)(at_:Int)(h0:0≤at_)(ht:Int)(tv:AVal)(tr:List Hnd)(hT:TrV H (Aw lo lv) tv tr)(htr:tr.length<1000000)(hpt:∀ p∈pl,p.tries.length<1000000) :
    ∃ v H',theCalls IP G c0 31 [.p b 0,.i .i64 at_,.i .i64 ht,tv] H=some (v,H')∧ComeR lo b r n pl lf odd lv at_ tr H v H':=by
  obtain⟨gB,gR,len,nx,⟨lt1,lt2,lt3⟩,plc,lft⟩:=hI
  have plv:∀ id m c,lv=.sl id 0 m c→lo≤id:=fun id m c h=>(lf_lt lft id m c h).1
  have oddR:∀ x:Bool,LookI lo b r n pl lf x lv cs (H.put b (some (.cells [.sl r 0 n (some n),lv,.b x] 1 false))):=fun x =>
    { gB:=by simp,gR:=by simp -implicitDefEqProofs [show ¬ r=b by omega];exact gR,len:=len,nx:=by simpa using nx,lt:=⟨lt1,lt2,lt3⟩,plc:=plcs_keep (by simp) (fun id h1 h2=>⟨by simp -implicitDefEqProofs [show ¬ id=b by have:=h1.1;omega],h1⟩) _ _ plc,lft:=lf_keep lft (by simp) fun id m c h=>by have:=plv id m c h;simp -implicitDefEqProofs [show ¬ id=b by omega]}
  have oddF:∀(x:Bool) id,id<H.next→id≠b→(H.put b (some (.cells [.sl r 0 n (some n),lv,.b x] 1 false))).get id=H.get id:=fun x id _ h=>by simp -implicitDefEqProofs [h]
  by_cases h1:(n:Int)≤at_
  · refine calls_nil_of ip31 rfl rfl ?_
    simp -implicitDefEqProofs [I31,gB,h1,hc0.1]
    exact⟨rfl,pl,lf,true,lv,cs,oddR true,(fun h=>by cases h),(by omega),(by simp),(fun id h2 h3 _ _=>oddF true id h2 h3),.inl rfl,(fun p h=>.inl h),fun _ _=>⟨rfl,rfl⟩⟩
  by_cases h2:(32:Int)<ht
  · refine calls_nil_of ip31 rfl rfl ?_
    simp -implicitDefEqProofs [I31,gB,h1,h2,hc0.1]
    exact⟨rfl,pl,lf,true,lv,cs,oddR true,(fun h=>by cases h),(by omega),(by simp),(fun id h2 h3 _ _=>oddF true id h2 h3),.inl rfl,(fun p h=>.inl h),fun _ _=>⟨rfl,rfl⟩⟩
  obtain⟨a,rfl⟩:∃ a:Nat,at_=a:=⟨at_.toNat,by omega⟩
  have han:a<n:=by omega
  have han2:(a:Int)<(n:Int):=by omega
  have han3:¬ n≤a:=by omega
  obtain⟨p,hp⟩:=get_of_lt (l:=pl) (i:=a) (by omega)
  obtain⟨pv,p1,p2,p3,p4,pT⟩:=plcs_get _ _ plc a p hp
  have pl3:=plcs_len _ _ plc
  have hrc:rch pl a=p.reached:=by unfold rch;rw[hp];rfl
  cases hre:p.reached with
  | true =>
    rw[hre] at p2
    obtain⟨u1,s1⟩:=trV_snap (k:=14) (trS_V pT)
    obtain⟨u2,s2⟩:=trV_snap (k:=14) hT
    obtain⟨v,c1,eb,rfl⟩:=t_neqT hG p.tries tr (by have:=hpt p (List.mem_of_getElem? hp);omega) (by omega) u1 u2
    have fin:∀ x:Bool,(x=false→odd=false)→ComeR lo b r n pl lf odd lv (a:Int) tr H (.tu []) (H.put b (some (.cells [.sl r 0 n (some n),lv,.b x] 1 false))):=fun x hx=>⟨rfl,pl,lf,x,lv,cs,oddR x,(fun h=>⟨hx h,(by simp;omega),.inl ⟨(by rw[Int.toNat_natCast,hrc,hre]),rfl,rfl⟩⟩),(by omega),(by simp),(fun id h2 h3 _ _=>oddF x id h2 h3),.inl rfl,(fun p h=>.inl h),fun _ _=>⟨rfl,rfl⟩⟩
    cases odd with
    | true =>
      refine calls_nil_of ip31 rfl rfl ?_
      simp -implicitDefEqProofs [I31,gB,gR,h1,h2,han,han2,han3,p2,hc0.1]
      exact fin true (by simp)
    | false =>
      by_cases hh:p.height=ht
      · refine calls_nil_of ip31 rfl rfl ?_
        simp -implicitDefEqProofs [I31,gB,gR,h1,h2,han,han2,han3,p2,p3,p4,hc0.1,hh,s1,s2,c1]
        exact fin _ (by simp)
      · refine calls_nil_of ip31 rfl rfl ?_
        simp -implicitDefEqProofs [I31,gB,gR,h1,h2,han,han2,han3,p2,p3,p4,hc0.1,hh]
        exact fin _ (by simp)
  | false =>
    rw[hre] at p2
    obtain⟨tv',hsl,hT'⟩:=slT (lo:=0) (call:=theCalls IP G c0) hT
    have htl:=trV_len hT
    obtain⟨o1,o2⟩:=trV_one (trS_V hT')
    have l3:a*3+3≤cs.length:=by omega
    refine calls_nil_of ip31 rfl rfl ?_
    simp -implicitDefEqProofs [I31,gB,gR,h1,h2,han,han2,han3,p2,hc0.1,hc0.2.1,htl,hsl,o1,o2,l3,lt3,Ne.symm lt3]
    obtain⟨cs2,hcs2⟩:∃ cs2,cs2=((cs.set (a*3) (AVal.b true)).set (a*3+1) (AVal.i IntKind.i64 ht)).set (a*3+1+1) tv':=⟨_,rfl⟩
    rw[←hcs2]
    have hset:Plcs H (Aw lo lv) cs2 (pl.set a ⟨true,ht,tr⟩):=by
      rw[hcs2]
      simpa using plcs_set (q:=⟨true,ht,tr⟩) hT' pl cs a plc (by omega)
    obtain⟨H1,hH1⟩:∃ H1,H1=(H.put r (some (.cells cs2 3 false))).push (.cells [.i .i64 a] 1 false):=⟨_,rfl⟩
    rw[←hH1]
    have n1:H1.next=H.next+1:=by simp -implicitDefEqProofs [hH1]
    have g1:∀ id,id<H.next→id≠r→H1.get id=H.get id:=fun id h3 h4=>by rw[hH1,get_push_lt (by simpa using h3)];simp -implicitDefEqProofs [h4]
    have g2:H1.get r=some (.cells cs2 3 false):=by rw[hH1,get_push_lt (by simp;omega)];simp
    have g3:H1.get H.next=some (.cells [.i .i64 a] 1 false):=by rw[hH1];simp
    refine step_lf (lo':=lo) (lf_keep lft (by omega) fun id m c h=>g1 id (lf_lt lft id m c h).2 (by have:=plv id m c h;omega)) hc0.2.2 (by omega) g3 (by omega) fun H2 n2 L2 F2=>?_
    rw[n1] at n2 L2
    have fr:∀ id,id<H.next→id≠r→(∀ j m c,lv=.sl j 0 m c→id≠j)→H2.get id=H.get id:=fun id h3 h4 h5=>(F2 id (by omega) h5).trans (g1 id h3 h4)
    have gb2:H2.get b=some (.cells [.sl r 0 n (some n),lv,.b odd] 1 false):=(fr b (by omega) lt3 fun j m c h=>by have:=plv j m c h;omega).trans gB
    have gr2:H2.get r=some (.cells cs2 3 false):=(F2 r (by omega) fun j m c h=>by have:=plv j m c h;omega).trans g2
    rw[n1]
    simp -implicitDefEqProofs [gb2,hc0.1]
    refine⟨rfl,pl.set a ⟨true,ht,tr⟩,lf++[(a:Int)],odd,.sl (H.next+1) 0 (lf.length+1) none,cs2,?_,(fun h=>⟨h,(by simp;omega),.inr ⟨(by rw[Int.toNat_natCast,hrc,hre]),⟨true,ht,tr⟩,rfl,by simp,by simp⟩⟩),(by simp),(by simp;omega),?_,.inr ⟨_,_,_,rfl,(by omega)⟩,(fun p h=>?_),fun h1 h2=>by rw[h2] at h1;cases h1⟩
    · refine{ gB:=by simp,gR:=by simp -implicitDefEqProofs [Ne.symm lt3];exact gr2,len:=by simpa using len,nx:=by simp;omega,lt:=⟨lt1,lt2,lt3⟩,plc:=?_,lft:=?_ }
      · refine plcs_keep (by simp;omega) (fun id h3 h4=>?_) _ _ hset
        have h5:id≠b:=by have:=h3.1;omega
        have h6:id≠r:=by have:=h3.1;omega
        refine⟨by simp -implicitDefEqProofs [h5];exact fr id h4 h6 h3.2,h3.1,fun j m c h=>by cases h;omega⟩
      · refine lf_keep L2 (by simp) fun id m c h=>?_
        cases h
        simp -implicitDefEqProofs [show ¬ H.next+1=b by omega]
    · intro id h3 h4 h5 h6
      simp -implicitDefEqProofs [h4]
      exact fr id h3 h5 h6
    · rcases List.mem_or_eq_of_mem_set h with h|h
      · exact .inl h
      · exact .inr (by rw[h])
end
end Go.Proofs.Ytllfklgliaoojaa
namespace Go.Proofs.Ytllfklgliaoojaa
open Go Go.RI
theorem looki_keep{lo b r n:Nat}{pl:List Plc}{lf:List Int}{odd:Bool}{lv:AVal}{cs:List AVal}{H H':AHeap}(h:LookI lo b r n pl lf odd lv cs H)(hn:H.next≤H'.next)(hg:∀ id,id<H.next→H'.get id=H.get id):LookI lo b r n pl lf odd lv cs H':=by
 obtain⟨gB,gR,len,nx,⟨lt1,lt2,lt3⟩,plc,lft⟩:=h
 exact{ gB:=(hg b (by omega)).trans gB,gR:=(hg r (by omega)).trans gR,len:=len,nx:=by omega,lt:=⟨lt1,lt2,lt3⟩,plc:=plcs_keep hn (fun id h1 h2=>⟨hg id h2,h1⟩) _ _ plc,lft:=lf_keep lft hn fun id m c h=>hg id (lf_lt lft id m c h).2 }
theorem looki_odd{lo b r n:Nat}{pl:List Plc}{lf:List Int}{odd:Bool}{lv:AVal}{cs:List AVal}{H:AHeap}(h:LookI lo b r n pl lf odd lv cs H)(x:Bool):LookI lo b r n pl lf x lv cs (H.put b (some (.cells [.sl r 0 n (some n),lv,.b x] 1 false))):=by
 obtain⟨gB,gR,len,nx,⟨lt1,lt2,lt3⟩,plc,lft⟩:=h
 have plv:∀ id m c,lv=.sl id 0 m c→lo≤id:=fun id m c h=>(lf_lt lft id m c h).1
 exact{ gB:=by simp,gR:=by simp -implicitDefEqProofs [show ¬ r=b by omega];exact gR,len:=len,nx:=by simpa using nx,lt:=⟨lt1,lt2,lt3⟩,plc:=plcs_keep (by simp) (fun id h1 h2=>⟨by simp -implicitDefEqProofs [show ¬ id=b by have:=h1.1;omega],h1⟩) _ _ plc,lft:=lf_keep lft (by simp) fun id m c h=>by have:=plv id m c h;simp -implicitDefEqProofs [show ¬ id=b by omega]}
theorem slD{H:AHeap}{P:Nat→Prop}{v:AVal}{l:List Hnd}(h:TrS H P v l)(h0:l≠[]):∃ v',slR 2 H (some v) (some none) (some (some (l.length-1))) (some none)=some (some v',H)∧TrV H P v' l.dropLast:=by
 rcases h with⟨rfl,rfl⟩|⟨id,c,rfl,h1,h2,h3,h4,h5⟩
 ·exact absurd rfl h0
 ·have hl:0<l.length:=List.length_pos_iff.2 h0
  refine⟨.sl id 0 (l.length-1) (some l.length),?_,.inr ⟨id,some l.length,c,?_,.inr ⟨_,rfl,by simp⟩,h1,h2,h3,?_,?_⟩⟩
  ·simp -implicitDefEqProofs [slR,slV]
  ·simp
  ·simp;omega
  ·have e2:c.take (l.dropLast.length*2)=(encs l).take (l.dropLast.length*2):=by
    rw[←h5,List.take_take,Nat.min_eq_left (by simp;omega)]
   rw[e2]
   have e3:encs l=encs l.dropLast++encs [l.getLast h0]:=by
    rw[←encs_append,List.dropLast_concat_getLast h0]
   rw[e3,List.take_append_of_le_length (by simp),List.take_of_length_le (by simp)]
theorem come_use{lo b r n:Nat}{pl:List Plc}{lf:List Int}{odd:Bool}{lv:AVal}{at_:Int}{tr:List Hnd}{H:AHeap}{v:AVal}{H':AHeap}(h:ComeR lo b r n pl lf odd lv at_ tr H v H') :
  v=.tu []∧∃ pl' lf' odd' lv' cs',LookI lo b r n pl' lf' odd' lv' cs' H'∧(odd'=false→odd=false∧Came pl lf at_.toNat pl' lf')∧lf'.length≤lf.length+1∧H.next≤H'.next∧(∀ id,id<H.next→id≠b→id≠r→(∀ j m c,lv=.sl j 0 m c→id≠j)→H'.get id=H.get id)∧(∀ id,Aw lo lv id→id<H.next→H'.get id=H.get id∧Aw lo lv' id)∧∀ p∈pl',p∈pl∨p.tries=tr:=by
 obtain⟨rfl,pl',lf',odd',lv',cs',hI,h1,h2,h3,h4,h5,h6,_⟩:=h
 have lt:=hI.lt
 refine⟨rfl,pl',lf',odd',lv',cs',hI,h1,h2,h3,h4,fun id h7 h8=>⟨h4 id h8 (by have:=h7.1;omega) (by have:=h7.1;omega) h7.2,h7.1,?_⟩,h6⟩
 rcases h5 with rfl|⟨j,m,c,rfl,h5⟩
 ·exact h7.2
 ·intro j' m' c' h
  cases h
  omega
def StepR(lo b r n:Nat)(pl:List Plc)(lf:List Int)(odd:Bool)(l:List Nat)(H:AHeap)(v:AVal)(H':AHeap):Prop :=
 v=.tu []∧∃ pl' lf' odd' lv' cs',LookI lo b r n pl' lf' odd' lv' cs' H'∧(odd'=false→odd=false∧CameAll pl lf l pl' lf'∧∀ p∈pl',p.tries.length≤8)∧lf'.length≤lf.length+2∧H.next≤H'.next∧(∀ id,id<lo→id≠b→id≠r→H'.get id=H.get id)
def fstI:ICode→ICode
 | .seq a _=>a
 | c=>c
def sndI:ICode→ICode
 | .seq _ b=>b
 | c=>c
def vT:ICode:=sndI (sndI I32.body)
def vU:ICode:=sndI (sndI (sndI (sndI vT)))
theorem vT_eq:I32.body=.seq (fstI I32.body) (.seq (fstI (sndI I32.body)) vT):=rfl
theorem vU_eq:vT=.seq (fstI vT) (.seq (fstI (sndI vT)) (.seq (fstI (sndI (sndI vT))) (.seq (fstI (sndI (sndI (sndI vT)))) vU))):=rfl
theorem stepR_mono{lo b r n:Nat}{pl:List Plc}{lf:List Int}{o1 o2:Bool}{l:List Nat}{H:AHeap}{v:AVal}{H':AHeap}(h:StepR lo b r n pl lf o1 l H v H')(ho:o1=false→o2=false):StepR lo b r n pl lf o2 l H v H':=by
 obtain⟨h1,pl',lf',odd',lv',cs',hI,h2,h3⟩:=h
 exact⟨h1,pl',lf',odd',lv',cs',hI,fun h=>⟨ho (h2 h).1,(h2 h).2⟩,h3⟩
section
variable {G:AHeap} (hG:G.next=1)
include hG
theorem t_vlast{lo b r n c0:Nat}{pl pl1:List Plc}{lf lf1:List Int}{odd odd1:Bool}{lv1:AVal}{cs1:List AVal}{H0 H1:AHeap}(hI:LookI lo b r n pl1 lf1 odd1 lv1 cs1 H1)(hc0:c0≤b∧c0≤r∧c0≤lo)(hn:n<100000)(hlf:lf.length<800000)(h1:lf1.length≤lf.length+1)(hpt:∀ p∈pl1,p.tries.length≤9)(hH0:H0.next≤H1.next∧∀ id,id<lo→id≠b→id≠r→H1.get id=H0.get id)(a:Nat)(ht:Int)(tv:AVal)(tr:List Hnd)(hT:TrV H1 (Aw lo lv1) tv tr)(htr:tr.length≤9)(l:List Nat)
  (ho:odd1=false→odd=false∧(∀ pl2 lf2,Came pl1 lf1 (a+1) pl2 lf2→CameAll pl lf l pl2 lf2)∧(∀ p∈pl1,p.tries.length≤8)∧tr.length≤8) :
  ∃ v H2,theCalls IP G c0 31 [.p b 0,.i .i64 ((a:Int)+1),.i .i64 ht,tv] H1=some (v,H2)∧StepR lo b r n pl lf odd l H0 (.tu []) H2:=by
 have plv:∀ id m c,lv1=.sl id 0 m c→lo≤id:=fun id m c h=>(lf_lt hI.lft id m c h).1
 obtain⟨v,H2,c1,r1⟩:=t_come hG hI hc0 hn (by omega) ((a:Int)+1) (by omega) ht tv tr hT (by omega) fun p h=>by have:=hpt p h;omega
 obtain⟨rfl,pl',lf',odd',lv',cs',hI1,s1,s2,s3,s4,s5,s6⟩:=come_use r1
 refine⟨_,H2,c1,rfl,pl',lf',odd',lv',cs',hI1,(fun h=>?_),(by omega),(by have:=hH0.1;omega),fun id h3 h4 h5=>?_⟩
 ·obtain⟨h2,h3⟩:=s1 h
  obtain⟨k1,k2,k3,k4⟩:=ho h2
  refine⟨k1,k2 _ _ (by rw[show((a:Int)+1).toNat=a+1 by omega] at h3;exact h3),fun p hp=>?_⟩
  rcases s6 p hp with h3|h3
  ·exact k3 p h3
  ·rw[h3];exact k4
 ·exact(s4 id (by have:=hI.nx;omega) h4 h5 fun j m c h=>by have:=plv j m c h;omega).trans (hH0.2 id h3 h4 h5)
set_option maxHeartbeats 2000000 in
theorem t_vswitch{lo b r n c0:Nat}{pl:List Plc}{lf:List Int}{odd:Bool}{lv:AVal}{cs:List AVal}{H H0:AHeap}(hI:LookI lo b r n pl lf odd lv cs H)(hc0:c0≤b∧c0≤r∧c0≤lo)(hn:n<100000)(hlf:lf.length<800000)(hpt:∀ p∈pl,p.tries.length≤8)(x:Ins3)(a:Nat)(ha:a<n)(hA:x.op=24∨x.op=25∨x.op=26→0≤x.a)
  (hH0:H0.next≤H.next∧∀ id,id<lo→id≠b→id≠r→H.get id=H0.get id) (xb:Nat) (gx:H.get xb=some (.cells (Enc.cells x) 1 false)) (hx1:Aw lo lv xb) (hx2:xb<H.next) (ht:Int) (tv:AVal) (tr:List Hnd) (hT:TrS H (Aw lo lv) tv tr) (htr:tr.length≤8) :
  wp (theCalls IP G c0) c0 vU (fin [] (StepR lo b r n pl lf odd (aims x a) H0)) [(0,.p b 0),(3,.i .i64 a),(6,.p xb 0),(11,.i .i64 ht),(12,tv)] H:=by
 have plv:∀ id m c,lv=.sl id 0 m c→lo≤id:=fun id m c h=>(lf_lt hI.lft id m c h).1
 have lt:=hI.lt
 simp at gx
 have w1:wrapI .i64 ((a:Int)+1)=(a:Int)+1:=wrap_ok (by omega) (by omega)
 by_cases e1:x.op=28∨x.op=30
 ·have ea:aims x a=[]:=by unfold aims;rw[if_pos e1]
  have e2:(x.op=28)=True∨((x.op=28)=False∧(x.op=30)=True):=by
   rcases e1 with e1|e1<;>simp -implicitDefEqProofs [e1]
  have fin_:StepR lo b r n pl lf odd [] H0 (.tu []) H:=⟨rfl,pl,lf,odd,lv,cs,hI,(fun h=>⟨h,.nil,hpt⟩),(by omega),hH0.1,hH0.2⟩
  rw[ea]
  rcases e2 with e2|⟨e2,e3⟩
  ·simp -implicitDefEqProofs [vU,vT,sndI,I32,gx,e2]
   exact fin_
  ·simp -implicitDefEqProofs [vU,vT,sndI,I32,gx,e2,e3]
   exact fin_
 have f28:¬ x.op=28:=fun h=>e1 (.inl h)
 have f30:¬ x.op=30:=fun h=>e1 (.inr h)
 by_cases f24:x.op=24
 ·have ea:aims x a=[x.a.toNat]:=by unfold aims;rw[if_neg e1,if_pos f24]
  rw[ea]
  obtain⟨v,H1,c1,r1⟩:=t_come hG hI hc0 hn (by omega) x.a (hA (.inl f24)) ht tv tr (trS_V hT) (by omega) fun p h=>by have:=hpt p h;omega
  obtain⟨rfl,pl',lf',odd',lv',cs',hI1,s1,s2,s3,s4,s5,s6⟩:=come_use r1
  simp -implicitDefEqProofs [vU,vT,sndI,I32,gx,f28,f30,f24,c1]
  refine⟨rfl,pl',lf',odd',lv',cs',hI1,(fun h=>?_),(by omega),(by have:=hH0.1;omega),fun id h1 h2 h3=>?_⟩
  ·obtain⟨h1,h2⟩:=s1 h
   refine⟨h1,.cons h2 .nil,fun p hp=>?_⟩
   rcases s6 p hp with h3|h3
   ·exact hpt p h3
   ·rw[h3];exact htr
  ·exact(s4 id (by have:=hI.nx;omega) h2 h3 fun j m c h=>by have:=plv j m c h;omega).trans (hH0.2 id h1 h2 h3)
 by_cases f25:x.op=25
 ·have ea:aims x a=[x.a.toNat,a+1]:=by unfold aims;rw[if_neg e1,if_neg f24,if_pos (.inl f25)]
  rw[ea]
  obtain⟨v,H1,c1,r1⟩:=t_come hG hI hc0 hn (by omega) x.a (hA (.inr (.inl f25))) ht tv tr (trS_V hT) (by omega) fun p h=>by have:=hpt p h;omega
  obtain⟨rfl,pl',lf',odd',lv',cs',hI1,s1,s2,s3,s4,s5,s6⟩:=come_use r1
  have hp1:∀ p∈pl',p.tries.length≤8:=fun p hp=>by
   rcases s6 p hp with h3|h3
   ·exact hpt p h3
   ·rw[h3];exact htr
  obtain⟨v,H2,c2,r2⟩:=t_vlast (pl:=pl) (lf:=lf) (odd:=odd) (H0:=H0) hG hI1 hc0 hn hlf s2 (fun p hp=>by have:=hp1 p hp;omega) ⟨by have:=hH0.1;omega,fun id h1 h2 h3=>(s4 id (by have:=hI.nx;omega) h2 h3 fun j m c h=>by have:=plv j m c h;omega).trans (hH0.2 id h1 h2 h3)⟩ a ht tv tr (trS_V (trS_keep hT s3 s5)) (by omega) [x.a.toNat,a+1] fun h=>⟨(s1 h).1,fun pl2 lf2 h2=>.cons (s1 h).2 (.cons h2 .nil),hp1,htr⟩
  simp -implicitDefEqProofs [vU,vT,sndI,I32,gx,f28,f30,f24,f25,c1,c2,w1]
  exact r2
 by_cases f26:x.op=26
 ·have ea:aims x a=[x.a.toNat,a+1]:=by unfold aims;rw[if_neg e1,if_neg f24,if_pos (.inr f26)]
  rw[ea]
  have gB:=hI.gB
  have htl:=trV_len (trS_V hT)
  obtain⟨od,hod⟩:∃ od:Bool,od=(odd||decide (8≤tr.length)):=⟨_,rfl⟩
  have hIo:=looki_odd hI od
  generalize hHo:H.put b (some (.cells [.sl r 0 n (some n),lv,.b od] 1 false))=Ho at hIo
  have no:Ho.next=H.next:=by rw[←hHo];simp
  have go:∀ id,id≠b→Ho.get id=H.get id:=fun id h=>by rw[←hHo];simp -implicitDefEqProofs [h]
  have hTo:TrS Ho (Aw lo lv) tv tr:=trS_keep hT (by omega) fun id h1 h2=>⟨go id (by have:=h1.1;omega),h1⟩
  obtain⟨v,H1,c1,r1⟩:=t_come hG hIo hc0 hn (by omega) x.a (hA (.inr (.inr f26))) (wrapI .i64 (ht+1)) tv tr (trS_V hTo) (by omega) fun p h=>by have:=hpt p h;omega
  obtain⟨rfl,pl',lf',odd',lv',cs',hI1,s1,s2,s3,s4,s5,s6⟩:=come_use r1
  have hp1:∀ p∈pl',p.tries.length≤8:=fun p hp=>by
   rcases s6 p hp with h3|h3
   ·exact hpt p h3
   ·rw[h3];exact htr
  have hT1:=trS_keep hTo s3 s5
  have gx1:H1.get xb=H.get xb:=(s5 xb hx1 (by omega)).1.trans (go xb (by have:=hx1.1;omega))
  rw[gx] at gx1
  have gxo:Ho.get xb=H.get xb:=go xb (by have:=hx1.1;omega)
  rw[gx] at gxo
  have hos:od=false→odd=false∧tr.length+1≤8:=fun h=>by
   rw[h] at hod
   have:=hod.symm
   simp at this
   exact⟨this.1,by omega⟩
  have nxo:=hIo.nx
  have plv1:∀ id m c,lv'=.sl id 0 m c→id<H1.next:=fun id m c h=>(lf_lt hI1.lft id m c h).2
  have hb1:∀ H2:AHeap,(H1.push (.cells [.i .i64 x.a,.i .i64 ht] 2 false)).get H1.next=some (.cells (Enc.cells (⟨x.a,ht⟩:Hnd)) 2 false):=fun _=>by simp
  have hT2:TrS (H1.push (.cells [.i .i64 x.a,.i .i64 ht] 2 false)) (Aw lo lv') tv tr:=trS_keep hT1 (by simp) fun id h1 h2=>⟨get_push_lt h2,h1⟩
  cases odd
  case' false =>
   have hod2:od=decide ((8:Int)≤tr.length):=by rw[hod];simp;omega
   simp -implicitDefEqProofs [vU,vT,sndI,I32,gx,gB,f28,f30,f24,f25,f26,hc0.1,htl,←hod2,hHo,gxo,gx1,c1]
  case' true =>
   have hod2:od=true:=by rw[hod];simp
   rw[hod2] at hHo
   simp -implicitDefEqProofs [vU,vT,sndI,I32,gx,gB,f28,f30,f24,f25,f26,hc0.1,htl,hHo,gxo,gx1,c1]
  all_goals
   refine step_tr (lo':=0) (k:=⟨x.a,ht⟩) hT2 ⟨by simp;omega,fun j m c h=>by have:=plv1 j m c h;simp;omega⟩ (hb1 H1) (by omega) fun H3 n3 T3 F3=>?_
   have n4:H3.next=H1.next+1+1:=by rw[n3];simp
   have g3:∀ id,id<H1.next→H3.get id=H1.get id:=fun id h=>(F3 id (by simp;omega)).trans (get_push_lt h)
   have hI3:=looki_keep hI1 (by omega) g3
   obtain⟨v,H4,c4,r4⟩:=t_vlast (pl:=pl) (lf:=lf) (odd:=od) (H0:=H0) hG hI3 hc0 hn hlf s2 (fun p hp=>by have:=hp1 p hp;omega) ⟨by have:=hH0.1;omega,fun id h1 h2 h3=>((g3 id (by omega)).trans ((s4 id (by omega) h2 h3 fun j m c h=>by have:=plv j m c h;omega).trans (go id h2))).trans (hH0.2 id h1 h2 h3)⟩ a ht _ _ T3 (by simp;omega) [x.a.toNat,a+1] fun h=>⟨(s1 h).1,fun pl2 lf2 h2=>.cons (s1 h).2 (.cons h2 .nil),hp1,by have:=(hos (s1 h).1).2;simp;omega⟩
   simp at c4
   simp -implicitDefEqProofs [c4,w1]
   exact stepR_mono r4 fun h=>(hos h).1
 have gB:=hI.gB
 have htl:=trV_len (trS_V hT)
 by_cases f27:x.op=27
 ·have ea:aims x a=[a+1]:=by unfold aims;rw[if_neg e1,if_neg f24,if_neg (by omega)]
  rw[ea]
  by_cases h0:tr=[]
  ·have hl0:tr.length=0:=by rw[h0];rfl
   simp -implicitDefEqProofs [vU,vT,sndI,I32,gx,gB,f28,f30,f24,f25,f26,f27,hc0.1,htl,hl0,h0]
   exact⟨rfl,pl,lf,true,lv,cs,looki_odd hI true,(fun h=>by cases h),(by omega),(by simpa using hH0.1),fun id h1 h2 h3=>by simp -implicitDefEqProofs [h2];exact hH0.2 id h1 h2 h3⟩
  ·have hl0:0<tr.length:=List.length_pos_iff.2 h0
   have hl1:¬ tr.length=0:=by omega
   have w2:wrapI .i64 ((tr.length:Int)-1)=((tr.length-1:Nat):Int):=by rw[wrap_ok (by omega) (by omega)];omega
   obtain⟨tv',hsl,hT'⟩:=slD hT h0
   obtain⟨v,H2,c2,r2⟩:=t_vlast (pl:=pl) (lf:=lf) (odd:=odd) (H0:=H0) hG hI hc0 hn hlf (by omega) (fun p hp=>by have:=hpt p hp;omega) hH0 a ht tv' tr.dropLast hT' (by simp;omega) [a+1] fun h=>⟨h,fun pl2 lf2 h2=>.cons h2 .nil,hpt,by simp;omega⟩
   simp -implicitDefEqProofs [vU,vT,sndI,I32,gx,gB,f28,f30,f24,f25,f26,f27,hc0.1,htl,hl0,hl1,h0,w2,w1,hsl,c2]
   exact r2
 ·have ea:aims x a=[a+1]:=by unfold aims;rw[if_neg e1,if_neg f24,if_neg (by omega)]
  rw[ea]
  obtain⟨v,H2,c2,r2⟩:=t_vlast (pl:=pl) (lf:=lf) (odd:=odd) (H0:=H0) hG hI hc0 hn hlf (by omega) (fun p hp=>by have:=hpt p hp;omega) hH0 a ht tv tr (trS_V hT) (by omega) [a+1] fun h=>⟨h,fun pl2 lf2 h2=>.cons h2 .nil,hpt,by omega⟩
  simp -implicitDefEqProofs [vU,vT,sndI,I32,gx,gB,f28,f30,f24,f25,f26,f27,w1,c2]
  exact r2
end
end Go.Proofs.Ytllfklgliaoojaa
namespace Go.Proofs.Ytllfklgliaoojaa
open Go Go.RI
section
variable {G:AHeap} (hG:G.next=1)
include hG
set_option maxHeartbeats 1000000 in
theorem t_vstep{lo b r n c0:Nat}{pl:List Plc}{lf:List Int}{odd:Bool}{lv:AVal}{cs:List AVal}{H:AHeap}(hI:LookI lo b r n pl lf odd lv cs H)(hc0:c0≤b∧c0≤r∧c0≤lo)(hn:n<100000)(hlf:lf.length<800000)(hpt:∀ p∈pl,p.tries.length≤8)(P:Prg)(t1 t2:Bool)(x:Ins3)(a:Nat)(ha:a<n)(hA:x.op=24∨x.op=25∨x.op=26→0≤x.a) :
  ∃ v H',theCalls IP G c0 32 [.p b 0,.ag [.fs t1 false P.funcs.length (encs P.funcs),.fs t2 false P.consts.length (encs P.consts)],.ag (Enc.cells x),.i .i64 a] H=some (v,H')∧StepR lo b r n pl lf odd (aims x a) H v H':=by
 have hI0:=hI
 obtain⟨gB,gR,len,nx,⟨lt1,lt2,lt3⟩,plc,lft⟩:=hI0
 have plv:∀ id m c,lv=.sl id 0 m c→id<H.next:=fun id m c h=>(lf_lt lft id m c h).2
 obtain⟨p,hp⟩:=get_of_lt (l:=pl) (i:=a) (by omega)
 have hpm:=List.mem_of_getElem? hp
 obtain⟨pv,p1,p2,p3,p4,pT⟩:=plcs_get _ _ plc a p hp
 have pl3:=plcs_len _ _ plc
 obtain⟨mv,c1,off,on,rfl⟩:=t_moves hG P x t1 t2
 have htl:=trV_len (trS_V pT)
 obtain⟨o1,o2⟩:=trV_one (trS_V pT)
 have l3:a*3+3≤cs.length:=by omega
 have nb0:¬ b=H.next:=by omega
 have nb1:¬ b=H.next+1:=by omega
 have nb2:¬ b=H.next+1+1:=by omega
 have nr0:¬ r=H.next:=by omega
 have nr1:¬ r=H.next+1:=by omega
 have nr2:¬ r=H.next+1+1:=by omega
 have han2:(a:Int)<(n:Int):=by omega
 have nc2:c0≤H.next+1+1:=by omega
 refine calls_nil_of ip32 rfl rfl ?_
 rw[vT_eq]
 simp -implicitDefEqProofs [I32,fstI,sndI,gB,gR,ha,han2,p1,p2,p3,p4,l3,htl,o1,o2,nb0,nb1,nb2,nr0,nr1,nr2,nc2]
 generalize hH1:AHeap.put _ _ _=H1
 have n1:H1.next=H.next+1+1+1:=by rw[←hH1];simp
 have g0:H1.get H.next=some (.cells [.fs t1 false P.funcs.length (encs P.funcs),.fs t2 false P.consts.length (encs P.consts)] 1 false):=by rw[←hH1];simp -implicitDefEqProofs [show ¬ H.next=H.next+1+1 by omega]
 have g1:H1.get (H.next+1)=some (.cells [.i .i64 x.op,.i .i64 x.a,.i .i64 x.b] 1 false):=by rw[←hH1];simp
 have g2:H1.get (H.next+1+1)=some (.cells [.b p.reached,.i .i64 p.height,pv] 1 false):=by rw[←hH1];simp
 have gf:∀ id,id<H.next→H1.get id=H.get id:=fun id h=>by rw[←hH1];simp -implicitDefEqProofs [show ¬ id=H.next by omega,show ¬ id=H.next+1 by omega,show ¬ id=H.next+1+1 by omega]
 clear hH1
 have hI1:=looki_keep hI (by omega) gf
 have gB1:=hI1.gB
 have pT1:TrS H1 (Aw lo lv) pv p.tries:=trS_keep pT (by omega) fun id h1 h2=>⟨gf id h2,h1⟩
 have c1':=c1
 simp at c1'
 have oddF:StepR lo b r n pl lf odd (aims x a) H (.tu []) (H1.put b (some (.cells [.sl r 0 n (some n),lv,.b true] 1 false))):=⟨rfl,pl,lf,true,lv,cs,looki_odd hI1 true,(fun h=>by cases h),(by omega),(by simp;omega),fun id h1 h2 h3=>by simp -implicitDefEqProofs [h2];exact gf id (by omega)⟩
 rw[vU_eq]
 by_cases d1:p.height<off
 ·simp -implicitDefEqProofs [vT,fstI,sndI,I32,g0,g1,g2,gB1,c1',d1,hc0.1]
  exact oddF
 by_cases d2:32<wrapI .i64 (wrapI .i64 (p.height-off)+on)
 ·simp -implicitDefEqProofs [vT,fstI,sndI,I32,g0,g1,g2,gB1,c1',d1,d2,hc0.1]
  exact oddF
 have sw:wp (theCalls IP G c0) c0 vU (fin [] (StepR lo b r n pl lf odd (aims x a) H)) [(0,.p b 0),(3,.i .i64 a),(6,.p (H.next+1) 0),(11,.i .i64 (wrapI .i64 (wrapI .i64 (p.height-off)+on))),(12,pv)] H1 :=
  t_vswitch hG hI1 hc0 hn hlf hpt x a ha hA ⟨by omega,fun id h1 h2 h3=>gf id (by omega)⟩ (H.next+1) (by simpa using g1) ⟨by omega,fun j m c h=>by have:=plv j m c h;omega⟩ (by omega) _ pv p.tries pT1 (hpt p hpm)
 by_cases d3:p.tries=[]
 ·have hl0:p.tries.length=0:=by rw[d3];rfl
  have htl2:=trV_len (trS_V pT1)
  rw[hl0] at htl2
  simp -implicitDefEqProofs [vT,fstI,sndI,I32,g0,g1,g2,gB1,c1',d1,d2,hc0.1,htl2]
  exact sw
 ·have hl0:0<p.tries.length:=List.length_pos_iff.2 d3
  have htl2:=trV_len (trS_V pT1)
  have w2:wrapI .i64 ((p.tries.length:Int)-1)=((p.tries.length-1:Nat):Int):=by have:=hpt p hpm;rw[wrap_ok (by omega) (by omega)];omega
  have hlt3:p.tries.length-1<p.tries.length:=by omega
  obtain⟨k,hk⟩:=get_of_lt (l:=p.tries) (i:=p.tries.length-1) hlt3
  rcases pT1 with⟨_,h⟩|⟨id,c,rfl,k1,k2,k3,k4,k5⟩
  ·exact absurd h d3
  have kc:c[(p.tries.length-1)*2+1]?=some (.i .i64 k.height):=by
   have e1:(encs p.tries)[(p.tries.length-1)*2+1]?=c[(p.tries.length-1)*2+1]?:=by
    rw[←k5,List.getElem?_take_of_lt (by omega)]
   rw[←e1]
   have e2:(encs p.tries)[(p.tries.length-1)*2+1]?=(cellsO p.tries[p.tries.length-1]?)[1]?:=get_encs (α:=Hnd) (k:=1) (show 1<2 by decide)
   rw[e2,hk]
   rfl
  by_cases d4:wrapI .i64 (p.height-off)<k.height
  ·simp -implicitDefEqProofs [vT,fstI,sndI,I32,g0,g1,g2,gB1,c1',d1,d2,hc0.1,hl0,w2,hlt3,k3,kc,d4]
   exact oddF
  ·simp -implicitDefEqProofs [vT,fstI,sndI,I32,g0,g1,g2,gB1,c1',d1,d2,hc0.1,hl0,w2,hlt3,k3,kc,d4]
   exact sw
end
end Go.Proofs.Ytllfklgliaoojaa
namespace Go.Proofs.Ytllfklgliaoojaa
open Go Go.RI
def IsSB(v:AVal):Prop:=∃ s b,v=.tu [.s s,.b b]∧s.length<274877906944
theorem isSB_s{s:Str}{b:Bool}(h:s.length<274877906944):IsSB (.tu [.s s,.b b]):=⟨s,b,rfl,h⟩
section
variable {G:AHeap} (hG:G.next=1)
include hG
theorem t_ntext(P:Prg)(hP:okPrg P)(n:Int)(t1 t2:Bool):∃ v,pureR IP G 56 [.fp [.fs t1 false P.funcs.length (encs P.funcs),.fs t2 false P.consts.length (encs P.consts)],.i .i64 n]=some v∧IsSB v:=by
 by_cases h1:n<0
 ·refine pure_ex ip56 rfl ?_
  simp -implicitDefEqProofs [I56,hG,h1]
  exact isSB_s (by simp)
 by_cases h2:(P.consts.length:Int)≤n
 ·refine pure_ex ip56 rfl ?_
  simp -implicitDefEqProofs [I56,hG,h1,h2]
  exact isSB_s (by simp)
 obtain⟨m,rfl⟩:∃ m:Nat,n=m:=⟨n.toNat,by omega⟩
 obtain⟨v,hv⟩:=get_of_lt (l:=P.consts) (i:=m) (by omega)
 have hvm:=hP.2.2.2 v (List.mem_of_getElem? hv)
 rw[Val.bulk_eq] at hvm
 have hv3:∀ h,P.consts[m]'h=v:=fun h=>by rw[List.getElem?_eq_getElem h] at hv;exact Option.some.inj hv
 have h3:m<P.consts.length:=lt_of_get hv
 have h4:¬ P.consts.length≤m:=by omega
 have h5:(m:Int)<P.consts.length:=by omega
 refine pure_ex ip56 rfl ?_
 simp -implicitDefEqProofs [I56,hG,h1,h2,h3,h4,h5,hv,hv3]
 exact isSB_s (by omega)
theorem t_nname(s:Str)(hs:s.length<549755813888):∃ v,pureR IP G 36 [.s s]=some v∧IsB v:=by
 have c1:=t_check hG (.mk 5 0 [] [zeroVal] [s]) (by simp -implicitDefEqProofs [Val.bulk,bulkL,bulkS,zeroVal];omega) true true
 simp -implicitDefEqProofs [zeroVal] at c1
 refine pure_ex ip36 rfl ?_
 simp -implicitDefEqProofs [I36,hG,c1,repCells]
theorem t_nnamed(P:Prg)(hP:okPrg P)(n:Int)(t1 t2:Bool):∃ v,pureR IP G 55 [.fp [.fs t1 false P.funcs.length (encs P.funcs),.fs t2 false P.consts.length (encs P.consts)],.i .i64 n]=some v∧IsB v:=by
 obtain⟨v,c1,s,b,rfl,hs⟩:=t_ntext hG P hP n t1 t2
 obtain⟨v2,c2,b2,rfl⟩:=t_nname hG s (by omega)
 cases b
 ·refine pure_ex ip55 rfl ?_
  simp -implicitDefEqProofs [I55,hG,c1]
 ·refine pure_ex ip55 rfl ?_
  simp -implicitDefEqProofs [I55,hG,c1,c2]
theorem bulkS_map:∀ l:List Val,bulkS (l.map Val.s)≤bulkL l
  | []=>by simp -implicitDefEqProofs [bulkS,bulkL]
  | v::l=>by
    have:=bulkS_map l
    simp only[List.map_cons,bulkS,bulkL]
    rw[Val.bulk_eq]
    omega
theorem bulk_rep(n:Nat):bulkL (List.replicate n zeroVal)=n:=by
 induction n with
 | zero=>rfl
 | succ n ih=>rw[List.replicate_succ,bulkL,ih];simp -implicitDefEqProofs [zeroVal,Val.bulk,bulkL,bulkS];omega
set_option maxHeartbeats 1000000 in
theorem t_nrecord(v:Val)(hv:v.bulk<274877906944)(t1 t2:Bool):∃ r,pureR IP G 54 [.ag [.i .i64 v.kind,.i .i64 v.n,.s v.s,.fs t1 false v.l.length (encs v.l),.fs t2 false v.names.length (encs v.names)]]=some r∧IsB r:=by
 have hl:=bulkL_len v.l
 rw[Val.bulk_eq] at hv
 have hmk:(80:Int)*(v.l.length:Int)≤281474976710656:=by omega
 refine pure_ex ip54 rfl ?_
 simp -implicitDefEqProofs [I54,hG,hmk]
 refine wp_loop_list (l:=v.l) (by omega) (fun i todo e H=>e=[(1,.p 1 0),(3,.p 3 0),(12,.fs t1 false v.l.length (encs v.l)),(13,.i .i64 v.l.length),(14,.i .i64 i)]∧4≤H.next∧H.get 1=some (.cells [.i .i64 v.kind,.i .i64 v.n,.s v.s,.fs t1 false v.l.length (encs v.l),.fs t2 false v.names.length (encs v.names)] 1 false)∧H.get 2=some (.cells (repCells [.i .i64 0,.i .i64 0,.s [],.ns,.ns] v.l.length) 5 false)∧∃ nv,H.get 3=some (.cells [.i .i64 5,.i .i64 0,.s [],.sl 2 0 v.l.length (some v.l.length),nv] 1 false)∧Acc H 4 nv 1 i (encs ((v.l.take i).map Val.s))) ?_ ?_ ?_
 ·rintro i x todo e H hx hd hlt hlt2 hlt3 ⟨rfl,hn,g0,g1,nv,g2,hA⟩
  have n1:¬ 3=H.next:=by omega
  have n2:1≤H.next:=by omega
  clear hlt
  by_cases hk:x.kind=3
  ·simp -implicitDefEqProofs [L54a,hlt2,hlt3,hx,hk,g2,n1,n2]
   refine step_app (lo':=4) (acc_keep hA (by simp<;>omega) ?_) (m:=1) (ys:=[.s x.s]) (by omega) (by simp<;>omega) (more_lit (cs:=[.s x.s]) (e:=1) (ro:=false) (by simp) (by simp) (by omega)) (by simp) (by omega) (by omega) (by omega) (by omega) ?_
   ·intro id a b hv
    have:=acc_lt hA id a b hv
    simp -implicitDefEqProofs [show ¬ id=H.next by omega,show ¬ id=H.next+1 by omega]
   intro H2 hn2 hA2 hf2
   have f2:∀ id,id<4→H2.get id=H.get id:=fun id h=>by
    rw[hf2 id (by simp<;>omega) fun id0 n0 c0 hv=>by have:=acc_lt hA _ _ _ hv;omega]
    simp -implicitDefEqProofs [show ¬ id=H.next by omega,show ¬ id=H.next+1 by omega]
   have g22:=(f2 3 (by omega)).trans g2
   simp at hn2 hA2
   simp -implicitDefEqProofs [hlt3,g22]
   refine⟨by omega,(f2 _ (by omega)).trans g0,(f2 _ (by omega)).trans g1,?_⟩
   have:=acc_keep (H':=H2.put 3 (some (.cells [.i .i64 5,.i .i64 0,.s [],.sl 2 0 v.l.length (some v.l.length),.sl (H.next+1+1) 0 (i+1) none] 1 false))) hA2 (by simp) fun id a b hv=>by have:=acc_lt hA2 _ _ _ hv;simp -implicitDefEqProofs [show ¬ id=3 by omega]
   have e:encs ((v.l.take (i+1)).map Val.s)=encs ((v.l.take i).map Val.s)++[AVal.s x.s]:=by rw[List.take_add_one,hx];simp
   first
    | (rw[e];simpa using this)
    | (simp only[←List.map_take];rw[e];simpa using this)
  ·simp -implicitDefEqProofs [L54a,hlt2,hlt3,hx,hk,n2]
 ·rintro e H ⟨rfl,hn,g0,g1,nv,g2,hA⟩
  rw[List.take_length] at hA
  have s1:=acc_snap (k:=14) hA snap_encs
  have s2:=hold_snap (k:=14) (H:=H) (lo:=2) (v:=.sl 2 0 v.l.length (some v.l.length)) (esz:=5) (n:=v.l.length) (.inr ⟨2,some v.l.length,rfl,.inr rfl,Nat.le_refl _,by omega,g1,by rw[rep_len];rfl⟩) (snap_rep (k:=13) v.l.length)
  have hb2:(Val.mk 5 0 [] (List.replicate v.l.length zeroVal) (v.l.map Val.s)).bulk<1099511627776:=by
   rw[Val.bulk_eq]
   simp only[Val.s_mk,Val.l_mk,Val.names_mk,List.length_nil]
   rw[bulk_rep hG]
   have:=bulkS_map hG v.l
   omega
  have c1:=t_check hG (.mk 5 0 [] (List.replicate v.l.length zeroVal) (v.l.map Val.s)) hb2 (decide (0<v.l.length)) (decide (0<v.l.length))
  simp at s1 s2 c1
  by_cases hk:v.kind=4
  ·by_cases h8:(v.l.length:Int)≤8
   ·have h9:v.l.length≤8:=by omega
    simp -implicitDefEqProofs [L54a,g0,hk,h8,h9,g2,s1,s2,c1]
   ·have h9:¬ v.l.length≤8:=by omega
    simp -implicitDefEqProofs [L54a,g0,hk,h8,h9]
  ·simp -implicitDefEqProofs [L54a,g0,hk]
 ·exact⟨by simp,by simp -implicitDefEqProofs [hG],by simp -implicitDefEqProofs [hG],by simp -implicitDefEqProofs [hG],.ns,by simp -implicitDefEqProofs [hG],acc_none⟩
end
end Go.Proofs.Ytllfklgliaoojaa
namespace Go.Proofs.Ytllfklgliaoojaa
open Go Go.RI
section
variable {G:AHeap} (hG:G.next=1)
include hG
theorem t_svalue(P:Prg)(f:Fnc)(x:Ins3)(t1 t2 t3:Bool):∃ v,pureR IP G 42 [siteC P f x t1 t2 t3]=some v∧IsBP (0≤x.a∧x.a<P.consts.length) v:=by
 by_cases h1:0≤x.a
 all_goals
  refine pure_ex ip42 rfl ?_
  simp -implicitDefEqProofs [I42,siteC,hG,h1]
theorem t_slocal(P:Prg)(f:Fnc)(x:Ins3)(t1 t2 t3:Bool):∃ v,pureR IP G 43 [siteC P f x t1 t2 t3]=some v∧IsBP True v:=by
 by_cases h1:0≤x.a
 all_goals
  refine pure_ex ip43 rfl ?_
  simp -implicitDefEqProofs [I43,siteC,hG,h1]
theorem t_splace(P:Prg)(f:Fnc)(x:Ins3)(t1 t2 t3:Bool):∃ v,pureR IP G 48 [siteC P f x t1 t2 t3]=some v∧IsBP (0≤x.a∧x.a<f.code.length) v:=by
 by_cases h1:0≤x.a
 all_goals
  refine pure_ex ip48 rfl ?_
  simp -implicitDefEqProofs [I48,siteC,hG,h1]
theorem t_sfn(P:Prg)(f:Fnc)(x:Ins3)(t1 t2 t3:Bool):∃ v,pureR IP G 49 [siteC P f x t1 t2 t3]=some v∧IsBP True v:=by
 by_cases h1:0≤x.a
 all_goals
  refine pure_ex ip49 rfl ?_
  simp -implicitDefEqProofs [I49,siteC,hG,h1]
theorem t_scount(P:Prg)(f:Fnc)(x:Ins3)(t1 t2 t3:Bool):∃ v,pureR IP G 44 [siteC P f x t1 t2 t3]=some v∧IsBP True v:=by
 by_cases h1:0≤x.a
 all_goals
  refine pure_ex ip44 rfl ?_
  simp -implicitDefEqProofs [I44,siteC,hG,h1]
theorem t_snone(P:Prg)(f:Fnc)(x:Ins3)(t1 t2 t3:Bool):∃ v,pureR IP G 51 [siteC P f x t1 t2 t3]=some v∧IsBP True v:=by
 refine pure_ex ip51 rfl ?_
 simp -implicitDefEqProofs [I51,siteC,hG]
theorem t_sfield(P:Prg)(hP:okPrg P)(f:Fnc)(x:Ins3)(t1 t2 t3:Bool):∃ v,pureR IP G 46 [siteC P f x t1 t2 t3]=some v∧IsBP True v:=by
 obtain⟨v,c1,b,rfl⟩:=t_nnamed hG P hP x.a t1 t2
 refine pure_ex ip46 rfl ?_
 simp -implicitDefEqProofs [I46,siteC,hG,c1]
theorem t_styped(P:Prg)(hP:okPrg P)(f:Fnc)(x:Ins3)(t1 t2 t3:Bool):∃ v,pureR IP G 47 [siteC P f x t1 t2 t3]=some v∧IsBP True v:=by
 obtain⟨v,c1,s,b,rfl,hs⟩:=t_ntext hG P hP x.a t1 t2
 have c2:=t_fits_ hG s (by omega)
 cases b
 all_goals
  refine pure_ex ip47 rfl ?_
  simp -implicitDefEqProofs [I47,siteC,hG,c1,c2]
theorem t_sfields(P:Prg)(hP:okPrg P)(f:Fnc)(x:Ins3)(t1 t2 t3:Bool):∃ v,pureR IP G 45 [siteC P f x t1 t2 t3]=some v∧IsBP True v:=by
  obtain⟨v,c1,b,rfl,hb⟩:=t_svalue hG P f x t1 t2 t3
  cases b with
  | false =>
    simp only[siteC] at c1
    refine pure_ex ip45 rfl ?_
    simp -implicitDefEqProofs [I45,siteC,hG,c1]
  | true =>
    obtain⟨h1,h2⟩:=hb rfl
    obtain⟨m,hm⟩:∃ m:Nat,x.a=m:=⟨x.a.toNat,by omega⟩
    obtain⟨w,hw⟩:=get_of_lt (l:=P.consts) (i:=m) (by omega)
    obtain⟨r,c2,b2,rfl⟩:=t_nrecord hG w (hP.2.2.2 w (List.mem_of_getElem? hw)) false false
    have h3:m<P.consts.length:=lt_of_get hw
    have hw3:∀ h,P.consts[m]'h=w:=fun h=>by rw[List.getElem?_eq_getElem h] at hw;exact Option.some.inj hw
    simp only[siteC,hm] at c1
    refine pure_ex ip45 rfl ?_
    simp -implicitDefEqProofs [I45,siteC,hG,hm,c1,h3,hw,hw3,c2]
end
end Go.Proofs.Ytllfklgliaoojaa
namespace Go.Proofs.Ytllfklgliaoojaa
open Go Go.RI
section
variable {G:AHeap} (hG:G.next=1)
include hG
theorem t_nfind1(f:Fnc)(s:Str)(t1:Bool):pureR IP G 61 [.ag [.s f.name,.i .i64 f.args,.i .i64 f.locals,.fs t1 false f.code.length (encs f.code)],.fp [.s s]]=some (.b (f.name==s)):=by
 refine pure_run ip61 rfl ?_
 simp -implicitDefEqProofs [I61,hG]
theorem t_nidxF(g:Nat)(cap:List AVal)(p:Fnc→Bool)(hg:∀ lo l H,theCalls IP G lo g l H=given H ((snaps H l).bind (pureR IP G g)))(hcap:∀ H,mapO (snapV H 16) cap=some cap)(l:List Fnc)(hl:l.length<1099511627776)(hp:∀ f∈l,pureR IP G g (.ag (Enc.cells f)::cap)=some (.b (p f)))(t:Bool) :
  pureR IP G 34 [.fs t false l.length (encs l),.fn (.func g) [] cap]=some (.i .i64 (idxF p l 0)):=by
 have hcap':∀ H,mapO (snapV H 16) cap=some cap:=hcap
 simp only[snaps] at hg
 refine pure_run ip34 rfl ?_
 simp -implicitDefEqProofs [I34,hG]
 refine wp_loop_list (l:=l) (by omega) (fun i todo e H=>e=[(0,.fs t false l.length (encs l)),(1,.fn (.func g) [] cap),(7,.i .i64 l.length),(8,.i .i64 i)]∧H=G∧idxF p l 0=idxF p todo i) ?_ ?_ ?_
 ·rintro i x todo e H hx hd hlt hlt2 hlt3 ⟨rfl,rfl,hn⟩
  have cc:=hp x (List.mem_of_getElem? hx)
  simp at cc
  rw[idxF] at hn
  clear hlt
  simp -implicitDefEqProofs [L34a,hlt2,hlt3,hx,hg,hcap',cc,hG]
  refine test_intro ?_ ?_<;>intro h2<;>simp -implicitDefEqProofs [hlt3,hG]
  ·rw[hn,h2];simp
  ·rw[hn,h2];simp
 ·rintro e H ⟨rfl,rfl,hn⟩
  simp -implicitDefEqProofs [L34a,hG]
  rw[hn];rfl
 ·simp -implicitDefEqProofs [hG]
theorem idxF_any{p:Fnc→Bool}:∀(l:List Fnc) (i:Int),0≤i→decide (0≤idxF p l i)=l.any p
  | [],i,h=>by simp -implicitDefEqProofs [idxF]
  | x::l,i,h=>by
    rw[idxF,List.any_cons]
    cases p x
    · simpa using idxF_any l (i+1) (by omega)
    · simp -implicitDefEqProofs [h]
theorem t_nanyF(g:Nat)(cap:List AVal)(p:Fnc→Bool)(hg:∀ lo l H,theCalls IP G lo g l H=given H ((snaps H l).bind (pureR IP G g)))(hcap:∀ H,mapO (snapV H 16) cap=some cap)(hcap2:∀ H,mapO (snapV H 15) cap=some cap)(l:List Fnc)(hl:l.length<1099511627776)(hp:∀ f∈l,pureR IP G g (.ag (Enc.cells f)::cap)=some (.b (p f)))(t:Bool) :
  pureR IP G 24 [.fs t false l.length (encs l),.fn (.func g) [] cap]=some (.b (l.any p)):=by
 have c1:=t_nidxF hG g cap p hg hcap l hl hp t
 refine pure_run ip24 rfl ?_
 simp -implicitDefEqProofs [I24,hG,hcap2,c1]
 exact idxF_any hG l 0 (by omega)
theorem t_nFind(P:Prg)(hP:okPrg P)(s:Str)(t1 t2:Bool):∃ v,pureR IP G 58 [.ag [.fs t1 false P.funcs.length (encs P.funcs),.fs t2 false P.consts.length (encs P.consts)],.s s]=some v∧∃(n:Int) (b:Bool),v=.tu [.i .i64 n,.b b]∧(b=true→0≤n∧n<P.funcs.length):=by
 have c1:=t_nidxF hG 61 [.fp [.s s]] (fun f=>f.name==s) (fun lo l H=>pu61) (fun H=>by simp) P.funcs hP.1 (fun f hf=>t_nfind1 hG f s false) t1
 have h1:idxF (fun f:Fnc=>f.name==s) P.funcs 0=-1∨(0≤idxF (fun f:Fnc=>f.name==s) P.funcs 0∧idxF (fun f:Fnc=>f.name==s) P.funcs 0<P.funcs.length):=by
  rcases idxF_spec (p:=fun f:Fnc=>f.name==s) P.funcs 0 (by omega) with⟨h,_⟩|⟨n,x,h,h2,_⟩
  ·exact .inl h
  ·have:=lt_of_get h2
   exact .inr (by omega)
 obtain⟨n,hn⟩:∃ n,n=idxF (fun f:Fnc=>f.name==s) P.funcs 0:=⟨_,rfl⟩
 rw[←hn] at c1 h1
 refine pure_ex ip58 rfl ?_
 simp -implicitDefEqProofs [I58,hG,c1]
 exact⟨max n 0,by omega⟩
theorem t_sask(P:Prg)(hP:okPrg P)(f:Fnc)(x:Ins3)(t1 t2 t3:Bool):∃ v,pureR IP G 50 [siteC P f x t1 t2 t3]=some v∧IsBP True v:=by
 obtain⟨v1,c1,b1,rfl⟩:=t_nnamed hG P hP x.b t1 t2
 obtain⟨v2,c2,s,b2,rfl,hs⟩:=t_ntext hG P hP x.b t1 t2
 obtain⟨v3,c3,n,b3,rfl,hb⟩:=t_nFind hG P hP s t1 t2
 by_cases h4:x.a=4
 ·cases b2
  ·refine pure_ex ip50 rfl ?_
   simp -implicitDefEqProofs [I50,siteC,hG,h4,c2,c3]
  ·cases b3
   ·refine pure_ex ip50 rfl ?_
    simp -implicitDefEqProofs [I50,siteC,hG,h4,c2,c3]
   ·obtain⟨h1,h2⟩:=hb rfl
    obtain⟨m,rfl⟩:∃ m:Nat,n=m:=⟨n.toNat,by omega⟩
    obtain⟨w,hw⟩:=get_of_lt (l:=P.funcs) (i:=m) (by omega)
    have h3:m<P.funcs.length:=lt_of_get hw
    have hw3:∀ h,P.funcs[m]'h=w:=fun h=>by rw[List.getElem?_eq_getElem h] at hw;exact Option.some.inj hw
    refine pure_ex ip50 rfl ?_
    simp -implicitDefEqProofs [I50,siteC,hG,h4,c2,c3,h3,hw,hw3]
 ·refine pure_ex ip50 rfl ?_
  simp -implicitDefEqProofs [I50,siteC,hG,h4,c1]
  repeat' ((first|refine guard_intro ?_ ?_|refine test_intro ?_ ?_)<;>intro h<;>(try simp -implicitDefEqProofs [h,hG,c1,h4]))
end
end Go.Proofs.Ytllfklgliaoojaa
namespace Go.Proofs.Ytllfklgliaoojaa
open Go Go.RI
section
variable {G:AHeap} (hG:G.next=1)
def GoodK(P:Prg)(f:Fnc)(x:Ins3)(t1 t2 t3:Bool)(k:Nat):Prop:=(∀ lo l H,theCalls IP G lo k l H=given H ((snaps H l).bind (pureR IP G k)))∧pureB IP k=true∧∃ r,pureR IP G k [siteC P f x t1 t2 t3]=some r∧∃ b,r=.b b∧(b=true→(x.op=24∨x.op=25∨x.op=26)→0≤x.a∧x.a<f.code.length)
def GoodV(P:Prg)(f:Fnc)(x:Ins3)(t1 t2 t3:Bool)(v:AVal):Prop:=∃ k:Nat,v=.fn (.func k) [siteC P f x t1 t2 t3] []∧GoodK (G:=G) P f x t1 t2 t3 k
include hG
set_option maxHeartbeats 1000000 in
theorem t_smay(P:Prg)(hP:okPrg P)(f:Fnc)(x:Ins3)(t1 t2 t3:Bool)(H:AHeap):∃ v H',(∀ lo,theCalls IP G lo 38 [siteC P f x t1 t2 t3] H=some (v,H'))∧GoodV (G:=G) P f x t1 t2 t3 v:=by
 by_cases h1:x.op=1
 ·obtain⟨r,c1,b,rfl,h2⟩:=t_svalue hG P f x t1 t2 t3
  have good:GoodK (G:=G) P f x t1 t2 t3 42:=⟨fun lo l H=>pu42,pb42,_,c1,b,rfl,fun _ h=>by omega⟩
  refine calls_one_of ip38 rfl rfl ?_
  rw[ends_fin]
  have goodv:GoodV (G:=G) P f x t1 t2 t3 (.fn (.func 42) [siteC P f x t1 t2 t3] []):=⟨_,rfl,good⟩
  simp -implicitDefEqProofs [I38,siteC,h1]
  simp only[siteC,h1] at goodv
  exact goodv
 by_cases h2':x.op=2
 ·obtain⟨r,c1,b,rfl,h2⟩:=t_slocal hG P f x t1 t2 t3
  have good:GoodK (G:=G) P f x t1 t2 t3 43:=⟨fun lo l H=>pu43,pb43,_,c1,b,rfl,fun _ h=>by omega⟩
  refine calls_one_of ip38 rfl rfl ?_
  rw[ends_fin]
  have goodv:GoodV (G:=G) P f x t1 t2 t3 (.fn (.func 43) [siteC P f x t1 t2 t3] []):=⟨_,rfl,good⟩
  simp -implicitDefEqProofs [I38,siteC,h2']
  simp only[siteC,h2'] at goodv
  exact goodv
 by_cases h3:x.op=3
 ·obtain⟨r,c1,b,rfl,h2⟩:=t_slocal hG P f x t1 t2 t3
  have good:GoodK (G:=G) P f x t1 t2 t3 43:=⟨fun lo l H=>pu43,pb43,_,c1,b,rfl,fun _ h=>by omega⟩
  refine calls_one_of ip38 rfl rfl ?_
  rw[ends_fin]
  have goodv:GoodV (G:=G) P f x t1 t2 t3 (.fn (.func 43) [siteC P f x t1 t2 t3] []):=⟨_,rfl,good⟩
  simp -implicitDefEqProofs [I38,siteC,h3]
  simp only[siteC,h3] at goodv
  exact goodv
 by_cases h20:x.op=20
 ·obtain⟨r,c1,b,rfl,h2⟩:=t_scount hG P f x t1 t2 t3
  have good:GoodK (G:=G) P f x t1 t2 t3 44:=⟨fun lo l H=>pu44,pb44,_,c1,b,rfl,fun _ h=>by omega⟩
  refine calls_one_of ip38 rfl rfl ?_
  rw[ends_fin]
  have goodv:GoodV (G:=G) P f x t1 t2 t3 (.fn (.func 44) [siteC P f x t1 t2 t3] []):=⟨_,rfl,good⟩
  simp -implicitDefEqProofs [I38,siteC,h20]
  simp only[siteC,h20] at goodv
  exact goodv
 by_cases h21:x.op=21
 ·obtain⟨r,c1,b,rfl,h2⟩:=t_sfields hG P hP f x t1 t2 t3
  have good:GoodK (G:=G) P f x t1 t2 t3 45:=⟨fun lo l H=>pu45,pb45,_,c1,b,rfl,fun _ h=>by omega⟩
  refine calls_one_of ip38 rfl rfl ?_
  rw[ends_fin]
  have goodv:GoodV (G:=G) P f x t1 t2 t3 (.fn (.func 45) [siteC P f x t1 t2 t3] []):=⟨_,rfl,good⟩
  simp -implicitDefEqProofs [I38,siteC,h21]
  simp only[siteC,h21] at goodv
  exact goodv
 by_cases h22:x.op=22
 ·obtain⟨r,c1,b,rfl,h2⟩:=t_sfield hG P hP f x t1 t2 t3
  have good:GoodK (G:=G) P f x t1 t2 t3 46:=⟨fun lo l H=>pu46,pb46,_,c1,b,rfl,fun _ h=>by omega⟩
  refine calls_one_of ip38 rfl rfl ?_
  rw[ends_fin]
  have goodv:GoodV (G:=G) P f x t1 t2 t3 (.fn (.func 46) [siteC P f x t1 t2 t3] []):=⟨_,rfl,good⟩
  simp -implicitDefEqProofs [I38,siteC,h22]
  simp only[siteC,h22] at goodv
  exact goodv
 by_cases h23:x.op=23
 ·obtain⟨r,c1,b,rfl,h2⟩:=t_styped hG P hP f x t1 t2 t3
  have good:GoodK (G:=G) P f x t1 t2 t3 47:=⟨fun lo l H=>pu47,pb47,_,c1,b,rfl,fun _ h=>by omega⟩
  refine calls_one_of ip38 rfl rfl ?_
  rw[ends_fin]
  have goodv:GoodV (G:=G) P f x t1 t2 t3 (.fn (.func 47) [siteC P f x t1 t2 t3] []):=⟨_,rfl,good⟩
  simp -implicitDefEqProofs [I38,siteC,h23]
  simp only[siteC,h23] at goodv
  exact goodv
 by_cases h24:x.op=24
 ·obtain⟨r,c1,b,rfl,h2⟩:=t_splace hG P f x t1 t2 t3
  have good:GoodK (G:=G) P f x t1 t2 t3 48:=⟨fun lo l H=>pu48,pb48,_,c1,b,rfl,fun hb _=>h2 hb⟩
  refine calls_one_of ip38 rfl rfl ?_
  rw[ends_fin]
  have goodv:GoodV (G:=G) P f x t1 t2 t3 (.fn (.func 48) [siteC P f x t1 t2 t3] []):=⟨_,rfl,good⟩
  simp -implicitDefEqProofs [I38,siteC,h24]
  simp only[siteC,h24] at goodv
  exact goodv
 by_cases h25:x.op=25
 ·obtain⟨r,c1,b,rfl,h2⟩:=t_splace hG P f x t1 t2 t3
  have good:GoodK (G:=G) P f x t1 t2 t3 48:=⟨fun lo l H=>pu48,pb48,_,c1,b,rfl,fun hb _=>h2 hb⟩
  refine calls_one_of ip38 rfl rfl ?_
  rw[ends_fin]
  have goodv:GoodV (G:=G) P f x t1 t2 t3 (.fn (.func 48) [siteC P f x t1 t2 t3] []):=⟨_,rfl,good⟩
  simp -implicitDefEqProofs [I38,siteC,h25]
  simp only[siteC,h25] at goodv
  exact goodv
 by_cases h26:x.op=26
 ·obtain⟨r,c1,b,rfl,h2⟩:=t_splace hG P f x t1 t2 t3
  have good:GoodK (G:=G) P f x t1 t2 t3 48:=⟨fun lo l H=>pu48,pb48,_,c1,b,rfl,fun hb _=>h2 hb⟩
  refine calls_one_of ip38 rfl rfl ?_
  rw[ends_fin]
  have goodv:GoodV (G:=G) P f x t1 t2 t3 (.fn (.func 48) [siteC P f x t1 t2 t3] []):=⟨_,rfl,good⟩
  simp -implicitDefEqProofs [I38,siteC,h26]
  simp only[siteC,h26] at goodv
  exact goodv
 by_cases h29:x.op=29
 ·obtain⟨r,c1,b,rfl,h2⟩:=t_sfn hG P f x t1 t2 t3
  have good:GoodK (G:=G) P f x t1 t2 t3 49:=⟨fun lo l H=>pu49,pb49,_,c1,b,rfl,fun _ h=>by omega⟩
  refine calls_one_of ip38 rfl rfl ?_
  rw[ends_fin]
  have goodv:GoodV (G:=G) P f x t1 t2 t3 (.fn (.func 49) [siteC P f x t1 t2 t3] []):=⟨_,rfl,good⟩
  simp -implicitDefEqProofs [I38,siteC,h29]
  simp only[siteC,h29] at goodv
  exact goodv
 by_cases h31:x.op=31
 ·obtain⟨r,c1,b,rfl,h2⟩:=t_sask hG P hP f x t1 t2 t3
  have good:GoodK (G:=G) P f x t1 t2 t3 50:=⟨fun lo l H=>pu50,pb50,_,c1,b,rfl,fun _ h=>by omega⟩
  refine calls_one_of ip38 rfl rfl ?_
  rw[ends_fin]
  have goodv:GoodV (G:=G) P f x t1 t2 t3 (.fn (.func 50) [siteC P f x t1 t2 t3] []):=⟨_,rfl,good⟩
  simp -implicitDefEqProofs [I38,siteC,h31]
  simp only[siteC,h31] at goodv
  exact goodv
 obtain⟨r,c1,b,rfl,h2⟩:=t_snone hG P f x t1 t2 t3
 have good:GoodK (G:=G) P f x t1 t2 t3 51:=⟨fun lo l H=>pu51,pb51,_,c1,b,rfl,fun _ h=>by omega⟩
 have goodv:GoodV (G:=G) P f x t1 t2 t3 (.fn (.func 51) [siteC P f x t1 t2 t3] []):=⟨_,rfl,good⟩
 refine calls_one_of ip38 rfl rfl ?_
 rw[ends_fin]
 simp -implicitDefEqProofs [I38,siteC,h1,h2',h3,h20,h21,h22,h23,h24,h25,h26,h29,h31]
 exact goodv
set_option maxHeartbeats 1000000 in
theorem t_sfits(P:Prg)(hP:okPrg P)(f:Fnc)(x:Ins3)(t1 t2 t3:Bool):∃ v,pureR IP G 30 [siteC P f x t1 t2 t3]=some v∧IsBP ((x.op=24∨x.op=25∨x.op=26)→0≤x.a∧x.a<f.code.length) v:=by
 obtain⟨v,H',c1,k,rfl,hk,hkp,r,c2,b,rfl,hb⟩:=t_smay hG P hP f x t1 t2 t3 (G.push (.cells [.fp [.fs t1 false P.funcs.length (encs P.funcs),.fs t2 false P.consts.length (encs P.consts)],.fp [.s f.name,.i .i64 f.args,.i .i64 f.locals,.fs t3 false f.code.length (encs f.code)],.i .i64 x.op,.i .i64 x.a,.i .i64 x.b] 1 false))
 have c1':=c1 G.next
 simp only[siteC,hG] at c1' c2
 simp only[snaps] at hk
 have hs:∀ H:AHeap,mapO (snapV H 16) [siteC P f x t1 t2 t3]=some [siteC P f x t1 t2 t3]:=fun H=>by simp -implicitDefEqProofs [siteC]
 simp only[siteC] at hs
 by_cases h1:1≤x.op
 ·by_cases h2:x.op≤31
  ·by_cases h3:x.b=0∨x.op=31
   ·by_cases hb0:x.b=0
    rotate_left
    ·have h3:x.op=31:=h3.resolve_left hb0
     have c1'':=c1'
     have c2':=c2
     simp only[h3] at c1'' c2' hs
     refine pure_ex ip30 rfl ?_
     simp -implicitDefEqProofs [I30,siteC,hG,h3,hb0,c1'',hk,hs,c2',hkp]
    ·have h3:=hb0
     have c1'':=c1'
     have c2':=c2
     simp only[h3] at c1'' c2' hs
     refine pure_ex ip30 rfl ?_
     simp -implicitDefEqProofs [I30,siteC,hG,h1,h2,h3,c1'',hk,hs,c2',hkp]
     exact hb
   ·rw[not_or] at h3
    refine pure_ex ip30 rfl ?_
    simp -implicitDefEqProofs [I30,siteC,hG,h1,h2,h3.1,h3.2]
  ·refine pure_ex ip30 rfl ?_
   simp -implicitDefEqProofs [I30,siteC,hG,h1,h2]
 ·refine pure_ex ip30 rfl ?_
  simp -implicitDefEqProofs [I30,siteC,hG,h1]
end
end Go.Proofs.Ytllfklgliaoojaa
namespace Go.Proofs.Ytllfklgliaoojaa
open Go Go.RI
section
variable {G:AHeap} (hG:G.next=1)
include hG
theorem t_nhead(P:Prg)(hP:okPrg P)(f:Fnc)(hf:okFnc f)(t1 t2 t3:Bool):∃ v,pureR IP G 28 [.fp [.fs t1 false P.funcs.length (encs P.funcs),.fs t2 false P.consts.length (encs P.consts)],.ag [.s f.name,.i .i64 f.args,.i .i64 f.locals,.fs t3 false f.code.length (encs f.code)]]=some v∧IsBP (0<f.code.length) v:=by
 obtain⟨r,c1,b,rfl⟩:=t_nname hG f.name (by have:=hf.1;omega)
 refine pure_ex ip28 rfl ?_
 simp -implicitDefEqProofs [I28,hG]
 refine wp_loop_list (l:=P.funcs) (by have:=hP.1;omega) (fun i todo e H=>∃ n:Nat,n≤i∧e=[(3,.p 1 0),(5,.i .i64 n),(11,.fs t1 false P.funcs.length (encs P.funcs)),(12,.i .i64 P.funcs.length),(13,.i .i64 i)]∧2≤H.next∧H.get 1=some (.cells [.s f.name,.i .i64 f.args,.i .i64 f.locals,.fs t3 false f.code.length (encs f.code)] 1 false)) ?_ ?_ ?_
 ·rintro i g todo e H hx hd hlt hlt2 hlt3 ⟨n,hn,rfl,hH,g0⟩
  have n1:¬ 1=H.next:=by omega
  have n2:1≤H.next:=by omega
  have hw:wrapI .i64 ((n:Int)+1)=(n:Int)+1:=wrap_ok (by omega) (by omega)
  clear hlt
  by_cases he:g.name=f.name
  ·simp -implicitDefEqProofs [L28a,hlt2,hlt3,hx,g0,n1,n2,he,hw]
   exact⟨n+1,by omega,by simp⟩
  ·have hb:(g.name==f.name)=false:=by simpa using he
   simp -implicitDefEqProofs [L28a,hlt2,hlt3,hx,g0,n1,n2,hb]
   exact⟨n,by omega,rfl⟩
 ·rintro e H ⟨n,hn,rfl,hH,g0⟩
  simp -implicitDefEqProofs [L28a,g0,c1]
  repeat' ((first|refine guard_intro ?_ ?_|refine test_intro ?_ ?_)<;>intro h<;>(try simp -implicitDefEqProofs [h,hG,g0,c1]))
 ·exact⟨0,Nat.le_refl _,by simp,by simp -implicitDefEqProofs [hG],by simp -implicitDefEqProofs [hG]⟩
theorem t_nlong(f:Fnc)(t1:Bool):pureR IP G 23 [.ag [.s f.name,.i .i64 f.args,.i .i64 f.locals,.fs t1 false f.code.length (encs f.code)]]=some (.b (decide ((512:Int)<f.code.length))):=by
 refine pure_run ip23 rfl ?_
 simp -implicitDefEqProofs [I23,hG]
theorem t_nodd(v:Val)(hv:v.bulk<1099511627776)(t1 t2:Bool):pureR IP G 25 [.ag [.i .i64 v.kind,.i .i64 v.n,.s v.s,.fs t1 false v.l.length (encs v.l),.fs t2 false v.names.length (encs v.names)]]=some (.b (!mayV v)):=by
 have c1:=t_check hG v hv t1 t2
 refine pure_run ip25 rfl ?_
 simp -implicitDefEqProofs [I25,hG,c1]
theorem t_nwrong(P:Prg)(hP:okPrg P)(f:Fnc)(hf:okFnc f)(t1 t2 t3:Bool):∃ b,pureR IP G 27 [.ag [.s f.name,.i .i64 f.args,.i .i64 f.locals,.fs t3 false f.code.length (encs f.code)],.fp [.fs t1 false P.funcs.length (encs P.funcs),.fs t2 false P.consts.length (encs P.consts)]]=some (.b b)∧(b=false→0<f.code.length):=by
 obtain⟨r,c1,b,rfl,hb⟩:=t_nhead hG P hP f hf t1 t2 t3
 refine⟨!b,?_,fun h=>hb (by simpa using h)⟩
 refine pure_run ip27 rfl ?_
 simp -implicitDefEqProofs [I27,hG,c1]
theorem t_nidxV(l:List Val)(hl:∀ v∈l,v.bulk<1099511627776)(hll:l.length<1099511627776)(t:Bool):∃ v,pureR IP G 29 [.fs t false l.length (encs l),.fn (.func 25) [] []]=some v∧IsB v:=by
 have c1:pureR IP G 37 [.fs t false l.length (encs l),.fn (.func 25) [] []]=some (.i .i64 (idxF (fun v=>!mayV v) l 0)):=by
  refine pure_run ip37 rfl ?_
  simp -implicitDefEqProofs [I37,hG]
  refine wp_loop_list (l:=l) (by omega) (fun i todo e H=>e=[(0,.fs t false l.length (encs l)),(1,.fn (.func 25) [] []),(7,.i .i64 l.length),(8,.i .i64 i)]∧H=G∧idxF (fun v=>!mayV v) l 0=idxF (fun v=>!mayV v) todo i) ?_ ?_ ?_
  ·rintro i x todo e H hx hd hlt hlt2 hlt3 ⟨rfl,rfl,hn⟩
   have cc:=t_nodd hG x (hl x (List.mem_of_getElem? hx)) false false
   rw[idxF] at hn
   clear hlt
   simp -implicitDefEqProofs [L37a,hlt2,hlt3,hx,cc,hG]
   refine test_intro ?_ ?_<;>intro h2<;>simp -implicitDefEqProofs [hlt3,hG]
   ·rw[hn,h2];simp
   ·rw[hn,h2];simp
  ·rintro e H ⟨rfl,rfl,hn⟩
   simp -implicitDefEqProofs [L37a,hG]
   rw[hn];rfl
  ·simp -implicitDefEqProofs [hG]
 refine pure_ex ip29 rfl ?_
 simp -implicitDefEqProofs [I29,hG,c1]
def CodeOk(P:Prg):Prop:=∀ f∈P.funcs,f.code.length≤512∧0<f.code.length∧∀ x∈f.code,x.op=24∨x.op=25∨x.op=26→0≤x.a
def IsChk(P:Prg)(v:AVal):Prop:=∃ e,v=.i .i64 e∧(e=0→CodeOk P)
@[simp] theorem isChk_i{P:Prg}{e:Int}:IsChk P (.i .i64 e)↔(e=0→CodeOk P):=by
 unfold IsChk
 constructor
 ·rintro⟨c,h1,h2⟩
  cases h1;exact h2
 ·exact fun h=>⟨e,rfl,h⟩
end
end Go.Proofs.Ytllfklgliaoojaa
namespace Go.Proofs.Ytllfklgliaoojaa
open Go Go.RI
section
variable {G:AHeap} (hG:G.next=1)
include hG
def pcells(P:Prg)(t1 t2:Bool):List AVal:=[.fs t1 false P.funcs.length (encs P.funcs),.fs t2 false P.consts.length (encs P.consts)]
set_option maxHeartbeats 1000000 in
theorem t_ncode(P:Prg)(hP:okPrg P)(f:Fnc)(hf:f.code.length<1099511627776)(t1 t2:Bool)(ij:Int)(Q:Post)(H:AHeap)(g0:H.get 1=some (.cells (pcells P t1 t2) 1 false))(b:Nat)(hb:2≤b)(g1:H.get b=some (.cells (Enc.cells f) 1 false))(hn:b<H.next)
    (hQ1:(∀ x∈f.code,x.op=24∨x.op=25∨x.op=26→0≤x.a)→∀ w H',H'.get 1=H.get 1→H.next≤H'.next→Q (.exit 2) [(1,.p 1 0),(7,.p b 0),(44,.fs t1 false P.funcs.length (encs P.funcs)),(45,.i .i64 P.funcs.length),(46,.i .i64 ij),(51,.fs false false f.code.length (encs f.code)),(52,.i .i64 f.code.length),(53,.i .i64 f.code.length),(54,w)] H')
    (hQ2:∀ H',Q .ret [(2,.i .i64 150)] H') :
    wp (theCalls IP G 1) 1 (.loop L15a) Q [(1,.p 1 0),(7,.p b 0),(44,.fs t1 false P.funcs.length (encs P.funcs)),(45,.i .i64 P.funcs.length),(46,.i .i64 ij),(51,.fs false false f.code.length (encs f.code)),(52,.i .i64 f.code.length),(53,.i .i64 0)] H:=by
  refine wp_loop_list (l:=f.code) (by omega) (fun i todo e H'=>e=[(1,.p 1 0),(7,.p b 0),(44,.fs t1 false P.funcs.length (encs P.funcs)),(45,.i .i64 P.funcs.length),(46,.i .i64 ij),(51,.fs false false f.code.length (encs f.code)),(52,.i .i64 f.code.length),(53,.i .i64 i)]∧H.next≤H'.next∧(∀ id,id<H.next→H'.get id=H.get id)∧∀ x∈f.code.take i,x.op=24∨x.op=25∨x.op=26→0≤x.a) ?_ ?_ ?_
  · rintro i x todo e H' hx hd hlt hlt2 hlt3 ⟨rfl,hnx,hfr,hall⟩
    obtain⟨r,c1,bb,rfl,hbb⟩:=t_sfits hG P hP f x t1 t2 false
    have h0:=(hfr 1 (by omega)).trans g0
    have h1:=(hfr b hn).trans g1
    have n1:¬ 1=H'.next:=by omega
    have n2:¬ b=H'.next:=by omega
    have n3:1≤H'.next:=by omega
    simp only[pcells] at h0
    simp only[siteC] at c1
    simp at h1
    clear hlt
    cases bb with
    | false =>
      simp -implicitDefEqProofs [L15a,hlt2,hlt3,hx,h0,h1,n1,n2,n3,c1]
      exact hQ2 _
    | true =>
      simp -implicitDefEqProofs [L15a,hlt2,hlt3,hx,h0,h1,n1,n2,n3,c1]
      refine⟨by omega,fun id hid=>by rw[if_neg (by omega)];simp -implicitDefEqProofs [show ¬ id=H'.next by omega];exact hfr id hid,fun y hy ho=>?_⟩
      rw[List.take_add_one,hx] at hy
      rcases List.mem_append.1 hy with hy|hy
      · exact hall y hy ho
      · simp at hy
        subst hy
        exact(hbb rfl ho).1
  · rintro e H' ⟨rfl,hnx,hfr,hall⟩
    rw[List.take_length] at hall
    simp -implicitDefEqProofs [L15a]
    exact hQ1 hall _ H' (hfr _ (by omega)) hnx
  · exact⟨by simp,Nat.le_refl _,fun _ _=>rfl,by simp⟩
set_option maxHeartbeats 1000000 in
theorem t_nfuncs(P:Prg)(hP:okPrg P)(t1 t2:Bool)(Q:Post)(H:AHeap)(g0:H.get 1=some (.cells (pcells P t1 t2) 1 false))(hn:2≤H.next)
  (hQ1:(∀ f∈P.funcs,∀ x∈f.code,x.op=24∨x.op=25∨x.op=26→0≤x.a)→∀ w H',Q (.exit 0) [(1,.p 1 0),(44,.fs t1 false P.funcs.length (encs P.funcs)),(45,.i .i64 P.funcs.length),(46,.i .i64 P.funcs.length),(47,w)] H')
  (hQ2:∀ H',Q .ret [(2,.i .i64 150)] H') :
  wp (theCalls IP G 1) 1 (.loop L15b) Q [(1,.p 1 0),(44,.fs t1 false P.funcs.length (encs P.funcs)),(45,.i .i64 P.funcs.length),(46,.i .i64 0)] H:=by
 refine wp_loop_list (l:=P.funcs) (by have:=hP.1;omega) (fun i todo e H'=>e=[(1,.p 1 0),(44,.fs t1 false P.funcs.length (encs P.funcs)),(45,.i .i64 P.funcs.length),(46,.i .i64 i)]∧2≤H'.next∧H'.get 1=some (.cells (pcells P t1 t2) 1 false)∧∀ f∈P.funcs.take i,∀ x∈f.code,x.op=24∨x.op=25∨x.op=26→0≤x.a) ?_ ?_ ?_
 ·rintro i f todo e H' hx hd hlt hlt2 hlt3 ⟨rfl,hnx,h0,hall⟩
  have hf:=hP.2.2.1 f (List.mem_of_getElem? hx)
  have n3:1≤H'.next:=by omega
  have n1:¬ 1=H'.next:=by omega
  clear hlt
  simp -implicitDefEqProofs [L15b,hlt2,hlt3,hx,n3]
  refine t_ncode hG P hP f hf.2 t1 t2 i _ _ (by simp -implicitDefEqProofs [n1];exact h0) H'.next hnx (by simp) (by simp) ?_ ?_
  ·intro hc w H2 hg2 hn2
   simp at hg2 hn2
   simp -implicitDefEqProofs [hlt3]
   refine⟨by omega,by rw[hg2,if_neg n1,if_neg n1];exact h0,fun g hg=>?_⟩
   rw[List.take_add_one,hx] at hg
   rcases List.mem_append.1 hg with hg|hg
   ·exact hall g hg
   ·simp at hg
    subst hg
    exact hc
  ·intro H2
   simp
   exact hQ2 H2
 ·rintro e H' ⟨rfl,hnx,h0,hall⟩
  rw[List.take_length] at hall
  simp -implicitDefEqProofs [L15b]
  exact hQ1 hall _ H'
 ·exact⟨by simp,hn,g0,by simp⟩
set_option maxHeartbeats 1000000 in
theorem t_ncheck(P:Prg)(hP:okPrg P)(t1 t2:Bool):∃ v,pureR IP G 15 [.ag (pcells P t1 t2)]=some v∧IsChk P v:=by
 have c1:=t_nanyF hG 23 [] (fun f=>decide ((512:Int)<f.code.length)) (fun lo l H=>pu23) (fun H=>by simp) (fun H=>by simp) P.funcs hP.1 (fun f hf=>t_nlong hG f false) t1
 obtain⟨v2,c2,b2,rfl⟩:=t_nidxV hG P.consts (fun v hv=>by have:=hP.2.2.2 v hv;omega) hP.2.1 t2
 obtain⟨p,hp⟩:=choose_b (l:=P.funcs) (F:=fun f=>pureR IP G 27 [.ag (Enc.cells f),.fp (pcells P t1 t2)]) fun f hf=>by
  obtain⟨b,h1,_⟩:=t_nwrong hG P hP f (hP.2.2.1 f hf) t1 t2 false
  exact⟨_,h1,b,rfl⟩
 have c3:=t_nanyF hG 27 [.fp (pcells P t1 t2)] p (fun lo l H=>pu27) (fun H=>by simp) (fun H=>by simp) P.funcs hP.1 hp t1
 simp only[pcells] at c3
 have no:∀ e:Int,e≠0→IsChk P (.i .i64 e):=fun e h=>(isChk_i hG).2 fun h2=>absurd h2 h
 by_cases h1:(16:Int)<P.funcs.length
 ·have h1':16<P.funcs.length:=by omega
  refine pure_ex ip15 rfl ?_
  simp -implicitDefEqProofs [I15,pcells,hG,h1,h1']
  exact no _ (by omega)
 by_cases h2:(256:Int)<P.consts.length
 ·have h1':¬ 16<P.funcs.length:=by omega
  have h2':256<P.consts.length:=by omega
  refine pure_ex ip15 rfl ?_
  simp -implicitDefEqProofs [I15,pcells,hG,h1,h1',h2,h2']
  exact no _ (by omega)
 have h1':¬ 16<P.funcs.length:=by omega
 have h2':¬ 256<P.consts.length:=by omega
 cases h3:P.funcs.any fun f=>decide ((512:Int)<f.code.length)
 rotate_left
 ·rw[h3] at c1
  refine pure_ex ip15 rfl ?_
  simp -implicitDefEqProofs [I15,pcells,hG,h1,h1',h2,h2',c1]
  exact no _ (by omega)
 rw[h3] at c1
 by_cases h4:P.funcs.length=0
 ·have h4':P.funcs=[]:=List.eq_nil_of_length_eq_zero h4
  have c4:=c1
  rw[h4'] at c4
  simp at c4
  refine pure_ex ip15 rfl ?_
  simp -implicitDefEqProofs [I15,pcells,hG,h1,h1',h2,h2',c4,h4']
  exact no _ (by omega)
 have h4':¬ P.funcs=[]:=fun h=>h4 (by rw[h];rfl)
 cases b2
 rotate_left
 ·refine pure_ex ip15 rfl ?_
  simp -implicitDefEqProofs [I15,pcells,hG,h1,h1',h2,h2',c1,h4,h4',c2]
  exact no _ (by omega)
 cases h5:P.funcs.any p
 rotate_left
 ·rw[h5] at c3
  refine pure_ex ip15 rfl ?_
  simp -implicitDefEqProofs [I15,pcells,hG,h1,h1',h2,h2',c1,h4,h4',c2,c3]
  exact no _ (by omega)
 rw[h5] at c3
 have key:=t_nfuncs hG P hP t1 t2
 refine pure_ex ip15 rfl ?_
 simp -implicitDefEqProofs [I15,pcells,hG,h1,h1',h2,h2',c1,h4,h4',c2,c3]
 refine key _ _ (by simp -implicitDefEqProofs [pcells,hG]) (by simp -implicitDefEqProofs [hG]) ?_ ?_
 ·intro hall w H'
  simp
  refine(isChk_i hG).2 fun _ f hf=>⟨?_,?_,hall f hf⟩
  ·have:=List.any_eq_false.1 h3 f hf
   simp at this
   omega
  ·obtain⟨b,e1,e2⟩:=t_nwrong hG P hP f (hP.2.2.1 f hf) t1 t2 false
   have e3:=hp f hf
   have e4:=e1.symm.trans e3
   simp at e4
   have:=List.any_eq_false.1 h5 f hf
   exact e2 (by rw[e4];simpa using this)
 ·intro H'
  simp
  exact no _ (by omega)
end
end Go.Proofs.Ytllfklgliaoojaa
