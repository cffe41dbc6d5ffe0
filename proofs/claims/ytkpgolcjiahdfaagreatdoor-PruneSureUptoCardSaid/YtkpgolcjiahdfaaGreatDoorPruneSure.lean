import Derived.Test.YtkpgolcjiahdfaaGreatDoorB11
import Derived.Test.YtkpgolcjiahdfaaGreatDoorB10
import Derived.Test.YtkpgolcjiahdfaaGreatDoorCards
import Derived.Test.YtkpgolcjiahdfaaGreatDoorTie
import Derived.WalkKit
import Derived.ProofKit
import Derived.OpenShut
import Derived.Deep.DeepHandedRow
import Derived.Lib.LaidTab
set_option linter.unusedVariables false
set_option linter.unusedSimpArgs false
set_option linter.unusedSectionVars false
/- 'PruneSure' holds, of all inputs of at most the given bulk. Conditions: none. -/
namespace Go.Proofs.YtkpgolcjiahdfaaGreatDoor.pruneSure
open Go.ChangeShapes Go.WideShapes Go.ChangeAt Go.RowKit
theorem own:ownKnob Tryz.prog.godebug=none:=by kernel_rfl
theorem gBare:Tryz.prog.globalNamed "encore/lift.bare" = some 0:=by kernel_rfl
theorem gBareType:(Tryz.prog.globals[0]?).map (·.type)=some 120:=by kernel_rfl
theorem laidOut:laidOutB Tryz.prog=true:=by kernel_rfl
theorem kids:Kids Tryz.prog (·<Tryz.prog.types.size):=kids_rows laidOut (by kernel_rfl)
theorem full:∀ t e,t<Tryz.prog.types.size→Tryz.prog.underlying t=some (.slice e)→0<Tryz.prog.cellsOf e:=by
 have h:(List.range Tryz.prog.types.size).all (fun t=>match Tryz.prog.underlying t with|some (.slice e)=>decide (0<Tryz.prog.cellsOf e)|_=>true)=true:=by kernel_rfl
 intro t e ht hu
 have:=List.all_eq_true.1 h t (List.mem_range.2 ht)
 rw[hu] at this
 exact of_decide_eq_true this
theorem gok:RI.GOK G1:=by
 refine⟨fun id hid=>?_,fun g o hg=>?_⟩
 ·have:2≤id:=hid
  simp only[G1,RI.AHeap.get_put,RI.G0_get]
  rw[if_neg (by omega)]
 ·simp only[G1,RI.AHeap.get_put,RI.G0_get] at hg
  split at hg
  ·cases hg;exact⟨_,_,rfl,rfl⟩
  ·cases hg
theorem holds{W:World}(h:laidMetH Tryz.prog Rows.pruneSureUptoRow.laid W):RI.GHolds Tryz.prog.globals.size G1 W:=by
  have h':laidMet Tryz.prog [("encore/lift.bare",.agg ([Lit.int .i64 0,Lit.string [],Lit.bool false].map .lit))] W:=h
  obtain⟨C,e,fz,h1,h2⟩:=RI.laid_one gBare gBareType Tryz.underlying120 (by kernel_rfl) (by kernel_rfl) h'
  intro g o hg
  have:g=0∧o=.cells [.i .i64 0,.s [],.b false] 1 true:=by
    simp only[G1,RI.AHeap.get_put,RI.G0_get] at hg
    split at hg
    · cases hg;exact⟨by assumption,rfl⟩
    · cases hg
  obtain⟨rfl,rfl⟩:=this
  exact⟨of_decide_eq_true (by kernel_rfl),_,C,e,fz,rfl,rfl,rfl,h1,by rw[h2];rfl⟩
theorem tys:RI.PceTys Tryz.prog 3 9 27 24 25 29 23 69 22 31 :=
 ⟨Tryz.underlying3,Tryz.underlying9,⟨_,Tryz.underlying27,rfl⟩,Tryz.underlying24,Tryz.underlying25,⟨_,Tryz.underlying29,rfl⟩,Tryz.underlying23,⟨_,Tryz.underlying69,rfl⟩,Tryz.underlying22,⟨_,Tryz.underlying31,rfl⟩⟩
theorem okTys:[3,9,22,23,24,25,27,29,31,69].all (RI.okTy Tryz.prog [3,9,22,23,24,25,27,29,31,69])=true:=by kernel_rfl
theorem sum_all{H:Type}:∀ l:List (DataW H),(l.map Rows.uptoBulk).sum=Rows.uptoBulkAll l
 | []=>by simp[Rows.uptoBulkAll]
 | d::l=>by simp only[List.map_cons,List.sum_cons,Rows.uptoBulkAll];rw[sum_all l]
theorem meas{H:Type}:RI.Meas (Rows.uptoBulk (H:=H)):=by
 refine⟨fun d=>?_,fun s=>?_,fun l r=>?_,fun l=>?_⟩
 ·cases d with
  | lit x=>cases x<;>simp[Rows.uptoBulk]
  | _=>simp[Rows.uptoBulk]
 ·simp[Rows.uptoBulk]
 ·rw[sum_all];simp only[Rows.uptoBulk];omega
 ·rw[sum_all];simp only[Rows.uptoBulk];omega
theorem walk(W:World)(h:laidMetH Tryz.prog Rows.pruneSureUptoRow.laid W)(y0:RI.Pce)(y1:Int)(y2:List RI.Val)(ok0:RI.okPce y0)(ok1:True)(ok2:RI.bulkL y2<1099511627776){v0:Value}(hv0:RI.RdV W (.ag (RI.Enc.cells y0)) v0){v1:Value}(hv1:RI.RdV W (.i .i64 y1) v1){v2:Value}(hv2:RI.RdV W (.fs false false y2.length (RI.encs y2)) v2):Calls Tryz.prog 4 #[v0,v1,v2] W fun e w'=>e=.returned (.bool true)∧RI.Kept W w':=by
 have hB:G1.get 0=some (.cells [.i .i64 0,.s [],.b false] 1 true):=by simp[G1]
 obtain⟨H',hb⟩:=t_pruneSure (G:=G1) rfl works_pure (fun x hx t1 t2 t3 t4=>t_liftCheck (G:=G1) rfl hB x hx t1 t2 t3 t4) (fun i h1 h2 t1 t2=>t_needs (G:=G1) rfl hB i h1 h2 t1 t2) y0 ok0 y1 y2 ok2
 exact RI.tree_calls (Checked.mixed Tryz.checked) IP_ok ck_all.ck gok rfl (holds h) hb (vs:=[v0,v1,v2]) ⟨v0,[v1,v2],rfl,hv0,v1,[v2],rfl,hv1,v2,[],rfl,hv2,rfl⟩
set_option maxRecDepth 100000 in
theorem contract(H:Type)(enc:TypeId×Value→H)(W:World)(base:Nat)(args:Array Value)(ds gs:List (DataW H))(before:List MemPlace)
  (hval0:∀(j:Nat) t v,Tryz.f4.params[j]?=some t→args[j]?=some v→Value.okWide Tryz.prog W .any base t v)
  (hW:DataW.Whole enc Tryz.prog Tryz.f4.params.toList Rows.pruneSureSpec.vars false W args.toList ds gs before) (hk:Rows.uptoSmall H (ds++gs)=true) (hL:laidMetH Tryz.prog Rows.pruneSureUptoRow.laid W) :
  Calls Tryz.prog 4 args W fun e W'=>∃ v,e=.returned v∧Rows.pruneSureSpec.post enc Tryz.prog Tryz.f4 false true false false W args v W':=by
 have hval:=hval0
 have hW':=hW
 obtain⟨p,q,hA0,hV,rfl,hfz,hnd⟩:=hW
 have hA:DataW.TrodAll enc Tryz.prog W 0 (fun _=>true) true Tryz.f4.params.toList args.toList ds p:=hA0
 have hAk:=hA
 rw[Tryz.params4] at hA hval
 obtain⟨v0,vs0,d0,ds0,p0,q0,ha0,rfl,rfl,h0,r0⟩:=trodAll_cons hA
 obtain⟨v1,vs1,d1,ds1,p1,q1,ha1,rfl,rfl,h1,r1⟩:=trodAll_cons r0
 obtain⟨v2,vs2,d2,ds2,p2,q2,ha2,rfl,rfl,h2,r2⟩:=trodAll_cons r1
 obtain⟨rfl,rfl,rfl⟩:=trodAll_nil r2
 subst ha2
 subst ha1
 obtain rfl:args=#[v0,v1,v2]:=by cases args;simp_all
 obtain⟨rfl,rfl⟩:=trodVars_none hV
 clear hA0
 have hb:Rows.uptoBulk d0+Rows.uptoBulk d1+Rows.uptoBulk d2≤1048576:=by
  have:=of_decide_eq_true hk
  simp only[List.append_nil,Rows.uptoBulkAll] at this
  omega
 obtain⟨n0,x0,hv0,l0,hty0,hx0⟩:=RI.arg_rdM (t:=31) okTys meas (by decide) (hval 0 31 v0 rfl rfl) h0
 rw[Tryz.underlying31] at hx0
 obtain⟨y0,hy0,ok0⟩:=RI.tyM_pce tys n0 l0 _ hty0 (by omega)
 obtain rfl:x0=.ag (RI.Enc.cells y0):=by rw[←hy0];exact hx0
 obtain⟨n1,x1,hv1,l1,hty1,hx1⟩:=RI.arg_rdM (t:=3) okTys meas (by decide) (hval 1 3 v1 rfl rfl) h1
 rw[Tryz.underlying3] at hx1
 obtain⟨y1,hy1⟩:=RI.tyM_int Tryz.underlying3 hty1
 have ok1:True:=trivial
 obtain rfl:x1=.i .i64 y1:=by rw[hy1] at hx1;exact(List.cons.inj hx1).1.symm
 obtain⟨n2,x2,hv2,l2,hty2,hx2⟩:=RI.arg_rdM (t:=24) okTys meas (by decide) (hval 2 24 v2 rfl rfl) h2
 rw[Tryz.underlying24] at hx2
 obtain⟨y2,hy2,hz2⟩:=RI.tyM_slice Tryz.underlying24 RI.Val.bulk (fun n x m h=>RI.tyM_val tys n m x h) hty2
 rw[RI.sum_bulkL] at hz2
 have ok2:RI.bulkL y2<1099511627776:=by omega
 obtain rfl:x2=.fs false false y2.length (RI.encs y2):=by rw[hy2] at hx2;exact(List.cons.inj hx2).1.symm
 refine(walk W hL y0 y1 y2 ok0 ok1 ok2 hv0 hv1 hv2).mono fun e W' ⟨he,hg⟩=>?_
 subst he
 exact⟨_,rfl,RI.post_same (pv:=[]) hW' (fun _ _ _=>trodAll_cons_mk (shut_bool Tryz.underlying4 _) trodAll_mk0)
  (fun sp hsp=>RI.args_same kids full (by rw[Tryz.params4];decide) hAk hg sp (fun p hp=>hsp p (by simpa using hp))) (fun _ _=>rfl) (by simp)
  (hg.frame _) hg.2.1 (ok_one (by kernel_rfl) rfl (okWide_bool_mk Tryz.underlying4 _))⟩
noncomputable def zeros:Array Value:=#[.agg #[.int .i64 0,.int .i64 0,.int .i64 0,.int .i64 0,.slice none 0 0,.slice none 0 0,.int .i64 0,.int .i64 0,.int .i64 0,.int .i64 0,.int .i64 0,.int .i64 0,.string ⟨#[]⟩,.slice none 0 0,.slice none 0 0,.int .i64 0],.int .i64 0,.slice none 0 0]
noncomputable def laidWorld(os:Os):World :=
 { World.holding Tryz.prog os ⟨#[],#[],[]⟩ with heap:=(World.holding Tryz.prog os ⟨#[],#[],[]⟩).heap.modify 0 fun
   | .cells _ t frozen=>.cells #[.int .i64 0,.string ⟨#[]⟩,.bool false] t frozen
   | o=>o }
theorem laid_met(os:Os):laidMet Tryz.prog Rows.pruneSureUptoRow.laid ((laidWorld os).forCall (fun _ _=>0) ⟨#[],zeros,[]⟩).memory :=
 laidMet_of_run' 8 (by kernel_rfl) (by kernel_rfl)
def pceD{H:Type}:DataW H :=
 let n:=.lit (.int .i64 0)
 let v:=.agg [n,n,.lit (.string []),.nil,.nil]
 .agg [n,n,n,n,.nil,.nil,n,n,.agg [n,n,v],n]
def zeroD{H:Type}:List (DataW H):=[pceD,.lit (.int .i64 0),.nil]
set_option maxRecDepth 100000 in
theorem reads(os:Os){H:Type}(enc:TypeId×Value→H):∃ places,DataW.whole enc Tryz.prog ((laidWorld os).forCall (fun _ _=>0) ⟨#[],zeros,[]⟩).memory Tryz.f4.params.toList Rows.pruneSureSpec.vars false (zeros:Array Value).toList 16=some (zeroD,[],places) :=
 ⟨[],by kernel_rfl⟩
set_option maxRecDepth 100000 in
theorem lifted(os:Os)(started:os.Started)(H:Type)(enc:TypeId×Value→H)(F:Stop.Interp) :
  ReturnsInHanded {} Tryz.checked os 4 .any ((Rows.OpenSpec.upto Rows.pruneSureSpec).preRow enc Tryz.prog Tryz.f4 Rows.pruneSureUptoRow.domain false Rows.pruneSureUptoRow.laid) (((Rows.OpenSpec.upto Rows.pruneSureSpec).at F).post enc Tryz.prog Tryz.f4 false true false false):=by
 obtain⟨places,hx⟩:=reads os enc
 refine returnsInHanded_of_row (C:=Tryz.checked) (s:=Rows.OpenSpec.upto Rows.pruneSureSpec) own started (by kernel_rfl) Tryz.func4
  (witness_row_at (enc:=enc) (C:=Tryz.checked) false (laidWorld os) zeros rfl (by kernel_rfl) (by kernel_rfl) (by kernel_rfl)
   (OpenSpec.preRow_of_cond 16 hx (by kernel_rfl) (fun k hk=>by cases hk;kernel_rfl) (by kernel_rfl) (laid_met os))) ?_
 intro W base args ds gs before hval hW _ hcond _ hL _ _
 exact contract H enc W base args ds gs before hval hW (hcond _ rfl) hL
theorem said:Rows.PruneSureUptoSaid :=
 OpenClaim.holds_of_cond 4 Tryz.f4 rfl rfl rfl rfl rfl rfl rfl ⟨rfl,rfl,rfl,rfl,rfl⟩ rfl rfl rfl rfl rfl (by kernel_rfl) Tryz.func4 (by kernel_rfl)
  (of_decide_eq_true (by kernel_rfl)) (by unfold Func.isWrapper;first|(rw[if_pos (by decide +kernel)];kernel_rfl)|(rw[if_neg (by decide +kernel)];exact⟨rfl,rfl⟩))
  (fun os started H enc _ F=>by rw[OpenClaim.pre_eq_preRow];exact lifted os started H enc F)
theorem plain(f:FuncId)(fn:Func)(hf:Tryz.pinned.checked.prog.funcNamed "encore/encorelaw23.PruneSure" = some f)(hfn:Tryz.pinned.checked.prog.funcs[f]?=some fn) :
    false=Tryz.pinned.checked.prog.looks []∧∀(j:Nat) t,fn.params[j]?=some t→Tryz.pinned.checked.prog.wantsStandIn t=false:=by
  obtain rfl:f=4:=Option.some.inj ((show Tryz.prog.funcNamed "encore/encorelaw23.PruneSure" = some 4 by kernel_rfl).symm.trans hf) |>.symm
  obtain rfl:fn=Tryz.f4:=(Option.some.inj (Tryz.func4.symm.trans hfn)).symm
  refine⟨by kernel_rfl,fun j t ht=>?_⟩
  rw[Tryz.params4] at ht
  have ht2:=Array.mem_of_getElem? ht
  have ht3:t=31∨t=3∨t=24:=by simpa using ht2
  rcases ht3 with rfl|rfl|rfl
  · exact(show Tryz.prog.wantsStandIn 31=false by kernel_rfl)
  · exact(show Tryz.prog.wantsStandIn 3=false by kernel_rfl)
  · exact(show Tryz.prog.wantsStandIn 24=false by kernel_rfl)
theorem card:Rows.PruneSureUptoCardSaid :=
 Claim7.holds_tied_plain_at .later [] _ _ _ _ said (fun _ h=>by cases h) (by kernel_rfl) (fun _ h=>by cases h) pruneSureUpto_row_tie rfl ⟨rfl,rfl⟩ (by kernel_rfl) rfl plain (by kernel_rfl)
end Go.Proofs.YtkpgolcjiahdfaaGreatDoor.pruneSure
namespace Go.Proofs.YtkpgolcjiahdfaaGreatDoor
theorem pruneSureUpto_holds:Rows.PruneSureUptoCardSaid:=pruneSure.card
#print axioms pruneSureUpto_holds
end Go.Proofs.YtkpgolcjiahdfaaGreatDoor
