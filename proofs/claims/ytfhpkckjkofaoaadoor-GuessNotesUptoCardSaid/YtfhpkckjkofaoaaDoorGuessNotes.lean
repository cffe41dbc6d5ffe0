import Derived.Test.YtfhpkckjkofaoaaDoorM10
import Derived.Test.YtfhpkckjkofaoaaDoorM09
import Derived.Test.YtfhpkckjkofaoaaDoorCards
import Derived.Test.YtfhpkckjkofaoaaDoorTie
import Derived.WalkKit
import Derived.ProofKit
import Derived.OpenShut
import Derived.Deep.DeepHandedRow
import Derived.Lib.LaidTab
set_option linter.unusedVariables false
set_option linter.unusedSimpArgs false
set_option linter.unusedSectionVars false
/- 'GuessNotes' holds, of all inputs of at most the given bulk. Conditions: none. -/
namespace Go.Proofs.YtfhpkckjkofaoaaDoor.guessNotes
open Go.ChangeShapes Go.WideShapes Go.ChangeAt Go.RowKit
theorem own:ownKnob Tryd.prog.godebug=none:=by kernel_rfl
theorem gBare:Tryd.prog.globalNamed "encore/lift.bare" = some 0:=by kernel_rfl
theorem gBareType:(Tryd.prog.globals[0]?).map (·.type)=some 120:=by kernel_rfl
theorem laidOut:laidOutB Tryd.prog=true:=by kernel_rfl
theorem kids:Kids Tryd.prog (·<Tryd.prog.types.size):=kids_rows laidOut (by kernel_rfl)
theorem full:∀ t e,t<Tryd.prog.types.size→Tryd.prog.underlying t=some (.slice e)→0<Tryd.prog.cellsOf e:=by
 have h:(List.range Tryd.prog.types.size).all (fun t=>match Tryd.prog.underlying t with|some (.slice e)=>decide (0<Tryd.prog.cellsOf e)|_=>true)=true:=by kernel_rfl
 intro t e ht hu
 have:=List.all_eq_true.1 h t (List.mem_range.2 ht)
 rw[hu] at this
 exact of_decide_eq_true this
theorem gok:RI.GOK G1:=by
 refine⟨fun id hid=>?_,fun g o hg=>?_⟩
 ·have:2≤id:=hid
  simp only[G1,RI.AHeap.get_put,RI.G0_get]
  rw[if_neg (by omega)]
 ·simp only[G1,RI.AHeap.get_put,RI.G0_get] at hg
  split at hg
  ·cases hg;exact⟨_,_,rfl,rfl⟩
  ·cases hg
theorem holds{W:World}(h:laidMetH Tryd.prog Rows.guessNotesUptoRow.laid W):RI.GHolds Tryd.prog.globals.size G1 W:=by
  have h':laidMet Tryd.prog [("encore/lift.bare",.agg ([Lit.int .i64 0,Lit.string [],Lit.bool false].map .lit))] W:=h
  obtain⟨C,e,fz,h1,h2⟩:=RI.laid_one gBare gBareType Tryd.underlying120 (by kernel_rfl) (by kernel_rfl) h'
  intro g o hg
  have:g=0∧o=.cells [.i .i64 0,.s [],.b false] 1 true:=by
    simp only[G1,RI.AHeap.get_put,RI.G0_get] at hg
    split at hg
    · cases hg;exact⟨by assumption,rfl⟩
    · cases hg
  obtain⟨rfl,rfl⟩:=this
  exact⟨of_decide_eq_true (by kernel_rfl),_,C,e,fz,rfl,rfl,rfl,h1,by rw[h2];rfl⟩
theorem tys:RI.PceTys Tryd.prog 3 9 36 29 34 65 63 70 62 67 :=
 ⟨Tryd.underlying3,Tryd.underlying9,⟨_,Tryd.underlying36,rfl⟩,Tryd.underlying29,Tryd.underlying34,⟨_,Tryd.underlying65,rfl⟩,Tryd.underlying63,⟨_,Tryd.underlying70,rfl⟩,Tryd.underlying62,⟨_,Tryd.underlying67,rfl⟩⟩
theorem okTys:[3,9,22,29,32,34,36,62,63,65,67,70].all (RI.okTy Tryd.prog [3,9,22,29,32,34,36,62,63,65,67,70])=true:=by kernel_rfl
theorem sum_all{H:Type}:∀ l:List (DataW H),(l.map Rows.uptoBulk).sum=Rows.uptoBulkAll l
 | []=>by simp[Rows.uptoBulkAll]
 | d::l=>by simp only[List.map_cons,List.sum_cons,Rows.uptoBulkAll];rw[sum_all l]
theorem meas{H:Type}:RI.Meas (Rows.uptoBulk (H:=H)):=by
 refine⟨fun d=>?_,fun s=>?_,fun l r=>?_,fun l=>?_⟩
 ·cases d with
  | lit x=>cases x<;>simp[Rows.uptoBulk]
  | _=>simp[Rows.uptoBulk]
 ·simp[Rows.uptoBulk]
 ·rw[sum_all];simp only[Rows.uptoBulk];omega
 ·rw[sum_all];simp only[Rows.uptoBulk];omega
theorem walk(W:World)(h:laidMetH Tryd.prog Rows.guessNotesUptoRow.laid W)(y0:List RI.Seen)(ok0:y0.length<1048576∧∀ x∈y0,RI.okSeen x){v0:Value}(hv0:RI.RdV W (.fs false false y0.length (RI.encs y0)) v0):Calls Tryd.prog 3 #[v0] W fun e w'=>e=.returned (.bool true)∧RI.Kept W w':=by
 have hB:G1.get 0=some (.cells [.i .i64 0,.s [],.b false] 1 true):=by simp[G1]
 obtain⟨H',hb⟩:=t_guessNotes (G:=G1) rfl works_pure y0 ok0.1 ok0.2
 exact RI.tree_calls (Checked.mixed Tryd.checked) IP_ok ck_all.ck gok rfl (holds h) hb (vs:=[v0]) ⟨v0,[],rfl,hv0,rfl⟩
set_option maxRecDepth 100000 in
theorem contract(H:Type)(enc:TypeId×Value→H)(W:World)(base:Nat)(args:Array Value)(ds gs:List (DataW H))(before:List MemPlace)
  (hval0:∀(j:Nat) t v,Tryd.f3.params[j]?=some t→args[j]?=some v→Value.okWide Tryd.prog W .any base t v)
  (hW:DataW.Whole enc Tryd.prog Tryd.f3.params.toList Rows.guessNotesSpec.vars false W args.toList ds gs before) (hk:Rows.uptoSmall H (ds++gs)=true) (hL:laidMetH Tryd.prog Rows.guessNotesUptoRow.laid W) :
  Calls Tryd.prog 3 args W fun e W'=>∃ v,e=.returned v∧Rows.guessNotesSpec.post enc Tryd.prog Tryd.f3 false true false false W args v W':=by
 have hval:=hval0
 have hW':=hW
 obtain⟨p,q,hA0,hV,rfl,hfz,hnd⟩:=hW
 have hA:DataW.TrodAll enc Tryd.prog W 0 (fun _=>true) true Tryd.f3.params.toList args.toList ds p:=hA0
 have hAk:=hA
 rw[Tryd.params3] at hA hval
 obtain⟨v0,vs0,d0,ds0,p0,q0,ha0,rfl,rfl,h0,r0⟩:=trodAll_cons hA
 obtain⟨rfl,rfl,rfl⟩:=trodAll_nil r0
 obtain rfl:args=#[v0]:=by cases args;simp_all
 obtain⟨rfl,rfl⟩:=trodVars_none hV
 clear hA0
 have hb:Rows.uptoBulk d0≤1048576:=by
  have:=of_decide_eq_true hk
  simp only[List.append_nil,Rows.uptoBulkAll] at this
  omega
 obtain⟨n0,x0,hv0,l0,hty0,hx0⟩:=RI.arg_rdM (t:=22) okTys meas (by decide) (hval 0 22 v0 rfl rfl) h0
 rw[Tryd.underlying22] at hx0
 obtain⟨y0,hy0,ok0⟩:=RI.tyM_seens tys.val ⟨_,Tryd.underlying32,rfl⟩ Tryd.underlying22 hty0 (by omega)
 obtain rfl:x0=.fs false false y0.length (RI.encs y0):=by rw[hy0] at hx0;exact(List.cons.inj hx0).1.symm
 refine(walk W hL y0 ok0 hv0).mono fun e W' ⟨he,hg⟩=>?_
 subst he
 exact⟨_,rfl,RI.post_same (pv:=[]) hW' (fun _ _ _=>trodAll_cons_mk (shut_bool Tryd.underlying4 _) trodAll_mk0)
  (fun sp hsp=>RI.args_same kids full (by rw[Tryd.params3];decide) hAk hg sp (fun p hp=>hsp p (by simpa using hp))) (fun _ _=>rfl) (by simp)
  (hg.frame _) hg.2.1 (ok_one (by kernel_rfl) rfl (okWide_bool_mk Tryd.underlying4 _))⟩
noncomputable def zeros:Array Value:=#[.slice none 0 0]
noncomputable def laidWorld(os:Os):World :=
 { World.holding Tryd.prog os ⟨#[],#[],[]⟩ with heap:=(World.holding Tryd.prog os ⟨#[],#[],[]⟩).heap.modify 0 fun
   | .cells _ t frozen=>.cells #[.int .i64 0,.string ⟨#[]⟩,.bool false] t frozen
   | o=>o }
theorem laid_met(os:Os):laidMet Tryd.prog Rows.guessNotesUptoRow.laid ((laidWorld os).forCall (fun _ _=>0) ⟨#[],zeros,[]⟩).memory :=
 laidMet_of_run' 8 (by kernel_rfl) (by kernel_rfl)
def pceD{H:Type}:DataW H :=
 let n:=.lit (.int .i64 0)
 let v:=.agg [n,n,.lit (.string []),.nil,.nil]
 .agg [n,n,n,n,.nil,.nil,n,n,.agg [n,n,v],n]
def zeroD{H:Type}:List (DataW H):=[.nil]
set_option maxRecDepth 100000 in
theorem reads(os:Os){H:Type}(enc:TypeId×Value→H):∃ places,DataW.whole enc Tryd.prog ((laidWorld os).forCall (fun _ _=>0) ⟨#[],zeros,[]⟩).memory Tryd.f3.params.toList Rows.guessNotesSpec.vars false (zeros:Array Value).toList 16=some (zeroD,[],places) :=
 ⟨[],by kernel_rfl⟩
set_option maxRecDepth 100000 in
theorem lifted(os:Os)(started:os.Started)(H:Type)(enc:TypeId×Value→H)(F:Stop.Interp) :
  ReturnsInHanded {} Tryd.checked os 3 .any ((Rows.OpenSpec.upto Rows.guessNotesSpec).preRow enc Tryd.prog Tryd.f3 Rows.guessNotesUptoRow.domain false Rows.guessNotesUptoRow.laid) (((Rows.OpenSpec.upto Rows.guessNotesSpec).at F).post enc Tryd.prog Tryd.f3 false true false false):=by
 obtain⟨places,hx⟩:=reads os enc
 refine returnsInHanded_of_row (C:=Tryd.checked) (s:=Rows.OpenSpec.upto Rows.guessNotesSpec) own started (by kernel_rfl) Tryd.func3
  (witness_row_at (enc:=enc) (C:=Tryd.checked) false (laidWorld os) zeros rfl (by kernel_rfl) (by kernel_rfl) (by kernel_rfl)
   (OpenSpec.preRow_of_cond 16 hx (by kernel_rfl) (fun k hk=>by cases hk;kernel_rfl) (by kernel_rfl) (laid_met os))) ?_
 intro W base args ds gs before hval hW _ hcond _ hL _ _
 exact contract H enc W base args ds gs before hval hW (hcond _ rfl) hL
theorem said:Rows.GuessNotesUptoSaid :=
 OpenClaim.holds_of_cond 3 Tryd.f3 rfl rfl rfl rfl rfl rfl rfl ⟨rfl,rfl,rfl,rfl,rfl⟩ rfl rfl rfl rfl rfl (by kernel_rfl) Tryd.func3 (by kernel_rfl)
  (of_decide_eq_true (by kernel_rfl)) (by unfold Func.isWrapper;first|(rw[if_pos (by decide +kernel)];kernel_rfl)|(rw[if_neg (by decide +kernel)];exact⟨rfl,rfl⟩))
  (fun os started H enc _ F=>by rw[OpenClaim.pre_eq_preRow];exact lifted os started H enc F)
theorem plain(f:FuncId)(fn:Func)(hf:Tryd.pinned.checked.prog.funcNamed "encore/encorelaw22.GuessNotes" = some f)(hfn:Tryd.pinned.checked.prog.funcs[f]?=some fn) :
    false=Tryd.pinned.checked.prog.looks []∧∀(j:Nat) t,fn.params[j]?=some t→Tryd.pinned.checked.prog.wantsStandIn t=false:=by
  obtain rfl:f=3:=Option.some.inj ((show Tryd.prog.funcNamed "encore/encorelaw22.GuessNotes" = some 3 by kernel_rfl).symm.trans hf) |>.symm
  obtain rfl:fn=Tryd.f3:=(Option.some.inj (Tryd.func3.symm.trans hfn)).symm
  refine⟨by kernel_rfl,fun j t ht=>?_⟩
  rw[Tryd.params3] at ht
  have ht2:=Array.mem_of_getElem? ht
  have ht3:t=22:=by simpa using ht2
  rcases ht3 with rfl
  · exact(show Tryd.prog.wantsStandIn 22=false by kernel_rfl)
theorem card:Rows.GuessNotesUptoCardSaid :=
 Claim7.holds_tied_plain_at .later [] _ _ _ _ said (fun _ h=>by cases h) (by kernel_rfl) (fun _ h=>by cases h) guessNotesUpto_row_tie rfl ⟨rfl,rfl⟩ (by kernel_rfl) rfl plain (by kernel_rfl)
end Go.Proofs.YtfhpkckjkofaoaaDoor.guessNotes
namespace Go.Proofs.YtfhpkckjkofaoaaDoor
theorem guessNotesUpto_holds:Rows.GuessNotesUptoCardSaid:=guessNotes.card
#print axioms guessNotesUpto_holds
end Go.Proofs.YtfhpkckjkofaoaaDoor
