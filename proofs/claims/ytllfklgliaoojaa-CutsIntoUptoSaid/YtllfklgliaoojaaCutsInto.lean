import Derived.Test.YtllfklgliaoojaaM11
import Derived.Test.YtllfklgliaoojaaRows
import Derived.JoinedCond
import Derived.WalkKit
import Derived.ProofKit
import Derived.OpenShut
set_option linter.unusedVariables false
set_option linter.unusedSimpArgs false
set_option linter.unusedSectionVars false
/- 'CutsInto' holds, of all inputs of at most the given bulk. Conditions: none. -/
namespace Go.Proofs.Ytllfklgliaoojaa.cutsInto
open Go.ChangeShapes Go.WideShapes Go.ChangeAt Go.RowKit
theorem own:ownKnob Try.prog.godebug=none:=by kernel_rfl
theorem laidOut:laidOutB Try.prog=true:=by kernel_rfl
theorem kids:Kids Try.prog (·<Try.prog.types.size):=kids_rows laidOut (by kernel_rfl)
theorem full:∀ t e,t<Try.prog.types.size→Try.prog.underlying t=some (.slice e)→0<Try.prog.cellsOf e:=by
 have h:(List.range Try.prog.types.size).all (fun t=>match Try.prog.underlying t with|some (.slice e)=>decide (0<Try.prog.cellsOf e)|_=>true)=true:=by kernel_rfl
 intro t e ht hu
 have:=List.all_eq_true.1 h t (List.mem_range.2 ht)
 rw[hu] at this
 exact of_decide_eq_true this
theorem gok:RI.GOK G1:=⟨fun id _=>RI.G0_get _ _,fun g o hg=>by rw[G1,RI.G0_get] at hg;cases hg⟩
theorem holds{W:World}:RI.GHolds Try.prog.globals.size G1 W:=fun g o hg=>by rw[G1,RI.G0_get] at hg;cases hg
theorem tys:RI.PrgTys Try.prog 3 9 61 23 59 45 34 36 22 25 :=
 ⟨⟨Try.underlying3,Try.underlying9,⟨_,Try.underlying61,rfl⟩,Try.underlying23,Try.underlying59⟩,⟨_,Try.underlying45,rfl⟩,Try.underlying34,⟨_,Try.underlying36,rfl⟩,Try.underlying22,⟨_,Try.underlying25,rfl⟩⟩
theorem okTys:[3,9,22,23,25,34,36,45,59,61].all (RI.okTy Try.prog [3,9,22,23,25,34,36,45,59,61])=true:=by kernel_rfl
theorem sum_all{H:Type}:∀ l:List (DataW H),(l.map Rows.uptoBulk).sum=Rows.uptoBulkAll l
 | []=>by simp[Rows.uptoBulkAll]
 | d::l=>by simp only[List.map_cons,List.sum_cons,Rows.uptoBulkAll];rw[sum_all l]
theorem meas{H:Type}:RI.Meas (Rows.uptoBulk (H:=H)):=by
 refine⟨fun d=>?_,fun s=>?_,fun l r=>?_,fun l=>?_⟩
 ·cases d with
  | lit x=>cases x<;>simp[Rows.uptoBulk]
  | _=>simp[Rows.uptoBulk]
 ·simp[Rows.uptoBulk]
 ·rw[sum_all];simp only[Rows.uptoBulk];omega
 ·rw[sum_all];simp only[Rows.uptoBulk];omega
theorem walk(W:World)(y0:RI.Prg)(y1:Int)(ok0:RI.okPrg y0)(ok1:True){v0:Value}(hv0:RI.RdV W (.ag (RI.Enc.cells y0)) v0){v1:Value}(hv1:RI.RdV W (.i .i64 y1) v1):Calls Try.prog 4 #[v0,v1] W fun e w'=>e=.returned (.bool true)∧RI.Kept W w':=by
 obtain⟨H',hb⟩:=t_cutsInto (G:=G1) rfl works_pure y0 ok0 y1
 exact RI.tree_calls (Checked.mixed Try.checked) IP_ok ck_all.ck gok rfl holds hb (vs:=[v0,v1]) ⟨v0,[v1],rfl,hv0,v1,[],rfl,hv1,rfl⟩
set_option maxRecDepth 100000 in
theorem contract(H:Type)(enc:TypeId×Value→H)(W:World)(base:Nat)(args:Array Value)(ds gs:List (DataW H))(before:List MemPlace)
  (hval0:∀(j:Nat) t v,Try.f4.params[j]?=some t→args[j]?=some v→Value.okWide Try.prog W .any base t v)
  (hW:DataW.Whole enc Try.prog Try.f4.params.toList Rows.cutsIntoSpec.vars false W args.toList ds gs before) (hk:Rows.uptoSmall H (ds++gs)=true) :
  Calls Try.prog 4 args W fun e W'=>∃ v,e=.returned v∧Rows.cutsIntoSpec.post enc Try.prog Try.f4 false true false false W args v W':=by
 have hval:=hval0
 have hW':=hW
 obtain⟨p,q,hA0,hV,rfl,hfz,hnd⟩:=hW
 have hA:DataW.TrodAll enc Try.prog W 0 (fun _=>true) true Try.f4.params.toList args.toList ds p:=hA0
 have hAk:=hA
 rw[Try.params4] at hA hval
 obtain⟨v0,vs0,d0,ds0,p0,q0,ha0,rfl,rfl,h0,r0⟩:=trodAll_cons hA
 obtain⟨v1,vs1,d1,ds1,p1,q1,ha1,rfl,rfl,h1,r1⟩:=trodAll_cons r0
 obtain⟨rfl,rfl,rfl⟩:=trodAll_nil r1
 subst ha1
 obtain rfl:args=#[v0,v1]:=by cases args;simp_all
 obtain⟨rfl,rfl⟩:=trodVars_none hV
 clear hA0
 have hb:Rows.uptoBulk d0+Rows.uptoBulk d1≤1048576:=by
  have:=of_decide_eq_true hk
  simp only[List.append_nil,Rows.uptoBulkAll] at this
  omega
 obtain⟨n0,x0,hv0,l0,hty0,hx0⟩:=RI.arg_rdM (t:=25) okTys meas (by decide) (hval 0 25 v0 rfl rfl) h0
 rw[Try.underlying25] at hx0
 obtain⟨y0,hy0,ok0⟩:=RI.tyM_prg tys n0 l0 _ hty0 (by omega)
 obtain rfl:x0=.ag (RI.Enc.cells y0):=by rw[←hy0];exact hx0
 obtain⟨n1,x1,hv1,l1,hty1,hx1⟩:=RI.arg_rdM (t:=3) okTys meas (by decide) (hval 1 3 v1 rfl rfl) h1
 rw[Try.underlying3] at hx1
 obtain⟨y1,hy1⟩:=RI.tyM_int Try.underlying3 hty1
 have ok1:True:=trivial
 obtain rfl:x1=.i .i64 y1:=by rw[hy1] at hx1;exact(List.cons.inj hx1).1.symm
 refine(walk W y0 y1 ok0 ok1 hv0 hv1).mono fun e W' ⟨he,hg⟩=>?_
 subst he
 exact⟨_,rfl,RI.post_same (pv:=[]) hW' (fun _ _ _=>trodAll_cons_mk (shut_bool Try.underlying4 _) trodAll_mk0)
  (fun sp hsp=>RI.args_same kids full (by rw[Try.params4];decide) hAk hg sp (fun p hp=>hsp p (by simpa using hp))) (fun _ _=>rfl) (by simp)
  (hg.frame _) hg.2.1 (ok_one (by kernel_rfl) rfl (okWide_bool_mk Try.underlying4 _))⟩
noncomputable def zeros:Array Value:=#[.agg #[.slice none 0 0,.slice none 0 0],.int .i64 0]
set_option maxRecDepth 100000 in
theorem lifted(os:Os)(started:os.Started)(H:Type)(enc:TypeId×Value→H)(F:Stop.Interp) :
  ReturnsInHanded {} Try.checked os 4 .any ((Rows.OpenSpec.upto Rows.cutsIntoSpec).pre6 enc Try.prog Try.f4 Rows.cutsIntoUptoRow.domain false) (((Rows.OpenSpec.upto Rows.cutsIntoSpec).at F).post enc Try.prog Try.f4 false true false false):=by
 refine returnsInHanded_of_cond (C:=Try.checked) (s:=Rows.OpenSpec.upto Rows.cutsIntoSpec) (k:=Rows.uptoSmall) rfl own started (by kernel_rfl) Try.func4
  (OpenSpec.witness (enc:=enc) (C:=Try.checked) (s:=Rows.OpenSpec.upto Rows.cutsIntoSpec) (k:=Rows.uptoSmall) rfl false ⟨#[],zeros,[]⟩ 8 (by kernel_rfl) (by kernel_rfl) (by kernel_rfl)
   (x:=([.agg [.nil,.nil],.lit (.int .i64 0)],[],[])) (by kernel_rfl) rfl (by kernel_rfl)) ?_
 intro W base args ds gs before hval hW _ hk _
 exact contract H enc W base args ds gs before hval hW hk
theorem over:Rows.cutsIntoUptoRow.holds Try.pinned (Rows.OpenSpec.upto Rows.cutsIntoSpec) :=
 OpenClaim.holds_of_cond 4 Try.f4 rfl rfl rfl rfl rfl rfl rfl ⟨rfl,rfl,rfl,rfl,rfl⟩ rfl rfl rfl rfl rfl (by kernel_rfl) Try.func4 (by kernel_rfl)
  (of_decide_eq_true (by kernel_rfl)) (by unfold Func.isWrapper;first|(rw[if_pos (by decide +kernel)];kernel_rfl)|(rw[if_neg (by decide +kernel)];exact⟨rfl,rfl⟩))
  (fun os started H enc _ F=>lifted os started H enc F)
end Go.Proofs.Ytllfklgliaoojaa.cutsInto
namespace Go.Proofs.Ytllfklgliaoojaa
theorem cutsIntoUpto_holds:Rows.CutsIntoUptoSaid:=cutsInto.over
#print axioms cutsIntoUpto_holds
end Go.Proofs.Ytllfklgliaoojaa
