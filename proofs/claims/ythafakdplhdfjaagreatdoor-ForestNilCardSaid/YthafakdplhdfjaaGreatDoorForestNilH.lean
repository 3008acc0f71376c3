/- Proved here: the law ForestNil holds for every input. No condition. -/
import Derived.Test.YthafakdplhdfjaaGreatDoorHg14
import Derived.Test.YthafakdplhdfjaaGreatDoorHg16
set_option maxRecDepth 100000
namespace Go.Proofs.YthafakdplhdfjaaGreatDoor.forestNil
open Go.ChangeShapes Go.ChangeMaps Go.WideShapes Go.ChangeAt Go.RowKit Go.Eng Go.Proofs.YthafakdplhdfjaaGreatDoor
theorem contract(H:Type)(enc:TypeId×Value→H)(W:World)(base:Nat)(args:Array Value)(ds gs:List (DataW H))(before:List MemPlace)
  (hval:∀(j:Nat) t v,Tryz.f8.params[j]? =some t→args[j]? =some v→Value.okWide Tryz.prog W .any base t v)
  (hW:DataW.Whole enc Tryz.prog Tryz.f8.params.toList Rows.forestNilSpec.vars false W args.toList ds gs before) (hL:laidMetH Tryz.prog Rows.forestNilRow.laid W) (hS:W.ShapedOpen Tryz.prog):
  Calls Tryz.prog 8 args W fun e W'=>∃v,e= .returned v∧Rows.forestNilSpec.post enc Tryz.prog Tryz.f8 false true false false W args v W':=by
 have hW':=hW
 obtain⟨p,q,hA0,hV,rfl,hfz,hnd⟩:=hW
 have hA:DataW.TrodAll enc Tryz.prog W 0 (fun _=>true) true Tryz.f8.params.toList args.toList ds p:=hA0
 rw[Tryz.params8]at hA hval
 obtain⟨v0,vs0,d0,ds0,p0,q0,hargs,rfl,rfl,h0,r0⟩:=trodAll_cons hA
 obtain⟨v1,vs1,d1,ds1,p1,q1,rfl,rfl,rfl,h1,r1⟩:=trodAll_cons r0
 obtain⟨rfl,rfl,rfl⟩:=trodAll_nil r1
 obtain rfl:args= #[v0,v1]:=by cases args;simp_all
 obtain⟨rfl,rfl⟩:=trodVars_none hV
 have lt0:∀x∈p0,x.block<W.heap.size:=by obtain⟨m,hm⟩:=h0;exact DataW.trod_lt m _ _ _ hm
 have lt1:∀x∈p1,x.block<W.heap.size:=by obtain⟨m,hm⟩:=h1;exact DataW.trod_lt m _ _ _ hm
 obtain⟨tree,rfl,tree_i⟩:=qvi (hval 0 3 v0 rfl rfl) h0
 obtain⟨key,rfl⟩:=qvq (hval 1 9 v1 rfl rfl) h1
 clear hA0 hval
 have hT:=qs2 hS hL
 have hcall:=qvf tree key W (qdc hT) zzl
 refine hcall.calls.mono fun e W' ⟨_,he,_,hits⟩=>?_
 have bel:=qet hT hits
 subst he
 exact⟨_,rfl,_,_,_,[],_,[],hW',trodAll_mk1 (shut_bool Tryz.underlying4 _),(trodAll_cons_mk (Below.trod qt2 kQ (of_decide_eq_true kQ) h0 bel lt0) (trodAll_cons_mk (Below.trod qt2 kQ (of_decide_eq_true kQ) h1 bel lt1) trodAll_mk0)),rfl,bel.frame _,fun h=>by cases h⟩
noncomputable def laidWorld(os:Os):World:=World.laidAll Tryz.prog os Rows.forestNilRow.laid
def args0:Array Value:= #[.int .i64 0,.string ByteArray.empty]
set_option maxRecDepth 100000 in
theorem laid_met(os:Os):laidMet Tryz.prog Rows.forestNilRow.laid ((laidWorld os).forCall (fun _ _=>0) ⟨#[],args0,[]⟩).memory:=laidMet_laidAll _ kQ kQ
theorem reads(os:Os){H:Type}(enc:TypeId×Value→H):∃places,DataW.whole enc Tryz.prog ((laidWorld os).forCall (fun _ _=>0) ⟨#[],args0,[]⟩).memory Tryz.f8.params.toList Rows.forestNilSpec.vars false args0.toList 8=some ([.lit (.int .i64 0),.lit (.string [])],[],places):=
 ⟨[],kQ⟩
set_option maxRecDepth 100000 in
theorem witness(os:Os){H:Type}(enc:TypeId×Value→H):∃(w:World) (tape:Tape) (i:Input),w.os=os∧(w.forCall tape i).Shaped Tryz.prog∧i.vars=[]∧Input.okWide Tryz.prog (w.forCall tape i) .any w.heap.size 8 i∧
  (OpenSpec.ofChange Rows.forestNilSpec).preRow enc Tryz.prog Tryz.f8 Rows.forestNilRow.domain false Rows.forestNilRow.laid (w.forCall tape i).memory i.args∧({}:Assume).holds Tryz.prog (lone (Frame.enter Tryz.prog 8 i.args .normal) [] (w.forCall tape i)):=by
 obtain⟨places,hx⟩:=reads os enc
 have hok:Input.okWideB Tryz.prog ((laidWorld os).forCall (fun _ _=>0) ⟨#[],args0,[]⟩) 8 ⟨#[],args0,[]⟩=true:=by kernel_rfl
 refine⟨laidWorld os,fun _ _=>0,⟨#[],args0,[]⟩,World.laidAll_os _ _ _,World.shaped_of_ZipB kQ kQ,(Input.okWide_of_okWideB (base:=0) hok).1,(Input.okWide_of_okWideB hok).2,?_,?_⟩
 ·exact OpenSpec.preRow_of_cond 8 hx kQ (fun k hk=>by cases hk) kQ (laid_met os)
 ·simp only[Assume.holds]
  exact⟨by simp,by simp,by simp,by simp,by simp⟩
set_option maxRecDepth 100000 in
theorem lifted(os:Os)(started:os.Started)(H:Type)(enc:TypeId×Value→H)(F:Stop.Interp):
  ReturnsInHanded {} Tryz.checked os 8 .any ((OpenSpec.ofChange Rows.forestNilSpec).preRow enc Tryz.prog Tryz.f8 Rows.forestNilRow.domain false Rows.forestNilRow.laid) (((OpenSpec.ofChange Rows.forestNilSpec).at F).post enc Tryz.prog Tryz.f8 false true false false):=by
 refine returnsInHanded_of_row (C:=Tryz.checked) (s:=OpenSpec.ofChange Rows.forestNilSpec) qt3 started kQ Tryz.func8 (witness os enc) ?_
 intro W base args ds gs before hval hW _ _ _ hL hS _
 exact contract H enc W base args ds gs before hval hW hL hS
theorem said:Rows.ForestNilSaid:=
 OpenClaim.holds_of_cond 8 Tryz.f8 rfl rfl rfl rfl rfl rfl rfl ⟨rfl,rfl,rfl,rfl,rfl⟩ rfl rfl rfl rfl rfl kQ Tryz.func8 kQ
  (of_decide_eq_true kQ) (by unfold Func.isWrapper;first|(rw[if_pos (by decide+kernel)];kernel_rfl) |(rw[if_neg (by decide+kernel)];exact⟨rfl,rfl⟩))
  (fun os started H enc _ F=>by rw[OpenClaim.pre_eq_preRow];exact lifted os started H enc F)
theorem plain(f:FuncId)(fn:Func)(hf:Tryz.pinned.checked.prog.funcNamed Rows.forestNilRow.func=some f)(hfn:Tryz.pinned.checked.prog.funcs[f]? =some fn):
  true=Tryz.pinned.checked.prog.looks []∧∀(j:Nat) t,fn.params[j]? =some t→Tryz.pinned.checked.prog.wantsStandIn t=false:=by
 obtain rfl:f=8:=cR ((show Tryz.prog.funcNamed Rows.forestNilRow.func=some 8 by kernel_rfl).symm.trans hf) |>.symm
 obtain rfl:fn=Tryz.f8:=(cR (Tryz.func8.symm.trans hfn)).symm
 refine⟨kQ,fun j t ht=>?_⟩
 rw[Tryz.params8]at ht
 obtain rfl|rfl:t=3∨t=9:=by
  have:=Array.mem_of_getElem? ht
  simp at this
  first|exact this|omega
 ·exact(show Tryz.prog.wantsStandIn 3=false by kernel_rfl)
 ·exact(show Tryz.prog.wantsStandIn 9=false by kernel_rfl)
theorem card:Rows.ForestNilCardSaid:=
 Claim7.holds_tied_plain_at .later [] _ _ _ _ said (fun _ h=>by cases h) kQ (fun _ h=>by cases h) forestNil_row_tie rfl ⟨rfl,rfl⟩ kQ rfl plain kQ
#print axioms card
end Go.Proofs.YthafakdplhdfjaaGreatDoor.forestNil
