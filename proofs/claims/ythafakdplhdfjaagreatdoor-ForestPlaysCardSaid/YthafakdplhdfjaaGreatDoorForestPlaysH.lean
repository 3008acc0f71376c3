/- Proved here: the law ForestPlays holds for every input. No condition. -/
import Derived.Test.YthafakdplhdfjaaGreatDoorHf17
set_option maxRecDepth 100000
namespace Go.Proofs.YthafakdplhdfjaaGreatDoor.forestPlays
open Go.ChangeShapes Go.ChangeMaps Go.WideShapes Go.ChangeAt Go.RowKit Go.Eng Go.Proofs.YthafakdplhdfjaaGreatDoor
theorem contract(H:Type)(enc:TypeId×Value→H)(W:World)(base:Nat)(args:Array Value)(ds gs:List (DataW H))(before:List MemPlace)
  (hval:∀(j:Nat) t v,Tryz.f7.params[j]? =some t→args[j]? =some v→Value.okWide Tryz.prog W .any base t v)
  (hW:DataW.Whole enc Tryz.prog Tryz.f7.params.toList Rows.forestPlaysSpec.vars false W args.toList ds gs before) (hL:laidMetH Tryz.prog Rows.forestPlaysRow.laid W) (hS:W.ShapedOpen Tryz.prog):
  Calls Tryz.prog 7 args W fun e W'=>∃v,e= .returned v∧Rows.forestPlaysSpec.post enc Tryz.prog Tryz.f7 false true false false W args v W':=by
 have hW':=hW
 obtain⟨p,q,hA0,hV,rfl,hfz,hnd⟩:=hW
 have hA:DataW.TrodAll enc Tryz.prog W 0 (fun _=>true) true Tryz.f7.params.toList args.toList ds p:=hA0
 rw[Tryz.params7]at hA hval
 obtain⟨v0,vs0,d0,ds0,p0,q0,hargs,rfl,rfl,h0,r0⟩:=trodAll_cons hA
 obtain⟨v1,vs1,d1,ds1,p1,q1,rfl,rfl,rfl,h1,r1⟩:=trodAll_cons r0
 obtain⟨v2,vs2,d2,ds2,p2,q2,rfl,rfl,rfl,h2,r2⟩:=trodAll_cons r1
 obtain⟨v3,vs3,d3,ds3,p3,q3,rfl,rfl,rfl,h3,r3⟩:=trodAll_cons r2
 obtain⟨rfl,rfl,rfl⟩:=trodAll_nil r3
 obtain rfl:args= #[v0,v1,v2,v3]:=by cases args;simp_all
 obtain⟨rfl,rfl⟩:=trodVars_none hV
 have lt0:∀x∈p0,x.block<W.heap.size:=by obtain⟨m,hm⟩:=h0;exact DataW.trod_lt m _ _ _ hm
 have lt1:∀x∈p1,x.block<W.heap.size:=by obtain⟨m,hm⟩:=h1;exact DataW.trod_lt m _ _ _ hm
 have lt2:∀x∈p2,x.block<W.heap.size:=by obtain⟨m,hm⟩:=h2;exact DataW.trod_lt m _ _ _ hm
 have lt3:∀x∈p3,x.block<W.heap.size:=by obtain⟨m,hm⟩:=h3;exact DataW.trod_lt m _ _ _ hm
 obtain⟨a0,len0,cap0,rfl⟩:=okWide_slice Tryz.underlying62 (hval 0 62 v0 rfl rfl)
 obtain⟨L,hlen0,hln0,hrd0,hok0⟩:=qxj h0
 subst hlen0
 obtain⟨tree,rfl,tree_i⟩:=qxb (hval 1 3 v1 rfl rfl) h1
 obtain⟨k,rfl,k_u⟩:=qxd (hval 2 77 v2 rfl rfl) h2
 obtain⟨also,rfl⟩:=qww (hval 3 4 v3 rfl rfl) h3
 clear hA0 hval
 have hT:=qs2 hS hL
 have hcall:=qwo L (fun x hx=>(hok0 x hx).is hT) a0 cap0 (fun _ hp=>qw0 hrd0 (fun b off h1 h2=>qw3 hT hrd0 b off h1 (fun e=>h2 (by rw[e];rfl))) hp) tree k k_u also W (qwr hT) (qv3 W)
 refine hcall.calls.mono fun e W' ⟨_,he,_,hits⟩=>?_
 have bel:=qw1 hT hits
 subst he
 exact⟨_,rfl,_,_,_,[],_,[],hW',trodAll_mk1 (shut_bool Tryz.underlying4 _),(trodAll_cons_mk (Below.trod qt2 kQ (of_decide_eq_true kQ) h0 bel lt0) (trodAll_cons_mk (Below.trod qt2 kQ (of_decide_eq_true kQ) h1 bel lt1) (trodAll_cons_mk (Below.trod qt2 kQ (of_decide_eq_true kQ) h2 bel lt2) (trodAll_cons_mk (Below.trod qt2 kQ (of_decide_eq_true kQ) h3 bel lt3) trodAll_mk0)))),rfl,bel.frame _,fun h=>by cases h⟩
noncomputable def laidWorld(os:Os):World:=World.laidAll Tryz.prog os Rows.forestPlaysRow.laid
def args0:Array Value:= #[.slice none 0 0,.int .i64 0,.int .u16 0,.bool false]
set_option maxRecDepth 100000 in
theorem laid_met(os:Os):laidMet Tryz.prog Rows.forestPlaysRow.laid ((laidWorld os).forCall (fun _ _=>0) ⟨#[],args0,[]⟩).memory:=laidMet_laidAll _ kQ kQ
theorem reads(os:Os){H:Type}(enc:TypeId×Value→H):∃places,DataW.whole enc Tryz.prog ((laidWorld os).forCall (fun _ _=>0) ⟨#[],args0,[]⟩).memory Tryz.f7.params.toList Rows.forestPlaysSpec.vars false args0.toList 8=some ([.nil,.lit (.int .i64 0),.lit (.int .u16 0),.lit (.bool false)],[],places):=
 ⟨[],kQ⟩
set_option maxRecDepth 100000 in
theorem witness(os:Os){H:Type}(enc:TypeId×Value→H):∃(w:World) (tape:Tape) (i:Input),w.os=os∧(w.forCall tape i).Shaped Tryz.prog∧i.vars=[]∧Input.okWide Tryz.prog (w.forCall tape i) .any w.heap.size 7 i∧
  (OpenSpec.ofChange Rows.forestPlaysSpec).preRow enc Tryz.prog Tryz.f7 Rows.forestPlaysRow.domain false Rows.forestPlaysRow.laid (w.forCall tape i).memory i.args∧({}:Assume).holds Tryz.prog (lone (Frame.enter Tryz.prog 7 i.args .normal) [] (w.forCall tape i)):=by
 obtain⟨places,hx⟩:=reads os enc
 have hok:Input.okWideB Tryz.prog ((laidWorld os).forCall (fun _ _=>0) ⟨#[],args0,[]⟩) 7 ⟨#[],args0,[]⟩=true:=by kernel_rfl
 refine⟨laidWorld os,fun _ _=>0,⟨#[],args0,[]⟩,World.laidAll_os _ _ _,World.shaped_of_ZipB kQ kQ,(Input.okWide_of_okWideB (base:=0) hok).1,(Input.okWide_of_okWideB hok).2,?_,?_⟩
 ·exact OpenSpec.preRow_of_cond 8 hx kQ (fun k hk=>by cases hk) kQ (laid_met os)
 ·simp only[Assume.holds]
  exact⟨by simp,by simp,by simp,by simp,by simp⟩
set_option maxRecDepth 100000 in
theorem lifted(os:Os)(started:os.Started)(H:Type)(enc:TypeId×Value→H)(F:Stop.Interp):
  ReturnsInHanded {} Tryz.checked os 7 .any ((OpenSpec.ofChange Rows.forestPlaysSpec).preRow enc Tryz.prog Tryz.f7 Rows.forestPlaysRow.domain false Rows.forestPlaysRow.laid) (((OpenSpec.ofChange Rows.forestPlaysSpec).at F).post enc Tryz.prog Tryz.f7 false true false false):=by
 refine returnsInHanded_of_row (C:=Tryz.checked) (s:=OpenSpec.ofChange Rows.forestPlaysSpec) qt3 started kQ Tryz.func7 (witness os enc) ?_
 intro W base args ds gs before hval hW _ _ _ hL hS _
 exact contract H enc W base args ds gs before hval hW hL hS
theorem said:Rows.ForestPlaysSaid:=
 OpenClaim.holds_of_cond 7 Tryz.f7 rfl rfl rfl rfl rfl rfl rfl ⟨rfl,rfl,rfl,rfl,rfl⟩ rfl rfl rfl rfl rfl kQ Tryz.func7 kQ
  (of_decide_eq_true kQ) (by unfold Func.isWrapper;first|(rw[if_pos (by decide+kernel)];kernel_rfl) |(rw[if_neg (by decide+kernel)];exact⟨rfl,rfl⟩))
  (fun os started H enc _ F=>by rw[OpenClaim.pre_eq_preRow];exact lifted os started H enc F)
theorem plain(f:FuncId)(fn:Func)(hf:Tryz.pinned.checked.prog.funcNamed Rows.forestPlaysRow.func=some f)(hfn:Tryz.pinned.checked.prog.funcs[f]? =some fn):
  true=Tryz.pinned.checked.prog.looks []∧∀(j:Nat) t,fn.params[j]? =some t→Tryz.pinned.checked.prog.wantsStandIn t=false:=by
 obtain rfl:f=7:=cR ((show Tryz.prog.funcNamed Rows.forestPlaysRow.func=some 7 by kernel_rfl).symm.trans hf) |>.symm
 obtain rfl:fn=Tryz.f7:=(cR (Tryz.func7.symm.trans hfn)).symm
 refine⟨kQ,fun j t ht=>?_⟩
 rw[Tryz.params7]at ht
 obtain rfl|rfl|rfl|rfl:t=62∨t=3∨t=77∨t=4:=by
  have:=Array.mem_of_getElem? ht
  simp at this
  first|exact this|omega
 ·exact(show Tryz.prog.wantsStandIn 62=false by kernel_rfl)
 ·exact(show Tryz.prog.wantsStandIn 3=false by kernel_rfl)
 ·exact(show Tryz.prog.wantsStandIn 77=false by kernel_rfl)
 ·exact(show Tryz.prog.wantsStandIn 4=false by kernel_rfl)
theorem card:Rows.ForestPlaysCardSaid:=
 Claim7.holds_tied_plain_at .later [] _ _ _ _ said (fun _ h=>by cases h) kQ (fun _ h=>by cases h) forestPlays_row_tie rfl ⟨rfl,rfl⟩ kQ rfl plain kQ
#print axioms card
end Go.Proofs.YthafakdplhdfjaaGreatDoor.forestPlays
