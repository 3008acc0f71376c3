/- Parts: A range over a function whose rounds are zec as a history; A region that draws its order and asks for a round; The plain law of sheets and heads; package sheet; The plain law of the disk; package wal; Plain mathematics of bit maps. No condition. -/
import Derived.Test.YthafakdplhdfjaaGreatDoorHf01
import Derived.Test.YthafakdplhdfjaaGreatDoorHf02
import Derived.Test.YthafakdplhdfjaaGreatDoorHf07
import Derived.Test.YthafakdplhdfjaaGreatDoorHf00
set_option maxRecDepth 100000
set_option maxHeartbeats 40000000
namespace Go.Eng
open Go.RowKit
section
variable{P:Program}{Q:Exit→Act→World→Prop}{l:zav}{w0:World}{F:Nat→Prop}{m:List Item}{fn:Func}{R:Ending→World→Prop}
variable{α:Type}
def zwg(P:Program)(gf:FuncId)(cs:List Value)(mi mo:List Item)(E:List α→α→Prop)(S:List α→Prop)(enc:α→List Value):Prop:=
 ∀(σ:Type) (ly:Nat) (Y:σ→Item) (I:List α→σ→Prop) (J:σ→Prop) (s0:σ) (w:World),(∀s,(Y s).Stable none')→I [] s0→
  (∀k x s,E k x→I k s→Yd P ly Y s (enc x).toArray fun b s'=>(b=true∧I (k++[x]) s')∨(b=false∧J s'))→
  (∀it∈Y s0::mi,zbq it w)→(Y s0::mi).Pairwise Item.Apart→
  Calls P gf (.func (.yield ly) #[] #[]::cs).toArray w fun e w'=>(∃v,e= .returned v)∧∃s,((∃k,S k∧I k s)∨J s)∧Its (za4 (Y s0::mi)) w (Y s::mo) w'
variable{n:Nat}{gf:FuncId}{mo:List Item}{σ:Type}
theorem qcv{gx:Operand}{ps:Array Tmp}{assign body:Code}{ds:List Deferred}{cs:List Value}{mi m2:List Item}{E:List α→α→Prop}{S:List α→Prop}{enc:α→List Value}(B:σ→List Item)(I:List α→σ→Prop)(J:Code→σ→Prop)(s0:σ)
  (hg:evO l gx=some (.func (.func gf) #[] cs.toArray)) (hk:zex l gx=true) (hb:za7 P gf=true) (hit:zwg P gf cs mi mo E S enc) (hps:∀x,((enc x).length=ps.size)) (hpn:∀p∈ps.toList,p<n)
  (hst:∀s,∀it∈B s,it.Stable none') (hmi:∀it∈mi,it.Stable none') (h0:I [] s0)
  (hround:∀ly rc k x s W,E k x→I k s→HT P assign (zzd P ly body (qjh ly rc B (fun _=>I (k++[x])) (fun c=>J (c.getD .skip)) (pt ly (rc.at .ready none)::B s) W)) ⟨n,[],some ly⟩ (zn8 (ps.toList.zip (enc x)) l)
   (Hp W (za4 (pt ly (rc.at .ready none)::B s)) (pt ly (rc.at .ready none)::B s)))
  (hdone:∀D k s,S k→I k s→HX Q .normal ⟨n,zel D::ds,none⟩ l (Hp w0 F (pt D (.deferred (some []))::(B s++(mo++m2)))))
  (hstop:∀D c s,J c s→HT P c Q ⟨n,zel D::ds,none⟩ l (Hp w0 F (pt D (.deferred (some []))::(B s++(mo++m2))))):
  HT P (.rangeFunc gx ps assign body) Q ⟨n,ds,none⟩ l (Hp w0 F (B s0++(mi++m2))):=by
 unfold HT HX at*
 intro a w st hw
 refine wpIn_rangeFunc fun fn _=>?_
 obtain⟨rc,hrc⟩:∃rc:Rc,rc=⟨fn,a.tmps,ps,assign,body,w.heap.size⟩:=⟨_,rfl⟩
 obtain⟨ly,hly⟩:∃ly,ly=w.heap.size+1:=⟨_,rfl⟩
 obtain⟨W1,hW1⟩:∃W1,(w.alloc (.deferred (some []))).alloc (rc.at .ready none)=W1:=⟨_,rfl⟩
 have hH1:Hp w0 F (pt ly (rc.at .ready none)::pt w.heap.size (.deferred (some []))::(B s0++(mi++m2))) W1:=by
  have:=(hw.alloc (.deferred (some []))).alloc (rc.at .ready none)
  rw[hW1]at this
  simpa[hly]using this
 obtain⟨Y,hY⟩:∃Y:σ×Option Code→Item,∀s,Y s=zef (pt ly (rc.at (if s.2.isNone then .ready else .done) s.2)::B s.1):=⟨_,fun _=>rfl⟩
 have hLs:∀s st pe,∀it∈pt ly (rc.at st pe)::B s,it.Stable none':=fun s st pe it hm=>(aL.1 hm).elim (fun h=>h▸zab _ _ _) (hst s it)
 have hmarks:({ a with defers:=[zel w.heap.size]++a.defers }:Act).defers=zel w.heap.size::ds:=by simp[st.defers]
 have st':St ⟨n,zel w.heap.size::ds,none⟩ l { a with defers:=[zel w.heap.size]++a.defers }:=⟨st.size,hmarks,st.slot⟩
 have hH2:Hp w0 F ((pt ly (rc.at .ready none)::B s0)++(mi++(pt w.heap.size (.deferred (some []))::m2))) W1:=by
  refine hH1.perm ?_
  refine(List.Perm.cons _ ?_)
  refine((bM (l₁:=B s0++mi) (l₂:=m2) (a:=pt w.heap.size (.deferred (some [])))).symm.trans ?_:(pt w.heap.size (.deferred (some []))::(B s0++mi++m2)).Perm _) |> fun h=>by simpa using h
  simp
 have hHere:∀it∈Y (s0,none)::mi,zbq it W1:=by
  intro it hm
  rcases aL.1 hm with rfl|hm
  ·rw[hY]
   refine zk4 (fun it hm=>?_) (bN.1 hH2.apart).1
   have hin:=hH2.item it (aP _ hm)
   exact⟨hin.1,hLs _ _ _ it hm,fun k hk=>(hin.2.2 k hk).1⟩
  ·have hin:=hH2.item it (aU _ (aP _ hm))
   exact⟨hin.1,hmi it hm,fun k hk=>(hin.2.2 k hk).1⟩
 have hAp:(Y (s0,none)::mi).Pairwise Item.Apart:=by
  have h1:=bN.1 hH2.apart
  refine bP.2 ⟨fun y hy k hk hky=>?_,(bN.1 h1.2.1).1⟩
  rw[hY]at hk
  obtain⟨x,hx,hkx⟩:=hk
  exact h1.2.2 x hx y (aP _ hy) k hkx hky
 refine⟨ly,[zel w.heap.size],W1,{ target:=.fn (.func gf) cs.toArray,args:= #[.func (.yield ly) #[] #[]] },W1,gf,(.func (.yield ly) #[] #[]::cs).toArray,W1,?_,?_,fun _ _=>trivial,?_,zla _,?_⟩
 ·rw[←hW1,hrc,hly];exact run_enterLoop_outer _ _ _ _ _
 ·have:a.eval gx= .func (.func gf) #[] cs.toArray:=by rw[st.eval hk,zar hg]
  simp only[resolve,this]
  simp[go_sem]
 ·simp[invoke,zdz hb]
 ·refine(callsIn_wide (n:=0)).2 ((hit (σ×Option Code) ly Y (fun k s=>s.2=none∧I k s.1) (fun s=>∃c,s.2=some c∧J c s.1) (s0,none) W1 (fun s=>by rw[hY];exact zad _) ⟨rfl,h0⟩ ?_ hHere hAp).mono ?_)
  ·rintro k x ⟨s,pe⟩ hx ⟨rfl,hI⟩ W hW
   rw[hY]at hW
   have hrec:W.heap[ly]? =some (rc.at .ready none):=(hW.1.1 (pt ly (rc.at .ready none)) sQ).1
   refine⟨fn,(ps.toList.zip (enc x)).foldl (fun t (p,v)=>t.setIfInBounds p v) a.tmps,assign,body,?_,?_⟩
   ·have:=run_yield (P:=P) (args:=(enc x).toArray) hrec (by simpa[hrc]using hps x)
    rw[this,hrc]
    exact congrArg (fun T=>Result.ok (Next.round ly fn T assign body) W) (qf4 ps (enc x) _)
   ·have s1:St ⟨n,[],some ly⟩ l { tmps:=a.tmps,defers:=[] }:=⟨st.size,rfl,st.slot⟩
    have s2:=St.round (ps.toList.zip (enc x)) s1 (fun p hp=>hpn _ (iR (a:=p.1) (b:=p.2) hp).1)
    have h1:=hround ly rc k x s W hx hI _ W s2 (.begin hW.1.1 hW.1.2 _ fun k hk=>hk)
    refine RoundIn.mono (roundIn_of_wpIn (n:=0) (F:=Fence.wide) trivial h1) ?_
    rintro e w' ⟨pe,s',he,hJ,hi⟩
    refine⟨pe.isNone,(s',pe),he,?_,by rw[hY,hY];exact hi⟩
    cases pe with
    |none=>exact .inl ⟨rfl,rfl,hJ⟩
    |some c=>exact .inr ⟨rfl,c,rfl,hJ⟩
  ·rintro e w3 ⟨⟨v,rfl⟩,⟨s,pe⟩,hs,hi⟩
   have h3:Hp w0 F ((Y (s,pe)::mo)++(pt w.heap.size (.deferred (some []))::m2)) w3:=by
    refine Hp.call (m:=(pt ly (rc.at .ready none)::B s0)++mi) (by simpa using hH2) hi fun k _ ⟨it,hm,hk⟩=>?_
    rcases aL.1 hm with rfl|hm
    ·rw[hY]at hk
     obtain⟨x,hx,hkx⟩:=hk
     exact⟨x,aP _ hx,hkx⟩
    ·exact⟨it,aU _ hm,hk⟩
   rw[hY]at h3
   have h4:=Hp.open1 (L:=pt ly (rc.at (if pe.isNone then .ready else .done) pe)::B s) (m:=mo++(pt w.heap.size (.deferred (some []))::m2)) h3
   have h5:=h4.put (m:=B s++(mo++(pt w.heap.size (.deferred (some []))::m2))) (rc.at .exhausted pe)
   have h6:Hp w0 F (pt w.heap.size (.deferred (some []))::(B s++(mo++m2))) (w3.putObj ly (rc.at .exhausted pe)):=by
    refine(h5.sub (gB _ _)).perm ?_
    rw[←aG,←aG]
    exact bM
   have hend:=run_endLoop (P:=P) (h4.get (b:=ly) (o:=rc.at (if pe.isNone then .ready else .done) pe) sQ) (by cases pe<;>simp)
   refine⟨pe,_,hend,?_⟩
   cases pe with
   |none=>
    obtain⟨k,hk1, -,hk2⟩:=hs.resolve_right fun⟨c,hc,_⟩=>by cases hc
    exact hdone _ k s hk1 hk2 _ _ st' h6
   |some c=>exact hstop _ c s ((hs.resolve_left fun⟨k,hk1,h,_⟩=>by cases h).elim fun c' h=>by cases h.1;exact h.2) _ _ st' h6
def zpv(w:World)(Fc:Nat→Prop)(Y:σ→Item)(mo:List Item)(φ:σ→Prop):Ending→World→Prop:=fun e w'=>(∃v,e= .returned v)∧∃s,φ s∧Its Fc w (Y s::mo) w'
variable{c:Code}
theorem qbv(cs:List Value)(mi mo:List Item)(E:List α→α→Prop)(S:List α→Prop)(enc:α→List Value)(hf:P.funcs[gf]? =some fn)(hb:fn.body=some c)(hn:Nat.ble (cs.length+1) fn.ntmps=true)
  (h:∀(σ:Type) (ly:Nat) (Y:σ→Item) (I:List α→σ→Prop) (J:σ→Prop) (s0:σ) (w:World),(∀s,(Y s).Stable none')→I [] s0→
   (∀k x s,E k x→I k s→Yd P ly Y s (enc x).toArray fun b s'=>(b=true∧I (k++[x]) s')∨(b=false∧J s'))→
   HT P c (bodyPost P fn (zpv w (za4 (Y s0::mi)) Y mo fun s=>(∃k,S k∧I k s)∨J s)) ⟨fn.ntmps,[],none⟩ (zaa 0 (.func (.yield ly) #[] #[]::cs)) (Hp w (za4 (Y s0::mi)) (Y s0::mi))):zwg P gf cs mi mo E S enc:=
 fun σ ly Y I J s0 w hst h0 hy hh ha=>zol hf hb hn (Hp w (za4 (Y s0::mi)) (Y s0::mi)) (.begin hh ha _ fun _ h=>h) (h σ ly Y I J s0 w hst h0 hy)
variable{Y:σ→Item}{φ:σ→Prop}
theorem qi8(s:σ)(hf:fn.results= #[])(hφ:φ s)(hst:∀it∈Y s::mo,it.Stable none')(hs:(Y s::mo).Sublist m):HX (bodyPost P fn (zpv w0 F Y mo φ)) .ret ⟨n,[],none⟩ l (Hp w0 F m):=
 qna hf fun _ hw=>⟨⟨_,rfl⟩,s,hφ,hw.its hs hst⟩
theorem qc5(s:σ)(hf:fn.results= #[])(hφ:φ s)(hst:∀it∈Y s::mo,it.Stable none')(hs:(Y s::mo).Sublist m):HX (bodyPost P fn (zpv w0 F Y mo φ)) .normal ⟨n,[],none⟩ l (Hp w0 F m):=
 qc4 hf fun _ hw=>⟨⟨_,rfl⟩,s,hφ,hw.its hs hst⟩
theorem qfr{f:FuncId}(vs:List Value)(pre:List Item){val:α→Value}{φ:α→Prop}{its:α→List Item}(hf:P.funcs[f]? =some fn)(hb:fn.body=some c)(hn:Nat.ble vs.length fn.ntmps=true)
  (hp:∀it∈pre,zbq it w0) (ha:pre.Pairwise Item.Apart)
  (h:HT P c (zpc P fn (zjn w0 (za4 pre) val φ its)) ⟨fn.ntmps,[],none⟩ (zaa 0 vs) (Hp w0 (za4 pre) pre)):Ct P f vs.toArray w0 (za4 pre) val φ its:=
 by unfold Ct;exact zwr hf hb hn (Hp w0 (za4 pre) pre) (.begin hp ha _ fun _ h=>h) h
end
section
variable{P:Program}{Q:Exit→Act→World→Prop}{l:zav}{w0:World}{F:Nat→Prop}{m:List Item}{ops:Array Oper}{S:World→Prop}
variable{i:Nat}{v:Value}{a:Act}{K:Act→World→Prop}{w:World}
theorem zrj{o:Oper}(hi:ops[i]? =some o)(hy:YieldsIf P ops S o v a)(hS:S w)(h:K (a.put o.dst v) w):wpOpIn (fw none) 0 P ops Q i K a w:=by
 unfold Go.wpOpIn
 simp only[hi]
 rcases hy with ⟨hw,hv⟩ |⟨hw,rfl⟩
 ·simp only[hw,if_true,Oper.wpIn]
  refine⟨fun _ _=>trivial,?_⟩
  rw[show(fw none).round=none from rfl,Oper.semAt_none,hv w hS]
  exact h
 ·simp only[hw,bT,if_false]
  exact⟨fun _ _=>trivial,h⟩
variable{oi:Oper}
theorem zy1{j:Nat}{oj:Oper}(hj:ops[j]? =some oj)(hap:oi.apart ops oj=true)
  (hsi:∀cs b,oi.op≠ .select cs b) (hsj:∀cs b,oj.op≠ .select cs b)
  (hQ:∀c a w,¬Q (.panic c) a w)
  (hy:YieldsIf P ops S oi v a) (h:wpOpIn (fw none) 0 P ops Q j K (a.put oi.dst v) w):
  wpOpIn (fw none) 0 P ops Q j (fun a' w'=>YieldsIf P ops S oi v a'∧K (a'.put oi.dst v) w') a w:=by
 obtain⟨h1,h2,h3⟩:=Oper.apart_spec hap
 have keep:∀(a:Act),YieldsIf P ops S oi v a→∀u,YieldsIf P ops S oi v (a.put oj.dst u):=fun a hy u=>
  hy.of_same (execOp_put oi hsi a oj.dst u h3) (wanted_put oi a oj.dst u h3)
 have keepD:∀d,YieldsIf P ops S oi v { a with defers:=d::a.defers }:=fun d=>hy.of_same rfl rfl
 unfold wpOpIn at*
 simp only[hj]at*
 rw[wanted_put oj a oi.dst v h1]at h
 split
 ·rename_i hw
  simp only[hw,if_true]at h
  unfold Oper.wpIn at*
  refine⟨fun _ _=>trivial,?_⟩
  have h:=h.2
  rw[show(fw none).round=none from rfl,Oper.semAt_none,execOp_put oj hsj a oi.dst v h1]at h
  rw[show(fw none).round=none from rfl,Oper.semAt_none]
  generalize (execOp a.eval oj).run P w=r at*
  cases r with
  |ok x w'=>
   cases x<;>simp only[Oper.uponIn]at h⊢
   case value u=>exact⟨keep a hy u,by rw[←Act.put_comm a v u h2];exact h⟩
   case skip=>exact⟨keep a hy _,by rw[←Act.put_comm a v undef h2];exact h⟩
   case defer d=>
    refine⟨keep _ (keepD d) _,?_⟩
    rw[←Act.put_comm _ v undef h2,←Act.put_defers]
    exact h
   case enter f args=>
    refine⟨h.1,CallsIn.mono h.2 fun e w'' he=>?_⟩
    cases e with
    |returned u=>exact⟨keep a hy u,by rw[←Act.put_comm a v u h2];exact he⟩
    |panicked c=>exact absurd he (hQ _ _ _)
    |outgrown=>exact he
   case row row args=>exact⟨h.1,RowsIn.mono h.2 fun u w'' he=>⟨keep a hy u,by rw[←Act.put_comm a v u h2];exact he⟩⟩
   case round l f tmps assign body=>
    refine⟨h.1,RoundIn.mono h.2 fun e w'' he=>?_⟩
    cases e with
    |returned u=>exact⟨keep a hy u,by rw[←Act.put_comm a v u h2];exact he⟩
    |panicked c=>exact absurd he (hQ _ _ _)
    |outgrown=>exact he
  |halt x w'=>
   cases x<;>simp only[Oper.uponIn]at h⊢
   case panic u=>exact absurd h (hQ _ _ _)
 ·rename_i hw
  simp only[hw]at h
  exact⟨fun _ _=>trivial,keep a hy _,by rw[←Act.put_comm a v undef h2];exact h.2⟩
def zyy(P:Program)(ops:Array Oper)(Q:Exit→Act→World→Prop)(S:World→Prop):Nat→Array Bool→Act→World→Prop
 |0,listed,a,w=>Region.ready .any ops listed=[]∧Q .normal a w
 |n+1,listed,a,w=>(Region.ready .any ops listed=[]→Q .normal a w)∧
  ∀i∈Region.ready .any ops listed,wpOpIn (fw none) 0 P ops Q i (fun a' w'=>S w'∧zyy P ops Q S n (listed.setIfInBounds i true) a' w') a w
theorem zod:∀(n:Nat) (listed:Array Bool) (a:Act) (w:World),zyy P ops Q S n listed a w→wpAnyIn (fw none) 0 P .any ops Q n listed a w
 |0,_,_,_,h=>h
 |n+1,_,_,_,h=>⟨h.1,fun i hi=>wpOpIn_mono (fun a' w' h'=>zod n _ a' w' h'.2) (h.2 i hi)⟩
theorem zyz(hi:ops[i]? =some oi)(hsel:∀(j:Nat) (o:Oper) cs b,ops[j]? =some o→o.op≠ .select cs b)
  (hQ:∀c a w,¬Q (.panic c) a w):
  ∀(fuel:Nat) (listed:Array Bool) (a:Act) (w:World),
   (∀j oj,ops[j]? =some oj→j≠i→listed.getD j true=false→(∀e∈oj.after,Region.binds .any e=true→e.on≠i)→oi.apart ops oj=true)→
   i∈Region.ready .any ops listed→YieldsIf P ops S oi v a→S w→
   zyy P ops Q S fuel (listed.setIfInBounds i true) (a.put oi.dst v) w→zyy P ops Q S (fuel+1) listed a w:=by
 intro fuel
 induction fuel with
 |zero=>
  intro listed a w _ hr hy hS H
  refine⟨fun h=>(by rw[h]at hr;cases hr),fun j hj=>?_⟩
  by_cases hji:j=i
  ·subst hji;exact zrj hi hy hS ⟨hS,H⟩
  ·have:=ready_mono hj hji
   rw[H.1]at this
   cases this
 |succ fuel ih=>
  intro listed a w hfree hr hy hS H
  refine⟨fun h=>(by rw[h]at hr;cases hr),fun j hj=>?_⟩
  by_cases hji:j=i
  ·subst hji;exact zrj hi hy hS ⟨hS,H⟩
  ·have h1:=H.2 j (ready_mono hj hji)
   obtain⟨hjun,oj,hoj,hall⟩:=mem_ready.1 hj
   have hnot:∀e∈oj.after,Region.binds .any e=true→e.on≠i:=fun e he hb heq=>by
    have h2:=hall e he hb
    rw[heq,getD_both (mem_ready.1 hr).1]at h2
    cases h2
   have h2:=zy1 hoj (hfree j oj hoj hji hjun hnot) (fun cs b=>hsel i oi cs b hi) (fun cs b=>hsel j oj cs b hoj) hQ hy h1
   have hfree':∀k ok,ops[k]? =some ok→k≠i→(listed.setIfInBounds j true).getD k true=false→
     (∀e∈ok.after,Region.binds .any e=true→e.on≠i)→oi.apart ops ok=true:=fun k ok hk hki hun hno=>by
    refine hfree k ok hk hki ?_ hno
    by_cases hjk:j=k
    ·subst hjk;exact hjun
    ·rw[getD_set_ne true hjk]at hun;exact hun
   refine wpOpIn_mono (fun a' w' h3=>⟨h3.2.1,ih (listed.setIfInBounds j true) a' w' hfree' (ready_mono hr (Ne.symm hji)) h3.1 h3.2.1 ?_⟩) h2
   rw[dX _ _ hji]
   exact h3.2.2
def HY(P:Program)(ops:Array Oper)(Q:Exit→Act→World→Prop)(S:World→Prop)(N:Fm)(n:Nat)(listed:Array Bool)(l:zav)(H:World→Prop):Prop:=
 ∀a w,St N l a→H w→zyy P ops (zom Q) S n listed a w
variable{ds:List Deferred}
theorem qik{id n:Nat}{r:List Oper}{m':List Item}(is:List Nat)(hd:zrq is=true)(hp:zl9 m is=some m')(hm:zjo P r=true)
  (h:HY P r.toArray Q (Hp w0 F m') ⟨n,ds,none⟩ r.length (Array.replicate r.length false) l (Hp w0 F m)):HT P (.region id r.toArray true) Q ⟨n,ds,none⟩ l (Hp w0 F m):=by
 unfold HT HY at*
 intro a w s hw
 simp only[zjo,bH]at hm
 refine wpIn_mono (wpIn_region_any (Q:=zom Q) hm.1 (zod (S:=Hp w0 F m') _ _ _ _ ?_)) (fun _ _ _ h=>zpe h)
 have:=h a w.drew s hw.drew
 simpa using this
def qrn(ops:Array Oper)(listed:Array Bool)(i:Nat):Bool:=Region.noSelect ops&&(Region.free .any ops listed i&&(Region.ready .any ops listed).contains i)
variable{N:Fm}{listed:Array Bool}{ty:TypeId}{pos:String}{after:Array Edge}{H:World→Prop}
theorem zje{n d:Nat}{op:Op}
  (hi:nth ops.toList i=some ⟨some d,op,ty,pos,after,none⟩) (hb:qrn ops listed i=true) (hS:∀w,H w→S w) (hok:zee N l op d=true) (hv:OV P op ty l S v)
  (k:HY P ops Q S N n (listed.setIfInBounds i true) ((d,v)::l) H):HY P ops Q S N (n+1) listed l H:=by
 obtain⟨hs,hN,hk⟩:=ze0 hok
 simp only[qrn,bH]at hb
 obtain⟨h3,h4,h5⟩:=hb
 unfold HY at*
 unfold OV at hv
 intro a w s hw
 exact zyz (zei hi) (Region.noSelect_spec h3) (fun c a w h=>h.elim) n listed a w (Region.free_spec (zei hi) h4) (by simpa using h5) (.inl ⟨rfl,fun w hw=>by rw[s.exec _ hs hk];exact hv _ _ _ w hw⟩) (hS w hw) (k _ w (s.put hN v) hw)
theorem qsb(hr:Region.ready .any ops listed=[])(k:HX Q .normal N l H):HY P ops Q S N 0 listed l H:=by
 unfold HY HX at*
 exact fun a w s hw=>⟨hr,k a w s hw⟩
theorem qjb{n d nn ly:Nat}{x:Operand}{xs:List Operand}{vs:List Value}{tys:Array TypeId}{σ:Type}{Y:σ→Item}{s:σ}{R:Bool→σ→Prop}
  (hr:Region.ready .any ops listed=[i]) (hi:nth ops.toList i=some ⟨some d,.call ⟨.value x,xs.toArray,tys⟩,ty,pos,after,none⟩) (hok:zee ⟨nn,ds,none⟩ l (.call ⟨.value x,xs.toArray,tys⟩) d=true) (hf:evO l x=some (.func (.yield ly) #[] #[])) (hx:evs l xs=some vs) (hst:(Y s).Stable none') (hy:Yd P ly Y s vs.toArray R)
  (hS:∀s' w,Hp w0 F (Y s'::m) w→S w)
  (k:∀b s',R b s'→HY P ops Q S ⟨nn,ds,none⟩ n (listed.setIfInBounds i true) ((d,.bool b)::l) (Hp w0 F (Y s'::m))):HY P ops Q S ⟨nn,ds,none⟩ (n+1) listed l (Hp w0 F (Y s::m)):=by
 unfold HY at*
 obtain⟨hs,hN,hk⟩:=ze0 hok
 intro a w st hw
 refine⟨fun h=>(by rw[h]at hr;cases hr),fun j hj=>?_⟩
 obtain rfl:j=i:=by rw[hr]at hj;simpa using hj
 unfold wpOpIn
 simp only[zei hi]
 rw[if_pos (by simp[Region.wanted])]
 refine⟨fun _ _=>trivial,?_⟩
 have hin:=hw.item (Y s) sQ
 obtain⟨fn,tmps,asg,body,hrr,hround⟩:=hy w ⟨hin.1,hst,fun k hk=>(hin.2.2 k hk).1⟩
 rw[Oper.semAt_eq _ _ _ (zm4 (zl6 hok)),st.exec _ hs hk,zqs hf hx hrr,Oper.uponIn_round]
 have h1:RoundIn (fw none) 0 P ly fn tmps asg body w _:=hround
 refine⟨zla _,h1.mono fun e w' ⟨b,s',he,hR,hi⟩=>?_⟩
 subst he
 have hw':Hp w0 F ([Y s']++m) w':=Hp.call (m:=[Y s]) hw hi (fun k _ hk=>⟨Y s,by simp,hk⟩)
 exact⟨hS s' w' hw',k b s' hR _ _ (st.put hN _) hw'⟩
end
end Go.Eng
namespace Go.Proofs.YthafakdplhdfjaaGreatDoor
open Go.Eng
variable{s:Sht}
theorem qrl(hq:s.seq<18446744073709551616)(ht:s.text.length≤497):∃r,qmp (zmh s)=(s,(r,false)):=by
 unfold zmh
 generalize beN 4 (qlc (zwd (qje s))).toNat=c
 obtain⟨seq,last,text⟩:=s
 unfold qje
 simp only at hq ht⊢
 simp only[aG]
 refine⟨List.replicate (497 - text.length) 0++c,?_⟩
 unfold qmp
 rw[zgc (show seq<256^8 from hq)]
 simp only
 rw[zgc (show(if last then 2 else 1)<256^1 by cases last<;>decide)]
 simp only
 rw[zgc (show text.length<256^2 by omega)]
 simp only
 rw[zqb]
 simp only
 cases last<;>simp
theorem qmq(hq:s.seq<18446744073709551616)(ht:s.text.length≤497):zjc (zmh s)=true∧zgl (zmh s)=s:=by
 obtain⟨r,hr⟩:=qrl hq ht
 have h1:zjc (zmh s)=true:=by
  unfold zjc
  rw[hr]
  simp[ht]
 refine⟨h1,?_⟩
 unfold zgl
 rw[h1,hr]
 rfl
theorem qhg(a b:Bys)(h:a.length<256):zgd (beN 1 a.length++(a++b),false)=(a,(b,false)):=by
 obtain⟨x,hx⟩:∃x:UInt8,beN 1 a.length=[x]:=List.length_eq_one_iff.1 (zal 1 _)
 have hv:beV (beN 1 a.length)=a.length:=zzf 1 _ (by simpa using h)
 rw[hx]at hv⊢
 have hxv:x.toNat=a.length:=by simpa[beV]using hv
 unfold zgd
 simp[hxv]
variable{h:Hd}
theorem qsu(ok:h.Ok):∃r,hdR (hdP h)=(h,(r,false)):=by
 obtain⟨hg,hf,hs,hn⟩:=ok
 unfold hdP
 generalize beN 4 (zwd (hdH h)).toNat=c
 obtain⟨gen,first,secs,note⟩:=h
 unfold hdH
 simp only at hg hf hs hn⊢
 simp only[aG]
 refine⟨List.replicate (489 - note.length) 0++c,?_⟩
 unfold hdR
 rw[zgc (show gen<256^8 from hg)]
 simp only
 rw[zgc (show first<256^8 from hf)]
 simp only
 rw[zgc (show secs<256^2 from hs)]
 simp only
 rw[qhg note _ oQ]
theorem qqw(ok:h.Ok):zrt (hdP h)=true∧hdT (hdP h)=h:=by
 obtain⟨r,hr⟩:=qsu ok
 have h1:hdF (hdP h)=true:=by
  unfold hdF
  rw[hr]
  simp[ok.note]
 refine⟨?_,?_⟩
 ·unfold zrt
  rw[h1,hr]
  simp
 ·unfold hdT
  rw[h1,hr]
  rfl
def pcS(q:Nat)(t:Bys)(j:Nat):Sht:=⟨q+j,decide (j+1=zao t.length),(t.drop (497*j)).take 497⟩
theorem zna(q:Nat)(t:Bys)(j:Nat):(pcS q t j).text.length≤497:=by
 show((t.drop (497*j)).take 497).length≤497
 rw[aM];omega
theorem zh5(n:Nat):1≤zao n:=by unfold zao;omega
theorem qkv{n j:Nat}(h:j+1<zao n):497*(j+1)<n:=by unfold zao at h;omega
theorem zsv{n j:Nat}(h:j+1=zao n):n≤497*(j+1):=by unfold zao at h;omega
variable{q:Nat}{t:Bys}
theorem qrf{j:Nat}(ht:t≠[])(hj:j<zao t.length):(pcS q t j).text≠[]:=by
 have hl:0<t.length:=iP.2 ht
 intro h
 have h1:((t.drop (497*j)).take 497).length=0:=by rw[show(t.drop (497*j)).take 497=[]from h];rfl
 rw[aM,aX]at h1
 unfold zao at hj
 omega
theorem znp(t:Bys)(j:Nat):t.take (497*j)++(t.drop (497*j)).take 497=t.take (497*(j+1)):=by
 rw[fP,bO,List.take_add]
theorem zp6(h:q+1<18446744073709551616):nxt q=q+1:=bD h
theorem zyv{B:zfn}{q:Nat}{t:Bys}(hq:q+zao t.length<18446744073709551616)(h:∀j,j<zao t.length→B.lookup (q+j)=some (pcS q t j))(f:Nat)(acc:List Bys):
  ∀d j,j+d+1=zao t.length→zda B (f+(d+1)) (q+j) (t.take (497*j)) acc=zda B f (q+zao t.length) [] (acc++[t])
 |0,j,hd=>by
  rw[aH,zda,h j oQ]
  simp only
  have e:(pcS q t j).last=true:=decide_eq_true oQ
  have e2:nxt (q+j)=q+zao t.length:=by rw[zp6 oQ];omega
  have e3:t.take (497*j)++(pcS q t j).text=t:=by
   show t.take (497*j)++(t.drop (497*j)).take 497=t
   rw[znp]
   exact bJ (zsv oQ)
  rw[e,if_pos rfl,e2,e3]
 |d+1,j,hd=>by
  rw[show f+(d+1+1)=(f+(d+1))+1 by omega,zda,h j oQ]
  simp only
  have e:(pcS q t j).last=false:=decide_eq_false oQ
  have e2:nxt (q+j)=q+(j+1):=by rw[zp6 oQ];omega
  have e3:t.take (497*j)++(pcS q t j).text=t.take (497*(j+1)):=znp t j
  rw[e,e2,e3]
  exact zyv hq h f acc d (j+1) oQ
variable{B:zfn}
theorem qio(hq:q+zao t.length<18446744073709551616)(h:∀j,j<zao t.length→B.lookup (q+j)=some (pcS q t j))(f:Nat)(acc:List Bys):
  zda B (f+zao t.length) q [] acc=zda B f (q+zao t.length) [] (acc++[t]):=by
 have hp:=zh5 t.length
 have:=zyv hq h f acc (zao t.length - 1) 0 oQ
 rw[show zao t.length - 1+1=zao t.length by omega]at this
 simpa using this
theorem ztp{B:zfn}{q k:Nat}{t:Bys}(hq:q+zao t.length<18446744073709551616)(hk:k<zao t.length)(h:∀j,j<k→B.lookup (q+j)=some (pcS q t j))(hn:B.lookup (q+k)=none)(acc:List Bys):
  ∀f j,j≤k→zda B f (q+j) (t.take (497*j)) acc=acc
 |0,_,_=>rfl
 |f+1,j,hj=>by
  rw[zda]
  rcases Nat.lt_or_eq_of_le hj with hj|rfl
  ·rw[h j hj]
   simp only
   have e:(pcS q t j).last=false:=decide_eq_false oQ
   have e2:nxt (q+j)=q+(j+1):=by rw[zp6 oQ];omega
   have e3:t.take (497*j)++(pcS q t j).text=t.take (497*(j+1)):=znp t j
   rw[e,e2,e3]
   exact ztp hq hk h hn acc f (j+1) hj
  ·rw[hn]
def zlq:Nat→List Bys→Nat
 |q,[]=>q
 |q,t::ts=>zlq (q+zao t.length) ts
theorem zpk:∀(ts:List Bys) (q:Nat),q≤zlq q ts
 | [],_=>bA _
 |t::ts,q=>cH (gE _ _) (zpk ts _)
theorem zud:∀(ts:List Bys) (q:Nat) (t:Bys),zlq q (ts++[t])=zlq q ts+zao t.length
 | [],_,_=>rfl
 |_::ts,q,t=>zud ts _ t
theorem qbj:∀(ts:List Bys) (q:Nat),q+ts.length≤zlq q ts
 | [],q=>bA _
 |t::ts,q=>by
  have h1:=qbj ts (q+zao t.length)
  have h2:=zh5 t.length
  rw[zlq,aW]
  omega
def zy3(B:zfn):Nat→List Bys→Prop
 |_,[]=>True
 |q,t::ts=>(∀j,j<zao t.length→B.lookup (q+j)=some (pcS q t j))∧zy3 B (q+zao t.length) ts
theorem zy3.all{B:zfn}:∀{ts:List Bys} {q:Nat},zy3 B q ts→∀k,q≤k→k<zlq q ts→∃s,B.lookup k=some s
 | [],_,_,k,h1,h2=>absurd h2 (by rw[zlq];omega)
 |t::ts,q,h,k,h1,h2=>by
  by_cases hk:k<q+zao t.length
  ·have:=h.1 (k - q) oQ
   rw[show q+(k - q)=k by omega]at this
   exact⟨_,this⟩
  ·exact zy3.all h.2 k oQ h2
theorem zy3.app{B:zfn}:∀{ts:List Bys} {q:Nat} {t:Bys},zy3 B q ts→(∀j,j<zao t.length→B.lookup (zlq q ts+j)=some (pcS (zlq q ts) t j))→zy3 B q (ts++[t])
 | [],_,_,_,h2=>⟨h2,trivial⟩
 |_::_,_,_,h,h2=>⟨h.1,zy3.app h.2 h2⟩
theorem zyu{B:zfn}(f:Nat):∀(ts:List Bys) (q:Nat) (acc:List Bys),zlq q ts<18446744073709551616→zy3 B q ts→zda B (f+(zlq q ts - q)) q [] acc=zda B f (zlq q ts) [] (acc++ts)
 | [],q,acc,_,_=>by simp[zlq]
 |t::ts,q,acc,hq,h=>by
  have h1:=zpk ts (q+zao t.length)
  rw[zlq]at hq
  have e:f+(zlq q (t::ts) - q)=(f+(zlq (q+zao t.length) ts - (q+zao t.length)))+zao t.length:=by rw[zlq];omega
  rw[e,qio oQ h.1,zyu f ts _ _ hq h.2,zlq]
  simp
theorem zyg:∀(m:Nat) (B:zfn) (q:Nat),(∀k,q≤k→k<q+m→∃s,B.lookup k=some s)→m≤B.length
 |0,_,_,_=>aZ _
 |m+1,B,q,h=>by
  obtain⟨s,hs⟩:=h (q+m) oQ oQ
  have hm:=zim hs
  have h1:(B.filter fun p=>decide (p.1≠q+m)).length<B.length:=by
   refine List.length_filter_lt_length_iff_exists.2 ⟨_,hm,by simp⟩
  have h2:=zyg m (B.filter fun p=>decide (p.1≠q+m)) q fun k hk1 hk2=>by
   obtain⟨s',hs'⟩:=h k hk1 oQ
   refine⟨s',?_⟩
   have:∀(L:zfn),(L.filter fun p=>decide (p.1≠q+m)).lookup k=L.lookup k:=by
    intro L
    induction L with
    |nil=>rfl
    |cons p L ih=>
     by_cases hp:p.1=q+m
     ·rw[eR (by simp[hp]),ih,cJ,show(k==p.1)=false by simp;omega]
     ·rw[fF (by simp[hp]),cJ,cJ,ih]
   rw[this,hs']
  omega
theorem znq{ts:List Bys}(hq:zlq q ts<18446744073709551616)(h:zy3 B q ts)(hstop:∀f acc,zda B f (zlq q ts) [] acc=acc):zda B (B.length+1) q [] []=ts:=by
 have h1:=zpk ts q
 have h2:=zyg (zlq q ts - q) B q fun k hk1 hk2=>h.all k hk1 oQ
 obtain⟨f,hf⟩:∃f,B.length+1=f+(zlq q ts - q):=⟨B.length+1 - (zlq q ts - q),oQ⟩
 rw[hf,zyu f ts q [] hq h,hstop]
 rfl
theorem zyq(h:B.lookup q=none)(f:Nat)(acc:List Bys):zda B f q [] acc=acc:=by
 cases f with
 |zero=>rfl
 |succ f=>rw[zda,h]
theorem qii{k:Nat}(hq:q+zao t.length<18446744073709551616)(hk:k<zao t.length)(h:∀j,j<k→B.lookup (q+j)=some (pcS q t j))(hn:B.lookup (q+k)=none)(f:Nat)(acc:List Bys):zda B f q [] acc=acc:=by
 have:=ztp hq hk h hn acc f 0 (aZ _)
 simpa using this
end Go.Proofs.YthafakdplhdfjaaGreatDoor
namespace Go.Eng
open Go.RowKit
variable{w0:World}{F:Nat→Prop}{m:List Item}
theorem zps{w:World}(e:TypeId)(sz:Nat)(h:Hp w0 F m w):Hp w0 F (own e sz none 0 []::m) w:=Hp.call0 (L:=[own e sz none 0 []]) h ⟨.refl _ _,fun it hm=>by
   obtain rfl:it=own e sz none 0 []:=by simpa using hm
   exact⟨⟨(lE sz).symm,rfl⟩,zac _ _ _ _ _ _,fun k ⟨c,h⟩=>by cases h⟩,.cons (fun _ h=>by cases h) .nil⟩
theorem qms{P:Program}{c:Code}{Q:Exit→Act→World→Prop}{N:Fm}{l:zav}(e:TypeId)(sz:Nat)(h:HT P c Q N l (Hp w0 F (own e sz none 0 []::m))):HT P c Q N l (Hp w0 F m):=by
 unfold HT at*
 exact fun a w s hw=>h a w s (zps e sz hw)
theorem ztj(o:Option (Nat×Nat))(n:Nat):(slV o n).cells= #[slV o n]:=by cases o<;>rfl
theorem qcr(o:Option (Nat×Nat))(n:Nat):(slV o n).oneCell'=true:=by cases o<;>rfl
end Go.Eng
namespace Go.Proofs.YthafakdplhdfjaaGreatDoor
open Go.RowKit Go.Eng
theorem qjy(s:Bys)(n:Nat):(⟨s.toArray⟩:ByteArray).extract 0 n=⟨(s.take n).toArray⟩:=qbf (by simp[ByteArray.data_extract,iM])
theorem qjx(s:Bys)(n m:Nat)(h:s.length≤m):(⟨s.toArray⟩:ByteArray).extract n m=⟨(s.drop n).toArray⟩:=qbf (by simp[ByteArray.data_extract,iM];rw[bJ];rw[aX];omega)
def qno(x:Nat×Nat)(q:Nat)(t:Bys):List Eng.Item:=[pt x.1 (.cells #[.string ⟨t.toArray⟩] 9 (0,0)),pt x.2 (.cells #[.int .u64 (q:Int)] 112 (0,0))]
theorem zk5(x:Nat×Nat)(q:Nat)(t:Bys):∀it∈qno x q t,it.Stable none':=by simp[qno,zab]
def qtf(x:Nat×Nat):Value:=.func (.func 238) #[] #[.pointer (some ⟨x.1,0,none⟩),.pointer (some ⟨x.2,0,none⟩)]
def zs7(q:Nat)(t:Bys):List Sht:=(List.range (zao t.length)).map (pcS q t)
variable{t:Bys}
theorem qhs{q:Nat}{j:Nat}(h:j<zao t.length):(zs7 q t)[j]? =some (pcS q t j):=by
 unfold zs7
 rw[aO,eO h]
 rfl
theorem zfm(q:Nat)(t:Bys):(zs7 q t).length=zao t.length:=by simp[zs7]
theorem zx7{q:Nat}{j:Nat}(h:j<zao t.length):(zs7 q t).take j++[pcS q t j]=(zs7 q t).take (j+1):=by
 rw[cV,qhs h]
 rfl
theorem qjs(q:Nat)(t:Bys)(ht:t.length≤1000000000)(hq:q+zao t.length<18446744073709551616)(x:Nat×Nat):
  zwg Tryz.prog 238 [.pointer (some ⟨x.1,0,none⟩),.pointer (some ⟨x.2,0,none⟩)] (qno x q t) [] (fun k s=>k.length<zao t.length∧s=pcS q t k.length∧k=(zs7 q t).take k.length) (fun k=>k=zs7 q t) (fun s=>[.agg (zjf s)]):=by
 obtain⟨b1,b2⟩:=x
 simp only[qno]
 refine qbv [_,_] _ _ _ _ _ Tryz.func238 rfl rfl ?_
 intro σ ly Y I J s0 w hst h0 hy
 have hn0:=zh5 t.length
 simp only[zaa]
 refine goA ?_
 refine zc0 (α:=Nat×σ) (fun _=>[(0,.func (.yield ly) #[] #[]),(1,.pointer (some ⟨b1,0,none⟩)),(2,.pointer (some ⟨b2,0,none⟩))]) (fun y=>y.1<zao t.length∧I ((zs7 q t).take y.1) y.2) (fun y=>[Y y.2,pt b1 (.cells #[.string ⟨(t.drop (497*y.1)).toArray⟩] 9 (0,0)),pt b2 (.cells #[.int .u64 ((q+y.1:Nat):Int)] 112 (0,0))]) (fun y=>zao t.length - y.1) (0,s0) ⟨rfl,rfl,rfl,trivial⟩ ⟨hn0,h0⟩ (fun w h=>h) fun⟨i,st⟩ ⟨hi,hI⟩=>?_
 simp only at hi hI⊢
 have hsz:(⟨(t.drop (497*i)).toArray⟩:ByteArray).size=t.length - 497*i:=by rw[bal,aX]
 have hxi:(pcS q t i).text=(t.drop (497*i)).take 497:=rfl
 by_cases hl:i+1<zao t.length
 ·have hlt:=qkv hl
  refine goA ?_
  refine qik [1,2] rfl rfl kQ ?_
  refine zje (i:=0) rfl kQ (fun w hw=>hw.pick [1,2] rfl rfl) rfl (zi4 rfl) ?_
  refine zje (i:=1) rfl kQ (fun w hw=>hw.pick [1,2] rfl rfl) rfl (zc5 rfl rfl (.tail _ (.head _)) rfl) ?_
  refine zje (i:=2) rfl kQ (fun w hw=>hw.pick [1,2] rfl rfl) rfl (zc5 rfl rfl (.head _) rfl) ?_
  refine zje (i:=3) rfl kQ (fun w hw=>hw.pick [1,2] rfl rfl) rfl (qiy rfl rfl rfl oQ) ?_
  refine zje (i:=4) rfl kQ (fun w hw=>hw.pick [1,2] rfl rfl) rfl (zwf (zo5 rfl rfl rfl rfl rfl) (v':=.agg (zjf (pcS q t i))) (by
   rw[qjy]
   unfold zjf
   rw[show(pcS q t i).last=false from decide_eq_false oQ]
   rfl)) ?_
  refine qjb (i:=5) kQ rfl rfl rfl rfl (hst st) (hy ((zs7 q t).take i) (pcS q t i) st ⟨by rw[aM,zfm];omega,by rw[aM,zfm,dB oQ],by rw[aM,zfm,dB oQ]⟩ hI) (fun s' w hw=>hw.pick [1,2] rfl rfl) fun b s' hR=>?_
  refine zje (i:=6) rfl kQ (fun w hw=>hw.pick [1,2] rfl rfl) rfl (ov fun _ _ _ _ _=>rfl) ?_
  refine qsb kQ ?_
  rcases hR with ⟨rfl,h8⟩ |⟨rfl,h8⟩
  ·refine goA ?_
   refine za1 rfl (zah (zdf _ _ _ _) (zai rfl rfl rfl rfl rfl rfl sQ)) fun _=>?_
   refine goA ?_
   refine zd2 8 _ (.string ⟨(t.drop (497*(i+1))).toArray⟩) rfl (by
    rw[qjx _ _ _ (by rw[bal];exact bA _),lJ,fP,bO]) ?_
   refine za1 rfl (zah (zdf _ _ _ _) (zai rfl rfl rfl rfl rfl rfl sQ)) fun _=>?_
   refine goA ?_
   exact zaw (i+1,s') ⟨rfl,rfl,rfl,trivial⟩ ⟨hl,by rw[←zx7 hi];exact h8⟩ (fun w hw=>hw.pick [2,0,1] rfl rfl) (by show zao t.length - (i+1)<zao t.length - i;omega)
  ·refine goA ?_
   exact qi8 s' rfl (.inr h8) (by simpa using hst s') (.cons_cons _ (aK _))
 ·have hlt:=zsv (n:=t.length) (j:=i) oQ
  refine goA ?_
  refine zd2 21 _ (.agg (zjf (pcS q t i))) rfl (by
   unfold zjf
   rw[show(pcS q t i).last=true from decide_eq_true oQ,hxi,bJ (by rw[aX];omega)]
   rfl) ?_
  refine zz8 rfl rfl rfl rfl (hst st) (hy ((zs7 q t).take i) (pcS q t i) st ⟨by rw[aM,zfm];omega,by rw[aM,zfm,dB oQ],by rw[aM,zfm,dB oQ]⟩ hI) fun b s' hR=>?_
  refine goA ?_
  refine qc5 s' rfl ?_ (by simpa using hst s') (.cons_cons _ (aK _))
  rcases hR with ⟨-,h8⟩ |⟨-,h8⟩
  ·refine .inl ⟨_,?_,h8⟩
   rw[zx7 hi]
   exact bJ (by rw[zfm];omega)
  ·exact .inr h8
theorem qfs(q:Nat)(t:Bys)(w:World):Ct Tryz.prog 216 #[.int .u64 q,.string ⟨t.toArray⟩] w none' qtf (fun _=>True) (fun x=>qno x q t):=by
 refine zes [_,_] Tryz.func216 rfl rfl ?_
 simp only[zaa,Nat.reduceAdd]
 refine goA ?_
 refine zc9 rfl rfl rfl fun b2 _=>?_
 refine zc9 rfl rfl rfl fun b1 _=>?_
 refine goA ?_
 refine l_w rfl (zhw rfl) ?_
 refine goA ?_
 exact zbd (b1,b2) rfl rfl rfl trivial (.refl _) (zk5 _ q t)
abbrev zv0(L:List Sht):List Value:=zc6 (fun s=>(zjf s).toList) L
def asB(b:Nat)(y:Option (Nat×Nat)×List Sht):List Eng.Item:=[own 265 3 y.1 y.2.length (zv0 y.2),pt b (.cells #[slV y.1 y.2.length] 262 (0,0))]
theorem zsa(b:Nat)(y:Option (Nat×Nat)×List Sht):∀it∈asB b y,it.Stable none':=by simp[asB,zab,zac]
variable{f:FuncId}{cs:List Value}{E:List Sht→Sht→Prop}{S:List Sht→Prop}
theorem zr3{mi mo:List Eng.Item}(hb:za7 Tryz.prog f=true)(hit:zwg Tryz.prog f cs mi mo E S (fun s=>[.agg (zjf s)]))(hmi:∀it∈mi,it.Stable none')(hmo:∀it∈mo,it.Stable none')(hE:∀k x,E k x→k.length<1000000000):
  Cw Tryz.prog 237 #[.slice none 0 0,.func (.func f) #[] cs.toArray] mi (fun x:Option (Nat×Nat)×List Sht=>slV x.1 x.2.length) (fun x=>S x.2) (fun x=>own 265 3 x.1 x.2.length (zv0 x.2)::mo):=by
 intro w hw ha
 refine qfr [_,_] mi Tryz.func237 rfl rfl hw ha ?_
 simp only[zaa,Nat.reduceAdd]
 refine goA ?_
 refine zc9 rfl rfl rfl fun b2 _=>?_
 refine goA ?_
 refine qms 265 3 ?_
 refine ztn (m':=asB b2 (none,[])++(mi++[])) (by rw[bC];exact .refl _) ?_
 refine qcv (m2:=[]) (asB b2) (fun k y=>y.2=k) (fun _ _=>False) (none,[]) rfl rfl hb hit (fun _=>rfl) dQ (zsa _) hmi rfl ?_ ?_ ?_
 ·rintro ly rc k x ⟨o,out⟩ W hx hk
  simp only at hk
  subst hk
  have hlen:=hE _ _ hx
  simp only[asB,zn8,gG,iD]
  refine goA ?_
  refine zam rfl rfl fun b5 hb5=>?_
  refine za1 rfl (zaf (cs':=zjf x) rfl rfl rfl rfl rfl rfl) fun _=>?_
  refine zay [1,2,3,0] rfl rfl ?_
  refine goA ?_
  refine qly ?_
  refine goA ?_
  refine za1 rfl (za3 (L:=[(0,3,.agg (zjf x))]) rfl rfl rfl rfl rfl (qre rfl dQ)) fun⟨bq,hbq⟩=>?_
  refine goA ?_
  refine za1 rfl (zah (zdf _ _ _ _) (zdh (news:=(zjf x).toList) rfl rfl rfl rfl rfl rfl rfl rfl oQ (fun w' hw' j v hj=>by rw[zde,aH];exact zby (hw'.item _ (.tail _ (.head _))).1 j v hj))) fun o'=>?_
  refine goA ?_
  refine zay [3,0,2] rfl rfl ?_
  refine za1 rfl (zai rfl rfl rfl rfl (ztj _ _) (qcr _ _) (show(0:Nat)<1 from dQ)) fun _=>?_
  refine zay [2,1,0] rfl rfl ?_
  refine goA ?_
  have e1:(out++[x]).length=out.length+1:=by simp
  have e2:zv0 (out++[x])=zv0 out++(zjf x).toList:=by simp[zc6]
  refine ztw .normal none rfl (o',out++[x]) rfl ?_ (zsa b2 _)
  simp only[asB,e1,e2]
  exact .refl _
 ·rintro D k ⟨o,out⟩ hS hk
  simp only at hk
  subst hk
  simp only[asB,bC]
  refine goA ?_
  refine qi9 ?_
  exact zbd (o,out) rfl rfl rfl hS (.cons_cons _ (.cons _ (.refl _))) (by
   intro it hm
   rcases hm with _|⟨_,hm⟩
   ·exact zac _ _ _ _ _ _
   ·exact hmo it hm)
 ·rintro D c s h
  exact h.elim
theorem zqw{mi mo:List Eng.Item}(hb:za7 Tryz.prog f=true)(hit:zwg Tryz.prog f cs mi mo E S (fun s=>[.agg (zjf s)]))(hmi:∀it∈mi,it.Stable none')(hmo:∀it∈mo,it.Stable none')(hE:∀k x,E k x→k.length<1000000000):
  Cw Tryz.prog 215 #[.func (.func f) #[] cs.toArray] mi (fun x:Option (Nat×Nat)×List Sht=>slV x.1 x.2.length) (fun x=>S x.2) (fun x=>own 265 3 x.1 x.2.length (zv0 x.2)::mo):=by
 intro w hw ha
 refine za2 [_] mi Tryz.func215 rfl rfl hw ha ?_
 simp only[zaa]
 refine goA ?_
 refine zgb (m':=mi++[]) (by rw[bC]) ?_
 refine zeh rfl (zfb (pre:=mi) (m:=[]) rfl kQ rfl hmi (fun w1 hw1 hh1 ha1=>zr3 hb hit hmi hmo hE w1 hh1 ha1)) fun⟨⟨o,out⟩,hS⟩=>?_
 dsimp only at hS⊢
 refine zgb (m':=own 265 3 o out.length (zv0 out)::mo) (by rw[bC]) ?_
 refine goA ?_
 exact zbd (o,out) rfl rfl rfl hS (.refl _) (by
   intro it hm
   rcases hm with _|⟨_,hm⟩
   ·exact zac _ _ _ _ _ _
   ·exact hmo it hm)
theorem qe6(q:Nat)(t:Bys)(ht:t.length≤1000000000)(hq:q+zao t.length<18446744073709551616)(w:World):
  Ct Tryz.prog 184 #[.int .u64 q,.string ⟨t.toArray⟩] w none' (fun o:Nat×Nat=>.slice (some ⟨o.1,0,none⟩) (zao t.length) o.2) (fun _=>True) (fun o=>[own 265 3 (some o) (zao t.length) (zv0 (zs7 q t))]):=by
 refine zes [_,_] Tryz.func184 rfl rfl ?_
 simp only[zaa,Nat.reduceAdd]
 refine goA ?_
 refine zdy rfl rfl kQ rfl (fun w1 hw1=>qfs q t w1) fun x hx=>?_
 refine goA ?_
 unfold qtf
 have hn1:zao t.length≤1000000000:=by unfold zao;omega
 refine zgb (m':=qno x q t++[]) (by rw[bC]) ?_
 refine zeh rfl (zfb (pre:=qno x q t) (m:=[]) rfl kQ rfl (zk5 x q t) (fun w1 hw1 hh1 ha1=>zqw (f:=238) (cs:=[.pointer (some ⟨x.1,0,none⟩),.pointer (some ⟨x.2,0,none⟩)]) kQ (qjs q t ht hq x) (zk5 x q t) sQ (fun k y h=>by have:=h.1;omega) w1 hh1 ha1)) fun⟨⟨o,out⟩,hS⟩=>?_
 dsimp only at hS⊢
 subst hS
 rw[zfm]
 have hn0:=zh5 t.length
 rcases o with _|o
 ·refine zch (fun w hw=>(hw.item _ (.head _)).1.2) fun h0=>?_
  exact absurd h0 oQ
 refine goA ?_
 exact zbd o rfl rfl rfl trivial (.refl _) (by simp[zac])
end Go.Proofs.YthafakdplhdfjaaGreatDoor
namespace Go.Proofs.YthafakdplhdfjaaGreatDoor
open Go.Eng
theorem qo1{α:Type}{M:List α→Prop}(h0:M [])(hs:∀l x,M l→M (l++[x]))(l:List α):M l:=by
 rw[←List.reverse_reverse l]
 generalize l.reverse=r
 induction r with
 |nil=>exact h0
 |cons x r ih=>rw[List.reverse_cons];exact hs _ _ ih
def zbb(D:Dsk):List (Nat×Bys)→Nat×Dsk
 | []=>(0,D)
 |p::l=>if (zbz D p.1 p.2).1=0 then zbb (zbz D p.1 p.2).2 l else zbz D p.1 p.2
def zcm(D:Dsk)(ws:List (Nat×Bys)):Nat×Dsk:=if (zbb D ws).1=0 then zbi (zbb D ws).2 else zbb D ws
theorem zha(D:Dsk)(a:Nat)(h:Hd):zbc D a h=zcm D [(a,hdP h)]:=by
 unfold zbc zcm zbb zbb
 split
 ·rw[if_pos rfl]
 ·rfl
def zeg(on:List Bys):List (Nat×Bys)→List Bys
 | []=>on
 |p::l=>zeg (on.set p.1 p.2) l
theorem zgy:∀(ws:List (Nat×Bys)) (on:List Bys),(zeg on ws).length=on.length
 | [],_=>rfl
 |p::l,on=>by rw[zeg,zgy l,bE]
theorem znj:∀(ws:List (Nat×Bys)) (on:List Bys) (p:Nat×Bys),zeg on (ws++[p])=(zeg on ws).set p.1 p.2
 | [],_,_=>rfl
 |_::l,on,p=>znj l _ p
def Mix(on:List Bys)(ws:List (Nat×Bys))(on':List Bys):Prop:=on'.length=on.length∧∀i,i<on.length→on'[i]? =on[i]? ∨∃s,(i,s)∈ws∧on'[i]? =some s
theorem Mix.refl(on:List Bys)(ws:List (Nat×Bys)):Mix on ws on:=⟨rfl,fun _ _=>.inl rfl⟩
variable{ws:List (Nat×Bys)}
theorem Mix.more{on on':List Bys}{ws':List (Nat×Bys)}(h:Mix on ws on')(hs:∀p∈ws,p∈ws'):Mix on ws' on':=⟨h.1,fun i hi=>(h.2 i hi).imp id fun⟨s,h1,h2⟩=>⟨s,hs _ h1,h2⟩⟩
theorem Mix.set{on on':List Bys}{ws:List (Nat×Bys)}(h:Mix on ws on'){p:Nat×Bys}(hp:p∈ws):Mix on ws (on'.set p.1 p.2):=by
 refine⟨by rw[bE,h.1],fun i hi=>?_⟩
 by_cases e:p.1=i
 ·refine .inr ⟨p.2,by rw[←e];exact hp,?_⟩
  rw[←e,dS (by rw[h.1,e];exact hi)]
 ·rw[fG e]
  exact h.2 i hi
theorem Mix.all(on:List Bys):∀ws:List (Nat×Bys),Mix on ws (zeg on ws):=fun ws=>by
 induction ws using qo1 with
 |h0=>exact .refl _ _
 |hs l p ih=>
  rw[znj]
  exact(ih.more fun q hq=>aP _ hq).set (aU _ (.head _))
def swp(ws:List (Nat×Bys)):List (Bys×Nat):=ws.map fun p=>(p.2,p.1)
theorem ztz(on:List Bys)(ws:List (Nat×Bys))(f:Nat→Bool):∀k,k≤ws.length→Mix on ws (zjh on (swp ws) f k)
 |0,_=>.refl _ _
 |k+1,hk=>by
  have ih:=ztz on ws f k oQ
  rw[zjh]
  split
  ·have e:(swp ws).getD k ([],0)=((ws[k]'hk).2,(ws[k]'hk).1):=by simp[swp,List.getD,aB hk]
   rw[e]
   exact ih.set (aT hk)
  ·exact ih
theorem zty(on:List Bys)(ws:List (Nat×Bys)):∀k,k≤ws.length→zjh on (swp ws) (fun _=>true) k=zeg on (ws.take k)
 |0,_=>rfl
 |k+1,hk=>by
  rw[zjh,if_pos rfl,zty on ws k oQ,dA hk,znj]
  simp[swp,List.getD,aB hk]
structure Dsk.Rest (D:Dsk):Prop where
 live:D.dead=false
 wait:D.wait=[]
def qjg(D:Dsk)(ws:List (Nat×Bys)):Prop:=∀p∈ws,p.1<D.on.length∧p.2.length=512
theorem zrg{D:Dsk}{pre:List (Nat×Bys)}:∀{ws:List (Nat×Bys)} {D1:Dsk},qjg D ws→D1.dead=false→D1.on=D.on→D1.wait=swp pre→D1.keep=D.keep→(D.left=none→D1.left=none)→
  ((zbb D1 ws).1=0∧(zbb D1 ws).2.dead=false∧(zbb D1 ws).2.on=D.on∧(zbb D1 ws).2.wait=swp (pre++ws)∧(zbb D1 ws).2.keep=D.keep∧(D.left=none→(zbb D1 ws).2.left=none))∨
  (D.left≠none∧(zbb D1 ws).1=4∧(zbb D1 ws).2.dead=true∧(zbb D1 ws).2.wait=[]∧(zbb D1 ws).2.left=none∧(zbb D1 ws).2.keep=[]∧Mix D.on (pre++ws) (zbb D1 ws).2.on)
 | [],D1,_,h1,h2,h3,h4,h5=>.inl ⟨rfl,h1,h2,by rw[bC];exact h3,h4,h5⟩
 |p::l,D1,hw,h1,h2,h3,h4,h5=>by
  obtain⟨hp1,hp2⟩:=hw p (.head _)
  have ihl:qjg D l:=fun q hq=>hw q (.tail _ hq)
  have hwf:zbz D1 p.1 p.2=if (zhb D1).1=0 then(0,{ (zhb D1).2 with wait:=(zhb D1).2.wait++[(p.2,p.1)] })else zhb D1:=by
   unfold zbz
   rw[h1,if_neg dQ,if_neg (by rw[h2];exact fun h=>h hp1),if_neg (by rw[hp2];decide)]
  rw[zbb,hwf]
  unfold zhb
  cases hl:D1.left with
  |none=>
   simp only[if_true]
   have:=zrg (D:=D) (pre:=pre++[p]) (ws:=l) (D1:={ D1 with wait:=D1.wait++[(p.2,p.1)] }) ihl h1 h2 (by simp[h3,swp]) h4 h5
   rw[aG]at this
   exact this
  |some n=>
   cases n with
   |zero=>
    right
    have hD:D.left≠none:=fun h=>by rw[h5 h]at hl;cases hl
    refine⟨hD,?_⟩
    refine⟨rfl,rfl,rfl,rfl,rfl,?_⟩
    have:=ztz D.on pre (zi7 D1.keep) pre.length (bA _)
    show Mix D.on _ (zuq D1 D1.keep).on
    unfold zuq
    rw[h2,h3]
    show Mix D.on _ (zjh D.on (swp pre) (zi7 D1.keep) (swp pre).length)
    rw[show(swp pre).length=pre.length by simp[swp]]
    exact this.more fun q hq=>aP _ hq
   |succ n=>
    simp only[if_true]
    have:=zrg (D:=D) (pre:=pre++[p]) (ws:=l) (D1:={ D1 with left:=some n,wait:=D1.wait++[(p.2,p.1)] }) ihl h1 h2 (by simp[h3,swp]) h4 (fun h=>by rw[h5 h]at hl;cases hl)
    rw[aG]at this
    exact this
variable{D:Dsk}
theorem qfe(hr:D.Rest)(hw:qjg D ws):
  ((zcm D ws).1=0∧(zcm D ws).2.Rest∧(zcm D ws).2.on=zeg D.on ws∧(zcm D ws).2.keep=D.keep∧(D.left=none→(zcm D ws).2.left=none))∨
  (D.left≠none∧(zcm D ws).1=4∧(zcm D ws).2.dead=true∧(zcm D ws).2.wait=[]∧(zcm D ws).2.left=none∧(zcm D ws).2.keep=[]∧Mix D.on ws (zcm D ws).2.on):=by
 have h0:=zrg (D:=D) (pre:=[]) (D1:=D) hw hr.live rfl (by rw[hr.wait];rfl) rfl id
 simp only[aJ]at h0
 unfold zcm
 generalize zbb D ws=r at h0⊢
 rcases h0 with ⟨a1,a2,a3,a4,a5,a6⟩ |⟨b0,b1,b2,b3,b4,b5,b6⟩
 ·rw[if_pos a1]
  obtain⟨r1,D1⟩:=r
  simp only at a1 a2 a3 a4 a5 a6⊢
  have hfl:zbi D1=if (zhb D1).1=0 then(0,zsk (zhb D1).2)else zhb D1:=by
   unfold zbi
   rw[a2,if_neg dQ]
  rw[hfl]
  unfold zhb
  have hlen:(swp ws).length=ws.length:=by simp[swp]
  cases hl:D1.left with
  |none=>
   rw[if_pos rfl]
   refine .inl ⟨rfl,⟨a2,rfl⟩,?_,a5,fun _=>hl⟩
   show zjh D1.on D1.wait (fun _=>true) D1.wait.length=_
   rw[a3,a4,hlen,zty _ _ _ (bA _),gD]
  |some n=>
   cases n with
   |zero=>
    right
    have hD:D.left≠none:=fun h=>by rw[a6 h]at hl;cases hl
    refine⟨hD,?_⟩
    refine⟨rfl,rfl,rfl,rfl,rfl,?_⟩
    show Mix D.on _ (zjh D1.on D1.wait (zi7 D1.keep) D1.wait.length)
    rw[a3,a4,hlen]
    exact ztz D.on ws _ _ (bA _)
   |succ n=>
    rw[if_pos rfl]
    refine .inl ⟨rfl,⟨a2,rfl⟩,?_,a5,fun h=>by rw[a6 h]at hl;cases hl⟩
    show zjh D1.on D1.wait (fun _=>true) D1.wait.length=_
    rw[a3,a4,hlen,zty _ _ _ (bA _),gD]
 ·rw[if_neg (by rw[b1];decide)]
  exact .inr ⟨b0,b1,b2,b3,b4,b5,b6⟩
theorem zfk(h:D.wait=[])(i:Nat):zcn D i=D.on.getD i []:=by
 unfold zcn
 rw[h]
 rfl
theorem zff:∀{ws:List (Nat×Bys)} {on:List Bys} {i:Nat},(∀p∈ws,p.1≠i)→(zeg on ws)[i]? =on[i]?
 | [],_,_,_=>rfl
 |p::l,on,i,h=>by
  rw[zeg,zff (fun q hq=>h q (.tail _ hq)),fG (h p (.head _))]
end Go.Proofs.YthafakdplhdfjaaGreatDoor
namespace Go.Proofs.YthafakdplhdfjaaGreatDoor
open Go.RowKit Go.Eng
def wsC(g:Lg)(t:Bys):List (Nat×Bys):=(zs7 g.next t).map fun s=>(za9 s.seq g.h.secs,zmh s)
def zop(D:Dsk)(g:Lg)(t:Bys):Nat×Dsk:=
 if g.h.secs<zao t.length then(6,D)else if g.h.secs - g.used<zao t.length then(5,D)else zcm D (wsC g t)
def qjd(D:Dsk)(g:Lg)(t:Bys):Lg:=if (zop D g t).1=0 then { g with next:=g.next+zao t.length,used:=g.used+zao t.length } else g
theorem zmq:∀(l:List (Nat×Bys)) (D:Dsk) (p:Nat×Bys),zbb D (l++[p])=if (zbb D l).1=0 then zbz (zbb D l).2 p.1 p.2 else zbb D l
 | [],D,p=>by
  show(if (zbz D p.1 p.2).1=0 then(0,(zbz D p.1 p.2).2)else zbz D p.1 p.2)=zbz D p.1 p.2
  by_cases h:(zbz D p.1 p.2).1=0
  ·rw[if_pos h,←h]
  ·rw[if_neg h]
 |q::l,D,p=>by
  rw[aF,zbb,zbb]
  by_cases h:(zbz D q.1 q.2).1=0
  ·rw[if_pos h,if_pos h,zmq l]
  ·rw[if_neg h,if_neg h,if_neg h]
theorem zmp:∀(l l':List (Nat×Bys)) (D:Dsk),(zbb D l).1≠0→zbb D (l++l')=zbb D l
 | [],_,_,h=>absurd rfl h
 |q::l,l',D,h=>by
  rw[aF,zbb,zbb]
  rw[zbb]at h
  by_cases h':(zbz D q.1 q.2).1=0
  ·rw[if_pos h']at h⊢
   rw[if_pos h',zmp l l' _ h]
  ·rw[if_neg h',if_neg h']
theorem zf7:∀(l:List (Nat×Bys)) (D:Dsk),D.Ok→(zbb D l).2.Ok
 | [],_,h=>h
 |q::l,D,h=>by
  rw[zbb]
  split
  ·exact zf7 l _ (qc2 h _ _)
  ·exact qc2 h _ _
theorem ze7:∀(l:List (Nat×Bys)) (D:Dsk),D.Ok→(zbb D l).1=0→(zbb D l).2.keep=D.keep∧(zbb D l).2.wait.length=D.wait.length+l.length
 | [],_,_,_=>⟨rfl,rfl⟩
 |q::l,D,h,h0=>by
  rw[zbb]at h0⊢
  by_cases h':(zbz D q.1 q.2).1=0
  ·rw[if_pos h']at h0⊢
   obtain⟨h1,h2,h3, -⟩:=zj9 h q.1 q.2 h'
   obtain⟨h4,h5⟩:=ze7 l _ h1 h0
   refine⟨h4.trans h2,?_⟩
   rw[h5,h3]
   simp
   omega
  ·rw[if_neg h']at h0
   exact absurd h0 h'
abbrev cmL(b bn bl bt:Nat)(n:Nat)(t:Bys)(d:Dk)(g:Lg):List Eng.Item:=[lgI b d g,pt bn (.cells #[.int .i64 (n:Int)] 3 (0,0)),qfj bl b,pt bt (.cells #[.string ⟨t.toArray⟩] 9 (0,0)),dkI d,ctI]
theorem zgr(b bn bl bt:Nat)(n:Nat)(t:Bys)(d:Dk)(g:Lg):∀it∈cmL b bn bl bt n t d g,it.Stable none':=by
 intro it hm
 rcases hm with _|⟨_,_|⟨_,_|⟨_,_|⟨_,hm⟩⟩⟩⟩
 ·exact zab _ _ _
 ·exact zab _ _ _
 ·exact zab _ _ _
 ·exact zab _ _ _
 ·exact zbo d it hm
theorem zt4(b bn bl bt:Nat)(t:Bys)(d:Dk)(g:Lg)(ok:d.D.Ok)(hkl:d.D.keep.length≤1000000)(hwl:d.D.wait.length+zao t.length≤1000000)(ht:t.length≤1000000000)(hg:g.h.Ok)(hs0:0<g.h.secs)(hus:g.used≤g.h.secs)(hnx:g.next+zao t.length<18446744073709551616):
  Cw Tryz.prog 183 #[.pointer (some ⟨bn,0,none⟩),.pointer (some ⟨bl,0,none⟩),.pointer (some ⟨bt,0,none⟩)] (cmL b bn bl bt (zao t.length) t d g) (fun _:Dk=>.int .i64 ((zop d.D g t).1:Nat)) (zfz d (zop d.D g t).2) (fun d'=>cmL b bn bl bt (zao t.length) t d' (qjd d.D g t)):=by
 intro w hw ha
 refine za2 [_,_,_] _ Tryz.func183 rfl rfl hw ha ?_
 have hsecs:=hg.secs
 have hn0:=zh5 t.length
 simp only[zaa,Nat.reduceAdd]
 refine goA ?_
 refine zap [0,1,2,3,4,5] 8 rfl rfl kQ ?_
 refine goX ?_
 by_cases h6:g.h.secs<zao t.length
 ·refine goA ?_
  refine zbd d rfl rfl (by rw[zop,if_pos h6];rfl) ⟨rfl,rfl,by rw[zop,if_pos h6]⟩ ?_ (zgr _ _ _ _ _ _ _ _)
  rw[qjd,zop,if_pos h6,if_neg (Nat.succ_ne_zero _)]
  exact .refl _
 ·refine goA ?_
  refine zap [0,1,2,3,4,5] 5 rfl rfl kQ ?_
  refine goE ?_
  refine zat 2 ⟨kQ,dQ⟩ rfl rfl (zfc rfl kQ rfl (fun w1 hw1=>znz b d g hsecs hus w1 (zbq.of (hw1.item _ (.head _)) (zab _ _ _)))) (fun _ _ h=>goH h) fun _=>?_
  refine goE ?_
  refine zdn kQ ?_
  by_cases h5:g.h.secs - g.used<zao t.length
  ·refine goA ?_
   refine zbd d rfl rfl (by rw[zop,if_neg h6,if_pos h5];rfl) ⟨rfl,rfl,by rw[zop,if_neg h6,if_pos h5]⟩ ?_ (zgr _ _ _ _ _ _ _ _)
   rw[qjd,zop,if_neg h6,if_pos h5,if_neg (Nat.succ_ne_zero _)]
   exact .refl _
  ·refine goA ?_
   refine zap [0,1,2,3,4,5] 8 rfl rfl kQ ?_
   refine goE ?_
   refine qqn 5 ⟨kQ,dQ⟩ rfl rfl rfl kQ rfl (fun _ h=>h) (fun w1 hw1=>qe6 g.next t ht hnx w1) fun x hx=>?_
   refine goE ?_
   refine zdn kQ ?_
   obtain⟨xb,xc⟩:=x
   have hcm:zop d.D g t=zcm d.D (wsC g t):=by rw[zop,if_neg h6,if_neg h5]
   have hcmg:qjd d.D g t=if (zop d.D g t).1=0 then { g with next:=g.next+zao t.length,used:=g.used+zao t.length } else g:=rfl
   have hwsl:(wsC g t).length=zao t.length:=by rw[wsC,aD,zfm]
   have hwsk:∀k,k<zao t.length→(wsC g t).take (k+1)=(wsC g t).take k++[(za9 (g.next+k) g.h.secs,zmh (pcS g.next t k))]:=fun k hk=>by
    rw[cV,wsC,aO,qhs hk]
    rfl
   have hstep:∀k,k<zao t.length→zbb d.D ((wsC g t).take (k+1))=if (zbb d.D ((wsC g t).take k)).1=0 then zbz (zbb d.D ((wsC g t).take k)).2 (za9 (g.next+k) g.h.secs) (zmh (pcS g.next t k))else zbb d.D ((wsC g t).take k):=fun k hk=>by
    rw[hwsk k hk,zmq]
   have hdone:(zbb d.D ((wsC g t).take (zao t.length)))=zbb d.D (wsC g t):=by rw[bJ oQ]
   have hbad:∀k,(zbb d.D ((wsC g t).take k)).1≠0→zcm d.D (wsC g t)=zbb d.D ((wsC g t).take k):=fun k hk=>by
    have h1:=zmp ((wsC g t).take k) ((wsC g t).drop k) d.D hk
    rw[bF]at h1
    rw[zcm,h1,if_neg hk]
   have hkeepk:∀k,k≤zao t.length→(zbb d.D ((wsC g t).take k)).1=0→(zbb d.D ((wsC g t).take k)).2.keep=d.D.keep∧(zbb d.D ((wsC g t).take k)).2.wait.length=d.D.wait.length+k:=fun k hk h0=>by
    have:=ze7 ((wsC g t).take k) d.D ok h0
    rw[aM,hwsl,dB hk]at this
    exact this
   have hokk:∀k,(zbb d.D ((wsC g t).take k)).2.Ok:=fun k=>zf7 _ _ ok
   refine goA ?_
   refine zc0 (α:=Nat×Dk) (fun y=>[(0,.pointer (some ⟨bn,0,none⟩)),(1,.pointer (some ⟨bl,0,none⟩)),(2,.pointer (some ⟨bt,0,none⟩)),(3,.int .i64 0),(27,.slice (some ⟨xb,0,none⟩) (zao t.length) xc),(28,.int .i64 (zao t.length)),(29,.int .i64 y.1)]) (fun y=>y.1≤zao t.length∧(zbb d.D ((wsC g t).take y.1)).1=0∧zfz d (zbb d.D ((wsC g t).take y.1)).2 y.2) (fun y=>[dkI y.2,own 265 3 (some (xb,xc)) (zao t.length) (zv0 (zs7 g.next t)),lgI b d g,pt bn (.cells #[.int .i64 (zao t.length:Int)] 3 (0,0)),qfj bl b,pt bt (.cells #[.string ⟨t.toArray⟩] 9 (0,0)),ctI]) (fun y=>zao t.length - y.1) (0,d) ⟨rfl,rfl,rfl,rfl,rfl,rfl,rfl,trivial⟩ ⟨aZ _,rfl,rfl,rfl,rfl⟩ (fun w hw=>hw.pick [5,0,1,2,3,4,6] rfl rfl) fun⟨k,d1⟩ ⟨hk,h0,hd1⟩=>?_
   simp only at hk h0 hd1⊢
   by_cases hkn:k<zao t.length
   ·have hst:=hstep k hkn
    rw[if_pos h0]at hst
    obtain⟨hkp,hwt⟩:=hkeepk k oQ h0
    have hokd:=hokk k
    have hokd2:=hokk (k+1)
    have hbad2:=hbad (k+1)
    generalize zbb d.D ((wsC g t).take k)=r at*
    obtain⟨hd1a,hd1b,hd1c⟩:=hd1
    rw[←hd1c]at hkp hwt hokd hst
    have hlen:k<(zs7 g.next t).length:=by rw[zfm];exact hkn
    have hgk:(zs7 g.next t)[k]'hlen=pcS g.next t k:=by simp[zs7]
    have hrow:∀{m:List Eng.Item} {w2:World} {F2:Nat→Prop} (w':World),Hp w2 F2 m w'→own 265 3 (some (xb,xc)) (zao t.length) (zv0 (zs7 g.next t))∈m→w'.rangeAt xb (0+k*3) (zjf (pcS g.next t k)).toList:=fun w' hw' hm=>by
     have:=Rd.row (enc:=fun s=>(zjf s).toList) (sz:=3) (fun _=>rfl) (zd7 (hw'.item _ hm).1) hlen
     rw[hgk]at this
     exact this
    refine goA ?_
    refine l_w rfl (zgp (c:=zjf (pcS g.next t k)) rfl rfl (fun w' hw'=>hrow w' hw' (.tail _ (.head _))) rfl) ?_
    refine goA ?_
    refine zam rfl rfl fun b5 hb5=>?_
    refine za1 rfl (zaf (cs':=zjf (pcS g.next t k)) rfl rfl rfl rfl rfl rfl) fun _=>?_
    refine goA ?_
    have hsq:(pcS g.next t k).seq=g.next+k:=rfl
    refine zdy rfl rfl kQ rfl (fun w1 hw1=>zqy (pcS g.next t k) oQ (zna _ _ _) w1 (hw1.item ctI sQ).1) fun x hx=>?_
    refine zch (fun w hw=>(zas (hw.item (own 5 1 x 512 (zae (zmh (pcS g.next t k)))) (.head _)).1)) fun⟨hsl,hcap⟩=>?_
    rw[hsl]
    refine goA ?_
    refine zcx [2,0,1,3,4,5,6,7,8] rfl rfl ?_
    refine zap [1,2,3,4,5,6,7,8] 15 rfl rfl kQ ?_
    refine goE ?_
    refine zat 11 ⟨kQ,dQ⟩ rfl rfl (zfc rfl kQ rfl (fun w1 hw1=>zqi (g.next+k) g.h.secs oQ hs0 oQ w1)) (fun _ _ h=>goH h) fun _=>?_
    refine goE ?_
    rw[←hd1a]
    have hpl:za9 (g.next+k) g.h.secs<9223372036854775808:=by
     unfold za9
     have:=dY (g.next+k) hs0
     omega
    simp only[hsq]
    refine zat 13 ⟨kQ,dQ⟩ rfl rfl (zfb (pre:=[dkI d1]) rfl kQ rfl (by intro it hm;rcases hm with _|⟨_,hm⟩<;>first|exact zad _|exact(nomatch hm)) (fun w1 hw1 hh1 ha1=>zuc d1 hokd (by rw[hkp];exact hkl) (by rw[hwt];omega) _ hpl (zmh (pcS g.next t k)) 512 (zvz (zna _ _ _)) (slA x) (slC x) dQ w1 hh1 (fun w2 hw2=>za8 (hw1.still (.head _) (zac _ _ _ _ _ _) hw2)))) (fun _ _ h=>goH h) fun⟨d2,hd2⟩=>?_
    refine goE ?_
    refine zdn kQ ?_
    dsimp only
    rw[←hst]at hd2⊢
    have hok2:zfz d (zbb d.D ((wsC g t).take (k+1))).2 d2:=⟨hd2.1.trans hd1a,hd2.2.1.trans hd1b,hd2.2.2⟩
    refine goA ?_
    by_cases he:(zbb d.D ((wsC g t).take (k+1))).1=0
    ·have hne:(((zbb d.D ((wsC g t).take (k+1))).1:Int) != 0)=false:=by simp[he]
     rw[hne]
     refine goA ?_
     exact zaw (k+1,d2) ⟨rfl,rfl,rfl,rfl,rfl,rfl,rfl,trivial⟩ ⟨hkn,he,hok2⟩ (fun w hw=>by exact hw.pick [0,3,4,5,6,7,8] rfl rfl) (by show zao t.length - (k+1)<zao t.length - k;omega)
    ·have hne:(((zbb d.D ((wsC g t).take (k+1))).1:Int) != 0)=true:=by simp[he]
     rw[hne]
     have hcm2:=hbad2 he
     rw[hcmg,hcm,hcm2,if_neg he]
     refine goA ?_
     have hlg:∀g:Lg,lgI b d g=lgI b d2 g:=fun g=>by unfold lgI lgA;rw[hok2.1]
     exact zbr (m':=cmL b bn bl bt (zao t.length) t d2 g) (fun w' hw'=>by unfold cmL;rw[←hlg];exact hw'.pick [4,5,6,7,0,8] rfl rfl) (zbd d2 rfl rfl rfl hok2 (.refl _) (zgr _ _ _ _ _ _ _ _))
   ·obtain rfl:k=zao t.length:=oQ
    rw[hdone]at h0 hd1
    have hkk:=hkeepk (zao t.length) (bA _) (by rw[hdone];exact h0)
    rw[hdone]at hkk
    have hokd:=zf7 (wsC g t) d.D ok
    have hbt:zcm d.D (wsC g t)=zbi (zbb d.D (wsC g t)).2:=by rw[zcm,if_pos h0]
    rw[hbt]at hcm
    generalize zbb d.D (wsC g t)=r at*
    obtain⟨hd1a,hd1b,hd1c⟩:=hd1
    rw[←hd1c]at hkk hokd hcm
    refine goA ?_
    rw[←hd1a]
    refine lCu [dkI d1] rfl (by intro it hm;rcases hm with _|⟨_,hm⟩<;>first|exact zad _|exact(nomatch hm)) (fun w1 hw1 hh1 ha1=>zg4 d1 hokd (by rw[hkk.1];exact hkl) (by rw[hkk.2];omega) w1 hh1) fun⟨d2,hd2⟩=>?_
    dsimp only
    rw[hcm]
    rw[hcmg,hcm]
    generalize zbi d1.D=r2 at*
    have hok2:zfz d r2.2 d2:=⟨hd2.1.trans hd1a,hd2.2.1.trans hd1b,hd2.2.2⟩
    have hlg:∀g:Lg,lgI b d g=lgI b d2 g:=fun g=>by unfold lgI lgA;rw[hok2.1]
    refine goA ?_
    by_cases he:r2.1=0
    ·rw[if_pos he,he]
     obtain⟨gh,gat,gnx,gus,gde⟩:=g
     simp only at hnx hus hg hs0 hsecs⊢
     refine goA ?_
     refine zcx [2,3,4,5,0,6] rfl rfl ?_
     refine zap [1,2,3,4,5] 10 rfl rfl kQ ?_
     (repeat first|refine dAv [3] rfl rfl rfl ?_ |refine dno [3] rfl rfl rfl ?_ |refine dT [3] rfl rfl rfl rfl ?_ |refine dF [3] rfl rfl rfl rfl ?_)
     refine zat 3 ⟨kQ,dQ⟩ rfl rfl (zx2 rfl (zc5 rfl rfl (.head _) rfl)) (fun _ _ h=>goH h) fun _=>?_
     refine goE ?_
     refine d_v [7] rfl rfl kQ (fun _ h=>goH h) rfl rfl (zj8 (a:=gnx) (b:=zao t.length) rfl rfl) ?_
     refine zro 72 _ (.int .u64 ((gnx+zao t.length:Nat):Int)) rfl (by rw[bD hnx]) ?_
     refine goE ?_
     refine zat 9 ⟨kQ,dQ⟩ rfl rfl (zai rfl rfl rfl rfl rfl rfl (show(6:Nat)<9 from dQ)) (fun _ _ h=>goH h) fun _=>?_
     refine zdn kQ ?_
     refine goA ?_
     refine zap [1,2,3,4,5] 9 rfl rfl kQ ?_
     (repeat first|refine dAv [3] rfl rfl rfl ?_ |refine dno [3] rfl rfl rfl ?_ |refine dT [3] rfl rfl rfl rfl ?_ |refine dF [3] rfl rfl rfl rfl ?_)
     refine zat 3 ⟨kQ,dQ⟩ rfl rfl (zx2 rfl (zc5 rfl rfl (.head _) rfl)) (fun _ _ h=>goH h) fun _=>?_
     refine zro 78 _ (.int .i64 (gus:Int)) rfl rfl ?_
     refine goE ?_
     refine zat 8 ⟨kQ,dQ⟩ rfl rfl (zai rfl rfl rfl rfl rfl rfl (show(7:Nat)<9 from dQ)) (fun _ _ h=>goH h) fun _=>?_
     refine zdn kQ ?_
     refine goA ?_
     exact zbr (m':=cmL b bn bl bt (zao t.length) t d2 ⟨gh,gat,gnx+zao t.length,gus+zao t.length,gde⟩) (fun w' hw'=>by unfold cmL;rw[←hlg];exact hw') (zbd d2 rfl rfl rfl hok2 (.refl _) (zgr _ _ _ _ _ _ _ _))
    ·have hne:((r2.1:Int) != 0)=true:=by simp[he]
     rw[hne,if_neg he]
     refine goA ?_
     exact zbr (m':=cmL b bn bl bt (zao t.length) t d2 g) (fun w' hw'=>by unfold cmL;rw[←hlg];exact hw'.pick [2,3,4,5,0,6] rfl rfl) (zbd d2 rfl rfl rfl hok2 (.refl _) (zgr _ _ _ _ _ _ _ _))
theorem zrv(b:Nat)(t:Bys)(d:Dk)(g:Lg)(ok:d.D.Ok)(hkl:d.D.keep.length≤1000000)(hwl:d.D.wait.length+zao t.length≤1000000)(ht:t.length≤1000000000)(hg:g.h.Ok)(hs0:0<g.h.secs)(hus:g.used≤g.h.secs)(hnx:g.next+zao t.length<18446744073709551616)(hdead:g.dead=false):
  Cw Tryz.prog 137 #[.pointer (some ⟨b,0,none⟩),.string ⟨t.toArray⟩] [lgI b d g,dkI d,ctI] (fun _:Dk=>.int .i64 ((zop d.D g t).1:Nat)) (zfz d (zop d.D g t).2) (fun d'=>[lgI b d' { qjd d.D g t with dead:=decide ((zop d.D g t).1=4) },dkI d',ctI]):=by
 intro w hw ha
 refine za2 [_,_] _ Tryz.func137 rfl rfl hw ha ?_
 simp only[zaa,Nat.reduceAdd]
 refine goA ?_
 refine zc9 rfl rfl rfl fun bl _=>?_
 refine zc9 rfl rfl rfl fun bt _=>?_
 refine goA ?_
 refine lPu rfl (fun w1 hw1=>zsw t.length ht w1) ?_
 refine goA ?_
 refine zdg rfl rfl rfl fun bn hbn=>?_
 refine za1 rfl (zai rfl rfl rfl rfl rfl rfl sQ) fun _=>?_
 refine goA ?_
 refine l_w rfl (zhw rfl) ?_
 refine zay [3,0,2,1,4,5] rfl rfl ?_
 have hst:=zgr b bn bl bt (zao t.length) t
 refine zeh rfl (zfb (pre:=cmL b bn bl bt (zao t.length) t d g) (m:=[]) rfl kQ rfl (hst d g) (fun w1 hw1 hh1 ha1=>zsh (f:=183) (cs:=[.pointer (some ⟨bn,0,none⟩),.pointer (some ⟨bl,0,none⟩),.pointer (some ⟨bt,0,none⟩)]) kQ b d g hdead (cmL b bn bl bt (zao t.length) t d g).tail (fun _:Dk=>(zop d.D g t).1) (zfz d (zop d.D g t).2) (fun d'=>d') (fun _=>qjd d.D g t) (fun d'=>(cmL b bn bl bt (zao t.length) t d' g).tail) (fun it hm=>hst d g it (.tail _ hm)) (fun d' it hm=>hst d' g it (.tail _ hm)) (fun w2 hh2 ha2=>zt4 b bn bl bt t d g ok hkl hwl ht hg hs0 hus hnx w2 hh2 ha2) w1 hh1 ha1)) fun⟨d',hd'⟩=>?_
 refine goA ?_
 exact zbd d' rfl rfl rfl hd' (.cons_cons _ (.cons _ (.cons _ (.cons _ (.refl _))))) (fun it hm=>hst d' _ it (by
  rcases hm with _|⟨_,hm⟩
  ·exact .head _
  ·exact .tail _ (.tail _ (.tail _ (.tail _ hm)))))
end Go.Proofs.YthafakdplhdfjaaGreatDoor
namespace Go.Eng.Bm
def num(f:Nat→Bool):Nat→Nat
 |0=>0
 |n+1=>num f n+(bif f n then 2^n else 0)
theorem qb4(f:Nat→Bool):∀n,num f n<2^n
 |0=>by simp[num]
 |n+1=>by
  have:=qb4 f n
  simp only[num,gR]
  cases f n<;>simp<;>omega
theorem zc4(f:Nat→Bool):∀n j,(num f n).testBit j=(decide (j<n)&&f j)
 |0,j=>by simp[num]
 |n+1,j=>by
  have hlt:=qb4 f n
  have ih:=zc4 f n j
  simp only[num]
  cases hf:f n
  ·simp only[cond_false,fU,ih]
   by_cases h:j<n
   ·simp[h,eQ h]
   ·by_cases e:j=n
    ·subst e;simp[hf]
    ·simp only[h,decide_false,eH,show¬j<n+1 by omega]
  ·simp only[cond_true]
   rw[fT]
   by_cases h:j<n
   ·rw[Nat.testBit_two_pow_add_gt h,ih];simp[h,eQ h]
   ·by_cases e:j=n
    ·subst e;rw[Nat.testBit_two_pow_add_eq,ih];simp[hf]
    ·have h2:2^n+num f n<2^j:=aY (show 2^n+num f n<2^(n+1) by rw[gR];omega) (dK dQ oQ)
     rw[fM h2]
     simp[show¬j<n+1 by omega]
theorem zxx{f g:Nat→Bool}{n:Nat}(h:∀j,j<n→f j=g j):num f n=num g n:=eU fun j=>by
 rw[zc4,zc4]
 by_cases hj:j<n
 ·rw[h j hj]
 ·simp[hj]
def upd(S:Nat→Bool)(i:Nat)(u:Bool):Nat→Bool:=fun j=>if j=i then u else S j
def zrd(S:Nat→Bool)(k:Nat):Nat:=num (fun i=>S (64*k+i)) 64
def byte(S:Nat→Bool)(k:Nat):Nat:=num (fun i=>S (8*k+i)) 8
theorem qa4(S:Nat→Bool)(k:Nat):zrd S k<18446744073709551616:=qb4 _ 64
theorem qfl(S:Nat→Bool)(k:Nat):byte S k<256:=qb4 _ 8
def clr(x j:Nat):Nat:=x&&& (18446744073709551615^^^2^j)
def qp2(x j:Nat)(u:Bool):Nat:=bif u then clr x j|||2^j else clr x j
variable{x:Nat}
theorem qqk(j:Nat)(h:x<18446744073709551616):clr x j<18446744073709551616:=cL gL h
variable{j:Nat}
theorem qrg(h:j<64):2^j<18446744073709551616:=jT (n:=64) dQ h
theorem zix(i:Nat):(18446744073709551615:Nat).testBit i=decide (i<64):=Nat.testBit_two_pow_sub_one 64 i
theorem zq7(x j i:Nat)(hx:x<18446744073709551616):(clr x j).testBit i=(if i=j then false else x.testBit i):=by
 unfold clr
 rw[lH,Nat.testBit_xor,zix,iQ]
 by_cases hi:i<64
 ·by_cases e:i=j
  ·subst e;simp[hi]
  ·simp[hi,e,Ne.symm e]
 ·have:x.testBit i=false:=fM (aY hx (dK (n:=2) (i:=64) dQ oQ))
  simp[this]
theorem zyt(x j i:Nat)(u:Bool)(hx:x<18446744073709551616):(qp2 x j u).testBit i=(if i=j then u else x.testBit i):=by
 unfold qp2
 cases u
 ·simp only[cond_false];exact zq7 x j i hx
 ·simp only[cond_true]
  rw[lL,zq7 x j i hx,iQ]
  by_cases e:i=j
  ·subst e;simp
  ·simp[e,Ne.symm e]
theorem qid(S:Nat→Bool)(k j:Nat)(u:Bool)(hj:j<64):qp2 (zrd S k) j u=zrd (upd S (64*k+j) u) k:=eU fun i=>by
 rw[zyt _ _ _ _ (qa4 S k)]
 unfold zrd
 rw[zc4,zc4]
 unfold upd
 by_cases e:i=j
 ·subst e;simp[hj]
 ·simp[e]
theorem zr6(S:Nat→Bool)(i k:Nat)(u:Bool)(h:k≠i/64):zrd (upd S i u) k=zrd S k:=zxx fun j hj=>by
 unfold upd
 rw[if_neg oQ]
theorem zj4(S:Nat→Bool)(k j:Nat)(hj:j<64):(zrd S k).testBit j=S (64*k+j):=by
 unfold zrd;rw[zc4];simp[hj]
def cnt(S:Nat→Bool):Nat→Nat
 |0=>0
 |n+1=>cnt S n+(S n).toNat
theorem qfo(S:Nat→Bool):∀n,cnt S n≤n
 |0=>bA _
 |n+1=>by have:=qfo S n;simp only[cnt];cases S n<;>simp<;>omega
theorem qm1(S:Nat→Bool)(a:Nat):∀b,cnt S (a+b)=cnt S a+cnt (fun i=>S (a+i)) b
 |0=>rfl
 |b+1=>by rw[←eV];simp only[cnt];rw[qm1 S a b];omega
def V(k:Nat)(g:Nat→Nat):Nat→Nat
 |0=>0
 |n+1=>g 0+2^k*V k (fun i=>g (i+1)) n
def M(k:Nat):Nat→Nat
 |0=>0
 |n+1=>(2^k - 1)+2^(2*k)*M k n
variable{k:Nat}{g:Nat→Nat}
theorem zny{h:Nat→Nat}:∀{n:Nat},(∀i,i<n→g i=h i)→V k g n=V k h n:=by
 intro n
 induction n generalizing g h with
 |zero=>intro _;rfl
 |succ n ih=>intro e;simp only[V];rw[e 0 oQ,ih (g:=fun i=>g (i+1)) (h:=fun i=>h (i+1)) (fun i hi=>e (i+1) oQ)]
theorem qun:∀{n:Nat},(∀i,i<n→g i<2^k)→V k g n<2^(k*n):=by
 intro n
 induction n generalizing g with
 |zero=>intro _;simp[V]
 |succ n ih=>
  intro e
  have h0:=e 0 oQ
  have h1:=ih (g:=fun i=>g (i+1)) (fun i hi=>e (i+1) oQ)
  simp only[V]
  rw[Nat.mul_succ,jS,kA (2^(k*n))]
  have:2^k*(V k (fun i=>g (i+1)) n+1)≤2^k*2^(k*n):=fN _ h1
  rw[fP]at this
  omega
theorem qqv{h:Nat→Nat}:∀{n:Nat},V k g n+V k h n=V k (fun i=>g i+h i) n:=by
 intro n
 induction n generalizing g h with
 |zero=>rfl
 |succ n ih=>
  simp only[V]
  rw[←ih (g:=fun i=>g (i+1)) (h:=fun i=>h (i+1)),fP]
  omega
theorem qfb(s a b c d:Nat)(ha:a<2^s)(hc:c<2^s):(a+2^s*b)&&& (c+2^s*d)=(a&&& c)+2^s*(b&&& d):=by
 have hac:a&&& c<2^s:=cL gL ha
 rw[fT a,fT c,fT (a&&& c),iI ha,iI hc,iI hac]
 refine eU fun i=>?_
 simp only[lH,lL,Nat.testBit_two_pow_mul]
 by_cases hi:s≤i
 ·have e1:a.testBit i=false:=fM (aY ha (dK dQ hi))
  have e2:c.testBit i=false:=fM (aY hc (dK dQ hi))
  simp[hi,e1,e2]
 ·simp[hi]
theorem qod(k a b:Nat)(ha:a<2^k):(a+2^k*b)&&& (2^k - 1)=a:=by
 rw[eX,Nat.add_mul_mod_self_left,bD ha]
theorem qui(k a b:Nat)(ha:a<2^k)(hb:b<2^k):a+2^k*b<2^(2*k):=by
 have e:2^(2*k)=2^k*2^k:=by rw[Nat.two_mul,jS]
 have:2^k*(b+1)≤2^k*2^k:=fN _ hb
 rw[fP]at this
 omega
theorem qoy(k:Nat):2^k - 1<2^(2*k):=by
 have:2^k≤2^(2*k):=dK dQ oQ
 have:=iS k
 omega
theorem zt3:∀{n:Nat} {g:Nat→Nat},(∀i,i<2*n→g i<2^k)→V k g (2*n)&&& M k n=V (2*k) (fun i=>g (2*i)) n:=by
 intro n
 induction n with
 |zero=>intro g _;simp[V,M]
 |succ n ih=>
  intro g hg
  have e:2*(n+1)=2*n+1+1:=oQ
  rw[e]
  simp only[V,M]
  have h2:g 0+2^k*(g (0+1)+2^k*V k (fun i=>g (i+1+1)) (2*n))=(g 0+2^k*g 1)+2^(2*k)*V k (fun i=>g (i+1+1)) (2*n):=by
   have e:2^(2*k)=2^k*2^k:=by rw[Nat.two_mul,jS]
   rw[e,fP,Nat.mul_assoc];simp only[aH];omega
  rw[h2,qfb _ _ _ _ _ (qui k _ _ (hg 0 oQ) (hg 1 oQ)) (qoy k),qod k _ _ (hg 0 oQ),ih (fun i hi=>hg (i+1+1) oQ)]
  rfl
theorem qqa:∀{n:Nat} {g:Nat→Nat},(∀i,i<2*n→g i<2^k)→(V k g (2*n)/2^k)&&& M k n=V (2*k) (fun i=>g (2*i+1)) n:=by
 intro n
 induction n with
 |zero=>intro g _;simp[V,M]
 |succ n ih=>
  intro g hg
  have e:2*(n+1)=2*n+1+1:=oQ
  rw[e]
  simp only[V,M]
  have hp:=iS k
  generalize hR:V k (fun i=>g (i+1+1)) (2*n)=R
  have h2:(g 0+2^k*(g (0+1)+2^k*R))/2^k=(g 1+2^k*(R%2^k))+2^(2*k)*(R/2^k):=by
   rw[Nat.add_mul_div_left _ _ hp,jN (hg 0 oQ)]
   have e:2^(2*k)=2^k*2^k:=by rw[Nat.two_mul,jS]
   have hd:=Nat.mod_add_div R (2^k)
   rw[e,Nat.mul_assoc,eV,←fP,hd]
   simp
  rw[h2,qfb _ _ _ _ _ (qui k _ _ (hg 1 oQ) (dY _ hp)) (qoy k),qod k _ _ (hg 1 oQ),←hR,ih (fun i hi=>hg (i+1+1) oQ)]
  rfl
theorem qj9(n:Nat)(h0:g 0<2^k):V k g (n+1)/2^k=V k (fun i=>g (i+1)) n:=by
 simp only[V]
 rw[Nat.add_mul_div_left _ _ (iS k),jN h0];simp
theorem qug:∀{n:Nat} {g:Nat→Nat},V k g n=V k (fun i=>if i<n then g i else 0) (n+1):=by
 intro n
 induction n with
 |zero=>intro g;simp[V]
 |succ n ih=>
  intro g
  rw[V,V,ih (g:=fun i=>g (i+1))]
  have:V k (fun i=>if i<n then g (i+1)else 0) (n+1)=V k (fun i=>if i+1<n+1 then g (i+1)else 0) (n+1):=zny fun i _=>by
   by_cases h:i<n<;>simp[h]
  rw[this]
  simp
theorem zoa(n:Nat)(h0:g 0<2^k):V k g (n+1)/2^k+V k g (n+1)=V k (fun i=>(if i<n then g (i+1)else 0)+g i) (n+1):=by
 rw[qj9 n h0,qug,qqv]
theorem qv6(f:Nat→Bool):∀n,num f n=V 1 (fun i=>(f i).toNat) n:=by
 have key:∀n (f:Nat→Bool),num f (n+1)=(f 0).toNat+2*num (fun i=>f (i+1)) n:=by
  intro n
  induction n with
  |zero=>intro f;simp[num];cases f 0<;>rfl
  |succ n ih=>
   intro f
   rw[num,ih f,num]
   cases f (n+1)
   ·simp
   ·simp[gR];omega
 intro n
 induction n generalizing f with
 |zero=>rfl
 |succ n ih=>rw[key,V,ih (fun i=>f (i+1))]
theorem qq3:∀{j n:Nat} {g:Nat→Nat},(∀i,i<j→g i<2^k)→V k g (n+j)/2^(k*j)=V k (fun i=>g (i+j)) n:=by
 intro j
 induction j with
 |zero=>intro n g _;simp
 |succ j ih=>
  intro n g hg
  rw[Nat.mul_succ,fT (k*j),jS,←Nat.div_div_eq_div_mul,←eV,qj9 _ (hg 0 oQ),ih (fun i hi=>hg (i+1) oQ)]
  exact zny fun i _=>by rw[eV]
theorem qu7{k:Nat}{g:Nat→Nat}{n:Nat}:∀j,V k g n=V k (fun i=>if i<n then g i else 0) (n+j)
 |0=>zny fun i hi=>by rw[if_pos hi]
 |j+1=>by
  rw[qu7 j,qug (n:=n+j),←eV]
  exact zny fun i hi=>by by_cases h:i<n<;>simp[h];omega
theorem zew{n:Nat}(hg:∀i,i<j→g i<2^k):V k g (n+j)+V k g (n+j)/2^(k*j)=V k (fun i=>g i+if i<n then g (i+j)else 0) (n+j):=by
 rw[qq3 hg,qu7 (n:=n) (g:=fun i=>g (i+j)) j,qqv]
def qji(x:Nat):Nat:=(x/2&&& 6148914691236517205)+(x&&& 6148914691236517205)
def qj8(x:Nat):Nat:=(x/4&&& 3689348814741910323)+(x&&& 3689348814741910323)
def qub(x:Nat):Nat:=(x/16+x)&&& 1085102592571150095
theorem zvg(b:Bool):b.toNat≤1:=by cases b<;>decide
def g1(f:Nat→Bool)(i:Nat):Nat:=(f (2*i+1)).toNat+(f (2*i)).toNat
def g2(f:Nat→Bool)(i:Nat):Nat:=g1 f (2*i+1)+g1 f (2*i)
def g3(f:Nat→Bool)(i:Nat):Nat:=g2 f (2*i+1)+g2 f (2*i)
theorem qtw(f:Nat→Bool)(i:Nat):g1 f i≤2:=by have:=zvg (f (2*i+1));have:=zvg (f (2*i));unfold g1;omega
theorem zup(f:Nat→Bool)(i:Nat):g2 f i≤4:=by have:=qtw f (2*i+1);have:=qtw f (2*i);unfold g2;omega
theorem quv(f:Nat→Bool)(i:Nat):g3 f i≤8:=by have:=zup f (2*i+1);have:=zup f (2*i);unfold g3;omega
theorem qqb(f:Nat→Bool):qji (num f 64)=V 2 (g1 f) 32:=by
 unfold qji
 rw[qv6,show(6148914691236517205:Nat)=M 1 32 from by decide]
 have h:=fun i (_:i<2*32)=>cL (zvg (f i)) (show 1<2^1 by decide)
 have h1:=qqa (k:=1) (n:=32) (g:=fun i=>(f i).toNat) h
 have h2:=zt3 (k:=1) (n:=32) (g:=fun i=>(f i).toNat) h
 simp only[Nat.pow_one]at h1
 rw[h1,h2,qqv]
 rfl
theorem qqd(f:Nat→Bool):qj8 (V 2 (g1 f) 32)=V 4 (g2 f) 16:=by
 unfold qj8
 rw[show(3689348814741910323:Nat)=M 2 16 from by decide]
 have h:=fun i (_:i<2*16)=>cL (qtw f i) (show 2<2^2 by decide)
 have h1:=qqa (k:=2) (n:=16) (g:=g1 f) h
 have h2:=zt3 (k:=2) (n:=16) (g:=g1 f) h
 rw[show(2:Nat)^2=4 from rfl]at h1
 rw[h1,h2,qqv]
 rfl
theorem qqg(f:Nat→Bool):qub (V 4 (g2 f) 16)=V 8 (g3 f) 8:=by
 unfold qub
 rw[show(1085102592571150095:Nat)=M 4 8 from dQ,show(16:Nat)=2^4 from rfl,show(2:Nat)^4=15+1 from rfl]
 have h0:g2 f 0<2^4:=cL (zup f 0) dQ
 have hs:=zoa (k:=4) (g:=g2 f) 15 h0
 rw[show(2:Nat)^4=15+1 from rfl]at hs
 rw[hs]
 have h2:=zt3 (k:=4) (n:=8) (g:=fun i=>(if i<15 then g2 f (i+1)else 0)+g2 f i) (fun i _=>by
  have:=zup f i;have:=zup f (i+1)
  by_cases h:i<15<;>simp[h]<;>omega)
 rw[show 2*8=15+1 from rfl]at h2
 rw[h2]
 exact zny fun i hi=>by rw[if_pos oQ];rfl
def qul(a:Nat):Nat:=a+a/256
def quy(a:Nat):Nat:=a+a/65536
def qu5(a:Nat):Nat:=a+a/4294967296
def pop(x:Nat):Nat:=(qu5 (quy (qul (qub (qj8 (qji x))))))&&& 127
theorem quz(f:Nat→Bool):pop (num f 64)=cnt f 64:=by
 have hg:=quv f
 unfold pop qul quy qu5
 rw[qqb,qqd,qqg]
 have e4:=zew (k:=8) (j:=1) (n:=7) (g:=g3 f) (fun i _=>cL (hg i) dQ)
 have e5:=zew (k:=8) (j:=2) (n:=6) (g:=fun i=>g3 f i+if i<7 then g3 f (i+1)else 0) (fun i _=>by have:=hg i;have:=hg (i+1);by_cases h:i<7<;>simp[h]<;>omega)
 have e6:=zew (k:=8) (j:=4) (n:=4) (g:=fun i=>(g3 f i+if i<7 then g3 f (i+1)else 0)+if i<6 then(g3 f (i+2)+if i+2<7 then g3 f (i+2+1)else 0)else 0) (fun i _=>by
  have:=hg i;have:=hg (i+1);have:=hg (i+2);have:=hg (i+2+1)
  by_cases h:i<7<;>by_cases h':i<6<;>by_cases h'':i+2<7<;>simp[h,h',h'']<;>omega)
 simp only[show(2:Nat)^(8*1)=256 from rfl]at e4
 simp only[show(2:Nat)^(8*2)=65536 from rfl]at e5
 simp only[show(2:Nat)^(8*4)=4294967296 from rfl]at e6
 simp only[show(7+1:Nat)=8 from rfl]at e4
 simp only[show(6+2:Nat)=8 from rfl]at e5
 simp only[show(4+4:Nat)=8 from rfl]at e6
 simp only[e4,e5,e6]
 have h127:=eX (V 8 (fun i=>((g3 f i+if i<7 then g3 f (i+1)else 0)+if i<6 then(g3 f (i+2)+if i+2<7 then g3 f (i+2+1)else 0)else 0)+if i<4 then((g3 f (i+4)+if i+4<7 then g3 f (i+4+1)else 0)+if i+4<6 then(g3 f (i+4+2)+if i+4+2<7 then g3 f (i+4+2+1)else 0)else 0)else 0) 8) 7
 rw[show(2:Nat)^7 - 1=127 from rfl]at h127
 rw[h127]
 rw[show(8:Nat)=7+1 from rfl,V]
 rw[show(2:Nat)^(7+1)=2^7*2 from rfl,Nat.mul_assoc,Nat.add_mul_mod_self_left]
 have:=hg 0;have:=hg 1;have:=hg 2;have:=hg 3;have:=hg 4;have:=hg 5;have:=hg 6;have:=hg 7
 simp only[aH,show(0:Nat)<7 from dQ,show(0:Nat)<6 from dQ,show(2:Nat)<7 from dQ,show(0:Nat)<4 from dQ,show(4:Nat)<7 from dQ,show(4:Nat)<6 from dQ,show(4+2:Nat)<7 from dQ,if_true,Nat.reduceAdd]
 rw[bD (by simp only[show(2:Nat)^7=128 from rfl];omega)]
 clear e4 e5 e6 h127
 simp only[cnt,g3,g2,g1,Nat.reduceMul,Nat.reduceAdd]
 omega
theorem qjw(f:Nat→Bool):num f 64<18446744073709551616∧qji (num f 64)<18446744073709551616∧qj8 (qji (num f 64))<18446744073709551616∧qj8 (qji (num f 64))/16+qj8 (qji (num f 64))<18446744073709551616∧qub (qj8 (qji (num f 64)))<18446744073709551616∧qul (qub (qj8 (qji (num f 64))))<18446744073709551616∧quy (qul (qub (qj8 (qji (num f 64)))))<18446744073709551616∧qu5 (quy (qul (qub (qj8 (qji (num f 64))))))<18446744073709551616:=by
 have hg:=quv f
 unfold qul quy qu5
 rw[qqb,qqd,qqg]
 have e4:=zew (k:=8) (j:=1) (n:=7) (g:=g3 f) (fun i _=>cL (hg i) dQ)
 have e5:=zew (k:=8) (j:=2) (n:=6) (g:=fun i=>g3 f i+if i<7 then g3 f (i+1)else 0) (fun i _=>by have:=hg i;have:=hg (i+1);by_cases h:i<7<;>simp[h]<;>omega)
 have e6:=zew (k:=8) (j:=4) (n:=4) (g:=fun i=>(g3 f i+if i<7 then g3 f (i+1)else 0)+if i<6 then(g3 f (i+2)+if i+2<7 then g3 f (i+2+1)else 0)else 0) (fun i _=>by
  have:=hg i;have:=hg (i+1);have:=hg (i+2);have:=hg (i+2+1)
  by_cases h:i<7<;>by_cases h':i<6<;>by_cases h'':i+2<7<;>simp[h,h',h'']<;>omega)
 simp only[show(2:Nat)^(8*1)=256 from rfl]at e4
 simp only[show(2:Nat)^(8*2)=65536 from rfl]at e5
 simp only[show(2:Nat)^(8*4)=4294967296 from rfl]at e6
 simp only[show(7+1:Nat)=8 from rfl]at e4
 simp only[show(6+2:Nat)=8 from rfl]at e5
 simp only[show(4+4:Nat)=8 from rfl]at e6
 simp only[e4,e5,e6]
 have b3:V 4 (g2 f) 16/16+V 4 (g2 f) 16<18446744073709551616:=by
  have h0:g2 f 0<2^4:=cL (zup f 0) dQ
  have hs:=zoa (k:=4) (g:=g2 f) 15 h0
  simp only[show(2:Nat)^4=16 from rfl,show(15+1:Nat)=16 from rfl]at hs
  rw[hs]
  exact qun (k:=4) (n:=16) fun i _=>by
   have:=zup f i;have:=zup f (i+1)
   by_cases h:i<15<;>simp[h]<;>omega
 refine⟨qb4 f 64,qun (k:=2) (n:=32) fun i _=>cL (qtw f i) dQ,qun (k:=4) (n:=16) fun i _=>cL (zup f i) dQ,b3,qun (k:=8) (n:=8) fun i _=>cL (quv f i) dQ,qun (k:=8) (n:=8) fun i _=>?_,qun (k:=8) (n:=8) fun i _=>?_,qun (k:=8) (n:=8) fun i _=>?_⟩
 ·have:=hg i;have:=hg (i+1);by_cases h:i<7<;>simp[h]<;>omega
 ·have:=hg i;have:=hg (i+1);have:=hg (i+2);have:=hg (i+2+1)
  by_cases h:i<7<;>by_cases h':i<6<;>by_cases h'':i+2<7<;>simp[h,h',h'']<;>omega
 ·have:=hg i;have:=hg (i+1);have:=hg (i+2);have:=hg (i+2+1);have:=hg (i+4);have:=hg (i+4+1);have:=hg (i+4+2);have:=hg (i+4+2+1)
  have s1:(if i<7 then g3 f (i+1)else 0)≤8:=by split<;>omega
  have s2:(if i+2<7 then g3 f (i+2+1)else 0)≤8:=by split<;>omega
  have s3:(if i<6 then g3 f (i+2)+(if i+2<7 then g3 f (i+2+1)else 0)else 0)≤16:=by split<;>omega
  have s4:(if i+4<7 then g3 f (i+4+1)else 0)≤8:=by split<;>omega
  have s5:(if i+4+2<7 then g3 f (i+4+2+1)else 0)≤8:=by split<;>omega
  have s6:(if i+4<6 then g3 f (i+4+2)+(if i+4+2<7 then g3 f (i+4+2+1)else 0)else 0)≤16:=by split<;>omega
  have s7:(if i<4 then(g3 f (i+4)+if i+4<7 then g3 f (i+4+1)else 0)+(if i+4<6 then g3 f (i+4+2)+(if i+4+2<7 then g3 f (i+4+2+1)else 0)else 0)else 0)≤32:=by split<;>omega
  omega
theorem qn8(s:Nat)(h:x<18446744073709551616):x/2^s<18446744073709551616:=cL (eW _ _) h
def tab64:List Nat:=[0,1,56,2,57,49,28,3,61,58,42,50,38,29,17,4,62,47,59,36,45,43,51,22,53,39,33,30,24,18,12,5,63,55,48,27,60,41,37,16,46,35,44,21,52,32,23,11,54,26,40,15,34,20,31,10,25,14,19,9,13,8,7,6]
def qcx(t:Nat):Nat:=2^t*285870213051353865%18446744073709551616/2^58
theorem qrr:∀t,t<64→qcx t<64∧tab64.getD (qcx t) 0=t:=by decide+kernel
theorem qnj{t:Nat}(hx:x<18446744073709551616)(ht:x.testBit t=true)(hl:∀j,j<t→x.testBit j=false):x&&& (18446744073709551616 - x)=2^t:=by
 have ht64:t<64:=by
  rcases gQ t 64 with h|h
  ·exact h
  ·have:x.testBit t=false:=fM (aY hx (dK (n:=2) (i:=64) dQ h))
   rw[this]at ht;cases ht
 have hmod:x%2^(t+1)=2^t:=eU fun j=>by
  rw[Nat.testBit_mod_two_pow,iQ]
  by_cases h1:j<t
  ·simp[hl j h1];omega
  ·by_cases h2:j=t
   ·subst h2;simp[ht]
   ·simp[show¬j<t+1 by omega];omega
 have hq:=Nat.mod_add_div x (2^(t+1))
 rw[hmod]at hq
 generalize hqq:x/2^(t+1)=q at hq
 obtain⟨m,hm⟩:∃m,64=t+1+m:=⟨64 - (t+1),oQ⟩
 have h64:(18446744073709551616:Nat)=2^(t+1)*2^m:=by rw[←jS,←hm]
 have hqm:q<2^m:=by
  rw[←hqq]
  exact Nat.div_lt_of_lt_mul (by rw[←h64];exact hx)
 have e:18446744073709551616 - x=2^t+2^(t+1)*(2^m - (q+1)):=by
  have e2:2^(t+1)=2^t+2^t:=by rw[gR];omega
  obtain⟨r,hr⟩:∃r,2^m=q+1+r:=⟨2^m - (q+1),oQ⟩
  rw[h64,hr,←hq,show q+1+r - (q+1)=r by omega]
  rw[fP,fP]
  omega
 have hlt:2^t<2^(t+1):=jT dQ oQ
 conv=>lhs;lhs;rw[←hq]
 rw[e,qfb (t+1) (2^t) q (2^t) (2^m - (q+1)) hlt hlt,Nat.and_self]
 have:q&&& (2^m - (q+1))=0:=eU fun j=>by
  rw[lH,Nat.testBit_two_pow_sub_succ hqm]
  cases q.testBit j<;>simp
 rw[this];simp
theorem qb3(S:Nat→Bool)(k j:Nat)(hj:j<64):(18446744073709551615^^^zrd S k).testBit j= !S (64*k+j):=by
 rw[Nat.testBit_xor,zix,zj4 S k j hj];simp[hj]
variable{S:Nat→Bool}
theorem qi1(h:∀j,j<64→S (64*k+j)=true):zrd S k=18446744073709551615:=eU fun j=>by
 rw[zix]
 unfold zrd
 rw[zc4]
 by_cases hj:j<64
 ·simp[hj,h j hj]
 ·simp[hj]
theorem zyx(hj:j<64)(h:S (64*k+j)=false):zrd S k≠18446744073709551615:=fun e=>by
 have:=zj4 S k j hj
 rw[e,h,zix]at this
 simp[hj]at this
def zd3(S:Nat→Bool)(k:Nat):Nat→Bool:=fun i=>decide (i<k)&&S i
theorem qnl(S:Nat→Bool)(k:Nat)(h:S k=true):byte (zd3 S k) (k/8)|||2^(k%8)=byte (zd3 S (k+1)) (k/8):=eU fun i=>by
 rw[lL,iQ]
 unfold byte
 rw[zc4,zc4]
 unfold zd3
 by_cases hi:i<8
 ·by_cases e:8*(k/8)+i=k
  ·have:k%8=i:=oQ
   simp[e,h,this,hi]
  ·have h1:¬k%8=i:=oQ
   by_cases h2:8*(k/8)+i<k
   ·simp[h1,h2,eQ h2]
   ·simp only[h1,h2,decide_false,eH,lI,Bool.or_false,show¬8*(k/8)+i<k+1 by omega]
 ·simp[hi];omega
theorem zwp(S:Nat→Bool)(k j:Nat)(h:j≠k/8∨S k=false):byte (zd3 S (k+1)) j=byte (zd3 S k) j:=zxx fun i hi=>by
 unfold zd3
 by_cases e:8*j+i=k
 ·rcases h with h|h
  ·omega
  ·rw[e,h];simp
 ·by_cases h2:8*j+i<k
  ·simp[h2,eQ h2]
  ·simp only[h2,decide_false,eH,show¬8*j+i<k+1 by omega]
theorem zys(S:Nat→Bool)(k j:Nat)(hj:j<8):(byte S k).testBit j=S (8*k+j):=by
 unfold byte;rw[zc4];simp[hj]
end Go.Eng.Bm
