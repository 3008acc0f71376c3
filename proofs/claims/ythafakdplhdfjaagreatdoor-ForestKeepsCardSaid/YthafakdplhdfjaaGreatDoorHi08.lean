/- Parts: A region that draws its order and asks for a round; The plain law of sheets and heads; package sheet; The plain law of the disk; package wal; Plain mathematics of bit maps; Contracts of package bits. No condition. -/
import Derived.Test.YthafakdplhdfjaaGreatDoorHi07
import Derived.Test.YthafakdplhdfjaaGreatDoorHi02
import Derived.Test.YthafakdplhdfjaaGreatDoorHi00
import Derived.Test.YthafakdplhdfjaaGreatDoorChecked
set_option maxRecDepth 100000
set_option maxHeartbeats 40000000
namespace Go.Eng
open Go.RowKit
section
variable{P:Program}{Q:Exit→Act→World→Prop}{l:zav}{w0:World}{F:Nat→Prop}{m:List Item}{ops:Array Oper}{S:World→Prop}
variable{i:Nat}{v:Value}{a:Act}{K:Act→World→Prop}{w:World}
theorem zrj{o:Oper}(hi:ops[i]? =some o)(hy:YieldsIf P ops S o v a)(hS:S w)(h:K (a.put o.dst v) w):wpOpIn (fw none) 0 P ops Q i K a w:=by
 unfold Go.wpOpIn
 simp only[hi]
 rcases hy with ⟨hw,hv⟩ |⟨hw,rfl⟩
 ·simp only[hw,if_true,Oper.wpIn]
  refine⟨fun _ _=>trivial,?_⟩
  rw[show(fw none).round=none from rfl,Oper.semAt_none,hv w hS]
  exact h
 ·simp only[hw,bV,if_false]
  exact⟨fun _ _=>trivial,h⟩
variable{oi:Oper}
theorem zy1{j:Nat}{oj:Oper}(hj:ops[j]? =some oj)(hap:oi.apart ops oj=true)
  (hsi:∀cs b,oi.op≠ .select cs b) (hsj:∀cs b,oj.op≠ .select cs b)
  (hQ:∀c a w,¬Q (.panic c) a w)
  (hy:YieldsIf P ops S oi v a) (h:wpOpIn (fw none) 0 P ops Q j K (a.put oi.dst v) w):
  wpOpIn (fw none) 0 P ops Q j (fun a' w'=>YieldsIf P ops S oi v a'∧K (a'.put oi.dst v) w') a w:=by
 obtain⟨h1,h2,h3⟩:=Oper.apart_spec hap
 have keep:∀(a:Act),YieldsIf P ops S oi v a→∀u,YieldsIf P ops S oi v (a.put oj.dst u):=fun a hy u=>
  hy.of_same (execOp_put oi hsi a oj.dst u h3) (wanted_put oi a oj.dst u h3)
 have keepD:∀d,YieldsIf P ops S oi v { a with defers:=d::a.defers }:=fun d=>hy.of_same rfl rfl
 unfold wpOpIn at*
 simp only[hj]at*
 rw[wanted_put oj a oi.dst v h1]at h
 split
 ·rename_i hw
  simp only[hw,if_true]at h
  unfold Oper.wpIn at*
  refine⟨fun _ _=>trivial,?_⟩
  have h:=h.2
  rw[show(fw none).round=none from rfl,Oper.semAt_none,execOp_put oj hsj a oi.dst v h1]at h
  rw[show(fw none).round=none from rfl,Oper.semAt_none]
  generalize (execOp a.eval oj).run P w=r at*
  cases r with
  |ok x w'=>
   cases x<;>simp only[Oper.uponIn]at h⊢
   case value u=>exact⟨keep a hy u,by rw[←Act.put_comm a v u h2];exact h⟩
   case skip=>exact⟨keep a hy _,by rw[←Act.put_comm a v undef h2];exact h⟩
   case defer d=>
    refine⟨keep _ (keepD d) _,?_⟩
    rw[←Act.put_comm _ v undef h2,←Act.put_defers]
    exact h
   case enter f args=>
    refine⟨h.1,CallsIn.mono h.2 fun e w'' he=>?_⟩
    cases e with
    |returned u=>exact⟨keep a hy u,by rw[←Act.put_comm a v u h2];exact he⟩
    |panicked c=>exact absurd he (hQ _ _ _)
    |outgrown=>exact he
   case row row args=>exact⟨h.1,RowsIn.mono h.2 fun u w'' he=>⟨keep a hy u,by rw[←Act.put_comm a v u h2];exact he⟩⟩
   case round l f tmps assign body=>
    refine⟨h.1,RoundIn.mono h.2 fun e w'' he=>?_⟩
    cases e with
    |returned u=>exact⟨keep a hy u,by rw[←Act.put_comm a v u h2];exact he⟩
    |panicked c=>exact absurd he (hQ _ _ _)
    |outgrown=>exact he
  |halt x w'=>
   cases x<;>simp only[Oper.uponIn]at h⊢
   case panic u=>exact absurd h (hQ _ _ _)
 ·rename_i hw
  simp only[hw]at h
  exact⟨fun _ _=>trivial,keep a hy _,by rw[←Act.put_comm a v undef h2];exact h.2⟩
def zyy(P:Program)(ops:Array Oper)(Q:Exit→Act→World→Prop)(S:World→Prop):Nat→Array Bool→Act→World→Prop
 |0,listed,a,w=>Region.ready .any ops listed=[]∧Q .normal a w
 |n+1,listed,a,w=>(Region.ready .any ops listed=[]→Q .normal a w)∧
  ∀i∈Region.ready .any ops listed,wpOpIn (fw none) 0 P ops Q i (fun a' w'=>S w'∧zyy P ops Q S n (listed.setIfInBounds i true) a' w') a w
theorem zod:∀(n:Nat) (listed:Array Bool) (a:Act) (w:World),zyy P ops Q S n listed a w→wpAnyIn (fw none) 0 P .any ops Q n listed a w
 |0,_,_,_,h=>h
 |n+1,_,_,_,h=>⟨h.1,fun i hi=>wpOpIn_mono (fun a' w' h'=>zod n _ a' w' h'.2) (h.2 i hi)⟩
theorem zyz(hi:ops[i]? =some oi)(hsel:∀(j:Nat) (o:Oper) cs b,ops[j]? =some o→o.op≠ .select cs b)
  (hQ:∀c a w,¬Q (.panic c) a w):
  ∀(fuel:Nat) (listed:Array Bool) (a:Act) (w:World),
   (∀j oj,ops[j]? =some oj→j≠i→listed.getD j true=false→(∀e∈oj.after,Region.binds .any e=true→e.on≠i)→oi.apart ops oj=true)→
   i∈Region.ready .any ops listed→YieldsIf P ops S oi v a→S w→
   zyy P ops Q S fuel (listed.setIfInBounds i true) (a.put oi.dst v) w→zyy P ops Q S (fuel+1) listed a w:=by
 intro fuel
 induction fuel with
 |zero=>
  intro listed a w _ hr hy hS H
  refine⟨fun h=>(by rw[h]at hr;cases hr),fun j hj=>?_⟩
  by_cases hji:j=i
  ·subst hji;exact zrj hi hy hS ⟨hS,H⟩
  ·have:=ready_mono hj hji
   rw[H.1]at this
   cases this
 |succ fuel ih=>
  intro listed a w hfree hr hy hS H
  refine⟨fun h=>(by rw[h]at hr;cases hr),fun j hj=>?_⟩
  by_cases hji:j=i
  ·subst hji;exact zrj hi hy hS ⟨hS,H⟩
  ·have h1:=H.2 j (ready_mono hj hji)
   obtain⟨hjun,oj,hoj,hall⟩:=mem_ready.1 hj
   have hnot:∀e∈oj.after,Region.binds .any e=true→e.on≠i:=fun e he hb heq=>by
    have h2:=hall e he hb
    rw[heq,getD_both (mem_ready.1 hr).1]at h2
    cases h2
   have h2:=zy1 hoj (hfree j oj hoj hji hjun hnot) (fun cs b=>hsel i oi cs b hi) (fun cs b=>hsel j oj cs b hoj) hQ hy h1
   have hfree':∀k ok,ops[k]? =some ok→k≠i→(listed.setIfInBounds j true).getD k true=false→
     (∀e∈ok.after,Region.binds .any e=true→e.on≠i)→oi.apart ops ok=true:=fun k ok hk hki hun hno=>by
    refine hfree k ok hk hki ?_ hno
    by_cases hjk:j=k
    ·subst hjk;exact hjun
    ·rw[getD_set_ne true hjk]at hun;exact hun
   refine wpOpIn_mono (fun a' w' h3=>⟨h3.2.1,ih (listed.setIfInBounds j true) a' w' hfree' (ready_mono hr (Ne.symm hji)) h3.1 h3.2.1 ?_⟩) h2
   rw[dX _ _ hji]
   exact h3.2.2
def HY(P:Program)(ops:Array Oper)(Q:Exit→Act→World→Prop)(S:World→Prop)(N:Fm)(n:Nat)(listed:Array Bool)(l:zav)(H:World→Prop):Prop:=
 ∀a w,St N l a→H w→zyy P ops (zom Q) S n listed a w
variable{ds:List Deferred}
theorem qik{id n:Nat}{r:List Oper}{m':List Item}(is:List Nat)(hd:zrq is=true)(hp:zl9 m is=some m')(hm:zjo P r=true)
  (h:HY P r.toArray Q (Hp w0 F m') ⟨n,ds,none⟩ r.length (Array.replicate r.length false) l (Hp w0 F m)):HT P (.region id r.toArray true) Q ⟨n,ds,none⟩ l (Hp w0 F m):=by
 unfold HT HY at*
 intro a w s hw
 simp only[zjo,bJ]at hm
 refine wpIn_mono (wpIn_region_any (Q:=zom Q) hm.1 (zod (S:=Hp w0 F m') _ _ _ _ ?_)) (fun _ _ _ h=>zpe h)
 have:=h a w.drew s hw.drew
 simpa using this
def qrn(ops:Array Oper)(listed:Array Bool)(i:Nat):Bool:=Region.noSelect ops&&(Region.free .any ops listed i&&(Region.ready .any ops listed).contains i)
variable{N:Fm}{listed:Array Bool}{ty:TypeId}{pos:String}{after:Array Edge}{H:World→Prop}
theorem zje{n d:Nat}{op:Op}
  (hi:nth ops.toList i=some ⟨some d,op,ty,pos,after,none⟩) (hb:qrn ops listed i=true) (hS:∀w,H w→S w) (hok:zee N l op d=true) (hv:OV P op ty l S v)
  (k:HY P ops Q S N n (listed.setIfInBounds i true) ((d,v)::l) H):HY P ops Q S N (n+1) listed l H:=by
 obtain⟨hs,hN,hk⟩:=ze0 hok
 simp only[qrn,bJ]at hb
 obtain⟨h3,h4,h5⟩:=hb
 unfold HY at*
 unfold OV at hv
 intro a w s hw
 exact zyz (zei hi) (Region.noSelect_spec h3) (fun c a w h=>h.elim) n listed a w (Region.free_spec (zei hi) h4) (by simpa using h5) (.inl ⟨rfl,fun w hw=>by rw[s.exec _ hs hk];exact hv _ _ _ w hw⟩) (hS w hw) (k _ w (s.put hN v) hw)
theorem qsb(hr:Region.ready .any ops listed=[])(k:HX Q .normal N l H):HY P ops Q S N 0 listed l H:=by
 unfold HY HX at*
 exact fun a w s hw=>⟨hr,k a w s hw⟩
theorem qjb{n d nn ly:Nat}{x:Operand}{xs:List Operand}{vs:List Value}{tys:Array TypeId}{σ:Type}{Y:σ→Item}{s:σ}{R:Bool→σ→Prop}
  (hr:Region.ready .any ops listed=[i]) (hi:nth ops.toList i=some ⟨some d,.call ⟨.value x,xs.toArray,tys⟩,ty,pos,after,none⟩) (hok:zee ⟨nn,ds,none⟩ l (.call ⟨.value x,xs.toArray,tys⟩) d=true) (hf:evO l x=some (.func (.yield ly) #[] #[])) (hx:evs l xs=some vs) (hst:(Y s).Stable none') (hy:Yd P ly Y s vs.toArray R)
  (hS:∀s' w,Hp w0 F (Y s'::m) w→S w)
  (k:∀b s',R b s'→HY P ops Q S ⟨nn,ds,none⟩ n (listed.setIfInBounds i true) ((d,.bool b)::l) (Hp w0 F (Y s'::m))):HY P ops Q S ⟨nn,ds,none⟩ (n+1) listed l (Hp w0 F (Y s::m)):=by
 unfold HY at*
 obtain⟨hs,hN,hk⟩:=ze0 hok
 intro a w st hw
 refine⟨fun h=>(by rw[h]at hr;cases hr),fun j hj=>?_⟩
 obtain rfl:j=i:=by rw[hr]at hj;simpa using hj
 unfold wpOpIn
 simp only[zei hi]
 rw[if_pos (by simp[Region.wanted])]
 refine⟨fun _ _=>trivial,?_⟩
 have hin:=hw.item (Y s) sQ
 obtain⟨fn,tmps,asg,body,hrr,hround⟩:=hy w ⟨hin.1,hst,fun k hk=>(hin.2.2 k hk).1⟩
 rw[Oper.semAt_eq _ _ _ (zm4 (zl6 hok)),st.exec _ hs hk,zqs hf hx hrr,Oper.uponIn_round]
 have h1:RoundIn (fw none) 0 P ly fn tmps asg body w _:=hround
 refine⟨zla _,h1.mono fun e w' ⟨b,s',he,hR,hi⟩=>?_⟩
 subst he
 have hw':Hp w0 F ([Y s']++m) w':=Hp.call (m:=[Y s]) hw hi (fun k _ hk=>⟨Y s,by simp,hk⟩)
 exact⟨hS s' w' hw',k b s' hR _ _ (st.put hN _) hw'⟩
end
end Go.Eng
namespace Go.Proofs.YthafakdplhdfjaaGreatDoor
open Go.Eng
variable{s:Sht}
theorem qrl(hq:s.seq<18446744073709551616)(ht:s.text.length≤497):∃r,qmp (zmh s)=(s,(r,false)):=by
 unfold zmh
 generalize beN 4 (qlc (zwd (qje s))).toNat=c
 obtain⟨seq,last,text⟩:=s
 unfold qje
 simp only at hq ht⊢
 simp only[aG]
 refine⟨List.replicate (497 - text.length) 0++c,?_⟩
 unfold qmp
 rw[zgc (show seq<256^8 from hq)]
 simp only
 rw[zgc (show(if last then 2 else 1)<256^1 by cases last<;>decide)]
 simp only
 rw[zgc (show text.length<256^2 by omega)]
 simp only
 rw[zqb]
 simp only
 cases last<;>simp
theorem qmq(hq:s.seq<18446744073709551616)(ht:s.text.length≤497):zjc (zmh s)=true∧zgl (zmh s)=s:=by
 obtain⟨r,hr⟩:=qrl hq ht
 have h1:zjc (zmh s)=true:=by
  unfold zjc
  rw[hr]
  simp[ht]
 refine⟨h1,?_⟩
 unfold zgl
 rw[h1,hr]
 rfl
theorem qhg(a b:Bys)(h:a.length<256):zgd (beN 1 a.length++(a++b),false)=(a,(b,false)):=by
 obtain⟨x,hx⟩:∃x:UInt8,beN 1 a.length=[x]:=List.length_eq_one_iff.1 (zal 1 _)
 have hv:beV (beN 1 a.length)=a.length:=zzf 1 _ (by simpa using h)
 rw[hx]at hv⊢
 have hxv:x.toNat=a.length:=by simpa[beV]using hv
 unfold zgd
 simp[hxv]
variable{h:Hd}
theorem qsu(ok:h.Ok):∃r,hdR (hdP h)=(h,(r,false)):=by
 obtain⟨hg,hf,hs,hn⟩:=ok
 unfold hdP
 generalize beN 4 (zwd (hdH h)).toNat=c
 obtain⟨gen,first,secs,note⟩:=h
 unfold hdH
 simp only at hg hf hs hn⊢
 simp only[aG]
 refine⟨List.replicate (489 - note.length) 0++c,?_⟩
 unfold hdR
 rw[zgc (show gen<256^8 from hg)]
 simp only
 rw[zgc (show first<256^8 from hf)]
 simp only
 rw[zgc (show secs<256^2 from hs)]
 simp only
 rw[qhg note _ oQ]
theorem qqw(ok:h.Ok):zrt (hdP h)=true∧hdT (hdP h)=h:=by
 obtain⟨r,hr⟩:=qsu ok
 have h1:hdF (hdP h)=true:=by
  unfold hdF
  rw[hr]
  simp[ok.note]
 refine⟨?_,?_⟩
 ·unfold zrt
  rw[h1,hr]
  simp
 ·unfold hdT
  rw[h1,hr]
  rfl
def pcS(q:Nat)(t:Bys)(j:Nat):Sht:=⟨q+j,decide (j+1=zao t.length),(t.drop (497*j)).take 497⟩
theorem zna(q:Nat)(t:Bys)(j:Nat):(pcS q t j).text.length≤497:=by
 show((t.drop (497*j)).take 497).length≤497
 rw[aM];omega
theorem zh5(n:Nat):1≤zao n:=by unfold zao;omega
theorem qkv{n j:Nat}(h:j+1<zao n):497*(j+1)<n:=by unfold zao at h;omega
theorem zsv{n j:Nat}(h:j+1=zao n):n≤497*(j+1):=by unfold zao at h;omega
variable{q:Nat}{t:Bys}
theorem qrf{j:Nat}(ht:t≠[])(hj:j<zao t.length):(pcS q t j).text≠[]:=by
 have hl:0<t.length:=iN.2 ht
 intro h
 have h1:((t.drop (497*j)).take 497).length=0:=by rw[show(t.drop (497*j)).take 497=[]from h];rfl
 rw[aM,aZ]at h1
 unfold zao at hj
 omega
theorem znp(t:Bys)(j:Nat):t.take (497*j)++(t.drop (497*j)).take 497=t.take (497*(j+1)):=by
 rw[fU,bN,List.take_add]
theorem zp6(h:q+1<18446744073709551616):nxt q=q+1:=bC h
theorem zyv{B:zfn}{q:Nat}{t:Bys}(hq:q+zao t.length<18446744073709551616)(h:∀j,j<zao t.length→B.lookup (q+j)=some (pcS q t j))(f:Nat)(acc:List Bys):
  ∀d j,j+d+1=zao t.length→zda B (f+(d+1)) (q+j) (t.take (497*j)) acc=zda B f (q+zao t.length) [] (acc++[t])
 |0,j,hd=>by
  rw[aJ,zda,h j oQ]
  simp only
  have e:(pcS q t j).last=true:=decide_eq_true oQ
  have e2:nxt (q+j)=q+zao t.length:=by rw[zp6 oQ];omega
  have e3:t.take (497*j)++(pcS q t j).text=t:=by
   show t.take (497*j)++(t.drop (497*j)).take 497=t
   rw[znp]
   exact bI (zsv oQ)
  rw[e,if_pos rfl,e2,e3]
 |d+1,j,hd=>by
  rw[show f+(d+1+1)=(f+(d+1))+1 by omega,zda,h j oQ]
  simp only
  have e:(pcS q t j).last=false:=decide_eq_false oQ
  have e2:nxt (q+j)=q+(j+1):=by rw[zp6 oQ];omega
  have e3:t.take (497*j)++(pcS q t j).text=t.take (497*(j+1)):=znp t j
  rw[e,e2,e3]
  exact zyv hq h f acc d (j+1) oQ
variable{B:zfn}
theorem qio(hq:q+zao t.length<18446744073709551616)(h:∀j,j<zao t.length→B.lookup (q+j)=some (pcS q t j))(f:Nat)(acc:List Bys):
  zda B (f+zao t.length) q [] acc=zda B f (q+zao t.length) [] (acc++[t]):=by
 have hp:=zh5 t.length
 have:=zyv hq h f acc (zao t.length - 1) 0 oQ
 rw[show zao t.length - 1+1=zao t.length by omega]at this
 simpa using this
theorem ztp{B:zfn}{q k:Nat}{t:Bys}(hq:q+zao t.length<18446744073709551616)(hk:k<zao t.length)(h:∀j,j<k→B.lookup (q+j)=some (pcS q t j))(hn:B.lookup (q+k)=none)(acc:List Bys):
  ∀f j,j≤k→zda B f (q+j) (t.take (497*j)) acc=acc
 |0,_,_=>rfl
 |f+1,j,hj=>by
  rw[zda]
  rcases Nat.lt_or_eq_of_le hj with hj|rfl
  ·rw[h j hj]
   simp only
   have e:(pcS q t j).last=false:=decide_eq_false oQ
   have e2:nxt (q+j)=q+(j+1):=by rw[zp6 oQ];omega
   have e3:t.take (497*j)++(pcS q t j).text=t.take (497*(j+1)):=znp t j
   rw[e,e2,e3]
   exact ztp hq hk h hn acc f (j+1) hj
  ·rw[hn]
def zlq:Nat→List Bys→Nat
 |q,[]=>q
 |q,t::ts=>zlq (q+zao t.length) ts
theorem zpk:∀(ts:List Bys) (q:Nat),q≤zlq q ts
 | [],_=>aY _
 |t::ts,q=>bZ (fM _ _) (zpk ts _)
theorem zud:∀(ts:List Bys) (q:Nat) (t:Bys),zlq q (ts++[t])=zlq q ts+zao t.length
 | [],_,_=>rfl
 |_::ts,q,t=>zud ts _ t
theorem qbj:∀(ts:List Bys) (q:Nat),q+ts.length≤zlq q ts
 | [],q=>aY _
 |t::ts,q=>by
  have h1:=qbj ts (q+zao t.length)
  have h2:=zh5 t.length
  rw[zlq,aR]
  omega
def zy3(B:zfn):Nat→List Bys→Prop
 |_,[]=>True
 |q,t::ts=>(∀j,j<zao t.length→B.lookup (q+j)=some (pcS q t j))∧zy3 B (q+zao t.length) ts
theorem zy3.all{B:zfn}:∀{ts:List Bys} {q:Nat},zy3 B q ts→∀k,q≤k→k<zlq q ts→∃s,B.lookup k=some s
 | [],_,_,k,h1,h2=>absurd h2 (by rw[zlq];omega)
 |t::ts,q,h,k,h1,h2=>by
  by_cases hk:k<q+zao t.length
  ·have:=h.1 (k - q) oQ
   rw[show q+(k - q)=k by omega]at this
   exact⟨_,this⟩
  ·exact zy3.all h.2 k oQ h2
theorem zy3.app{B:zfn}:∀{ts:List Bys} {q:Nat} {t:Bys},zy3 B q ts→(∀j,j<zao t.length→B.lookup (zlq q ts+j)=some (pcS (zlq q ts) t j))→zy3 B q (ts++[t])
 | [],_,_,_,h2=>⟨h2,trivial⟩
 |_::_,_,_,h,h2=>⟨h.1,zy3.app h.2 h2⟩
theorem zyu{B:zfn}(f:Nat):∀(ts:List Bys) (q:Nat) (acc:List Bys),zlq q ts<18446744073709551616→zy3 B q ts→zda B (f+(zlq q ts - q)) q [] acc=zda B f (zlq q ts) [] (acc++ts)
 | [],q,acc,_,_=>by simp[zlq]
 |t::ts,q,acc,hq,h=>by
  have h1:=zpk ts (q+zao t.length)
  rw[zlq]at hq
  have e:f+(zlq q (t::ts) - q)=(f+(zlq (q+zao t.length) ts - (q+zao t.length)))+zao t.length:=by rw[zlq];omega
  rw[e,qio oQ h.1,zyu f ts _ _ hq h.2,zlq]
  simp
theorem zyg:∀(m:Nat) (B:zfn) (q:Nat),(∀k,q≤k→k<q+m→∃s,B.lookup k=some s)→m≤B.length
 |0,_,_,_=>bA _
 |m+1,B,q,h=>by
  obtain⟨s,hs⟩:=h (q+m) oQ oQ
  have hm:=zim hs
  have h1:(B.filter fun p=>decide (p.1≠q+m)).length<B.length:=by
   refine List.length_filter_lt_length_iff_exists.2 ⟨_,hm,by simp⟩
  have h2:=zyg m (B.filter fun p=>decide (p.1≠q+m)) q fun k hk1 hk2=>by
   obtain⟨s',hs'⟩:=h k hk1 oQ
   refine⟨s',?_⟩
   have:∀(L:zfn),(L.filter fun p=>decide (p.1≠q+m)).lookup k=L.lookup k:=by
    intro L
    induction L with
    |nil=>rfl
    |cons p L ih=>
     by_cases hp:p.1=q+m
     ·rw[eT (by simp[hp]),ih,cJ,show(k==p.1)=false by simp;omega]
     ·rw[fK (by simp[hp]),cJ,cJ,ih]
   rw[this,hs']
  omega
theorem znq{ts:List Bys}(hq:zlq q ts<18446744073709551616)(h:zy3 B q ts)(hstop:∀f acc,zda B f (zlq q ts) [] acc=acc):zda B (B.length+1) q [] []=ts:=by
 have h1:=zpk ts q
 have h2:=zyg (zlq q ts - q) B q fun k hk1 hk2=>h.all k hk1 oQ
 obtain⟨f,hf⟩:∃f,B.length+1=f+(zlq q ts - q):=⟨B.length+1 - (zlq q ts - q),oQ⟩
 rw[hf,zyu f ts q [] hq h,hstop]
 rfl
theorem zyq(h:B.lookup q=none)(f:Nat)(acc:List Bys):zda B f q [] acc=acc:=by
 cases f with
 |zero=>rfl
 |succ f=>rw[zda,h]
theorem qii{k:Nat}(hq:q+zao t.length<18446744073709551616)(hk:k<zao t.length)(h:∀j,j<k→B.lookup (q+j)=some (pcS q t j))(hn:B.lookup (q+k)=none)(f:Nat)(acc:List Bys):zda B f q [] acc=acc:=by
 have:=ztp hq hk h hn acc f 0 (bA _)
 simpa using this
end Go.Proofs.YthafakdplhdfjaaGreatDoor
namespace Go.Eng
open Go.RowKit
variable{w0:World}{F:Nat→Prop}{m:List Item}
theorem zps{w:World}(e:TypeId)(sz:Nat)(h:Hp w0 F m w):Hp w0 F (own e sz none 0 []::m) w:=Hp.call0 (L:=[own e sz none 0 []]) h ⟨.refl _ _,fun it hm=>by
   obtain rfl:it=own e sz none 0 []:=by simpa using hm
   exact⟨⟨(lD sz).symm,rfl⟩,zac _ _ _ _ _ _,fun k ⟨c,h⟩=>by cases h⟩,.cons (fun _ h=>by cases h) .nil⟩
theorem qms{P:Program}{c:Code}{Q:Exit→Act→World→Prop}{N:Fm}{l:zav}(e:TypeId)(sz:Nat)(h:HT P c Q N l (Hp w0 F (own e sz none 0 []::m))):HT P c Q N l (Hp w0 F m):=by
 unfold HT at*
 exact fun a w s hw=>h a w s (zps e sz hw)
theorem ztj(o:Option (Nat×Nat))(n:Nat):(slV o n).cells= #[slV o n]:=by cases o<;>rfl
theorem qcr(o:Option (Nat×Nat))(n:Nat):(slV o n).oneCell'=true:=by cases o<;>rfl
end Go.Eng
namespace Go.Proofs.YthafakdplhdfjaaGreatDoor
open Go.RowKit Go.Eng
theorem qjy(s:Bys)(n:Nat):(⟨s.toArray⟩:ByteArray).extract 0 n=⟨(s.take n).toArray⟩:=qbf (by simp[ByteArray.data_extract,iK])
theorem qjx(s:Bys)(n m:Nat)(h:s.length≤m):(⟨s.toArray⟩:ByteArray).extract n m=⟨(s.drop n).toArray⟩:=qbf (by simp[ByteArray.data_extract,iK];rw[bI];rw[aZ];omega)
def qno(x:Nat×Nat)(q:Nat)(t:Bys):List Eng.Item:=[pt x.1 (.cells #[.string ⟨t.toArray⟩] 9 (0,0)),pt x.2 (.cells #[.int .u64 (q:Int)] 112 (0,0))]
theorem zk5(x:Nat×Nat)(q:Nat)(t:Bys):∀it∈qno x q t,it.Stable none':=by simp[qno,zab]
def qtf(x:Nat×Nat):Value:=.func (.func 238) #[] #[.pointer (some ⟨x.1,0,none⟩),.pointer (some ⟨x.2,0,none⟩)]
def zs7(q:Nat)(t:Bys):List Sht:=(List.range (zao t.length)).map (pcS q t)
variable{t:Bys}
theorem qhs{q:Nat}{j:Nat}(h:j<zao t.length):(zs7 q t)[j]? =some (pcS q t j):=by
 unfold zs7
 rw[aN,eQ h]
 rfl
theorem zfm(q:Nat)(t:Bys):(zs7 q t).length=zao t.length:=by simp[zs7]
theorem zx7{q:Nat}{j:Nat}(h:j<zao t.length):(zs7 q t).take j++[pcS q t j]=(zs7 q t).take (j+1):=by
 rw[cV,qhs h]
 rfl
theorem qjs(q:Nat)(t:Bys)(ht:t.length≤1000000000)(hq:q+zao t.length<18446744073709551616)(x:Nat×Nat):
  zwg Tryz.prog 238 [.pointer (some ⟨x.1,0,none⟩),.pointer (some ⟨x.2,0,none⟩)] (qno x q t) [] (fun k s=>k.length<zao t.length∧s=pcS q t k.length∧k=(zs7 q t).take k.length) (fun k=>k=zs7 q t) (fun s=>[.agg (zjf s)]):=by
 obtain⟨b1,b2⟩:=x
 simp only[qno]
 refine qbv [_,_] _ _ _ _ _ Tryz.func238 rfl rfl ?_
 intro σ ly Y I J s0 w hst h0 hy
 have hn0:=zh5 t.length
 simp only[zaa]
 refine goA ?_
 refine zc0 (α:=Nat×σ) (fun _=>[(0,.func (.yield ly) #[] #[]),(1,.pointer (some ⟨b1,0,none⟩)),(2,.pointer (some ⟨b2,0,none⟩))]) (fun y=>y.1<zao t.length∧I ((zs7 q t).take y.1) y.2) (fun y=>[Y y.2,pt b1 (.cells #[.string ⟨(t.drop (497*y.1)).toArray⟩] 9 (0,0)),pt b2 (.cells #[.int .u64 ((q+y.1:Nat):Int)] 112 (0,0))]) (fun y=>zao t.length - y.1) (0,s0) ⟨rfl,rfl,rfl,trivial⟩ ⟨hn0,h0⟩ (fun w h=>h) fun⟨i,st⟩ ⟨hi,hI⟩=>?_
 simp only at hi hI⊢
 have hsz:(⟨(t.drop (497*i)).toArray⟩:ByteArray).size=t.length - 497*i:=by rw[bal,aZ]
 have hxi:(pcS q t i).text=(t.drop (497*i)).take 497:=rfl
 by_cases hl:i+1<zao t.length
 ·have hlt:=qkv hl
  refine goA ?_
  refine qik [1,2] rfl rfl kQ ?_
  refine zje (i:=0) rfl kQ (fun w hw=>hw.pick [1,2] rfl rfl) rfl (zi4 rfl) ?_
  refine zje (i:=1) rfl kQ (fun w hw=>hw.pick [1,2] rfl rfl) rfl (zc5 rfl rfl (.tail _ (.head _)) rfl) ?_
  refine zje (i:=2) rfl kQ (fun w hw=>hw.pick [1,2] rfl rfl) rfl (zc5 rfl rfl (.head _) rfl) ?_
  refine zje (i:=3) rfl kQ (fun w hw=>hw.pick [1,2] rfl rfl) rfl (qiy rfl rfl rfl oQ) ?_
  refine zje (i:=4) rfl kQ (fun w hw=>hw.pick [1,2] rfl rfl) rfl (zwf (zo5 rfl rfl rfl rfl rfl) (v':=.agg (zjf (pcS q t i))) (by
   rw[qjy]
   unfold zjf
   rw[show(pcS q t i).last=false from decide_eq_false oQ]
   rfl)) ?_
  refine qjb (i:=5) kQ rfl rfl rfl rfl (hst st) (hy ((zs7 q t).take i) (pcS q t i) st ⟨by rw[aM,zfm];omega,by rw[aM,zfm,dB oQ],by rw[aM,zfm,dB oQ]⟩ hI) (fun s' w hw=>hw.pick [1,2] rfl rfl) fun b s' hR=>?_
  refine zje (i:=6) rfl kQ (fun w hw=>hw.pick [1,2] rfl rfl) rfl (ov fun _ _ _ _ _=>rfl) ?_
  refine qsb kQ ?_
  rcases hR with ⟨rfl,h8⟩ |⟨rfl,h8⟩
  ·refine goA ?_
   refine za1 rfl (zah (zdf _ _ _ _) (zai rfl rfl rfl rfl rfl rfl sQ)) fun _=>?_
   refine goA ?_
   refine zd2 8 _ (.string ⟨(t.drop (497*(i+1))).toArray⟩) rfl (by
    rw[qjx _ _ _ (by rw[bal];exact aY _),lJ,fU,bN]) ?_
   refine za1 rfl (zah (zdf _ _ _ _) (zai rfl rfl rfl rfl rfl rfl sQ)) fun _=>?_
   refine goA ?_
   exact zaw (i+1,s') ⟨rfl,rfl,rfl,trivial⟩ ⟨hl,by rw[←zx7 hi];exact h8⟩ (fun w hw=>hw.pick [2,0,1] rfl rfl) (by show zao t.length - (i+1)<zao t.length - i;omega)
  ·refine goA ?_
   exact qi8 s' rfl (.inr h8) (by simpa using hst s') (.cons_cons _ (aL _))
 ·have hlt:=zsv (n:=t.length) (j:=i) oQ
  refine goA ?_
  refine zd2 21 _ (.agg (zjf (pcS q t i))) rfl (by
   unfold zjf
   rw[show(pcS q t i).last=true from decide_eq_true oQ,hxi,bI (by rw[aZ];omega)]
   rfl) ?_
  refine zz8 rfl rfl rfl rfl (hst st) (hy ((zs7 q t).take i) (pcS q t i) st ⟨by rw[aM,zfm];omega,by rw[aM,zfm,dB oQ],by rw[aM,zfm,dB oQ]⟩ hI) fun b s' hR=>?_
  refine goA ?_
  refine qc5 s' rfl ?_ (by simpa using hst s') (.cons_cons _ (aL _))
  rcases hR with ⟨-,h8⟩ |⟨-,h8⟩
  ·refine .inl ⟨_,?_,h8⟩
   rw[zx7 hi]
   exact bI (by rw[zfm];omega)
  ·exact .inr h8
theorem qfs(q:Nat)(t:Bys)(w:World):Ct Tryz.prog 216 #[.int .u64 q,.string ⟨t.toArray⟩] w none' qtf (fun _=>True) (fun x=>qno x q t):=by
 refine zes [_,_] Tryz.func216 rfl rfl ?_
 simp only[zaa,Nat.reduceAdd]
 refine goA ?_
 refine zc9 rfl rfl rfl fun b2 _=>?_
 refine zc9 rfl rfl rfl fun b1 _=>?_
 refine goA ?_
 refine l_w rfl (zhw rfl) ?_
 refine goA ?_
 exact zbd (b1,b2) rfl rfl rfl trivial (.refl _) (zk5 _ q t)
abbrev zv0(L:List Sht):List Value:=zc6 (fun s=>(zjf s).toList) L
def asB(b:Nat)(y:Option (Nat×Nat)×List Sht):List Eng.Item:=[own 265 3 y.1 y.2.length (zv0 y.2),pt b (.cells #[slV y.1 y.2.length] 262 (0,0))]
theorem zsa(b:Nat)(y:Option (Nat×Nat)×List Sht):∀it∈asB b y,it.Stable none':=by simp[asB,zab,zac]
variable{f:FuncId}{cs:List Value}{E:List Sht→Sht→Prop}{S:List Sht→Prop}
theorem zr3{mi mo:List Eng.Item}(hb:za7 Tryz.prog f=true)(hit:zwg Tryz.prog f cs mi mo E S (fun s=>[.agg (zjf s)]))(hmi:∀it∈mi,it.Stable none')(hmo:∀it∈mo,it.Stable none')(hE:∀k x,E k x→k.length<1000000000):
  Cw Tryz.prog 237 #[.slice none 0 0,.func (.func f) #[] cs.toArray] mi (fun x:Option (Nat×Nat)×List Sht=>slV x.1 x.2.length) (fun x=>S x.2) (fun x=>own 265 3 x.1 x.2.length (zv0 x.2)::mo):=by
 intro w hw ha
 refine qfr [_,_] mi Tryz.func237 rfl rfl hw ha ?_
 simp only[zaa,Nat.reduceAdd]
 refine goA ?_
 refine zc9 rfl rfl rfl fun b2 _=>?_
 refine goA ?_
 refine qms 265 3 ?_
 refine ztn (m':=asB b2 (none,[])++(mi++[])) (by rw[bB];exact .refl _) ?_
 refine qcv (m2:=[]) (asB b2) (fun k y=>y.2=k) (fun _ _=>False) (none,[]) rfl rfl hb hit (fun _=>rfl) dQ (zsa _) hmi rfl ?_ ?_ ?_
 ·rintro ly rc k x ⟨o,out⟩ W hx hk
  simp only at hk
  subst hk
  have hlen:=hE _ _ hx
  simp only[asB,zn8,iC,iU]
  refine goA ?_
  refine zam rfl rfl fun b5 hb5=>?_
  refine za1 rfl (zaf (cs':=zjf x) rfl rfl rfl rfl rfl rfl) fun _=>?_
  refine zay [1,2,3,0] rfl rfl ?_
  refine goA ?_
  refine qly ?_
  refine goA ?_
  refine za1 rfl (za3 (L:=[(0,3,.agg (zjf x))]) rfl rfl rfl rfl rfl (qre rfl dQ)) fun⟨bq,hbq⟩=>?_
  refine goA ?_
  refine za1 rfl (zah (zdf _ _ _ _) (zdh (news:=(zjf x).toList) rfl rfl rfl rfl rfl rfl rfl rfl oQ (fun w' hw' j v hj=>by rw[zde,aJ];exact zby (hw'.item _ (.tail _ (.head _))).1 j v hj))) fun o'=>?_
  refine goA ?_
  refine zay [3,0,2] rfl rfl ?_
  refine za1 rfl (zai rfl rfl rfl rfl (ztj _ _) (qcr _ _) (show(0:Nat)<1 from dQ)) fun _=>?_
  refine zay [2,1,0] rfl rfl ?_
  refine goA ?_
  have e1:(out++[x]).length=out.length+1:=by simp
  have e2:zv0 (out++[x])=zv0 out++(zjf x).toList:=by simp[zc6]
  refine ztw .normal none rfl (o',out++[x]) rfl ?_ (zsa b2 _)
  simp only[asB,e1,e2]
  exact .refl _
 ·rintro D k ⟨o,out⟩ hS hk
  simp only at hk
  subst hk
  simp only[asB,bB]
  refine goA ?_
  refine qi9 ?_
  exact zbd (o,out) rfl rfl rfl hS (.cons_cons _ (.cons _ (.refl _))) (by
   intro it hm
   rcases hm with _|⟨_,hm⟩
   ·exact zac _ _ _ _ _ _
   ·exact hmo it hm)
 ·rintro D c s h
  exact h.elim
theorem zqw{mi mo:List Eng.Item}(hb:za7 Tryz.prog f=true)(hit:zwg Tryz.prog f cs mi mo E S (fun s=>[.agg (zjf s)]))(hmi:∀it∈mi,it.Stable none')(hmo:∀it∈mo,it.Stable none')(hE:∀k x,E k x→k.length<1000000000):
  Cw Tryz.prog 215 #[.func (.func f) #[] cs.toArray] mi (fun x:Option (Nat×Nat)×List Sht=>slV x.1 x.2.length) (fun x=>S x.2) (fun x=>own 265 3 x.1 x.2.length (zv0 x.2)::mo):=by
 intro w hw ha
 refine za2 [_] mi Tryz.func215 rfl rfl hw ha ?_
 simp only[zaa]
 refine goA ?_
 refine zgb (m':=mi++[]) (by rw[bB]) ?_
 refine zeh rfl (zfb (pre:=mi) (m:=[]) rfl kQ rfl hmi (fun w1 hw1 hh1 ha1=>zr3 hb hit hmi hmo hE w1 hh1 ha1)) fun⟨⟨o,out⟩,hS⟩=>?_
 dsimp only at hS⊢
 refine zgb (m':=own 265 3 o out.length (zv0 out)::mo) (by rw[bB]) ?_
 refine goA ?_
 exact zbd (o,out) rfl rfl rfl hS (.refl _) (by
   intro it hm
   rcases hm with _|⟨_,hm⟩
   ·exact zac _ _ _ _ _ _
   ·exact hmo it hm)
theorem qe6(q:Nat)(t:Bys)(ht:t.length≤1000000000)(hq:q+zao t.length<18446744073709551616)(w:World):
  Ct Tryz.prog 184 #[.int .u64 q,.string ⟨t.toArray⟩] w none' (fun o:Nat×Nat=>.slice (some ⟨o.1,0,none⟩) (zao t.length) o.2) (fun _=>True) (fun o=>[own 265 3 (some o) (zao t.length) (zv0 (zs7 q t))]):=by
 refine zes [_,_] Tryz.func184 rfl rfl ?_
 simp only[zaa,Nat.reduceAdd]
 refine goA ?_
 refine zdy rfl rfl kQ rfl (fun w1 hw1=>qfs q t w1) fun x hx=>?_
 refine goA ?_
 unfold qtf
 have hn1:zao t.length≤1000000000:=by unfold zao;omega
 refine zgb (m':=qno x q t++[]) (by rw[bB]) ?_
 refine zeh rfl (zfb (pre:=qno x q t) (m:=[]) rfl kQ rfl (zk5 x q t) (fun w1 hw1 hh1 ha1=>zqw (f:=238) (cs:=[.pointer (some ⟨x.1,0,none⟩),.pointer (some ⟨x.2,0,none⟩)]) kQ (qjs q t ht hq x) (zk5 x q t) sQ (fun k y h=>by have:=h.1;omega) w1 hh1 ha1)) fun⟨⟨o,out⟩,hS⟩=>?_
 dsimp only at hS⊢
 subst hS
 rw[zfm]
 have hn0:=zh5 t.length
 rcases o with _|o
 ·refine zch (fun w hw=>(hw.item _ (.head _)).1.2) fun h0=>?_
  exact absurd h0 oQ
 refine goA ?_
 exact zbd o rfl rfl rfl trivial (.refl _) (by simp[zac])
end Go.Proofs.YthafakdplhdfjaaGreatDoor
namespace Go.Proofs.YthafakdplhdfjaaGreatDoor
open Go.Eng
theorem qo1{α:Type}{M:List α→Prop}(h0:M [])(hs:∀l x,M l→M (l++[x]))(l:List α):M l:=by
 rw[←List.reverse_reverse l]
 generalize l.reverse=r
 induction r with
 |nil=>exact h0
 |cons x r ih=>rw[List.reverse_cons];exact hs _ _ ih
def zbb(D:Dsk):List (Nat×Bys)→Nat×Dsk
 | []=>(0,D)
 |p::l=>if (zbz D p.1 p.2).1=0 then zbb (zbz D p.1 p.2).2 l else zbz D p.1 p.2
def zcm(D:Dsk)(ws:List (Nat×Bys)):Nat×Dsk:=if (zbb D ws).1=0 then zbi (zbb D ws).2 else zbb D ws
theorem zha(D:Dsk)(a:Nat)(h:Hd):zbc D a h=zcm D [(a,hdP h)]:=by
 unfold zbc zcm zbb zbb
 split
 ·rw[if_pos rfl]
 ·rfl
def zeg(on:List Bys):List (Nat×Bys)→List Bys
 | []=>on
 |p::l=>zeg (on.set p.1 p.2) l
theorem zgy:∀(ws:List (Nat×Bys)) (on:List Bys),(zeg on ws).length=on.length
 | [],_=>rfl
 |p::l,on=>by rw[zeg,zgy l,bE]
theorem znj:∀(ws:List (Nat×Bys)) (on:List Bys) (p:Nat×Bys),zeg on (ws++[p])=(zeg on ws).set p.1 p.2
 | [],_,_=>rfl
 |_::l,on,p=>znj l _ p
def Mix(on:List Bys)(ws:List (Nat×Bys))(on':List Bys):Prop:=on'.length=on.length∧∀i,i<on.length→on'[i]? =on[i]? ∨∃s,(i,s)∈ws∧on'[i]? =some s
theorem Mix.refl(on:List Bys)(ws:List (Nat×Bys)):Mix on ws on:=⟨rfl,fun _ _=>.inl rfl⟩
variable{ws:List (Nat×Bys)}
theorem Mix.more{on on':List Bys}{ws':List (Nat×Bys)}(h:Mix on ws on')(hs:∀p∈ws,p∈ws'):Mix on ws' on':=⟨h.1,fun i hi=>(h.2 i hi).imp id fun⟨s,h1,h2⟩=>⟨s,hs _ h1,h2⟩⟩
theorem Mix.set{on on':List Bys}{ws:List (Nat×Bys)}(h:Mix on ws on'){p:Nat×Bys}(hp:p∈ws):Mix on ws (on'.set p.1 p.2):=by
 refine⟨by rw[bE,h.1],fun i hi=>?_⟩
 by_cases e:p.1=i
 ·refine .inr ⟨p.2,by rw[←e];exact hp,?_⟩
  rw[←e,dS (by rw[h.1,e];exact hi)]
 ·rw[fL e]
  exact h.2 i hi
theorem Mix.all(on:List Bys):∀ws:List (Nat×Bys),Mix on ws (zeg on ws):=fun ws=>by
 induction ws using qo1 with
 |h0=>exact .refl _ _
 |hs l p ih=>
  rw[znj]
  exact(ih.more fun q hq=>aP _ hq).set (aU _ (.head _))
def swp(ws:List (Nat×Bys)):List (Bys×Nat):=ws.map fun p=>(p.2,p.1)
theorem ztz(on:List Bys)(ws:List (Nat×Bys))(f:Nat→Bool):∀k,k≤ws.length→Mix on ws (zjh on (swp ws) f k)
 |0,_=>.refl _ _
 |k+1,hk=>by
  have ih:=ztz on ws f k oQ
  rw[zjh]
  split
  ·have e:(swp ws).getD k ([],0)=((ws[k]'hk).2,(ws[k]'hk).1):=by simp[swp,List.getD,aB hk]
   rw[e]
   exact ih.set (aV hk)
  ·exact ih
theorem zty(on:List Bys)(ws:List (Nat×Bys)):∀k,k≤ws.length→zjh on (swp ws) (fun _=>true) k=zeg on (ws.take k)
 |0,_=>rfl
 |k+1,hk=>by
  rw[zjh,if_pos rfl,zty on ws k oQ,dA hk,znj]
  simp[swp,List.getD,aB hk]
structure Dsk.Rest (D:Dsk):Prop where
 live:D.dead=false
 wait:D.wait=[]
def qjg(D:Dsk)(ws:List (Nat×Bys)):Prop:=∀p∈ws,p.1<D.on.length∧p.2.length=512
theorem zrg{D:Dsk}{pre:List (Nat×Bys)}:∀{ws:List (Nat×Bys)} {D1:Dsk},qjg D ws→D1.dead=false→D1.on=D.on→D1.wait=swp pre→D1.keep=D.keep→(D.left=none→D1.left=none)→
  ((zbb D1 ws).1=0∧(zbb D1 ws).2.dead=false∧(zbb D1 ws).2.on=D.on∧(zbb D1 ws).2.wait=swp (pre++ws)∧(zbb D1 ws).2.keep=D.keep∧(D.left=none→(zbb D1 ws).2.left=none))∨
  (D.left≠none∧(zbb D1 ws).1=4∧(zbb D1 ws).2.dead=true∧(zbb D1 ws).2.wait=[]∧(zbb D1 ws).2.left=none∧(zbb D1 ws).2.keep=[]∧Mix D.on (pre++ws) (zbb D1 ws).2.on)
 | [],D1,_,h1,h2,h3,h4,h5=>.inl ⟨rfl,h1,h2,by rw[bB];exact h3,h4,h5⟩
 |p::l,D1,hw,h1,h2,h3,h4,h5=>by
  obtain⟨hp1,hp2⟩:=hw p (.head _)
  have ihl:qjg D l:=fun q hq=>hw q (.tail _ hq)
  have hwf:zbz D1 p.1 p.2=if (zhb D1).1=0 then(0,{ (zhb D1).2 with wait:=(zhb D1).2.wait++[(p.2,p.1)] })else zhb D1:=by
   unfold zbz
   rw[h1,if_neg dQ,if_neg (by rw[h2];exact fun h=>h hp1),if_neg (by rw[hp2];decide)]
  rw[zbb,hwf]
  unfold zhb
  cases hl:D1.left with
  |none=>
   simp only[if_true]
   have:=zrg (D:=D) (pre:=pre++[p]) (ws:=l) (D1:={ D1 with wait:=D1.wait++[(p.2,p.1)] }) ihl h1 h2 (by simp[h3,swp]) h4 h5
   rw[aG]at this
   exact this
  |some n=>
   cases n with
   |zero=>
    right
    have hD:D.left≠none:=fun h=>by rw[h5 h]at hl;cases hl
    refine⟨hD,?_⟩
    refine⟨rfl,rfl,rfl,rfl,rfl,?_⟩
    have:=ztz D.on pre (zi7 D1.keep) pre.length (aY _)
    show Mix D.on _ (zuq D1 D1.keep).on
    unfold zuq
    rw[h2,h3]
    show Mix D.on _ (zjh D.on (swp pre) (zi7 D1.keep) (swp pre).length)
    rw[show(swp pre).length=pre.length by simp[swp]]
    exact this.more fun q hq=>aP _ hq
   |succ n=>
    simp only[if_true]
    have:=zrg (D:=D) (pre:=pre++[p]) (ws:=l) (D1:={ D1 with left:=some n,wait:=D1.wait++[(p.2,p.1)] }) ihl h1 h2 (by simp[h3,swp]) h4 (fun h=>by rw[h5 h]at hl;cases hl)
    rw[aG]at this
    exact this
variable{D:Dsk}
theorem qfe(hr:D.Rest)(hw:qjg D ws):
  ((zcm D ws).1=0∧(zcm D ws).2.Rest∧(zcm D ws).2.on=zeg D.on ws∧(zcm D ws).2.keep=D.keep∧(D.left=none→(zcm D ws).2.left=none))∨
  (D.left≠none∧(zcm D ws).1=4∧(zcm D ws).2.dead=true∧(zcm D ws).2.wait=[]∧(zcm D ws).2.left=none∧(zcm D ws).2.keep=[]∧Mix D.on ws (zcm D ws).2.on):=by
 have h0:=zrg (D:=D) (pre:=[]) (D1:=D) hw hr.live rfl (by rw[hr.wait];rfl) rfl id
 simp only[aH]at h0
 unfold zcm
 generalize zbb D ws=r at h0⊢
 rcases h0 with ⟨a1,a2,a3,a4,a5,a6⟩ |⟨b0,b1,b2,b3,b4,b5,b6⟩
 ·rw[if_pos a1]
  obtain⟨r1,D1⟩:=r
  simp only at a1 a2 a3 a4 a5 a6⊢
  have hfl:zbi D1=if (zhb D1).1=0 then(0,zsk (zhb D1).2)else zhb D1:=by
   unfold zbi
   rw[a2,if_neg dQ]
  rw[hfl]
  unfold zhb
  have hlen:(swp ws).length=ws.length:=by simp[swp]
  cases hl:D1.left with
  |none=>
   rw[if_pos rfl]
   refine .inl ⟨rfl,⟨a2,rfl⟩,?_,a5,fun _=>hl⟩
   show zjh D1.on D1.wait (fun _=>true) D1.wait.length=_
   rw[a3,a4,hlen,zty _ _ _ (aY _),gI]
  |some n=>
   cases n with
   |zero=>
    right
    have hD:D.left≠none:=fun h=>by rw[a6 h]at hl;cases hl
    refine⟨hD,?_⟩
    refine⟨rfl,rfl,rfl,rfl,rfl,?_⟩
    show Mix D.on _ (zjh D1.on D1.wait (zi7 D1.keep) D1.wait.length)
    rw[a3,a4,hlen]
    exact ztz D.on ws _ _ (aY _)
   |succ n=>
    rw[if_pos rfl]
    refine .inl ⟨rfl,⟨a2,rfl⟩,?_,a5,fun h=>by rw[a6 h]at hl;cases hl⟩
    show zjh D1.on D1.wait (fun _=>true) D1.wait.length=_
    rw[a3,a4,hlen,zty _ _ _ (aY _),gI]
 ·rw[if_neg (by rw[b1];decide)]
  exact .inr ⟨b0,b1,b2,b3,b4,b5,b6⟩
theorem zfk(h:D.wait=[])(i:Nat):zcn D i=D.on.getD i []:=by
 unfold zcn
 rw[h]
 rfl
theorem zff:∀{ws:List (Nat×Bys)} {on:List Bys} {i:Nat},(∀p∈ws,p.1≠i)→(zeg on ws)[i]? =on[i]?
 | [],_,_,_=>rfl
 |p::l,on,i,h=>by
  rw[zeg,zff (fun q hq=>h q (.tail _ hq)),fL (h p (.head _))]
end Go.Proofs.YthafakdplhdfjaaGreatDoor
namespace Go.Proofs.YthafakdplhdfjaaGreatDoor
open Go.RowKit Go.Eng
def wsC(g:Lg)(t:Bys):List (Nat×Bys):=(zs7 g.next t).map fun s=>(za9 s.seq g.h.secs,zmh s)
def zop(D:Dsk)(g:Lg)(t:Bys):Nat×Dsk:=
 if g.h.secs<zao t.length then(6,D)else if g.h.secs - g.used<zao t.length then(5,D)else zcm D (wsC g t)
def qjd(D:Dsk)(g:Lg)(t:Bys):Lg:=if (zop D g t).1=0 then { g with next:=g.next+zao t.length,used:=g.used+zao t.length } else g
theorem zmq:∀(l:List (Nat×Bys)) (D:Dsk) (p:Nat×Bys),zbb D (l++[p])=if (zbb D l).1=0 then zbz (zbb D l).2 p.1 p.2 else zbb D l
 | [],D,p=>by
  show(if (zbz D p.1 p.2).1=0 then(0,(zbz D p.1 p.2).2)else zbz D p.1 p.2)=zbz D p.1 p.2
  by_cases h:(zbz D p.1 p.2).1=0
  ·rw[if_pos h,←h]
  ·rw[if_neg h]
 |q::l,D,p=>by
  rw[aD,zbb,zbb]
  by_cases h:(zbz D q.1 q.2).1=0
  ·rw[if_pos h,if_pos h,zmq l]
  ·rw[if_neg h,if_neg h,if_neg h]
theorem zmp:∀(l l':List (Nat×Bys)) (D:Dsk),(zbb D l).1≠0→zbb D (l++l')=zbb D l
 | [],_,_,h=>absurd rfl h
 |q::l,l',D,h=>by
  rw[aD,zbb,zbb]
  rw[zbb]at h
  by_cases h':(zbz D q.1 q.2).1=0
  ·rw[if_pos h']at h⊢
   rw[if_pos h',zmp l l' _ h]
  ·rw[if_neg h',if_neg h']
theorem zf7:∀(l:List (Nat×Bys)) (D:Dsk),D.Ok→(zbb D l).2.Ok
 | [],_,h=>h
 |q::l,D,h=>by
  rw[zbb]
  split
  ·exact zf7 l _ (qc2 h _ _)
  ·exact qc2 h _ _
theorem ze7:∀(l:List (Nat×Bys)) (D:Dsk),D.Ok→(zbb D l).1=0→(zbb D l).2.keep=D.keep∧(zbb D l).2.wait.length=D.wait.length+l.length
 | [],_,_,_=>⟨rfl,rfl⟩
 |q::l,D,h,h0=>by
  rw[zbb]at h0⊢
  by_cases h':(zbz D q.1 q.2).1=0
  ·rw[if_pos h']at h0⊢
   obtain⟨h1,h2,h3, -⟩:=zj9 h q.1 q.2 h'
   obtain⟨h4,h5⟩:=ze7 l _ h1 h0
   refine⟨h4.trans h2,?_⟩
   rw[h5,h3]
   simp
   omega
  ·rw[if_neg h']at h0
   exact absurd h0 h'
abbrev cmL(b bn bl bt:Nat)(n:Nat)(t:Bys)(d:Dk)(g:Lg):List Eng.Item:=[lgI b d g,pt bn (.cells #[.int .i64 (n:Int)] 3 (0,0)),qfj bl b,pt bt (.cells #[.string ⟨t.toArray⟩] 9 (0,0)),dkI d,ctI]
theorem zgr(b bn bl bt:Nat)(n:Nat)(t:Bys)(d:Dk)(g:Lg):∀it∈cmL b bn bl bt n t d g,it.Stable none':=by
 intro it hm
 rcases hm with _|⟨_,_|⟨_,_|⟨_,_|⟨_,hm⟩⟩⟩⟩
 ·exact zab _ _ _
 ·exact zab _ _ _
 ·exact zab _ _ _
 ·exact zab _ _ _
 ·exact zbo d it hm
theorem zt4(b bn bl bt:Nat)(t:Bys)(d:Dk)(g:Lg)(ok:d.D.Ok)(hkl:d.D.keep.length≤1000000)(hwl:d.D.wait.length+zao t.length≤1000000)(ht:t.length≤1000000000)(hg:g.h.Ok)(hs0:0<g.h.secs)(hus:g.used≤g.h.secs)(hnx:g.next+zao t.length<18446744073709551616):
  Cw Tryz.prog 183 #[.pointer (some ⟨bn,0,none⟩),.pointer (some ⟨bl,0,none⟩),.pointer (some ⟨bt,0,none⟩)] (cmL b bn bl bt (zao t.length) t d g) (fun _:Dk=>.int .i64 ((zop d.D g t).1:Nat)) (zfz d (zop d.D g t).2) (fun d'=>cmL b bn bl bt (zao t.length) t d' (qjd d.D g t)):=by
 intro w hw ha
 refine za2 [_,_,_] _ Tryz.func183 rfl rfl hw ha ?_
 have hsecs:=hg.secs
 have hn0:=zh5 t.length
 simp only[zaa,Nat.reduceAdd]
 refine goA ?_
 refine zap [0,1,2,3,4,5] 8 rfl rfl kQ ?_
 refine goX ?_
 by_cases h6:g.h.secs<zao t.length
 ·refine goA ?_
  refine zbd d rfl rfl (by rw[zop,if_pos h6];rfl) ⟨rfl,rfl,by rw[zop,if_pos h6]⟩ ?_ (zgr _ _ _ _ _ _ _ _)
  rw[qjd,zop,if_pos h6,if_neg (Nat.succ_ne_zero _)]
  exact .refl _
 ·refine goA ?_
  refine zap [0,1,2,3,4,5] 5 rfl rfl kQ ?_
  refine goE ?_
  refine zat 2 ⟨kQ,dQ⟩ rfl rfl (zfc rfl kQ rfl (fun w1 hw1=>znz b d g hsecs hus w1 (zbq.of (hw1.item _ (.head _)) (zab _ _ _)))) (fun _ _ h=>goH h) fun _=>?_
  refine goE ?_
  refine zdn kQ ?_
  by_cases h5:g.h.secs - g.used<zao t.length
  ·refine goA ?_
   refine zbd d rfl rfl (by rw[zop,if_neg h6,if_pos h5];rfl) ⟨rfl,rfl,by rw[zop,if_neg h6,if_pos h5]⟩ ?_ (zgr _ _ _ _ _ _ _ _)
   rw[qjd,zop,if_neg h6,if_pos h5,if_neg (Nat.succ_ne_zero _)]
   exact .refl _
  ·refine goA ?_
   refine zap [0,1,2,3,4,5] 8 rfl rfl kQ ?_
   refine goE ?_
   refine qqn 5 ⟨kQ,dQ⟩ rfl rfl rfl kQ rfl (fun _ h=>h) (fun w1 hw1=>qe6 g.next t ht hnx w1) fun x hx=>?_
   refine goE ?_
   refine zdn kQ ?_
   obtain⟨xb,xc⟩:=x
   have hcm:zop d.D g t=zcm d.D (wsC g t):=by rw[zop,if_neg h6,if_neg h5]
   have hcmg:qjd d.D g t=if (zop d.D g t).1=0 then { g with next:=g.next+zao t.length,used:=g.used+zao t.length } else g:=rfl
   have hwsl:(wsC g t).length=zao t.length:=by rw[wsC,aE,zfm]
   have hwsk:∀k,k<zao t.length→(wsC g t).take (k+1)=(wsC g t).take k++[(za9 (g.next+k) g.h.secs,zmh (pcS g.next t k))]:=fun k hk=>by
    rw[cV,wsC,aN,qhs hk]
    rfl
   have hstep:∀k,k<zao t.length→zbb d.D ((wsC g t).take (k+1))=if (zbb d.D ((wsC g t).take k)).1=0 then zbz (zbb d.D ((wsC g t).take k)).2 (za9 (g.next+k) g.h.secs) (zmh (pcS g.next t k))else zbb d.D ((wsC g t).take k):=fun k hk=>by
    rw[hwsk k hk,zmq]
   have hdone:(zbb d.D ((wsC g t).take (zao t.length)))=zbb d.D (wsC g t):=by rw[bI oQ]
   have hbad:∀k,(zbb d.D ((wsC g t).take k)).1≠0→zcm d.D (wsC g t)=zbb d.D ((wsC g t).take k):=fun k hk=>by
    have h1:=zmp ((wsC g t).take k) ((wsC g t).drop k) d.D hk
    rw[bF]at h1
    rw[zcm,h1,if_neg hk]
   have hkeepk:∀k,k≤zao t.length→(zbb d.D ((wsC g t).take k)).1=0→(zbb d.D ((wsC g t).take k)).2.keep=d.D.keep∧(zbb d.D ((wsC g t).take k)).2.wait.length=d.D.wait.length+k:=fun k hk h0=>by
    have:=ze7 ((wsC g t).take k) d.D ok h0
    rw[aM,hwsl,dB hk]at this
    exact this
   have hokk:∀k,(zbb d.D ((wsC g t).take k)).2.Ok:=fun k=>zf7 _ _ ok
   refine goA ?_
   refine zc0 (α:=Nat×Dk) (fun y=>[(0,.pointer (some ⟨bn,0,none⟩)),(1,.pointer (some ⟨bl,0,none⟩)),(2,.pointer (some ⟨bt,0,none⟩)),(3,.int .i64 0),(27,.slice (some ⟨xb,0,none⟩) (zao t.length) xc),(28,.int .i64 (zao t.length)),(29,.int .i64 y.1)]) (fun y=>y.1≤zao t.length∧(zbb d.D ((wsC g t).take y.1)).1=0∧zfz d (zbb d.D ((wsC g t).take y.1)).2 y.2) (fun y=>[dkI y.2,own 265 3 (some (xb,xc)) (zao t.length) (zv0 (zs7 g.next t)),lgI b d g,pt bn (.cells #[.int .i64 (zao t.length:Int)] 3 (0,0)),qfj bl b,pt bt (.cells #[.string ⟨t.toArray⟩] 9 (0,0)),ctI]) (fun y=>zao t.length - y.1) (0,d) ⟨rfl,rfl,rfl,rfl,rfl,rfl,rfl,trivial⟩ ⟨bA _,rfl,rfl,rfl,rfl⟩ (fun w hw=>hw.pick [5,0,1,2,3,4,6] rfl rfl) fun⟨k,d1⟩ ⟨hk,h0,hd1⟩=>?_
   simp only at hk h0 hd1⊢
   by_cases hkn:k<zao t.length
   ·have hst:=hstep k hkn
    rw[if_pos h0]at hst
    obtain⟨hkp,hwt⟩:=hkeepk k oQ h0
    have hokd:=hokk k
    have hokd2:=hokk (k+1)
    have hbad2:=hbad (k+1)
    generalize zbb d.D ((wsC g t).take k)=r at*
    obtain⟨hd1a,hd1b,hd1c⟩:=hd1
    rw[←hd1c]at hkp hwt hokd hst
    have hlen:k<(zs7 g.next t).length:=by rw[zfm];exact hkn
    have hgk:(zs7 g.next t)[k]'hlen=pcS g.next t k:=by simp[zs7]
    have hrow:∀{m:List Eng.Item} {w2:World} {F2:Nat→Prop} (w':World),Hp w2 F2 m w'→own 265 3 (some (xb,xc)) (zao t.length) (zv0 (zs7 g.next t))∈m→w'.rangeAt xb (0+k*3) (zjf (pcS g.next t k)).toList:=fun w' hw' hm=>by
     have:=Rd.row (enc:=fun s=>(zjf s).toList) (sz:=3) (fun _=>rfl) (zd7 (hw'.item _ hm).1) hlen
     rw[hgk]at this
     exact this
    refine goA ?_
    refine l_w rfl (zgp (c:=zjf (pcS g.next t k)) rfl rfl (fun w' hw'=>hrow w' hw' (.tail _ (.head _))) rfl) ?_
    refine goA ?_
    refine zam rfl rfl fun b5 hb5=>?_
    refine za1 rfl (zaf (cs':=zjf (pcS g.next t k)) rfl rfl rfl rfl rfl rfl) fun _=>?_
    refine goA ?_
    have hsq:(pcS g.next t k).seq=g.next+k:=rfl
    refine zdy rfl rfl kQ rfl (fun w1 hw1=>zqy (pcS g.next t k) oQ (zna _ _ _) w1 (hw1.item ctI sQ).1) fun x hx=>?_
    refine zch (fun w hw=>(zas (hw.item (own 5 1 x 512 (zae (zmh (pcS g.next t k)))) (.head _)).1)) fun⟨hsl,hcap⟩=>?_
    rw[hsl]
    refine goA ?_
    refine zcx [2,0,1,3,4,5,6,7,8] rfl rfl ?_
    refine zap [1,2,3,4,5,6,7,8] 15 rfl rfl kQ ?_
    refine goE ?_
    refine zat 11 ⟨kQ,dQ⟩ rfl rfl (zfc rfl kQ rfl (fun w1 hw1=>zqi (g.next+k) g.h.secs oQ hs0 oQ w1)) (fun _ _ h=>goH h) fun _=>?_
    refine goE ?_
    rw[←hd1a]
    have hpl:za9 (g.next+k) g.h.secs<9223372036854775808:=by
     unfold za9
     have:=dY (g.next+k) hs0
     omega
    simp only[hsq]
    refine zat 13 ⟨kQ,dQ⟩ rfl rfl (zfb (pre:=[dkI d1]) rfl kQ rfl (by intro it hm;rcases hm with _|⟨_,hm⟩<;>first|exact zad _|exact(nomatch hm)) (fun w1 hw1 hh1 ha1=>zuc d1 hokd (by rw[hkp];exact hkl) (by rw[hwt];omega) _ hpl (zmh (pcS g.next t k)) 512 (zvz (zna _ _ _)) (slA x) (slC x) dQ w1 hh1 (fun w2 hw2=>za8 (hw1.still (.head _) (zac _ _ _ _ _ _) hw2)))) (fun _ _ h=>goH h) fun⟨d2,hd2⟩=>?_
    refine goE ?_
    refine zdn kQ ?_
    dsimp only
    rw[←hst]at hd2⊢
    have hok2:zfz d (zbb d.D ((wsC g t).take (k+1))).2 d2:=⟨hd2.1.trans hd1a,hd2.2.1.trans hd1b,hd2.2.2⟩
    refine goA ?_
    by_cases he:(zbb d.D ((wsC g t).take (k+1))).1=0
    ·have hne:(((zbb d.D ((wsC g t).take (k+1))).1:Int) != 0)=false:=by simp[he]
     rw[hne]
     refine goA ?_
     exact zaw (k+1,d2) ⟨rfl,rfl,rfl,rfl,rfl,rfl,rfl,trivial⟩ ⟨hkn,he,hok2⟩ (fun w hw=>by exact hw.pick [0,3,4,5,6,7,8] rfl rfl) (by show zao t.length - (k+1)<zao t.length - k;omega)
    ·have hne:(((zbb d.D ((wsC g t).take (k+1))).1:Int) != 0)=true:=by simp[he]
     rw[hne]
     have hcm2:=hbad2 he
     rw[hcmg,hcm,hcm2,if_neg he]
     refine goA ?_
     have hlg:∀g:Lg,lgI b d g=lgI b d2 g:=fun g=>by unfold lgI lgA;rw[hok2.1]
     exact zbr (m':=cmL b bn bl bt (zao t.length) t d2 g) (fun w' hw'=>by unfold cmL;rw[←hlg];exact hw'.pick [4,5,6,7,0,8] rfl rfl) (zbd d2 rfl rfl rfl hok2 (.refl _) (zgr _ _ _ _ _ _ _ _))
   ·obtain rfl:k=zao t.length:=oQ
    rw[hdone]at h0 hd1
    have hkk:=hkeepk (zao t.length) (aY _) (by rw[hdone];exact h0)
    rw[hdone]at hkk
    have hokd:=zf7 (wsC g t) d.D ok
    have hbt:zcm d.D (wsC g t)=zbi (zbb d.D (wsC g t)).2:=by rw[zcm,if_pos h0]
    rw[hbt]at hcm
    generalize zbb d.D (wsC g t)=r at*
    obtain⟨hd1a,hd1b,hd1c⟩:=hd1
    rw[←hd1c]at hkk hokd hcm
    refine goA ?_
    rw[←hd1a]
    refine lCu [dkI d1] rfl (by intro it hm;rcases hm with _|⟨_,hm⟩<;>first|exact zad _|exact(nomatch hm)) (fun w1 hw1 hh1 ha1=>zg4 d1 hokd (by rw[hkk.1];exact hkl) (by rw[hkk.2];omega) w1 hh1) fun⟨d2,hd2⟩=>?_
    dsimp only
    rw[hcm]
    rw[hcmg,hcm]
    generalize zbi d1.D=r2 at*
    have hok2:zfz d r2.2 d2:=⟨hd2.1.trans hd1a,hd2.2.1.trans hd1b,hd2.2.2⟩
    have hlg:∀g:Lg,lgI b d g=lgI b d2 g:=fun g=>by unfold lgI lgA;rw[hok2.1]
    refine goA ?_
    by_cases he:r2.1=0
    ·rw[if_pos he,he]
     obtain⟨gh,gat,gnx,gus,gde⟩:=g
     simp only at hnx hus hg hs0 hsecs⊢
     refine goA ?_
     refine zcx [2,3,4,5,0,6] rfl rfl ?_
     refine zap [1,2,3,4,5] 10 rfl rfl kQ ?_
     (repeat first|refine dAv [3] rfl rfl rfl ?_ |refine dno [3] rfl rfl rfl ?_ |refine dT [3] rfl rfl rfl rfl ?_ |refine dF [3] rfl rfl rfl rfl ?_)
     refine zat 3 ⟨kQ,dQ⟩ rfl rfl (zx2 rfl (zc5 rfl rfl (.head _) rfl)) (fun _ _ h=>goH h) fun _=>?_
     refine goE ?_
     refine d_v [7] rfl rfl kQ (fun _ h=>goH h) rfl rfl (zj8 (a:=gnx) (b:=zao t.length) rfl rfl) ?_
     refine zro 72 _ (.int .u64 ((gnx+zao t.length:Nat):Int)) rfl (by rw[bC hnx]) ?_
     refine goE ?_
     refine zat 9 ⟨kQ,dQ⟩ rfl rfl (zai rfl rfl rfl rfl rfl rfl (show(6:Nat)<9 from dQ)) (fun _ _ h=>goH h) fun _=>?_
     refine zdn kQ ?_
     refine goA ?_
     refine zap [1,2,3,4,5] 9 rfl rfl kQ ?_
     (repeat first|refine dAv [3] rfl rfl rfl ?_ |refine dno [3] rfl rfl rfl ?_ |refine dT [3] rfl rfl rfl rfl ?_ |refine dF [3] rfl rfl rfl rfl ?_)
     refine zat 3 ⟨kQ,dQ⟩ rfl rfl (zx2 rfl (zc5 rfl rfl (.head _) rfl)) (fun _ _ h=>goH h) fun _=>?_
     refine zro 78 _ (.int .i64 (gus:Int)) rfl rfl ?_
     refine goE ?_
     refine zat 8 ⟨kQ,dQ⟩ rfl rfl (zai rfl rfl rfl rfl rfl rfl (show(7:Nat)<9 from dQ)) (fun _ _ h=>goH h) fun _=>?_
     refine zdn kQ ?_
     refine goA ?_
     exact zbr (m':=cmL b bn bl bt (zao t.length) t d2 ⟨gh,gat,gnx+zao t.length,gus+zao t.length,gde⟩) (fun w' hw'=>by unfold cmL;rw[←hlg];exact hw') (zbd d2 rfl rfl rfl hok2 (.refl _) (zgr _ _ _ _ _ _ _ _))
    ·have hne:((r2.1:Int) != 0)=true:=by simp[he]
     rw[hne,if_neg he]
     refine goA ?_
     exact zbr (m':=cmL b bn bl bt (zao t.length) t d2 g) (fun w' hw'=>by unfold cmL;rw[←hlg];exact hw'.pick [2,3,4,5,0,6] rfl rfl) (zbd d2 rfl rfl rfl hok2 (.refl _) (zgr _ _ _ _ _ _ _ _))
theorem zrv(b:Nat)(t:Bys)(d:Dk)(g:Lg)(ok:d.D.Ok)(hkl:d.D.keep.length≤1000000)(hwl:d.D.wait.length+zao t.length≤1000000)(ht:t.length≤1000000000)(hg:g.h.Ok)(hs0:0<g.h.secs)(hus:g.used≤g.h.secs)(hnx:g.next+zao t.length<18446744073709551616)(hdead:g.dead=false):
  Cw Tryz.prog 137 #[.pointer (some ⟨b,0,none⟩),.string ⟨t.toArray⟩] [lgI b d g,dkI d,ctI] (fun _:Dk=>.int .i64 ((zop d.D g t).1:Nat)) (zfz d (zop d.D g t).2) (fun d'=>[lgI b d' { qjd d.D g t with dead:=decide ((zop d.D g t).1=4) },dkI d',ctI]):=by
 intro w hw ha
 refine za2 [_,_] _ Tryz.func137 rfl rfl hw ha ?_
 simp only[zaa,Nat.reduceAdd]
 refine goA ?_
 refine zc9 rfl rfl rfl fun bl _=>?_
 refine zc9 rfl rfl rfl fun bt _=>?_
 refine goA ?_
 refine lPu rfl (fun w1 hw1=>zsw t.length ht w1) ?_
 refine goA ?_
 refine zdg rfl rfl rfl fun bn hbn=>?_
 refine za1 rfl (zai rfl rfl rfl rfl rfl rfl sQ) fun _=>?_
 refine goA ?_
 refine l_w rfl (zhw rfl) ?_
 refine zay [3,0,2,1,4,5] rfl rfl ?_
 have hst:=zgr b bn bl bt (zao t.length) t
 refine zeh rfl (zfb (pre:=cmL b bn bl bt (zao t.length) t d g) (m:=[]) rfl kQ rfl (hst d g) (fun w1 hw1 hh1 ha1=>zsh (f:=183) (cs:=[.pointer (some ⟨bn,0,none⟩),.pointer (some ⟨bl,0,none⟩),.pointer (some ⟨bt,0,none⟩)]) kQ b d g hdead (cmL b bn bl bt (zao t.length) t d g).tail (fun _:Dk=>(zop d.D g t).1) (zfz d (zop d.D g t).2) (fun d'=>d') (fun _=>qjd d.D g t) (fun d'=>(cmL b bn bl bt (zao t.length) t d' g).tail) (fun it hm=>hst d g it (.tail _ hm)) (fun d' it hm=>hst d' g it (.tail _ hm)) (fun w2 hh2 ha2=>zt4 b bn bl bt t d g ok hkl hwl ht hg hs0 hus hnx w2 hh2 ha2) w1 hh1 ha1)) fun⟨d',hd'⟩=>?_
 refine goA ?_
 exact zbd d' rfl rfl rfl hd' (.cons_cons _ (.cons _ (.cons _ (.cons _ (.refl _))))) (fun it hm=>hst d' _ it (by
  rcases hm with _|⟨_,hm⟩
  ·exact .head _
  ·exact .tail _ (.tail _ (.tail _ (.tail _ hm)))))
end Go.Proofs.YthafakdplhdfjaaGreatDoor
namespace Go.Eng.Bm
def num(f:Nat→Bool):Nat→Nat
 |0=>0
 |n+1=>num f n+(bif f n then 2^n else 0)
theorem qb4(f:Nat→Bool):∀n,num f n<2^n
 |0=>by simp[num]
 |n+1=>by
  have:=qb4 f n
  simp only[num,gS]
  cases f n<;>simp<;>omega
theorem zc4(f:Nat→Bool):∀n j,(num f n).testBit j=(decide (j<n)&&f j)
 |0,j=>by simp[num]
 |n+1,j=>by
  have hlt:=qb4 f n
  have ih:=zc4 f n j
  simp only[num]
  cases hf:f n
  ·simp only[cond_false,fY,ih]
   by_cases h:j<n
   ·simp[h,eS h]
   ·by_cases e:j=n
    ·subst e;simp[hf]
    ·simp only[h,decide_false,eI,show¬j<n+1 by omega]
  ·simp only[cond_true]
   rw[fQ]
   by_cases h:j<n
   ·rw[Nat.testBit_two_pow_add_gt h,ih];simp[h,eS h]
   ·by_cases e:j=n
    ·subst e;rw[Nat.testBit_two_pow_add_eq,ih];simp[hf]
    ·have h2:2^n+num f n<2^j:=aW (show 2^n+num f n<2^(n+1) by rw[gS];omega) (dK dQ oQ)
     rw[fR h2]
     simp[show¬j<n+1 by omega]
theorem zxx{f g:Nat→Bool}{n:Nat}(h:∀j,j<n→f j=g j):num f n=num g n:=eX fun j=>by
 rw[zc4,zc4]
 by_cases hj:j<n
 ·rw[h j hj]
 ·simp[hj]
def upd(S:Nat→Bool)(i:Nat)(u:Bool):Nat→Bool:=fun j=>if j=i then u else S j
def zrd(S:Nat→Bool)(k:Nat):Nat:=num (fun i=>S (64*k+i)) 64
def byte(S:Nat→Bool)(k:Nat):Nat:=num (fun i=>S (8*k+i)) 8
theorem qa4(S:Nat→Bool)(k:Nat):zrd S k<18446744073709551616:=qb4 _ 64
theorem qfl(S:Nat→Bool)(k:Nat):byte S k<256:=qb4 _ 8
def clr(x j:Nat):Nat:=x&&& (18446744073709551615^^^2^j)
def qp2(x j:Nat)(u:Bool):Nat:=bif u then clr x j|||2^j else clr x j
variable{x:Nat}
theorem qqk(j:Nat)(h:x<18446744073709551616):clr x j<18446744073709551616:=cL gN h
variable{j:Nat}
theorem qrg(h:j<64):2^j<18446744073709551616:=jU (n:=64) dQ h
theorem zix(i:Nat):(18446744073709551615:Nat).testBit i=decide (i<64):=Nat.testBit_two_pow_sub_one 64 i
theorem zq7(x j i:Nat)(hx:x<18446744073709551616):(clr x j).testBit i=(if i=j then false else x.testBit i):=by
 unfold clr
 rw[lG,Nat.testBit_xor,zix,iO]
 by_cases hi:i<64
 ·by_cases e:i=j
  ·subst e;simp[hi]
  ·simp[hi,e,Ne.symm e]
 ·have:x.testBit i=false:=fR (aW hx (dK (n:=2) (i:=64) dQ oQ))
  simp[this]
theorem zyt(x j i:Nat)(u:Bool)(hx:x<18446744073709551616):(qp2 x j u).testBit i=(if i=j then u else x.testBit i):=by
 unfold qp2
 cases u
 ·simp only[cond_false];exact zq7 x j i hx
 ·simp only[cond_true]
  rw[lL,zq7 x j i hx,iO]
  by_cases e:i=j
  ·subst e;simp
  ·simp[e,Ne.symm e]
theorem qid(S:Nat→Bool)(k j:Nat)(u:Bool)(hj:j<64):qp2 (zrd S k) j u=zrd (upd S (64*k+j) u) k:=eX fun i=>by
 rw[zyt _ _ _ _ (qa4 S k)]
 unfold zrd
 rw[zc4,zc4]
 unfold upd
 by_cases e:i=j
 ·subst e;simp[hj]
 ·simp[e]
theorem zr6(S:Nat→Bool)(i k:Nat)(u:Bool)(h:k≠i/64):zrd (upd S i u) k=zrd S k:=zxx fun j hj=>by
 unfold upd
 rw[if_neg oQ]
theorem zj4(S:Nat→Bool)(k j:Nat)(hj:j<64):(zrd S k).testBit j=S (64*k+j):=by
 unfold zrd;rw[zc4];simp[hj]
def cnt(S:Nat→Bool):Nat→Nat
 |0=>0
 |n+1=>cnt S n+(S n).toNat
theorem qfo(S:Nat→Bool):∀n,cnt S n≤n
 |0=>aY _
 |n+1=>by have:=qfo S n;simp only[cnt];cases S n<;>simp<;>omega
theorem qm1(S:Nat→Bool)(a:Nat):∀b,cnt S (a+b)=cnt S a+cnt (fun i=>S (a+i)) b
 |0=>rfl
 |b+1=>by rw[←eY];simp only[cnt];rw[qm1 S a b];omega
def V(k:Nat)(g:Nat→Nat):Nat→Nat
 |0=>0
 |n+1=>g 0+2^k*V k (fun i=>g (i+1)) n
def M(k:Nat):Nat→Nat
 |0=>0
 |n+1=>(2^k - 1)+2^(2*k)*M k n
variable{k:Nat}{g:Nat→Nat}
theorem zny{h:Nat→Nat}:∀{n:Nat},(∀i,i<n→g i=h i)→V k g n=V k h n:=by
 intro n
 induction n generalizing g h with
 |zero=>intro _;rfl
 |succ n ih=>intro e;simp only[V];rw[e 0 oQ,ih (g:=fun i=>g (i+1)) (h:=fun i=>h (i+1)) (fun i hi=>e (i+1) oQ)]
theorem qun:∀{n:Nat},(∀i,i<n→g i<2^k)→V k g n<2^(k*n):=by
 intro n
 induction n generalizing g with
 |zero=>intro _;simp[V]
 |succ n ih=>
  intro e
  have h0:=e 0 oQ
  have h1:=ih (g:=fun i=>g (i+1)) (fun i hi=>e (i+1) oQ)
  simp only[V]
  rw[Nat.mul_succ,jT,kA (2^(k*n))]
  have:2^k*(V k (fun i=>g (i+1)) n+1)≤2^k*2^(k*n):=fS _ h1
  rw[fU]at this
  omega
theorem qqv{h:Nat→Nat}:∀{n:Nat},V k g n+V k h n=V k (fun i=>g i+h i) n:=by
 intro n
 induction n generalizing g h with
 |zero=>rfl
 |succ n ih=>
  simp only[V]
  rw[←ih (g:=fun i=>g (i+1)) (h:=fun i=>h (i+1)),fU]
  omega
theorem qfb(s a b c d:Nat)(ha:a<2^s)(hc:c<2^s):(a+2^s*b)&&& (c+2^s*d)=(a&&& c)+2^s*(b&&& d):=by
 have hac:a&&& c<2^s:=cL gN ha
 rw[fQ a,fQ c,fQ (a&&& c),iG ha,iG hc,iG hac]
 refine eX fun i=>?_
 simp only[lG,lL,Nat.testBit_two_pow_mul]
 by_cases hi:s≤i
 ·have e1:a.testBit i=false:=fR (aW ha (dK dQ hi))
  have e2:c.testBit i=false:=fR (aW hc (dK dQ hi))
  simp[hi,e1,e2]
 ·simp[hi]
theorem qod(k a b:Nat)(ha:a<2^k):(a+2^k*b)&&& (2^k - 1)=a:=by
 rw[fB,Nat.add_mul_mod_self_left,bC ha]
theorem qui(k a b:Nat)(ha:a<2^k)(hb:b<2^k):a+2^k*b<2^(2*k):=by
 have e:2^(2*k)=2^k*2^k:=by rw[Nat.two_mul,jT]
 have:2^k*(b+1)≤2^k*2^k:=fS _ hb
 rw[fU]at this
 omega
theorem qoy(k:Nat):2^k - 1<2^(2*k):=by
 have:2^k≤2^(2*k):=dK dQ oQ
 have:=iS k
 omega
theorem zt3:∀{n:Nat} {g:Nat→Nat},(∀i,i<2*n→g i<2^k)→V k g (2*n)&&& M k n=V (2*k) (fun i=>g (2*i)) n:=by
 intro n
 induction n with
 |zero=>intro g _;simp[V,M]
 |succ n ih=>
  intro g hg
  have e:2*(n+1)=2*n+1+1:=oQ
  rw[e]
  simp only[V,M]
  have h2:g 0+2^k*(g (0+1)+2^k*V k (fun i=>g (i+1+1)) (2*n))=(g 0+2^k*g 1)+2^(2*k)*V k (fun i=>g (i+1+1)) (2*n):=by
   have e:2^(2*k)=2^k*2^k:=by rw[Nat.two_mul,jT]
   rw[e,fU,Nat.mul_assoc];simp only[aJ];omega
  rw[h2,qfb _ _ _ _ _ (qui k _ _ (hg 0 oQ) (hg 1 oQ)) (qoy k),qod k _ _ (hg 0 oQ),ih (fun i hi=>hg (i+1+1) oQ)]
  rfl
theorem qqa:∀{n:Nat} {g:Nat→Nat},(∀i,i<2*n→g i<2^k)→(V k g (2*n)/2^k)&&& M k n=V (2*k) (fun i=>g (2*i+1)) n:=by
 intro n
 induction n with
 |zero=>intro g _;simp[V,M]
 |succ n ih=>
  intro g hg
  have e:2*(n+1)=2*n+1+1:=oQ
  rw[e]
  simp only[V,M]
  have hp:=iS k
  generalize hR:V k (fun i=>g (i+1+1)) (2*n)=R
  have h2:(g 0+2^k*(g (0+1)+2^k*R))/2^k=(g 1+2^k*(R%2^k))+2^(2*k)*(R/2^k):=by
   rw[Nat.add_mul_div_left _ _ hp,jP (hg 0 oQ)]
   have e:2^(2*k)=2^k*2^k:=by rw[Nat.two_mul,jT]
   have hd:=Nat.mod_add_div R (2^k)
   rw[e,Nat.mul_assoc,eY,←fU,hd]
   simp
  rw[h2,qfb _ _ _ _ _ (qui k _ _ (hg 1 oQ) (dY _ hp)) (qoy k),qod k _ _ (hg 1 oQ),←hR,ih (fun i hi=>hg (i+1+1) oQ)]
  rfl
theorem qj9(n:Nat)(h0:g 0<2^k):V k g (n+1)/2^k=V k (fun i=>g (i+1)) n:=by
 simp only[V]
 rw[Nat.add_mul_div_left _ _ (iS k),jP h0];simp
theorem qug:∀{n:Nat} {g:Nat→Nat},V k g n=V k (fun i=>if i<n then g i else 0) (n+1):=by
 intro n
 induction n with
 |zero=>intro g;simp[V]
 |succ n ih=>
  intro g
  rw[V,V,ih (g:=fun i=>g (i+1))]
  have:V k (fun i=>if i<n then g (i+1)else 0) (n+1)=V k (fun i=>if i+1<n+1 then g (i+1)else 0) (n+1):=zny fun i _=>by
   by_cases h:i<n<;>simp[h]
  rw[this]
  simp
theorem zoa(n:Nat)(h0:g 0<2^k):V k g (n+1)/2^k+V k g (n+1)=V k (fun i=>(if i<n then g (i+1)else 0)+g i) (n+1):=by
 rw[qj9 n h0,qug,qqv]
theorem qv6(f:Nat→Bool):∀n,num f n=V 1 (fun i=>(f i).toNat) n:=by
 have key:∀n (f:Nat→Bool),num f (n+1)=(f 0).toNat+2*num (fun i=>f (i+1)) n:=by
  intro n
  induction n with
  |zero=>intro f;simp[num];cases f 0<;>rfl
  |succ n ih=>
   intro f
   rw[num,ih f,num]
   cases f (n+1)
   ·simp
   ·simp[gS];omega
 intro n
 induction n generalizing f with
 |zero=>rfl
 |succ n ih=>rw[key,V,ih (fun i=>f (i+1))]
theorem qq3:∀{j n:Nat} {g:Nat→Nat},(∀i,i<j→g i<2^k)→V k g (n+j)/2^(k*j)=V k (fun i=>g (i+j)) n:=by
 intro j
 induction j with
 |zero=>intro n g _;simp
 |succ j ih=>
  intro n g hg
  rw[Nat.mul_succ,fQ (k*j),jT,←Nat.div_div_eq_div_mul,←eY,qj9 _ (hg 0 oQ),ih (fun i hi=>hg (i+1) oQ)]
  exact zny fun i _=>by rw[eY]
theorem qu7{k:Nat}{g:Nat→Nat}{n:Nat}:∀j,V k g n=V k (fun i=>if i<n then g i else 0) (n+j)
 |0=>zny fun i hi=>by rw[if_pos hi]
 |j+1=>by
  rw[qu7 j,qug (n:=n+j),←eY]
  exact zny fun i hi=>by by_cases h:i<n<;>simp[h];omega
theorem zew{n:Nat}(hg:∀i,i<j→g i<2^k):V k g (n+j)+V k g (n+j)/2^(k*j)=V k (fun i=>g i+if i<n then g (i+j)else 0) (n+j):=by
 rw[qq3 hg,qu7 (n:=n) (g:=fun i=>g (i+j)) j,qqv]
def qji(x:Nat):Nat:=(x/2&&& 6148914691236517205)+(x&&& 6148914691236517205)
def qj8(x:Nat):Nat:=(x/4&&& 3689348814741910323)+(x&&& 3689348814741910323)
def qub(x:Nat):Nat:=(x/16+x)&&& 1085102592571150095
theorem zvg(b:Bool):b.toNat≤1:=by cases b<;>decide
def g1(f:Nat→Bool)(i:Nat):Nat:=(f (2*i+1)).toNat+(f (2*i)).toNat
def g2(f:Nat→Bool)(i:Nat):Nat:=g1 f (2*i+1)+g1 f (2*i)
def g3(f:Nat→Bool)(i:Nat):Nat:=g2 f (2*i+1)+g2 f (2*i)
theorem qtw(f:Nat→Bool)(i:Nat):g1 f i≤2:=by have:=zvg (f (2*i+1));have:=zvg (f (2*i));unfold g1;omega
theorem zup(f:Nat→Bool)(i:Nat):g2 f i≤4:=by have:=qtw f (2*i+1);have:=qtw f (2*i);unfold g2;omega
theorem quv(f:Nat→Bool)(i:Nat):g3 f i≤8:=by have:=zup f (2*i+1);have:=zup f (2*i);unfold g3;omega
theorem qqb(f:Nat→Bool):qji (num f 64)=V 2 (g1 f) 32:=by
 unfold qji
 rw[qv6,show(6148914691236517205:Nat)=M 1 32 from by decide]
 have h:=fun i (_:i<2*32)=>cL (zvg (f i)) (show 1<2^1 by decide)
 have h1:=qqa (k:=1) (n:=32) (g:=fun i=>(f i).toNat) h
 have h2:=zt3 (k:=1) (n:=32) (g:=fun i=>(f i).toNat) h
 simp only[Nat.pow_one]at h1
 rw[h1,h2,qqv]
 rfl
theorem qqd(f:Nat→Bool):qj8 (V 2 (g1 f) 32)=V 4 (g2 f) 16:=by
 unfold qj8
 rw[show(3689348814741910323:Nat)=M 2 16 from by decide]
 have h:=fun i (_:i<2*16)=>cL (qtw f i) (show 2<2^2 by decide)
 have h1:=qqa (k:=2) (n:=16) (g:=g1 f) h
 have h2:=zt3 (k:=2) (n:=16) (g:=g1 f) h
 rw[show(2:Nat)^2=4 from rfl]at h1
 rw[h1,h2,qqv]
 rfl
theorem qqg(f:Nat→Bool):qub (V 4 (g2 f) 16)=V 8 (g3 f) 8:=by
 unfold qub
 rw[show(1085102592571150095:Nat)=M 4 8 from dQ,show(16:Nat)=2^4 from rfl,show(2:Nat)^4=15+1 from rfl]
 have h0:g2 f 0<2^4:=cL (zup f 0) dQ
 have hs:=zoa (k:=4) (g:=g2 f) 15 h0
 rw[show(2:Nat)^4=15+1 from rfl]at hs
 rw[hs]
 have h2:=zt3 (k:=4) (n:=8) (g:=fun i=>(if i<15 then g2 f (i+1)else 0)+g2 f i) (fun i _=>by
  have:=zup f i;have:=zup f (i+1)
  by_cases h:i<15<;>simp[h]<;>omega)
 rw[show 2*8=15+1 from rfl]at h2
 rw[h2]
 exact zny fun i hi=>by rw[if_pos oQ];rfl
def qul(a:Nat):Nat:=a+a/256
def quy(a:Nat):Nat:=a+a/65536
def qu5(a:Nat):Nat:=a+a/4294967296
def pop(x:Nat):Nat:=(qu5 (quy (qul (qub (qj8 (qji x))))))&&& 127
theorem quz(f:Nat→Bool):pop (num f 64)=cnt f 64:=by
 have hg:=quv f
 unfold pop qul quy qu5
 rw[qqb,qqd,qqg]
 have e4:=zew (k:=8) (j:=1) (n:=7) (g:=g3 f) (fun i _=>cL (hg i) dQ)
 have e5:=zew (k:=8) (j:=2) (n:=6) (g:=fun i=>g3 f i+if i<7 then g3 f (i+1)else 0) (fun i _=>by have:=hg i;have:=hg (i+1);by_cases h:i<7<;>simp[h]<;>omega)
 have e6:=zew (k:=8) (j:=4) (n:=4) (g:=fun i=>(g3 f i+if i<7 then g3 f (i+1)else 0)+if i<6 then(g3 f (i+2)+if i+2<7 then g3 f (i+2+1)else 0)else 0) (fun i _=>by
  have:=hg i;have:=hg (i+1);have:=hg (i+2);have:=hg (i+2+1)
  by_cases h:i<7<;>by_cases h':i<6<;>by_cases h'':i+2<7<;>simp[h,h',h'']<;>omega)
 simp only[show(2:Nat)^(8*1)=256 from rfl]at e4
 simp only[show(2:Nat)^(8*2)=65536 from rfl]at e5
 simp only[show(2:Nat)^(8*4)=4294967296 from rfl]at e6
 simp only[show(7+1:Nat)=8 from rfl]at e4
 simp only[show(6+2:Nat)=8 from rfl]at e5
 simp only[show(4+4:Nat)=8 from rfl]at e6
 simp only[e4,e5,e6]
 have h127:=fB (V 8 (fun i=>((g3 f i+if i<7 then g3 f (i+1)else 0)+if i<6 then(g3 f (i+2)+if i+2<7 then g3 f (i+2+1)else 0)else 0)+if i<4 then((g3 f (i+4)+if i+4<7 then g3 f (i+4+1)else 0)+if i+4<6 then(g3 f (i+4+2)+if i+4+2<7 then g3 f (i+4+2+1)else 0)else 0)else 0) 8) 7
 rw[show(2:Nat)^7 - 1=127 from rfl]at h127
 rw[h127]
 rw[show(8:Nat)=7+1 from rfl,V]
 rw[show(2:Nat)^(7+1)=2^7*2 from rfl,Nat.mul_assoc,Nat.add_mul_mod_self_left]
 have:=hg 0;have:=hg 1;have:=hg 2;have:=hg 3;have:=hg 4;have:=hg 5;have:=hg 6;have:=hg 7
 simp only[aJ,show(0:Nat)<7 from dQ,show(0:Nat)<6 from dQ,show(2:Nat)<7 from dQ,show(0:Nat)<4 from dQ,show(4:Nat)<7 from dQ,show(4:Nat)<6 from dQ,show(4+2:Nat)<7 from dQ,if_true,Nat.reduceAdd]
 rw[bC (by simp only[show(2:Nat)^7=128 from rfl];omega)]
 clear e4 e5 e6 h127
 simp only[cnt,g3,g2,g1,Nat.reduceMul,Nat.reduceAdd]
 omega
theorem qjw(f:Nat→Bool):num f 64<18446744073709551616∧qji (num f 64)<18446744073709551616∧qj8 (qji (num f 64))<18446744073709551616∧qj8 (qji (num f 64))/16+qj8 (qji (num f 64))<18446744073709551616∧qub (qj8 (qji (num f 64)))<18446744073709551616∧qul (qub (qj8 (qji (num f 64))))<18446744073709551616∧quy (qul (qub (qj8 (qji (num f 64)))))<18446744073709551616∧qu5 (quy (qul (qub (qj8 (qji (num f 64))))))<18446744073709551616:=by
 have hg:=quv f
 unfold qul quy qu5
 rw[qqb,qqd,qqg]
 have e4:=zew (k:=8) (j:=1) (n:=7) (g:=g3 f) (fun i _=>cL (hg i) dQ)
 have e5:=zew (k:=8) (j:=2) (n:=6) (g:=fun i=>g3 f i+if i<7 then g3 f (i+1)else 0) (fun i _=>by have:=hg i;have:=hg (i+1);by_cases h:i<7<;>simp[h]<;>omega)
 have e6:=zew (k:=8) (j:=4) (n:=4) (g:=fun i=>(g3 f i+if i<7 then g3 f (i+1)else 0)+if i<6 then(g3 f (i+2)+if i+2<7 then g3 f (i+2+1)else 0)else 0) (fun i _=>by
  have:=hg i;have:=hg (i+1);have:=hg (i+2);have:=hg (i+2+1)
  by_cases h:i<7<;>by_cases h':i<6<;>by_cases h'':i+2<7<;>simp[h,h',h'']<;>omega)
 simp only[show(2:Nat)^(8*1)=256 from rfl]at e4
 simp only[show(2:Nat)^(8*2)=65536 from rfl]at e5
 simp only[show(2:Nat)^(8*4)=4294967296 from rfl]at e6
 simp only[show(7+1:Nat)=8 from rfl]at e4
 simp only[show(6+2:Nat)=8 from rfl]at e5
 simp only[show(4+4:Nat)=8 from rfl]at e6
 simp only[e4,e5,e6]
 have b3:V 4 (g2 f) 16/16+V 4 (g2 f) 16<18446744073709551616:=by
  have h0:g2 f 0<2^4:=cL (zup f 0) dQ
  have hs:=zoa (k:=4) (g:=g2 f) 15 h0
  simp only[show(2:Nat)^4=16 from rfl,show(15+1:Nat)=16 from rfl]at hs
  rw[hs]
  exact qun (k:=4) (n:=16) fun i _=>by
   have:=zup f i;have:=zup f (i+1)
   by_cases h:i<15<;>simp[h]<;>omega
 refine⟨qb4 f 64,qun (k:=2) (n:=32) fun i _=>cL (qtw f i) dQ,qun (k:=4) (n:=16) fun i _=>cL (zup f i) dQ,b3,qun (k:=8) (n:=8) fun i _=>cL (quv f i) dQ,qun (k:=8) (n:=8) fun i _=>?_,qun (k:=8) (n:=8) fun i _=>?_,qun (k:=8) (n:=8) fun i _=>?_⟩
 ·have:=hg i;have:=hg (i+1);by_cases h:i<7<;>simp[h]<;>omega
 ·have:=hg i;have:=hg (i+1);have:=hg (i+2);have:=hg (i+2+1)
  by_cases h:i<7<;>by_cases h':i<6<;>by_cases h'':i+2<7<;>simp[h,h',h'']<;>omega
 ·have:=hg i;have:=hg (i+1);have:=hg (i+2);have:=hg (i+2+1);have:=hg (i+4);have:=hg (i+4+1);have:=hg (i+4+2);have:=hg (i+4+2+1)
  have s1:(if i<7 then g3 f (i+1)else 0)≤8:=by split<;>omega
  have s2:(if i+2<7 then g3 f (i+2+1)else 0)≤8:=by split<;>omega
  have s3:(if i<6 then g3 f (i+2)+(if i+2<7 then g3 f (i+2+1)else 0)else 0)≤16:=by split<;>omega
  have s4:(if i+4<7 then g3 f (i+4+1)else 0)≤8:=by split<;>omega
  have s5:(if i+4+2<7 then g3 f (i+4+2+1)else 0)≤8:=by split<;>omega
  have s6:(if i+4<6 then g3 f (i+4+2)+(if i+4+2<7 then g3 f (i+4+2+1)else 0)else 0)≤16:=by split<;>omega
  have s7:(if i<4 then(g3 f (i+4)+if i+4<7 then g3 f (i+4+1)else 0)+(if i+4<6 then g3 f (i+4+2)+(if i+4+2<7 then g3 f (i+4+2+1)else 0)else 0)else 0)≤32:=by split<;>omega
  omega
theorem qn8(s:Nat)(h:x<18446744073709551616):x/2^s<18446744073709551616:=cL (eZ _ _) h
def tab64:List Nat:=[0,1,56,2,57,49,28,3,61,58,42,50,38,29,17,4,62,47,59,36,45,43,51,22,53,39,33,30,24,18,12,5,63,55,48,27,60,41,37,16,46,35,44,21,52,32,23,11,54,26,40,15,34,20,31,10,25,14,19,9,13,8,7,6]
def qcx(t:Nat):Nat:=2^t*285870213051353865%18446744073709551616/2^58
theorem qrr:∀t,t<64→qcx t<64∧tab64.getD (qcx t) 0=t:=by decide+kernel
theorem qnj{t:Nat}(hx:x<18446744073709551616)(ht:x.testBit t=true)(hl:∀j,j<t→x.testBit j=false):x&&& (18446744073709551616 - x)=2^t:=by
 have ht64:t<64:=by
  rcases gG t 64 with h|h
  ·exact h
  ·have:x.testBit t=false:=fR (aW hx (dK (n:=2) (i:=64) dQ h))
   rw[this]at ht;cases ht
 have hmod:x%2^(t+1)=2^t:=eX fun j=>by
  rw[Nat.testBit_mod_two_pow,iO]
  by_cases h1:j<t
  ·simp[hl j h1];omega
  ·by_cases h2:j=t
   ·subst h2;simp[ht]
   ·simp[show¬j<t+1 by omega];omega
 have hq:=Nat.mod_add_div x (2^(t+1))
 rw[hmod]at hq
 generalize hqq:x/2^(t+1)=q at hq
 obtain⟨m,hm⟩:∃m,64=t+1+m:=⟨64 - (t+1),oQ⟩
 have h64:(18446744073709551616:Nat)=2^(t+1)*2^m:=by rw[←jT,←hm]
 have hqm:q<2^m:=by
  rw[←hqq]
  exact Nat.div_lt_of_lt_mul (by rw[←h64];exact hx)
 have e:18446744073709551616 - x=2^t+2^(t+1)*(2^m - (q+1)):=by
  have e2:2^(t+1)=2^t+2^t:=by rw[gS];omega
  obtain⟨r,hr⟩:∃r,2^m=q+1+r:=⟨2^m - (q+1),oQ⟩
  rw[h64,hr,←hq,show q+1+r - (q+1)=r by omega]
  rw[fU,fU]
  omega
 have hlt:2^t<2^(t+1):=jU dQ oQ
 conv=>lhs;lhs;rw[←hq]
 rw[e,qfb (t+1) (2^t) q (2^t) (2^m - (q+1)) hlt hlt,Nat.and_self]
 have:q&&& (2^m - (q+1))=0:=eX fun j=>by
  rw[lG,Nat.testBit_two_pow_sub_succ hqm]
  cases q.testBit j<;>simp
 rw[this];simp
theorem qb3(S:Nat→Bool)(k j:Nat)(hj:j<64):(18446744073709551615^^^zrd S k).testBit j= !S (64*k+j):=by
 rw[Nat.testBit_xor,zix,zj4 S k j hj];simp[hj]
variable{S:Nat→Bool}
theorem qi1(h:∀j,j<64→S (64*k+j)=true):zrd S k=18446744073709551615:=eX fun j=>by
 rw[zix]
 unfold zrd
 rw[zc4]
 by_cases hj:j<64
 ·simp[hj,h j hj]
 ·simp[hj]
theorem zyx(hj:j<64)(h:S (64*k+j)=false):zrd S k≠18446744073709551615:=fun e=>by
 have:=zj4 S k j hj
 rw[e,h,zix]at this
 simp[hj]at this
def zd3(S:Nat→Bool)(k:Nat):Nat→Bool:=fun i=>decide (i<k)&&S i
theorem qnl(S:Nat→Bool)(k:Nat)(h:S k=true):byte (zd3 S k) (k/8)|||2^(k%8)=byte (zd3 S (k+1)) (k/8):=eX fun i=>by
 rw[lL,iO]
 unfold byte
 rw[zc4,zc4]
 unfold zd3
 by_cases hi:i<8
 ·by_cases e:8*(k/8)+i=k
  ·have:k%8=i:=oQ
   simp[e,h,this,hi]
  ·have h1:¬k%8=i:=oQ
   by_cases h2:8*(k/8)+i<k
   ·simp[h1,h2,eS h2]
   ·simp only[h1,h2,decide_false,eI,lH,Bool.or_false,show¬8*(k/8)+i<k+1 by omega]
 ·simp[hi];omega
theorem zwp(S:Nat→Bool)(k j:Nat)(h:j≠k/8∨S k=false):byte (zd3 S (k+1)) j=byte (zd3 S k) j:=zxx fun i hi=>by
 unfold zd3
 by_cases e:8*j+i=k
 ·rcases h with h|h
  ·omega
  ·rw[e,h];simp
 ·by_cases h2:8*j+i<k
  ·simp[h2,eS h2]
  ·simp only[h2,decide_false,eI,show¬8*j+i<k+1 by omega]
theorem zys(S:Nat→Bool)(k j:Nat)(hj:j<8):(byte S k).testBit j=S (8*k+j):=by
 unfold byte;rw[zc4];simp[hj]
end Go.Eng.Bm
namespace Go.Proofs.YthafakdplhdfjaaGreatDoor
open Go.RowKit Go.Eng Go.Eng.Bm
theorem zx4(c:Array Value)(n i:Int)(w:World)(hc:c[0]? =some (.int .i64 n)):
  Pu Tryz.prog 177 #[.agg c,.int .i64 i] w (.bool (decide (0≤i)&&decide (i<n))):=by
 refine zbn [_,_] Tryz.func177 rfl rfl ?_
 simp only[zaa,Nat.reduceAdd]
 refine goA ?_
 refine zbp rfl rfl fun b hb=>?_
 refine goA ?_
 refine qof 7 _ rfl (fun h=>?_) (fun h=>?_)
 ·refine goA ?_
  refine l_w rfl ((zc5 rfl rfl (.head _) hc)) ?_
  refine goA ?_
  refine zdk rfl rfl ?_
  simp only[ge_iff_le]at h;rw[h];rfl
 ·refine goA ?_
  refine zdk rfl rfl ?_
  simp only[ge_iff_le]at h;rw[h];rfl
theorem qo0(c:Array Value)(n i:Int)(u:Bool)(w:World)(hc:c[0]? =some (.int .i64 n))(hs:c.size=17)(h1:zb7 c.toList=true)(hi:(decide (0≤i)&&decide (i<n))=false):
  Pu Tryz.prog 124 #[.agg c,.int .i64 i,.bool u] w (.agg c):=by
 refine zbn [_,_,_] Tryz.func124 rfl rfl ?_
 simp only[zaa,Nat.reduceAdd]
 refine goA ?_
 refine zbp rfl rfl fun b hb=>?_
 refine goA ?_
 refine zam rfl rfl fun r hr=>?_
 refine goA ?_
 refine l_w rfl ((zcw rfl (by rw[hs];rfl) (.tail _ (.head _)))) ?_
 refine goA ?_
 refine lPu rfl (fun w _=>zx4 c n i w hc) ?_
 refine zd2 9 _ (.bool false) rfl (by rw[hi]) ?_
 refine goA ?_
 refine l_w rfl ((zcw rfl (by rw[hs];rfl) (.tail _ (.head _)))) ?_
 refine za1 rfl (zaf rfl rfl rfl (by rw[hs];rfl) h1 hs) fun _=>?_
 refine goA ?_
 exact zdk rfl ⟨_,rfl,zaq (by rw[hs];rfl) (.head _)⟩ rfl
theorem qrj(c:Array Value)(n k:Nat)(u:Bool)(w:World)(hc:c[0]? =some (.int .i64 n))(hs:c.size=17)(h1:zb7 c.toList=true)(hi:k<n)(hn:n≤1024)(x:Nat)(hx:c[1+k/64]? =some (.int .u64 x))(hx2:x<18446744073709551616):
  Pu Tryz.prog 124 #[.agg c,.int .i64 k,.bool u] w (.agg (c.setIfInBounds (1+k/64) (.int .u64 (qp2 x (k%64) u)))):=by
 refine zbn [_,_,_] Tryz.func124 rfl rfl ?_
 simp only[zaa,Nat.reduceAdd]
 refine goA ?_
 refine zbp rfl rfl fun b hb=>?_
 refine goA ?_
 refine zam rfl rfl fun r hr=>?_
 refine goA ?_
 refine l_w rfl ((zcw rfl (by rw[hs];rfl) (.tail _ (.head _)))) ?_
 refine goA ?_
 refine lPu rfl (fun w _=>zx4 c n k w hc) ?_
 refine zd2 9 _ (.bool true) rfl (by simp;omega) ?_
 refine goA ?_
 refine qct 11 kQ (fun _ h=>h.drew) ?_
 have hk:k/64<16:=oQ
 have hp:2^(k%64)<18446744073709551616:=qrg oQ
 have hpe:1*2^(k%64)%18446744073709551616=2^(k%64):=by rw[jS,bC hp]
 (repeat first|(apply d_w [8] rfl rfl rfl kQ (fun _ h=>h);focus (first|exact zi4 rfl|exact zgm rfl|exact qit rfl rfl|exact ze2 rfl rfl|exact zea rfl rfl|exact zhv rfl rfl|exact zmm rfl rfl|exact zgn rfl rfl|exact qlq rfl|exact zgo rfl rfl (by repeat first|exact .head _|apply List.Mem.tail) |exact zc5 rfl rfl (by repeat first|exact .head _|apply List.Mem.tail) rfl|exact zcw rfl rfl (by repeat first|exact .head _|apply List.Mem.tail) |exact zv3 rfl rfl rfl|((first|refine qjf rfl rfl ?_ |refine zra rfl rfl rfl ?_ |refine zv4 rfl rfl rfl ?_ |refine qlv rfl rfl rfl ?_ |refine qlt rfl rfl rfl ?_ |refine qlu rfl rfl rfl ?_ |refine v_sFT rfl rfl rfl rfl ?_ |refine qlp rfl rfl rfl rfl ?_ |refine qlo rfl rfl rfl ?_ |refine qln rfl rfl rfl ?_);first|omega|assumption) |exact qls rfl rfl cQ|exact qlr rfl rfl cQ|exact v_pickB rfl rfl rfl)) |refine qez [8] rfl rfl rfl kQ (fun _ h=>h) ?_ |refine d_T [8] rfl rfl rfl rfl cQ ?_ |refine d_F [8] rfl rfl rfl rfl cQ ?_)
 refine d_v [] rfl rfl kQ (fun _ h=>h) rfl rfl (zc5 rfl rfl (.tail _ (.head _)) hx) ?_
 (repeat first|(apply d_w [8] rfl rfl rfl kQ (fun _ h=>h);focus (first|exact zi4 rfl|exact zgm rfl|exact qit rfl rfl|exact ze2 rfl rfl|exact zea rfl rfl|exact zhv rfl rfl|exact zmm rfl rfl|exact zgn rfl rfl|exact qlq rfl|exact zgo rfl rfl (by repeat first|exact .head _|apply List.Mem.tail) |exact zc5 rfl rfl (by repeat first|exact .head _|apply List.Mem.tail) rfl|exact zcw rfl rfl (by repeat first|exact .head _|apply List.Mem.tail) |exact zv3 rfl rfl rfl|((first|refine qjf rfl rfl ?_ |refine zra rfl rfl rfl ?_ |refine zv4 rfl rfl rfl ?_ |refine qlv rfl rfl rfl ?_ |refine qlt rfl rfl rfl ?_ |refine qlu rfl rfl rfl ?_ |refine v_sFT rfl rfl rfl rfl ?_ |refine qlp rfl rfl rfl rfl ?_ |refine qlo rfl rfl rfl ?_ |refine qln rfl rfl rfl ?_);first|omega|assumption) |exact qls rfl rfl cQ|exact qlr rfl rfl cQ|exact v_pickB rfl rfl rfl)) |refine qez [8] rfl rfl rfl kQ (fun _ h=>h) ?_ |refine d_T [8] rfl rfl rfl rfl cQ ?_ |refine d_F [8] rfl rfl rfl rfl cQ ?_)
 simp only[hpe]
 refine d_v [] rfl rfl kQ (fun _ h=>h) rfl rfl (qev rfl rfl hx2 hp) ?_
 (repeat refine d_ ?_)
 refine zet ⟨kQ,kQ⟩ rfl rfl (zah (zcg _ _ _) (zai rfl rfl rfl rfl rfl rfl oQ)) fun _=>?_
 have hs':∀v,(c.setIfInBounds (1+k/64) v).size=17:=fun v=>by simp[hs]
 have hx':∀v:Value,(c.setIfInBounds (1+k/64) v)[1+k/64]? =some v:=fun v=>Array.getElem?_setIfInBounds_self_of_lt oQ
 have h1':∀y:Nat,zb7 (c.setIfInBounds (1+k/64) (.int .u64 y)).toList=true:=fun y=>by
  rw[zba]at h1⊢
  intro v hv
  rcases Array.mem_or_eq_of_mem_setIfInBounds (Array.mem_toList_iff.1 hv)with h|h
  ·exact h1 v (Array.mem_toList_iff.2 h)
  ·rw[h];rfl
 refine goA ?_
 refine zq2 u rfl rfl (fun h=>?_) (fun h=>?_)
 ·refine goA ?_
  refine qct 11 kQ (fun _ h=>h.drew) ?_
  (repeat first|(apply d_w [8] rfl rfl rfl kQ (fun _ h=>h);focus (first|exact zi4 rfl|exact zgm rfl|exact qit rfl rfl|exact ze2 rfl rfl|exact zea rfl rfl|exact zhv rfl rfl|exact zmm rfl rfl|exact zgn rfl rfl|exact qlq rfl|exact zgo rfl rfl (by repeat first|exact .head _|apply List.Mem.tail) |exact zc5 rfl rfl (by repeat first|exact .head _|apply List.Mem.tail) rfl|exact zcw rfl rfl (by repeat first|exact .head _|apply List.Mem.tail) |exact zv3 rfl rfl rfl|((first|refine qjf rfl rfl ?_ |refine zra rfl rfl rfl ?_ |refine zv4 rfl rfl rfl ?_ |refine qlv rfl rfl rfl ?_ |refine qlt rfl rfl rfl ?_ |refine qlu rfl rfl rfl ?_ |refine v_sFT rfl rfl rfl rfl ?_ |refine qlp rfl rfl rfl rfl ?_ |refine qlo rfl rfl rfl ?_ |refine qln rfl rfl rfl ?_);first|omega|assumption) |exact qls rfl rfl cQ|exact qlr rfl rfl cQ|exact v_pickB rfl rfl rfl)) |refine qez [8] rfl rfl rfl kQ (fun _ h=>h) ?_ |refine d_T [8] rfl rfl rfl rfl cQ ?_ |refine d_F [8] rfl rfl rfl rfl cQ ?_)
  refine d_v [] rfl rfl kQ (fun _ h=>h) rfl rfl (zc5 rfl rfl (.head _) (hx' _)) ?_
  (repeat first|(apply d_w [8] rfl rfl rfl kQ (fun _ h=>h);focus (first|exact zi4 rfl|exact zgm rfl|exact qit rfl rfl|exact ze2 rfl rfl|exact zea rfl rfl|exact zhv rfl rfl|exact zmm rfl rfl|exact zgn rfl rfl|exact qlq rfl|exact zgo rfl rfl (by repeat first|exact .head _|apply List.Mem.tail) |exact zc5 rfl rfl (by repeat first|exact .head _|apply List.Mem.tail) rfl|exact zcw rfl rfl (by repeat first|exact .head _|apply List.Mem.tail) |exact zv3 rfl rfl rfl|((first|refine qjf rfl rfl ?_ |refine zra rfl rfl rfl ?_ |refine zv4 rfl rfl rfl ?_ |refine qlv rfl rfl rfl ?_ |refine qlt rfl rfl rfl ?_ |refine qlu rfl rfl rfl ?_ |refine v_sFT rfl rfl rfl rfl ?_ |refine qlp rfl rfl rfl rfl ?_ |refine qlo rfl rfl rfl ?_ |refine qln rfl rfl rfl ?_);first|omega|assumption) |exact qls rfl rfl cQ|exact qlr rfl rfl cQ|exact v_pickB rfl rfl rfl)) |refine qez [8] rfl rfl rfl kQ (fun _ h=>h) ?_ |refine d_T [8] rfl rfl rfl rfl cQ ?_ |refine d_F [8] rfl rfl rfl rfl cQ ?_)
  simp only[hpe]
  refine d_v [] rfl rfl kQ (fun _ h=>h) rfl rfl (qr0 rfl rfl (qqk _ hx2) hp) ?_
  (repeat refine d_ ?_)
  refine zet ⟨kQ,kQ⟩ rfl rfl (zai rfl rfl rfl rfl rfl rfl (by rw[hs'];omega)) fun _=>?_
  refine goA ?_
  rw[Array.setIfInBounds_setIfInBounds]
  refine l_w rfl ((zcw rfl (by rw[hs'];rfl) (.head _))) ?_
  refine za1 rfl (zah (zcg _ _ _) (zaf rfl rfl rfl (by rw[hs'];rfl) (h1' _) (hs' _))) fun _=>?_
  refine goA ?_
  exact zdk rfl ⟨_,rfl,zaq (by rw[hs'];rfl) (.head _)⟩ (by rw[h];rfl)
 ·refine goA ?_
  refine l_w rfl ((zcw rfl (by rw[hs'];rfl) (.head _))) ?_
  refine za1 rfl (zah (zcg _ _ _) (zaf rfl rfl rfl (by rw[hs'];rfl) (h1' _) (hs' _))) fun _=>?_
  refine goA ?_
  exact zdk rfl ⟨_,rfl,zaq (by rw[hs'];rfl) (.head _)⟩ (by rw[h];rfl)
def qq9(n:Nat)(S:Nat→Bool):List Value:=.int .i64 n::(List.range 16).map (fun k=>.int .u64 (zrd S k))
def zif(n:Nat)(S:Nat→Bool):Array Value:=(qq9 n S).toArray
theorem za6(n:Nat)(S:Nat→Bool):(zif n S).size=17:=by simp[zif,qq9]
theorem zpy(n:Nat)(S:Nat→Bool):(zif n S)[0]? =some (.int .i64 n):=by simp[zif,qq9]
variable{k:Nat}
theorem zm0(n:Nat)(S:Nat→Bool)(hk:k<16):(zif n S)[1+k]? =some (.int .u64 (zrd S k)):=by
 simp only[zif,qq9,fF]
 rw[fQ,gA,aN,eQ hk]
 rfl
theorem zey(n:Nat)(S:Nat→Bool):zb7 (zif n S).toList=true:=by
 rw[zba]
 intro v hv
 simp only[zif,qq9,aK,aT]at hv
 rcases hv with rfl|⟨_,_,rfl⟩<;>rfl
theorem qkq(n:Nat)(S:Nat→Bool)(u:Bool)(hk:k<1024):(zif n S).setIfInBounds (1+k/64) (.int .u64 (qp2 (zrd S (k/64)) (k%64) u))=zif n (upd S k u):=by
 refine iA fun i=>?_
 rw[jV]
 have h16:k/64<16:=oQ
 have hw:qp2 (zrd S (k/64)) (k%64) u=zrd (upd S k u) (k/64):=by
  rw[qid _ _ _ _ oQ,show 64*(k/64)+k%64=k by omega]
 by_cases e:1+k/64=i
 ·subst e
  rw[if_pos rfl,if_pos (by rw[za6];omega),zm0 _ _ h16,hw]
 ·rw[if_neg e]
  by_cases h0:i=0
  ·subst h0;rw[zpy,zpy]
  ·by_cases h17:i<17
   ·obtain⟨q,rfl⟩:∃q,i=1+q:=⟨i - 1,oQ⟩
    rw[zm0 _ _ oQ,zm0 _ _ oQ,zr6 _ _ _ _ oQ]
   ·rw[dR (by rw[za6];omega),dR (by rw[za6];omega)]
theorem qg4:zif 0 (fun _=>false)= #[.int .i64 0,.int .u64 0,.int .u64 0,.int .u64 0,.int .u64 0,.int .u64 0,.int .u64 0,.int .u64 0,.int .u64 0,.int .u64 0,.int .u64 0,.int .u64 0,.int .u64 0,.int .u64 0,.int .u64 0,.int .u64 0,.int .u64 0]:=by rfl
def onB(n:Nat)(i:Int):Bool:=decide (0≤i)&&decide (i<n)
def qe5(n:Nat)(S:Nat→Bool)(i:Int)(u:Bool):Nat→Bool:=bif onB n i then upd S i.toNat u else S
theorem zm2(n:Nat)(S:Nat→Bool)(i:Int)(u:Bool)(hn:n≤1024)(w:World):
  Pu Tryz.prog 124 #[.agg (zif n S),.int .i64 i,.bool u] w (.agg (zif n (qe5 n S i u))):=by
 by_cases h:onB n i=true
 ·have h':=h
  simp only[onB,bJ,decide_eq_true_eq]at h'
  obtain⟨k,rfl⟩:=iY h'.1
  have:=qrj (zif n S) n k u w (zpy n S) (za6 n S) (zey n S) oQ hn (zrd S (k/64)) (zm0 n S oQ) (qa4 S _)
  rw[qkq n S u oQ]at this
  simp only[qe5,h,cond_true,cC]
  exact this
 ·have h:onB n i=false:=by simpa using h
  have:=qo0 (zif n S) n i u w (zpy n S) (za6 n S) (zey n S) h
  simp only[qe5,h,cond_false]
  exact this
theorem qg6(n:Nat)(h:1≤n)(h':n≤1024)(w:World):Pu Tryz.prog 122 #[.int .i64 n] w (.tuple #[.agg (zif n (fun _=>false)),.int .i64 0]):=by
 refine zbn [_] Tryz.func122 rfl rfl ?_
 simp only[zaa]
 refine goA ?_
 refine zam rfl rfl fun b hb=>?_
 refine goA ?_
 refine za1 rfl (zaf rfl rfl rfl rfl rfl rfl) fun _=>?_
 refine goA ?_
 exact zie rfl ⟨_,rfl,zaq rfl (.head _)⟩ rfl rfl
theorem qjp(S:Nat→Bool)(k:Nat):Value.bool (((zrd S (k/64)/2^(k%64)%2:Nat):Int)==1)= .bool (S k):=by
 have h:=zj4 S (k/64) (k%64) oQ
 rw[show 64*(k/64)+k%64=k by omega,jI]at h
 rw[←h]
 congr 1
 rw[eA]
 simp only[beq_iff_eq,decide_eq_true_eq]
 generalize zrd S (k/64)/2^(k%64)=q
 omega
theorem qn7(n:Nat)(S:Nat→Bool)(i:Int)(h:onB n i=false)(w:World):Pu Tryz.prog 150 #[.agg (zif n S),.int .i64 i] w (.bool true):=by
 refine zbn [_,_] Tryz.func150 rfl rfl ?_
 simp only[zaa,Nat.reduceAdd]
 refine goA ?_
 refine zbp rfl rfl fun b hb=>?_
 refine goA ?_
 refine lPu rfl (fun w _=>zx4 _ n i w (zpy n S)) ?_
 refine zd2 7 _ (.bool false) rfl (congrArg Value.bool h) ?_
 refine goA ?_
 exact zdk rfl rfl rfl
theorem qmg(n:Nat)(S:Nat→Bool)(k:Nat)(h:k<n)(hn:n≤1024)(w:World):Pu Tryz.prog 150 #[.agg (zif n S),.int .i64 k] w (.bool (S k)):=by
 refine zbn [_,_] Tryz.func150 rfl rfl ?_
 simp only[zaa,Nat.reduceAdd]
 refine goA ?_
 refine zbp rfl rfl fun b hb=>?_
 refine goA ?_
 refine lPu rfl (fun w _=>zx4 _ n k w (zpy n S)) ?_
 refine zd2 7 _ (.bool true) rfl (by simp;omega) ?_
 have hk:k/64<16:=oQ
 refine goA ?_
 refine l_w rfl ((zc5 rfl rfl (.head _) (zm0 n S hk))) ?_
 refine goA ?_
 refine l_w rfl (qir rfl rfl) ?_
 refine goA ?_
 refine zdk rfl rfl ?_
 rw[qjp S k]
def qn6(n:Nat)(S:Nat→Bool)(i:Int):Bool:= !onB n i||S i.toNat
theorem zsu(n:Nat)(S:Nat→Bool)(i:Int)(hn:n≤1024)(w:World):Pu Tryz.prog 150 #[.agg (zif n S),.int .i64 i] w (.bool (qn6 n S i)):=by
 by_cases h:onB n i=true
 ·have h':=h
  simp only[onB,bJ,decide_eq_true_eq]at h'
  obtain⟨k,rfl⟩:=iY h'.1
  have:=qmg n S k oQ hn w
  simp only[qn6,h,Bool.not_true,iP,cC]
  exact this
 ·have h:onB n i=false:=by simpa using h
  have:=qn7 n S i h w
  simp only[qn6,h,lI,Bool.true_or]
  exact this
theorem qh9(f:Nat→Bool)(w:World):Pu Tryz.prog 151 #[.int .u64 (num f 64)] w (.int .i64 (cnt f 64)):=by
 obtain⟨b0,b1,b2,b3,b4,b5,b6,b7⟩:=qjw f
 have hp:=quz f
 unfold pop at hp
 generalize hx0:num f 64=x0 at*
 refine zbn [_] Tryz.func151 rfl rfl ?_
 simp only[zaa]
 refine zr5 (zkr ?_)
 (repeat (apply l_w rfl;focus (first|exact zi4 rfl|exact zgm rfl|exact qlw rfl rfl dQ|exact zko rfl rfl aQ|exact zrk rfl rfl aQ)))
 refine zu3 (zka (zr5 (zkr ?_)))
 have c0:=qn8 1 b0
 have d0:(x0/2^1&&& 6148914691236517205)+(x0&&& 6148914691236517205)<18446744073709551616:=b1
 (repeat (apply l_w rfl;focus (first|exact zi4 rfl|exact zgm rfl|exact qlw rfl rfl dQ|exact zko rfl rfl aQ|exact zrk rfl rfl aQ)))
 refine zd2 0 _ (.int .u64 (qji x0)) rfl rfl ?_
 generalize qji x0=x1 at*
 refine zu3 (zka (zr5 (zkr ?_)))
 have c1:=qn8 2 b1
 have d1:(x1/2^2&&& 3689348814741910323)+(x1&&& 3689348814741910323)<18446744073709551616:=b2
 (repeat (apply l_w rfl;focus (first|exact zi4 rfl|exact zgm rfl|exact qlw rfl rfl dQ|exact zko rfl rfl aQ|exact zrk rfl rfl aQ)))
 refine zd2 0 _ (.int .u64 (qj8 x1)) rfl rfl ?_
 generalize qj8 x1=x2 at*
 refine zu3 (zka (zr5 (zkr ?_)))
 have d2:x2/2^4+x2<18446744073709551616:=b3
 (repeat (apply l_w rfl;focus (first|exact zi4 rfl|exact zgm rfl|exact qlw rfl rfl dQ|exact zko rfl rfl aQ|exact zrk rfl rfl aQ)))
 refine zd2 0 _ (.int .u64 (qub x2)) rfl rfl ?_
 generalize qub x2=x3 at*
 refine zu3 (zka (zr5 (zkr ?_)))
 have d3:x3+x3/2^8<18446744073709551616:=b5
 (repeat (apply l_w rfl;focus (first|exact zi4 rfl|exact zgm rfl|exact qlw rfl rfl dQ|exact zko rfl rfl aQ|exact zrk rfl rfl aQ)))
 refine zd2 0 _ (.int .u64 (qul x3)) rfl rfl ?_
 generalize qul x3=x4 at*
 refine zu3 (zka (zr5 (zkr ?_)))
 have d4:x4+x4/2^16<18446744073709551616:=b6
 (repeat (apply l_w rfl;focus (first|exact zi4 rfl|exact zgm rfl|exact qlw rfl rfl dQ|exact zko rfl rfl aQ|exact zrk rfl rfl aQ)))
 refine zd2 0 _ (.int .u64 (quy x4)) rfl rfl ?_
 generalize quy x4=x5 at*
 refine zu3 (zka (zr5 (zkr ?_)))
 have d5:x5+x5/2^32<18446744073709551616:=b7
 (repeat (apply l_w rfl;focus (first|exact zi4 rfl|exact zgm rfl|exact qlw rfl rfl dQ|exact zko rfl rfl aQ|exact zrk rfl rfl aQ)))
 refine zd2 0 _ (.int .u64 (qu5 x5)) rfl rfl ?_
 generalize qu5 x5=x6 at*
 refine zu3 (zka (zr5 (zkr ?_)))
 refine l_w rfl ((zi4 rfl)) ?_
 refine l_w rfl ((ov fun _ _ _ _ _=>rfl)) ?_
 refine l_w rfl ((zwf (ov fun _ _ _ _ _=>rfl) (congrArg (Value.int .i64) (qdf x6 7 dQ)))) ?_
 refine goA ?_
 exact zdk rfl rfl (by rw[←hp])
end Go.Proofs.YthafakdplhdfjaaGreatDoor
