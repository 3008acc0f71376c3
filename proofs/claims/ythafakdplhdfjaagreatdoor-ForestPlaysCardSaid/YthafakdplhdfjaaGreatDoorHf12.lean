/- Parts: The plain law of the store; tree; Deferred calls; Panics; Own rows turned in place; slices. No condition. -/
import Derived.Test.YthafakdplhdfjaaGreatDoorHf11
import Derived.Test.YthafakdplhdfjaaGreatDoorHf05
import Derived.Test.YthafakdplhdfjaaGreatDoorHf07
import Derived.Test.YthafakdplhdfjaaGreatDoorHf02
import Derived.Recover
import Derived.Test.YthafakdplhdfjaaGreatDoorHf09
import Derived.Lib.SliceRun
import Derived.Lib.Overlaps
import Derived.Lib.AppendZerosOnto
import Derived.Test.YthafakdplhdfjaaGreatDoorHf03
set_option maxRecDepth 100000
set_option maxHeartbeats 40000000
namespace Go.Proofs.YthafakdplhdfjaaGreatDoor
open Go.Eng.Bm
open Go.Eng
structure StX (s:Pg) (D:Dsk) (n secs:Nat) (note:Bys) (V:List Bys) (C:PR) (B:Nat):Prop where
 st:StV s D n secs note V B
 eC:∀i,C.lookup i=s.C.lookup i
 hCn:(C.map (·.1)).Nodup
 keep:D.keep.length≤1000000
 p0:∃S,zy6 n (V.getD 0 []) S
 c0:∀b,s.C.lookup 0=some b→∃S,zy6 n b S
theorem qb2{A:PR}(hn:(A.map (·.1)).Nodup){p:Nat×Bys}(hp:p∈A):A.lookup p.1=some p.2:=by
 induction A with
 |nil=>cases hp
 |cons q A ih=>
  rw[bG,cP]at hn
  rw[cJ]
  rcases aL.1 hp with rfl|hp
  ·simp
  ·have:p.1≠q.1:=fun h=>hn.1 (h▸aS.2 ⟨p,hp,rfl⟩)
   rw[show(p.1==q.1)=false by simpa using this]
   exact ih hn.2 hp
namespace StX
variable{s:Pg}{D:Dsk}{n secs:Nat}{note:Bys}{V:List Bys}{C:PR}{B:Nat}
theorem len(h:StX s D n secs note V C B):V.length=n:=by obtain⟨TS,h1⟩:=h.st;exact h1.siz.Vl
theorem Cok(h:StX s D n secs note V C B):C.Ok n:=fun p hp=>by
 obtain⟨TS,h1⟩:=h.st
 have:=qb2 h.hCn hp
 rw[h.eC]at this
 exact h1.Cok _ (zbt this)
theorem many(h:StX s D n secs note V C B):C.length=s.C.length:=by
 obtain⟨TS,h1⟩:=h.st
 exact qh8 h.eC h.hCn h1.Cn
theorem le(h:StX s D n secs note V C B):C.length≤n:=zz7 h.Cok h.hCn
theorem view(h:StX s D n secs note V C B)(i:Nat):ze5 V C i=ze5 V s.C i:=by unfold ze5;rw[h.eC]
theorem pageB(h:StX s D n secs note V C B){i:Nat}(hi:i<n):pageB s D i=ze5 V C i:=by
 obtain⟨TS,h1⟩:=h.st
 rw[h1.view hi,h.view]
theorem page(h:StX s D n secs note V C B){i:Nat}(hi:i<n):StX (zb1 s D i) D n secs note V C B:=by
 obtain⟨TS,h1⟩:=h.st
 exact⟨⟨TS,h1.page hi⟩,by rw[zm9];exact h.eC,h.hCn,h.keep,h.p0,by rw[zm9];exact h.c0⟩
theorem bm(h:StX s D n secs note V C B):∃S,zy6 n (ze5 V C 0) S:=by
 rw[h.view]
 unfold ze5
 cases hc:s.C.lookup 0 with
 |some b=>exact h.c0 b hc
 |none=>exact h.p0
theorem with_lookup(h:StX s D n secs note V C B)(i:Nat)(b:Bys)(j:Nat):(qpu V.length C i b).lookup j=if j=i then some b else C.lookup j:=by
 unfold qpu
 rw[zcp,zsf]
 split
 ·rfl
 ·split
  ·rfl
  ·rename_i h1 h2
   cases hc:C.lookup j with
   |none=>rfl
   |some x=>
    have:=(h.Cok _ (zbt hc)).1
    rw[h.len]at h2
    exact absurd this h2
theorem ins(h:StX s D n secs note V C B){i:Nat}{b:Bys}(hi:i<n)(hb:b.length=512)(h0:i=0→∃S,zy6 n b S):StX { s with C:=zeb s.C i b } D n secs note V (qpu V.length C i b) B:=by
 obtain⟨TS,h1⟩:=h.st
 refine⟨⟨TS,h1.ins hi hb⟩,fun j=>?_,zmx (zpj _ _),h.keep,h.p0,fun x hx=>?_⟩
 ·rw[h.with_lookup]
  show _=(zeb s.C i b).lookup j
  rw[zcp,h.eC]
 ·have hx:(zeb s.C i b).lookup 0=some x:=hx
  rw[zcp]at hx
  split at hx
  ·rename_i h2
   cases hx
   exact h0 h2.symm
  ·exact h.c0 x hx
theorem abort(h:StX s D n secs note V C B):StX { s with C:=[] } D n secs note V [] B:=by
 obtain⟨TS,h1⟩:=h.st
 exact⟨⟨TS,h1.setC (fun _ h=>nomatch h) eT⟩,fun _=>rfl,eT,h.keep,h.p0,fun b hb=>(nomatch hb)⟩
theorem over(h:StX s D n secs note V C B):zd9 V C=zd9 V s.C:=qhm h.eC
theorem over0(h:StX s D n secs note V C B)(h0:0<n):∃S,zy6 n ((zd9 V C).getD 0 []) S:=by
 rw[zx6 (by rw[h.len];exact h0)]
 exact h.bm
theorem siz(h:StX s D n secs note V C B):Siz D n secs note V:=by obtain⟨TS,h1⟩:=h.st;exact h1.siz
theorem rest(h:StX s D n secs note V C B):D.Rest:=by obtain⟨TS,h1⟩:=h.st;exact h1.rest
theorem vlen(h:StX s D n secs note V C B){i:Nat}(hi:i<n):(ze5 V C i).length=512:=by
 unfold ze5
 cases hc:C.lookup i with
 |some b=>exact(h.Cok _ (zbt hc)).2
 |none=>
  show(V.getD i []).length=512
  have hl:=h.len
  rw[aE,aB oQ]
  exact h.siz.Vs _ (aT _)
theorem ok(h:StX s D n secs note V C B):s.Ok D:=by obtain⟨TS,h1⟩:=h.st;exact h1.ok
theorem dead(h:StX s D n secs note V C B):s.dead=false:=by obtain⟨TS,h1⟩:=h.st;exact h1.dead
theorem hn(h:StX s D n secs note V C B):s.n=n:=by obtain⟨TS,h1⟩:=h.st;exact h1.hn
theorem wait(h:StX s D n secs note V C B):D.wait.length≤10000:=by rw[h.rest.wait];decide
theorem need(h:StX s D n secs note V C B)(h0:s.C≠[]):zao (tC s).length=(514*C.length+496)/497:=by
 obtain⟨TS,h1⟩:=h.st
 rw[qsx h1.Cok h0,h.many]
theorem commit(h:StX s D n secs note V C B)(hB:B+700<9223372036854775808)(hC0:s.C≠[])(hneed:(514*C.length+496)/497≤secs):
  ((cmF s D).1=0∧zig D (cmF s D).2.1∧∀x,qgt (cmF s D).2.2 x→StX (cmR s D x) (cmF s D).2.1 n secs note (zd9 V C) [] (B+601))∨
  ((cmF s D).1=4∧D.left≠none∧(Off (cmF s D).2.1 n secs note V (B+601)∨Off (cmF s D).2.1 n secs note (zd9 V C) (B+601))):=by
 have hn0:0<n:=by have:=h.siz.n1;omega
 rcases qnm h.st hB hC0 (by rw[h.need hC0];exact hneed)with ⟨e,hl,hx⟩ |⟨e,hd⟩
 ·left
  refine⟨e,hl,fun x hk=>?_⟩
  have:=hx x hk
  have hcm:(cmR s D x).C=[]:=by unfold cmR;rw[if_pos e]
  refine⟨by rw[h.over];exact this,fun i=>by rw[hcm],eT,by rw[hl.keep];exact h.keep,h.over0 hn0,fun b hb=>by rw[hcm]at hb;cases hb⟩
 ·right
  rw[←h.over]at hd
  refine⟨e,?_,?_⟩
  ·rcases hd with hd|hd
   ·exact hd.1.left
   ·exact hd.1.left
  ·exact hd.imp (fun h=>h.off) (fun h=>h.off)
end StX
end Go.Proofs.YthafakdplhdfjaaGreatDoor
namespace Go.Proofs.YthafakdplhdfjaaGreatDoor
open Go.RowKit Go.Eng Go.Eng.Bm Go.Eng.Tr
structure Tz where
 pre:List Value
 post:List Value
 ty:TypeId
 n:Nat
structure Tc where
 d:Dk
 t:Nat
 pb:Nat
 sh:Sh
 N:Nat
 secs:Nat
 note:Bys
 V:List Bys
 B:Nat
 z:Tz
abbrev Tc.o(c:Tc):Nat:=c.z.pre.length
structure Tok (c:Tc) (g:Sg) (s:Pg):Prop where
 st:StX s c.d.D c.z.n c.secs c.note c.V s.C c.B
 b:s.b=c.pb
 W:∀i,1≤i→i<c.z.n→ze5 c.V s.C i=g.W i
 S:zy6 c.z.n (ze5 c.V s.C 0) g.S
 sh:ShB c.sh
 N1:1≤c.N
 N2:c.N≤c.z.n
 n2:c.z.n≤1024
 low:∀i,c.N≤i→s.C.lookup i=none
 hi:∀i,c.N≤i→i<c.z.n→g.S i=false
variable{C:PR}
theorem StX.self'{s:Pg}{D:Dsk}{n secs:Nat}{note:Bys}{V:List Bys}{B:Nat}(h:StX s D n secs note V C B):StX s D n secs note V s.C B:=by
 obtain⟨TS,h1⟩:=h.st
 exact⟨h.st,fun _=>rfl,h1.Cn,h.keep,h.p0,h.c0⟩
namespace Tok
variable{c:Tc}{g:Sg}{s:Pg}
theorem wait(h:Tok c g s):c.d.D.wait.length≤1000000000:=by have:=h.st.wait;omega
theorem lives(h:Tok c g s):c.d.D.dead=false:=h.st.rest.live
theorem ok(h:Tok c g s):c.d.D.Ok:=h.st.siz.ok
theorem n1(h:Tok c g s):1≤c.z.n:=cH h.N1 h.N2
variable{i:Nat}
theorem pg(h:Tok c g s)(h1:1≤i)(hi:i<c.N):pageB s c.d.D i=g.W i:=by rw[h.st.pageB (aY hi h.N2)];exact h.W i h1 (aY hi h.N2)
theorem len(h:Tok c g s)(h1:1≤i)(hi:i<c.N):(g.W i).length=512:=by rw[←h.W i h1 (aY hi h.N2)];exact h.st.vlen (aY hi h.N2)
theorem page(h:Tok c g s){i:Nat}(hi:i<c.N):Tok c g (zb1 s c.d.D i):=
 ⟨(h.st.page (aY hi h.N2)).self',by rw[qhq];exact h.b,by rw[zm9];exact h.W,by rw[zm9];exact h.S,h.sh,h.N1,h.N2,h.n2,by rw[zm9];exact h.low,h.hi⟩
variable{b:Bys}
theorem qbt{N:Nat}(hi:i<N)(h:∀j,N≤j→C.lookup j=none):∀j,N≤j→(zeb C i b).lookup j=none:=fun j hj=>by
 rw[zcp,if_neg oQ]
 exact h j hj
theorem save(h:Tok c g s)(h1:1≤i)(hi:i<c.N)(hb:b.length=512):Tok c { g with W:=wr g.W i b } { s with C:=zeb s.C i b }:=by
 refine⟨(h.st.ins (aY hi h.N2) hb (fun e=>oQ)).self',h.b,fun j h3 h4=>?_,?_,h.sh,h.N1,h.N2,h.n2,qbt hi h.low,h.hi⟩
 ·show ze5 c.V (zeb s.C i b) j=wr g.W i b j
  rw[zo7]
  unfold wr
  split
  ·rfl
  ·exact h.W j h3 h4
 ·show zy6 c.z.n (ze5 c.V (zeb s.C i b) 0) g.S
  rw[zo7,if_neg oQ]
  exact h.S
theorem used(h:Tok c g s){S:Nat→Bool}(hc:zrl c.z.n S)(h0:S 0=true)(hh:∀i,c.N≤i→i<c.z.n→S i=false):Tok c { g with S:=S } { zb1 s c.d.D 0 with C:=zeb (zb1 s c.d.D 0).C 0 (bmB c.z.n S) }:=by
 have h':=h.page (i:=0) h.N1
 refine⟨(h'.st.ins h.n1 (zpb _ _) (fun _=>⟨S,rfl,hc,h0⟩)).self',h'.b,fun j h3 h4=>?_,?_,h.sh,h.N1,h.N2,h.n2,qbt h.N1 h'.low,hh⟩
 ·show ze5 c.V (zeb (zb1 s c.d.D 0).C 0 (bmB c.z.n S)) j=g.W j
  rw[zo7,if_neg oQ,zm9]
  exact h.W j h3 h4
 ·show zy6 c.z.n (ze5 c.V (zeb (zb1 s c.d.D 0).C 0 (bmB c.z.n S)) 0) S
  rw[zo7,if_pos rfl]
  exact⟨rfl,hc,h0⟩
theorem hS(h:Tok c g s):pageB s c.d.D 0=bmB s.n g.S:=by rw[h.st.pageB h.n1,h.st.hn];exact h.S.1
variable{g':Sg}
theorem drop(h:Tok c g s)(hd:zf0 c.N g i= .ok g'):Tok c g' (qdk s c.d.D g.S i false)∧i<s.n∧¬(i=0∨g.S i=false):=by
 unfold zf0 at hd
 split at hd
 ·rename_i hc
  cases hd
  refine⟨?_,by rw[h.st.hn];exact aY hc.2.1 h.N2,fun e=>?_⟩
  ·have:=h.used (S:=us g.S i false) (zws h.S.2.1 (aY hc.2.1 h.N2)) (by unfold us;rw[if_neg oQ];exact h.S.2.2) (fun j h3 h4=>by unfold us;rw[if_neg oQ];exact h.hi j h3 h4)
   unfold qdk
   rw[h.st.hn]
   exact this
  ·rcases e with e|e
   ·omega
   ·rw[hc.2.2]at e;cases e
 ·cases hd
theorem alloc(h:Tok c g s){q:Nat}(hp:zh8 c.N g= .ok (q,g')):Tok c g' (znt s c.d.D g.S q)∧q<s.n∧g.S q=false∧(∀j,j<q→g.S j=true)∧1≤q:=by
 unfold zh8 at hp
 split at hp
 ·rename_i hc
  cases hp
  obtain⟨f1,f2,f3⟩:=zjr hc
  have hq:1≤nw c.N g.S:=by
   rcases fE (nw c.N g.S)with e|e
   ·rw[e,h.S.2.2]at f1;cases f1
   ·exact e
  refine⟨?_,by rw[h.st.hn];exact aY f2 h.N2,f1,f3,hq⟩
  have h2:=(h.used (S:=us g.S (nw c.N g.S) true) (zws h.S.2.1 (aY f2 h.N2)) (by unfold us;split;rfl;exact h.S.2.2) (fun j h3 h4=>by unfold us;rw[if_neg oQ];exact h.hi j h3 h4)).save hq f2 (b:=zej) (by simp[zej])
  unfold znt
  rw[h.st.hn]
  exact h2
 ·cases hp
end Tok
end Go.Proofs.YthafakdplhdfjaaGreatDoor
namespace Go.Eng
open Go.RowKit
variable{P:Program}{Q:Exit→Act→World→Prop}{l:zav}{H:World→Prop}{ops:Array Oper}{rest:List Oper}{w0:World}{F:Nat→Prop}{m:List Item}
variable{n:Nat}{f:FuncId}{xs:List Operand}{vs:List Value}{tys:Array TypeId}{ty:TypeId}{pos:String}{after:Array Edge}
theorem zu2{ds:List Deferred}(hk:zec l (.defer ⟨.value (.func f),xs.toArray,tys⟩)=true)(hx:evs l xs=some vs)
  (k:HL P ops Q ⟨n,{ target:=.fn (.func f) #[],args:=vs.toArray }::ds,none⟩ rest l H):HL P ops Q ⟨n,ds,none⟩ (⟨none,.defer ⟨.value (.func f),xs.toArray,tys⟩,ty,pos,after,none⟩::rest) l H:=by
 unfold HL at*
 refine fun a w s hw=>wpListIn_plain rfl fun K hK=>⟨fun _ _=>trivial,?_⟩
 have hrun:(execOp a.eval ⟨none,.defer ⟨.value (.func f),xs.toArray,tys⟩,ty,pos,after,none⟩).run P w= .ok (.defer { target:=.fn (.func f) #[],args:=vs.toArray }) w:=by
  rw[s.exec _ (fun _ _ h=>by cases h) hk]
  simp only[execOp,resolve,Deferred.ofValue,ev,fS,zij hx]
  simp
 show Oper.uponIn _ _ _ _ _ _ _ ((Oper.semAt none a.eval _).run P w)
 rw[Oper.semAt_none,hrun,Oper.uponIn_defer]
 exact hK _ _ (k _ _ ⟨s.size,by show _::a.defers=_;rw[s.defers],s.slot⟩ hw)
variable{fn:Func}{c:Code}{R:Ending→World→Prop}
theorem qfn{w₀:World}(hf:P.funcs[f]? =some fn)(hb:fn.body=some c)(hn:Nat.ble vs.length fn.ntmps=true)(H:World→Prop)(hH:H w₀)
  (h:HT P c (bodyPostD P fn R) ⟨fn.ntmps,[],none⟩ (zaa 0 vs) H):Calls P f vs.toArray w₀ R:=by
 unfold HT at h
 exact calls_of_wp_defers hf hb (WP.wp (h _ _ (qih hn) hH))
theorem zi5(hb:za7 P f=true)(hd:∀w,Hp w0 F m w→CallsD P f vs.toArray .returning w fun e u' w'=>u'= .returning∧(∃v,e= .returned v)∧Fr none' w w')
  (h:HX (bodyPost P fn R) .ret ⟨n,[],none⟩ l (Hp w0 F m)):HX (bodyPostD P fn R) .ret ⟨n,[{ target:=.fn (.func f) #[],args:=vs.toArray }],none⟩ l (Hp w0 F m):=by
 unfold HX at*
 intro a w s hw
 show Leaves P fn a.tmps R a.defers .returning w
 rw[s.defers]
 refine leaves_cons (f:=f) (args:=vs.toArray) sQ (by simp[invoke,zdz hb]) (CallsD.mono (hd w hw) ?_)
 rintro e u' w' ⟨rfl,⟨v,rfl⟩,hf⟩
 have hq:=(h { a with defers:=[] } w' ⟨s.size,rfl,s.slot⟩ (hw.keep hf)).2
 exact hq
def qwi(v:Value):List PanicEntry:=[{ v,recovered:=false }]
def qwx:Except Value Value→Ending
 | .ok v=>.returned v
 | .error v=>.panicked (qwi v)
variable{α:Type}
def qvu(w:World)(Fc:Nat→Prop)(out:α→Except Value Value)(φ:α→Prop)(its:α→List Item):Ending→World→Prop:=fun e w'=>∃x,e=qwx (out x)∧φ x∧Its Fc w (its x) w'
def Ce(P:Program)(f:FuncId)(args:Array Value)(w:World)(Fc:Nat→Prop)(out:α→Except Value Value)(φ:α→Prop)(its:α→List Item):Prop:=Calls P f args w (qvu w Fc out φ its)
section
variable{N:Fm}
variable{args:Array Value}{φ:α→Prop}{its:α→List Item}
theorem Ce.calls{w:World}{Fc:Nat→Prop}{out:α→Except Value Value}(h:Ce P f args w Fc out φ its):Calls P f args w fun e w'=>∃x,e=qwx (out x)∧φ x∧Its Fc w (its x) w':=h
theorem qxi(vs:List Value)(pre:List Item){out:α→Except Value Value}(hf:P.funcs[f]? =some fn)(hb:fn.body=some c)(hn:Nat.ble vs.length fn.ntmps=true)
  (hp:∀it∈pre,zbq it w0) (ha:pre.Pairwise Item.Apart)
  (h:HT P c (bodyPost P fn (qvu w0 (za4 pre) out φ its)) ⟨fn.ntmps,[],none⟩ (zaa 0 vs) (Hp w0 (za4 pre) pre)):Ce P f vs.toArray w0 (za4 pre) out φ its:=
 zol hf hb hn (Hp w0 (za4 pre) pre) (.begin hp ha _ fun _ h=>h) h
theorem qfq(vs:List Value)(pre:List Item){val:α→Value}(hf:P.funcs[f]? =some fn)(hb:fn.body=some c)(hn:Nat.ble vs.length fn.ntmps=true)
  (hp:∀it∈pre,zbq it w0) (ha:pre.Pairwise Item.Apart)
  (h:HT P c (bodyPostD P fn (zjn w0 (za4 pre) val φ its)) ⟨fn.ntmps,[],none⟩ (zaa 0 vs) (Hp w0 (za4 pre) pre)):Ct P f vs.toArray w0 (za4 pre) val φ its:=by
 unfold Ct;exact qfn hf hb hn (Hp w0 (za4 pre) pre) (.begin hp ha _ fun _ h=>h) h
variable{d:Nat}{g:Option (Nat×Bool)}
theorem qw5{op:Op}{out:α→Except Value Value}{H':α→World→Prop}(hok:zee N l op d=true)(hr:∀w,(execOp (ev l) ⟨some d,op,ty,pos,after,g⟩).run P w= .ok (.enter f args) w)
  (hc:∀w,H w→Calls P f args w fun e w'=>∃x,e=qwx (out x)∧φ x∧H' x w') (kp:∀x p,φ x→out x= .error p→HX Q (.panic (qwi p)) N l (H' x)):
  HO P ⟨some d,op,ty,pos,after,g⟩ Q N l H (α:={ x:α×Value//φ x.1∧out x.1= .ok x.2 }) (fun x=>(d,x.1.2)::l) (fun x=>H' x.1.1):=by
 unfold HO
 obtain⟨hs,hN,hk⟩:=ze0 hok
 intro a w s hw K hK
 refine⟨zl6 hok,?_⟩
 unfold Oper.wp
 rw[s.exec _ hs hk,hr,Oper.upon_enter]
 refine(hc w hw).mono fun e w' ⟨x,he,hφ,hx⟩=>?_
 subst he
 cases ho:out x with
 |ok v=>exact hK ⟨(x,v),hφ,ho⟩ _ _ (s.put hN v) hx
 |error p=>
  have:=kp x p hφ ho
  unfold HX at this
  exact this a w' s hx
theorem qxn{pre:List Item}{out:α→Except Value Value}
  (hok:zee N l (.call ⟨.value (.func f),xs.toArray,tys⟩) d=true) (hb:za7 P f=true) (hx:evs l xs=some vs) (hst:∀it∈pre,it.Stable none')
  (hc:∀w,Hp w0 F (pre++m) w→(∀it∈pre,zbq it w)→pre.Pairwise Item.Apart→Ce P f vs.toArray w (za4 pre) out φ its) (kp:∀x p,φ x→out x= .error p→HX Q (.panic (qwi p)) N l (Hp w0 F (its x++m))):
  HO P ⟨some d,.call ⟨.value (.func f),xs.toArray,tys⟩,ty,pos,after,g⟩ Q N l (Hp w0 F (pre++m)) (α:={ x:α×Value//φ x.1∧out x.1= .ok x.2 }) (fun x=>(d,x.1.2)::l) (fun x=>Hp w0 F (its x.1.1++m)):=
 qw5 (H':=fun x=>Hp w0 F (its x++m)) hok (qfz hb hx) (fun w hw=>(Ce.calls (hc w hw (fun it hm=>have h:=hw.item it (aP _ hm);⟨h.1,hst it hm,fun k hk=>(h.2.2 k hk).1⟩) (bN.1 hw.apart).1)).mono fun _ _ ⟨x,he,hx,hi⟩=>⟨x,he,hx,hw.call hi fun _ _ ⟨it,hm,hk⟩=>⟨it,hm,hk⟩⟩) kp
theorem qvi{K:Act→World→Prop}{c:List PanicEntry}(h:HX Q (.panic c) N l H):HX (Exit.then K Q) (.panic c) N l H:=by unfold HX at*;exact h
theorem qw4{x:Operand}{t:TypeId}{v:Value}(hk:(zez (.panic x)&&zec l (.panic x))=true)(hx:evO l x=some (.iface t v))(h:HX Q (.panic (qwi (.iface t v))) N l H):HL P ops Q N (⟨none,.panic x,ty,pos,after,none⟩::rest) l H:=by
 simp only[bH]at hk
 refine za1 (α:=Empty) (l':=fun _=>l) (H':=fun _=>H) rfl ?_ (fun x=>nomatch x)
 unfold HO
 unfold HX at h
 intro a w s hw K _
 refine⟨zp3 hk.1,?_⟩
 unfold Oper.wp
 have hrun:(execOp (ev l) ⟨none,.panic x,ty,pos,after,none⟩).run P w= .halt (.panic (.iface t v)) w:=by
  simp only[execOp,zar hx]
  rfl
 rw[s.exec _ (zm5 hk.1) hk.2,hrun,Oper.upon_panic]
 exact h a w s hw
variable{p:Value}
theorem qxm{out:α→Except Value Value}(x:α)(e:out x= .error p)(hφ:φ x)(hs:(its x).Sublist m)(hst:∀it∈its x,it.Stable none'):HX (bodyPost P fn (qvu w0 F out φ its)) (.panic (qwi p)) ⟨n,[],none⟩ l (Hp w0 F m):=by
 unfold HX
 intro a w s hw
 exact⟨s.defers,x,by rw[e];rfl,hφ,hw.its hs hst⟩
theorem qw7{m':List Item}(hb:za7 P f=true)
  (hd:∀w,Hp w0 F m w→CallsD P f vs.toArray (.panicking (qwi p)) w fun e u' w'=>u'= .panicking [{ v:=p,recovered:=true }]∧(∃v,e= .returned v)∧Hp w0 F m' w')
  (h:HX (bodyPost P fn R) .ret ⟨n,[],none⟩ l (Hp w0 F m')):HX (bodyPostD P fn R) (.panic (qwi p)) ⟨n,[{ target:=.fn (.func f) #[],args:=vs.toArray }],none⟩ l (Hp w0 F m):=by
 unfold HX at*
 intro a w s hw
 show Leaves P fn a.tmps R a.defers (.panicking (qwi p)) w
 rw[s.defers]
 refine leaves_cons (f:=f) (args:=vs.toArray) sQ (by simp[invoke,zdz hb]) (CallsD.mono (hd w hw) ?_)
 rintro e u' w' ⟨rfl,⟨v,rfl⟩,hf⟩
 have hq:=(h { a with defers:=[] } w' ⟨s.size,rfl,s.slot⟩ hf).2
 exact hq
attribute [irreducible] Ce
end
variable{N:Fm}{g:Option (Nat×Bool)}{d:Nat}
variable{φ:α→Prop}{M:α→List Item}
theorem qth(h:∀w,Hp w0 F m w→∃z,φ z∧Hp w0 F (M z) w)(k:∀z,φ z→HL P ops Q N rest l (Hp w0 F (M z))):HL P ops Q N rest l (Hp w0 F m):=by
 unfold HL at*
 intro a w s hw
 obtain⟨z,hz,h⟩:=h w hw
 exact k z hz a w s h
theorem qse(h:∀w,Hp w0 F m w→∃z,φ z∧Hp w0 F (M z) w)(k:∀z,φ z→HT P c Q N l (Hp w0 F (M z))):HT P c Q N l (Hp w0 F m):=by
 unfold HT at*
 intro a w s hw
 obtain⟨z,hz,h⟩:=h w hw
 exact k z hz a w s h
variable{w:World}{e:TypeId}{b c:Nat}{xs:List Value}
theorem Hp.cut(hw:Hp w0 F (own e 1 (some (b,c)) n xs::m) w):∃zs:List Value,zs.length=c - n∧Hp w0 F (pt b (.cells (xs++zs).toArray e (0,0))::m) w:=by
 have h:=(hw.item _ (.head _)).1
 obtain⟨h0,h1,h2,cur,h3,h4,h5⟩:=h
 refine⟨cur.toList.drop n,by rw[aX,gA,h4,bO],?_⟩
 have e1:xs++cur.toList.drop n=cur.toList:=by
  rw[←h5,bO,bF]
 rw[e1]
 refine hw.imp (fun k hk=>⟨c,by rw[show k=b from hk]⟩) (fun _=>?_) (zab _ _ _)
 show w.heap[b]? =_
 rw[h3,gM]
theorem Hp.glue{zs:List Value}(hw:Hp w0 F (pt b (.cells (xs++zs).toArray e (0,0))::m) w)(hx:xs.length=n)(hz:zs.length=c - n)(hn:n≤c)(hc:c≤maxLen):Hp w0 F (own e 1 (some (b,c)) n xs::m) w:=by
 have:=hw.ownOf (n:=n) (c:=c) (sz:=1) hn hc (by simp;omega)
 rw[bO,fO hx]at this
 exact this
variable{T:TypeId}{x:Operand}{sz:Nat}{cur:List Value}
theorem qhb{T':TypeId}{y:Operand}{k c' bt:Nat}{a:Addr}{news:List Value}(hok:zee N l (.call ⟨.builtin .append, #[x,y], #[T,T]⟩) d=true)(hx:evO l x=some (.slice (some ⟨b,0,none⟩) n c))(hy:evO l y=some (.slice (some a) k c'))
  (hT:zmi P T=some e) (hi:qgk P e=some (1,bt,sz)) (hl:news.length=k) (h1:zb7 news=true) (hroom:n+k≤c) (hcl:cur.length=c)
  (hnews:∀w,Hp w0 F (pt b (.cells cur.toArray e (0,0))::m) w→∀(j:Nat) (v:Value),news[j]? =some v→w.cell? (a.add j)=some v):
  HO P ⟨some d,.call ⟨.builtin .append, #[x,y], #[T,T]⟩,T',pos,after,g⟩ Q N l (Hp w0 F (pt b (.cells cur.toArray e (0,0))::m)) (α:=Unit) (fun _=>(d,.slice (some ⟨b,0,none⟩) (n+k) c)::l) (fun _=>Hp w0 F (pt b (.cells (put cur n news).toArray e (0,0))::m)):=
 zh6 (val:=fun _=>.slice (some ⟨b,0,none⟩) (n+k) c) hok (fun w hw=>by
  obtain⟨i,z,h1',h2,h3,h4,h5⟩:=zmw hi
  have hr:=run_append_room (P:=P) w T T' e i (zbs hT) h1' b n c cur.toArray (hw.get sQ) a k c' news (by rw[h2,bO];exact hl) (hnews w hw) (zba.1 h1) hroom (by rw[h2,bO,hl,aI,hcl];exact hroom)
  rw[h2,bO]at hr
  refine⟨(),_,?_,hw.setRow _⟩
  simp only[execOp,resolve,invoke,builtin]
  simp[zar hx,zar hy,hr,put])
theorem qb7{T':TypeId}{b o n c bt:Nat}{z:Value}(hok:(zez (.call ⟨.builtin .clear, #[x], #[T]⟩)&&zec l (.call ⟨.builtin .clear, #[x], #[T]⟩))=true)(hx:evO l x=some (.slice (some ⟨b,o,none⟩) n c))
  (hT:zmi P T=some e) (hi:zpt P e=some (1,bt,z)) (hz:z.cells= #[z]) (h1:z.oneCell'=true) (hn:0<n) (hfit:o+n≤cur.length):
  HO P ⟨none,.call ⟨.builtin .clear, #[x], #[T]⟩,T',pos,after,g⟩ Q N l (Hp w0 F (pt b (.cells cur.toArray e (0,0))::m)) (α:=Unit) (fun _=>l) (fun _=>Hp w0 F (pt b (.cells (put cur o (List.replicate n z)).toArray e (0,0))::m)):=
 qml (val:=fun _=>.tuple #[]) hok (fun w hw=>by
  obtain⟨i,h1',h2,h3,h4⟩:=zh2 hi
  have hzc:(Builtin.zeroCells z.cells n).toList=List.replicate n z:=by
   rw[hz]
   simp[Builtin.zeroCells]
   apply List.ext_getElem
   ·simp
   ·intro i h1 h2
    simp[lK]
  have hst:=run_storeCells_at P b o e (List.replicate n z) 0 cur.toArray w (hw.get sQ) (by simpa using hfit) (by intro v hv;rw[fC hv];exact h1)
  simp only[fU]at hst
  obtain⟨k,rfl⟩:∃k,n=k+1:=⟨n - 1,oQ⟩
  refine⟨(),_,?_,hw.setRow _⟩
  simp only[execOp,resolve,invoke,builtin]
  simp[zar hx,Builtin.clear_,run_underlying (zbs hT),zeroValue,typeInfo,h1',h4,hzc,hst,put])
variable{a:Option Addr}
theorem qr2{y z u:Operand}{k k' k2:IntKind}{p q r:Int}{i j mx:Nat}[h:NatOf p i][h':NatOf q j][h2:NatOf r mx](hx:evO l x=some (.slice a n c))(hy:evO l y=some (.int k p))(hz:evO l z=some (.int k' q))(hu':evO l u=some (.int k2 r))(hT:zmi P T=some e)(he:zcd P e=some sz)(hi:i≤j∧j≤mx∧mx≤c):
  OV P (.slice T x (some y) (some z) (some u)) ty l H (.slice (zwe a (decide (mx=i)) (i*sz)) (j - i) (mx - i)):=ov fun _ _ _ w _=>by
 obtain rfl:=h.eq;obtain rfl:=h'.eq;obtain rfl:=h2.eq
 have hu:=zbs hT
 have hu2:P.underlying T=some (.slice (P.elem T)):=by rw[hu];simp[Program.elem,hu]
 have he':P.elem T=e:=by simp[Program.elem,hu]
 obtain⟨r,hq,hqs⟩:=zbg he
 have h:=run_slice_lhm (P:=P) w T a n c hu2 k k' k2 i j mx oQ oQ oQ oQ
 have hzz:(sizeOf (P.elem T)).run P w= .ok sz w:=by rw[he'];simp[sizeOf,typeInfo,hq,hqs]
 simp only[execOp,zar hx,bZ,zar hy,zar hz,zar hu',Sem.run_bind,run_sliceAt_slice w T _ _ _ _ hu2,h,hzz,Result.andThen_ok,cB,sliced,zwe]
 simp[Sem.run_pure]
theorem qmy{E:Array Value→Sem Value}{xs:List Operand}{v:Value}(hf:P.funcs[f]? =some fn)(hname:(fn.name== "runtime.NumGoroutine")=false)(hb:fn.body.isNone=true)(hn:Extern.findNext fn=none)(he:Extern.find fn=some E)
  (hx:evs l xs=some vs) (hr:∀w,H w→(E vs.toArray).run P w= .ok v w):OV P (.call ⟨.value (.func f),xs.toArray,tys⟩) ty l H v:=ov fun _ _ _ w hw=>by
 simp only[execOp,resolve,Deferred.ofValue,ev,fS,zij hx]
 simp[invoke,run_callFunc_extern hf hname hb hn he,hr w hw]
variable{z:Value}
theorem zgq(hz:z.cells= #[z])(n:Nat):Builtin.zeroCells z.cells n=(List.replicate n z).toArray:=by
 apply Array.ext'
 rw[hz]
 simp[Builtin.zeroCells]
 apply List.ext_getElem
 ·simp
 ·intro i h1 h2
  simp[lK]
theorem qb6{Tn T':TypeId}{y:Operand}{base:Option Addr}{k bt:Nat}{kq kn:IntKind}{i:Int}[h:NatOf i k]{olds:List Value}(hok:zee N l (.call ⟨.builtin .append, #[x,y], #[T,Tn]⟩) d=true)(hx:evO l x=some (.slice base n c))(hy:evO l y=some (.int kq i))
  (hT:zmi P T=some e) (hTn:P.underlying Tn=some (.int kn)) (hi:zpt P e=some (1,bt,z)) (hz:z.cells= #[z]) (h0:0<k) (hg:c<n+k) (hs:(n+k)*(bt+1)≤140737488355328) (hol:olds.length=n) (hb:base=none→n=0) (hsrc:∀w,Hp w0 F m w→Rd w base olds):
  HO P ⟨some d,.call ⟨.builtin .append, #[x,y], #[T,Tn]⟩,T',pos,after,g⟩ Q N l (Hp w0 F m) (α:={ p:Nat×Nat//w0.heap.size≤p.1∧n+k≤p.2 }) (fun p=>(d,.slice (some ⟨p.1.1,0,none⟩) (n+k) p.1.2)::l) (fun p=>Hp w0 F (own e 1 (some p.1) (n+k) (olds++List.replicate k z)::m)):=by
 obtain rfl:=h.eq
 refine zh6 (val:=fun p:{ p:Nat×Nat//w0.heap.size≤p.1∧n+k≤p.2 }=>.slice (some ⟨p.1.1,0,none⟩) (n+k) p.1.2) hok (fun w hw=>?_)
 obtain⟨i,h1',h2,h3,h4⟩:=zh2 hi
 have hle:(n+k)*i.bytes+(n+k)≤140737488355328:=by rw[h3];rwa[fP,bO]at hs
 have hkb:k*i.bytes≤(n+k)*i.bytes:=fH _ oQ
 have hold:(Builtin.firstCells i.size n (.slice base n c)).run P w.drew= .ok olds.toArray w.drew:=by
  rw[h2]
  cases base with
  |none=>
   obtain rfl:n=0:=hb rfl
   obtain rfl:olds=[]:=bQ hol
   exact run_firstCells_none w.drew 1 0 0 c
  |some a=>
   refine run_firstCells_some w.drew 1 n a n c olds oQ fun j v hj=>?_
   rcases hsrc w hw with e|⟨b',off',e,hc⟩
   ·rw[e]at hj;cases hj
   ·cases e
    rw[zde]
    exact hc j v hj
 have hr:=Lib.run_append_grow_zeros (P:=P) w T Tn T' e i z kq kn (zbs hT) hTn h1' h4 base n c olds hold k h0 oQ hg oQ oQ (growslice_fits oQ oQ)
 have hge:=grownCap_ge w (n+k) c e
 have hnew:(own e 1 (some (w.drew.heap.size,grownCap w (n+k) c e)) (n+k) (olds++List.replicate k z)).prop (w.drew.alloc (.cells (olds.toArray++Builtin.zeroCells z.cells k++Builtin.zeroCells z.cells (grownCap w (n+k) c e - (n+k))) e)):=by
  refine⟨by simp[hol],hge,grownCap_le_maxLen w (n+k) c e (by unfold maxLen;omega),_,heap_alloc_new w.drew _,?_,?_⟩
  ·rw[zgq hz,zgq hz]
   simp[hol]
   omega
  ·rw[zgq hz,zgq hz]
   simp only[iN,aG,bO]
   rw[←aG,fO (by simp[hol])]
 refine⟨⟨(w.heap.size,grownCap w (n+k) c e),hw.fr.size,hge⟩,_,?_,(hw.drew).newOwn (w:=w.drew) hnew⟩
 simp only[execOp,resolve,invoke,builtin]
 simp[zar hx,zar hy,hr]
theorem qel(he:zcd P e=some sz)(w:World):(Go.sizeOf e).run P w= .ok sz w:=by
 obtain⟨q,hq,hqs⟩:=zbg he
 simp[Go.sizeOf,typeInfo,hq,hqs]
variable{x:Value}
theorem zky{tS tR:TypeId}{vb j la ca lb cb:Nat}(ht:zmi P tS=some e)(he:zcd P e=some 1)(hA:(own e 1 (some (vb,1)) 1 [x]).prop w)(hB:w.heap[b]? =some (.cells cur.toArray e (0,0)))(hne:vb≠b)(h0:cur≠[]):
  (Extern.SlicesOverlaps.overlaps #[tS,tS] #[tR] #[.slice (some ⟨vb,0,none⟩) la ca,.slice (some ⟨b,j,none⟩) lb cb]).run P w= .ok (.bool false) w:=by
 obtain⟨-, -, -,c2,h3,h4, -⟩:=hA
 refine Lib.run_overlaps_apart w tS tR e (zbs ht) 1 (qel he) ⟨vb,0,none⟩ ⟨b,j,none⟩ la ca lb cb hne e e c2.size cur.length ?_ ?_ ?_ ?_ ?_
 ·simp[World.shape?,h3]
 ·simp[World.shape?,hB]
 ·simpa using h0
 ·simp[World.frozen?,h3]
 ·simp[World.frozen?,h3]
theorem ztb{i:Nat}{cs:List Value}{E:TypeId}(h:w.heap[b]? =some (.cells cur.toArray E (0,0)))(hc:∀(j:Nat) v,cs[j]? =some v→cur[i+j]? =some v):Rd w (some ⟨b,i,none⟩) cs:=
 Rd.mk fun j v hv=>by
  have:=zbf h (i+j) v (hc j v hv)
  rwa[aH]at this
theorem zyc{A B zs:List Value}(hB:B≠[]):put (put (A++B++z::zs) (A.length+1) B) A.length [x]=A++x::B++zs:=by
 obtain⟨b,B',rfl⟩:=iK hB
 have e1:(A++b::B'++z::zs).take (A.length+1)=A++[b]:=by
  rw[aG,List.take_append,bJ oQ,show A.length+1 - A.length=1 by omega];rfl
 have e2:(A++b::B'++z::zs).drop (A.length+1+(b::B').length)=zs:=by
  rw[eK,cX (by simp only[aA,aW];omega),aJ]
  simp only[aA,aW]
  rw[show A.length+1+(B'.length+1) - (A.length+(B'.length+1))=1 by omega];rfl
 have e3:put (A++b::B'++z::zs) (A.length+1) (b::B')=A++([b]++(b::B')++zs):=by
  unfold put;rw[e1,e2];simp
 rw[e3]
 unfold put
 rw[fO rfl,eK,cX sQ,aJ]
 simp
theorem qce{A B Z zs:List Value}(hZ:Z.length=B.length+1):put (put (A++Z++zs) A.length [x]) (A.length+1) B=A++x::B++zs:=by
 have e1:put (A++Z++zs) A.length [x]=A++[x]++(Z.drop 1++zs):=by
  unfold put
  rw[aG A Z zs,fO rfl,eK,cX sQ,aJ]
  rw[show A.length+[x].length - A.length=1 by simp,eK,show 1 - Z.length=0 by omega]
  rfl
 rw[e1]
 unfold put
 rw[fO sQ,eK,cX (by simp only[aA,cA];omega),aJ]
 rw[eK,cX (by simp only[aA,cA,aX];omega),aJ]
 simp only[aA,aX,cA]
 rw[show A.length+1+B.length - (A.length+1) - (Z.length - 1)=0 by omega]
 simp
theorem qhy{A B zs:List Value}{y:Value}:put (put (A++y::B++zs) A.length B) (A.length+B.length) [z]=A++B++z::zs:=by
 have hR:((y::B).drop B.length).length=1:=by simp
 have e1:put (A++y::B++zs) A.length B=(A++B)++((y::B).drop B.length++zs):=by
  unfold put
  rw[aG A (y::B) zs,fO rfl,eK,cX oQ,aJ]
  rw[show A.length+B.length - A.length=B.length by omega,eK,show B.length - (y::B).length=0 by simp]
  rfl
 rw[e1]
 generalize (y::B).drop B.length=R at hR
 unfold put
 rw[fO sQ,eK,cX (by simp only[aA,cA];omega),aJ]
 rw[eK,cX (by simp only[aA,cA];omega),aJ]
 simp only[aA,cA]
 rw[hR,show A.length+B.length+1 - (A.length+B.length) - 1=0 by omega]
 simp
section
variable{S:World→Prop}{t:Nat}
def HE(P:Program)(ops:Array Oper)(Q:Exit→Act→World→Prop)(S:World→Prop)(t:Nat)(N:Fm)(n:Nat)(listed:Array Bool)(l:zav)(H:World→Prop):Prop:=
 ∀a w,St N l a→H w→zoe P ops (zom Q) S t n listed a w
variable{listed:Array Bool}
theorem qsn(h:HE P ops Q S t N n listed l H):HD P ops Q S t N n listed l H:=by
 unfold HD
 exact fun _=>h
theorem qnt(i:Nat){oi:Oper}{l':α→zav}{H':α→World→Prop}(hr:Region.ready .any ops listed=[i])(ht:t≤i)(hi0:nth ops.toList i=some oi)(hg:oi.guard=none)
  (h:HO P oi (zom Q) N l H l' H') (k:∀x,HE P ops Q S t N n (listed.setIfInBounds i true) (l' x) (H' x)):HE P ops Q S t N (n+1) listed l H:=by
 unfold HE HO at*
 intro a w s hw
 have hi:=zei hi0
 refine⟨fun h=>(by rw[hr]at h;cases h),fun j hj=>?_⟩
 obtain rfl:j=i:=by rw[hr]at hj;simpa using hj
 unfold wpOp
 simp only[hi]
 rw[if_pos (by simp[Region.wanted,hg])]
 exact .inl (And.right<|h a w s hw _ fun x a' w' s' hw'=>⟨fun h=>oQ,k x a' w' s' hw'⟩)
theorem qsq(hr:Region.ready .any ops listed=[])(k:HX Q .normal N l H):HE P ops Q S t N 0 listed l H:=by
 unfold HE HX at*
 exact fun a w s hw=>⟨hr,k a w s hw⟩
def qtj(ops:Array Oper)(L:Array Bool)(t i:Nat):Bool:=
 let s:=fun(l:Array Bool) k=>l.setIfInBounds k true
 let r:=fun l=>Region.ready .any ops l
 Nat.ble t i&&(r L==[i]&&(r (s L i)==[i+1]&&(r (s (s L i) (i+1))==[i+2]&&r (s (s (s L i) (i+1)) (i+2))==[])))
theorem zor(i:Nat){x z1 y1 y2 d2 f2 c1 c2:Nat}{U1 U2 E t1 t2 t3:TypeId}{p1 p2 p3:String}{a1 a2 a3:Array Edge}{v1 v2:Value}{cs:Array Value}
  (n1:nth ops.toList i=some ⟨none,.store U1 (.tmp z1) (.tmp y1),t1,p1,a1,none⟩)
  (n2:nth ops.toList (i+1)=some ⟨some d2,.fieldAddr T (.tmp x) f2,t2,p2,a2,none⟩) (n3:nth ops.toList (i+2)=some ⟨none,.store U2 (.tmp d2) (.tmp y2),t3,p3,a3,none⟩)
  (hz:get l z1=some (.pointer (some ⟨b,c1,none⟩))) (hx:get l x=some (.pointer (some ⟨b,0,none⟩))) (h1:get l y1=some v1) (h2:get l y2=some v2) (e2:get l d2=none)
  (hf2:zlz P T f2=some c2) (hU1:(P.info? U1).map (·.size)=some 1) (hU2:(P.info? U2).map (·.size)=some 1)
  (u1:v1.cells= #[v1]) (u2:v1.oneCell'=true) (u3:v2.cells= #[v2]) (u4:v2.oneCell'=true)
  (hq:qtj ops listed t i=true) (hd:Nat.ble (d2+1) N.n=true) (hs1:c1<cs.size) (hs2:c2<cs.size)
  (k:HX Q .normal N l (Hp w0 F (pt b (.cells ((cs.setIfInBounds c1 v1).setIfInBounds c2 v2) E (0,0))::m))):HD P ops Q S t N 3 listed l (Hp w0 F (pt b (.cells cs E (0,0))::m)):=by
 simp only[qtj,bH,beq_iff_eq]at hq
 obtain⟨q0,q1,q2,q3,q4⟩:=hq
 have hti:t≤i:=bU q0
 have ext:∀v,∀t u,get l t=some u→get ((d2,v)::l) t=some u:=fun v t u h=>by
  rw[zb4,if_neg (fun e=>by rw[e,h]at e2;cases e2)]
  exact h
 have HS:∀{l':zav} {cs:Array Value} {d y c:Nat} {U:TypeId} {v:Value} {ty:TypeId} {p:String} {a:Array Edge},get l' d=some (.pointer (some ⟨b,c,none⟩))→get l' y=some v→(P.info? U).map (·.size)=some 1→v.cells= #[v]→v.oneCell'=true→c<cs.size→
   HO P ⟨none,.store U (.tmp d) (.tmp y),ty,p,a,none⟩ (zom Q) N l' (Hp w0 F (pt b (.cells cs E (0,0))::m)) (α:=Unit) (fun _=>l') (fun _=>Hp w0 F (pt b (.cells (cs.setIfInBounds c v) E (0,0))::m)):=fun hd hy hU hc ho hs=>
  zai (by simp[zez,zec,Op.operands,zex,hd,hy]) hd hy hU hc ho hs
 refine qsn ?_
 refine qnt i q1 hti n1 rfl (HS hz h1 hU1 u1 u2 hs1) fun _=>?_
 refine qnt (i+1) q2 oQ n2 rfl (zx2 (by simpa[zee,zez,zec,Op.operands,zex,hx]using hd) (zea hx hf2)) fun _=>?_
 refine qnt (i+2) q3 oQ n3 rfl (HS (by rw[zb4,if_pos rfl]) (ext _ _ _ h2) hU2 u3 u4 (by rw[Array.size_setIfInBounds];exact hs2)) fun _=>?_
 refine qsq q4 ?_
 unfold HX at*
 exact fun a w s hw=>k a w ⟨s.size,s.defers,fun t v h=>s.slot t v (ext _ t v h)⟩ hw
def qqt(ops:Array Oper)(L:Array Bool)(t i1 i2 i3 i4:Nat):Bool:=
 let s:=fun(l:Array Bool) k=>l.setIfInBounds k true
 let r:=fun l=>Region.ready .any ops l
 (Nat.blt i1 t&&(Nat.blt i2 t&&(Nat.blt i3 t&&(Nat.blt i4 t&&(!Nat.beq i1 i3&& !Nat.beq i2 i3)))))&&(r L==[i1,i3]&&(r (s L i1)==[i2,i3]&&(r (s (s L i1) i2)==[i3]&&(r (s (s L i1) i3)==[i2]&&(r (s L i3)==[i1]&&r (s (s (s L i1) i2) i3)==[i4])))))
theorem qmb(i1 i2 i3 i4:Nat){o1 o2 o3 o4:Oper}{α1 α2 α3 α4:Type}{A B rest:List Item}{X1:α1→Item}{X2:α3→Item}{A':α2→List Item}{B':α4→List Item}{d1 d2 d3 d4:Nat}{u1:α1→Value}{u2:α2→Value}{u3:α3→Value}{u4:α4→Value}
  (hq:qqt ops listed t i1 i2 i3 i4=true) (n1:nth ops.toList i1=some o1) (n2:nth ops.toList i2=some o2) (n3:nth ops.toList i3=some o3) (n4:nth ops.toList i4=some o4) (g1:o1.guard=none) (g2:o2.guard=none) (g3:o3.guard=none) (g4:o4.guard=none)
  (e1:get l d1=none) (e2:get l d2=none) (e3:get l d3=none) (e4:get l d4=none) (hne:(!Nat.beq d1 d2&&(!Nat.beq d1 d3&&(!Nat.beq d1 d4&&(!Nat.beq d2 d3&&(!Nat.beq d2 d4&& !Nat.beq d3 d4)))))=true) (hS:∀w,Hp w0 F rest w→S w)
  (s1:∀l' m',(∀t u,get l t=some u→get l' t=some u)→HO P o1 (zom Q) N l' (Hp w0 F m') (fun a=>(d1,u1 a)::l') (fun a=>Hp w0 F (X1 a::m')))
  (s2:∀a l' m',(∀t u,get l t=some u→get l' t=some u)→get l' d1=some (u1 a)→HO P o2 (zom Q) N l' (Hp w0 F (A++X1 a::m')) (fun b=>(d2,u2 b)::l') (fun b=>Hp w0 F (A' b++m')))
  (s3:∀l' m',(∀t u,get l t=some u→get l' t=some u)→HO P o3 (zom Q) N l' (Hp w0 F m') (fun a=>(d3,u3 a)::l') (fun a=>Hp w0 F (X2 a::m')))
  (s4:∀c l' m',(∀t u,get l t=some u→get l' t=some u)→get l' d3=some (u3 c)→HO P o4 (zom Q) N l' (Hp w0 F (B++X2 c::m')) (fun b=>(d4,u4 b)::l') (fun b=>Hp w0 F (B' b++m')))
  (k:∀b d,HD P ops Q S t N n ((((listed.setIfInBounds i1 true).setIfInBounds i2 true).setIfInBounds i3 true).setIfInBounds i4 true) ((d4,u4 d)::(d2,u2 b)::l) (Hp w0 F (A' b++(B' d++rest)))):HD P ops Q S t N (n+4) listed l (Hp w0 F (A++(B++rest))):=by
 simp only[qqt,bH,beq_iff_eq,eZ]at hq
 obtain⟨⟨b1,b2,b3,b4,b5,b6⟩,q1,q2,q3,q4,q5,q6⟩:=hq
 have b1:=bU b1
 have b2:=bU b2
 have b3:=bU b3
 have b4:=bU b4
 have nb:∀{a b:Nat},Nat.beq a b=false→a≠b:=fun h e=>by rw[e,lA]at h;cases h
 simp only[bH,eZ]at hne
 obtain⟨f12,f13,f14,f23,f24,f34⟩:=hne
 have f12:=nb f12
 have f13:=nb f13
 have f14:=nb f14
 have f23:=nb f23
 have f24:=nb f24
 have f34:=nb f34
 have c13:(listed.setIfInBounds i3 true).setIfInBounds i1 true=(listed.setIfInBounds i1 true).setIfInBounds i3 true:=dX _ _ (Ne.symm (nb b5))
 have c23:∀L:Array Bool,(L.setIfInBounds i3 true).setIfInBounds i2 true=(L.setIfInBounds i2 true).setIfInBounds i3 true:=fun L=>dX _ _ (Ne.symm (nb b6))
 have ext:∀{l':zav} {d:Nat} (v:Value),(∀t u,get l t=some u→get l' t=some u)→get l d=none→∀t u,get l t=some u→get ((d,v)::l') t=some u:=fun v hl hd t u h=>by
  rw[zb4,if_neg (fun e=>by rw[e,h]at hd;cases hd)]
  exact hl t u h
 have x0:∀t u,get l t=some u→get l t=some u:=fun _ _ h=>h
 have zz:∀(d:Nat) (v:Value) (l':zav),get ((d,v)::l') d=some v:=fun d v l'=>by rw[zb4,if_pos rfl]
 have zn:∀{d e:Nat} {v u:Value} {l':zav},e≠d→get l' d=some u→get ((e,v)::l') d=some u:=fun hne h=>by rw[zb4,if_neg hne];exact h
 have sub:∀{M:List Item},rest.Sublist M→∀w,Hp w0 F M w→S w:=fun hs w hw=>hS w (hw.sub hs)
 have hr:∀(M:List Item),rest.Sublist (M++rest):=fun M=>dI _ _
 have fin:∀{l':zav} {b:α2} {d:α4} {L:Array Bool},L=(((listed.setIfInBounds i1 true).setIfInBounds i2 true).setIfInBounds i3 true)→(∀t u,get l t=some u→get l' t=some u)→get l' d2=some (u2 b)→HD P ops Q S t N n (L.setIfInBounds i4 true) ((d4,u4 d)::l') (Hp w0 F (B' d++(A' b++rest))):=fun {l'} {b} {d} {L} hL hl h2=>by
  subst hL
  refine zi0 (bV _ _ _) ?_
  have:=k b d
  unfold HD at this⊢
  refine fun inv a w s hw=>this inv a w ⟨s.size,s.defers,fun t v h=>?_⟩ hw
  rw[zb4]at h
  by_cases e:d4=t
  ·rw[if_pos e]at h
   exact s.slot t v (by rw[zb4,if_pos e];exact h)
  ·rw[if_neg e,zb4]at h
   refine s.slot t v ?_
   rw[zb4,if_neg e]
   by_cases e2:d2=t
   ·rw[if_pos e2]at h
    rw[←e2,h2];exact h
   ·rw[if_neg e2]at h
    exact hl t v h
 have st4:∀{l':zav} {b:α2} {c:α3} {M:List Item} {L:Array Bool},L=(((listed.setIfInBounds i1 true).setIfInBounds i2 true).setIfInBounds i3 true)→(∀t u,get l t=some u→get l' t=some u)→get l' d2=some (u2 b)→get l' d3=some (u3 c)→M.Perm (B++X2 c::(A' b++rest))→HD P ops Q S t N (n+1) L l' (Hp w0 F M):=fun {l'} {b} {c} {M} {L} hL hl h2 h3 hp=>by
  refine zi0 hp ?_
  refine zat i4 ⟨by rw[hL];exact q6,b4⟩ n4 (by rw[g4];rfl) (s4 c l' _ hl h3) (fun d=>sub (by rw[←aG];exact hr _)) fun d=>?_
  exact fin hL hl h2
 refine zt7 i1 i3 ⟨q1,b1,b3⟩ n1 n3 g1 g3 (s1 l _ x0) (s3 l _ x0) (fun a=>sub (by rw[←aG,←aF];exact hr _)) (fun c=>sub (by rw[←aG,←aF];exact hr _)) (fun a=>?_) (fun c=>?_)
 ·refine zi0 (m':=A++X1 a::(B++rest)) bM.symm ?_
  refine zt7 i2 i3 ⟨q2,b2,b3⟩ n2 n3 g2 g3 (s2 a _ _ (ext _ x0 e1) (zz _ _ _)) (s3 _ _ (ext _ x0 e1)) (fun b=>sub (by rw[←aG];exact hr _)) (fun c=>sub (.cons _ (((hr B).cons _).trans (dI _ _)))) (fun b=>?_) (fun c=>?_)
  ·refine zat i3 ⟨q3,b3⟩ n3 (by rw[g3];rfl) (s3 _ _ (ext _ (ext _ x0 e1) e2)) (fun c=>sub (by rw[←aG,←aF];exact hr _)) fun c=>?_
   refine st4 rfl (ext _ (ext _ (ext _ x0 e1) e2) e3) (zn (Ne.symm f23) (zz _ _ _)) (zz _ _ _) ?_
   refine(List.Perm.cons _ (bV _ _ _)).trans bM.symm
  ·refine zi0 (m':=A++X1 a::(X2 c::(B++rest))) ?_ ?_
   ·refine List.Perm.trans ?_ (cU A (List.Perm.swap _ _ _))
    exact bM.symm
   refine zat i2 ⟨q4,b2⟩ n2 (by rw[g2];rfl) (s2 a _ _ (ext _ (ext _ x0 e1) e3) (zn (Ne.symm f13) (zz _ _ _))) (fun b=>sub (by rw[←aF,←aG];exact hr _)) fun b=>?_
   refine st4 (c23 _) (ext _ (ext _ (ext _ x0 e1) e3) e2) (zz _ _ _) (zn f23 (zz _ _ _)) ?_
   refine(bM).trans ?_
   refine(List.Perm.cons _ (bV _ _ _)).trans bM.symm
 ·refine zat i1 ⟨q5,b1⟩ n1 (by rw[g1];rfl) (s1 _ _ (ext _ x0 e3)) (fun a=>sub (by rw[←aG,←aF,←aF];exact hr _)) fun a=>?_
  rw[c13]
  refine zi0 (m':=A++X1 a::(X2 c::(B++rest))) ?_ ?_
  ·refine(List.Perm.swap _ _ _).trans ?_
   refine List.Perm.trans ?_ (cU A (List.Perm.swap _ _ _))
   refine List.Perm.trans ?_ bM.symm
   exact List.Perm.cons _ bM.symm
  refine zat i2 ⟨q4,b2⟩ n2 (by rw[g2];rfl) (s2 a _ _ (ext _ (ext _ x0 e3) e1) (zz _ _ _)) (fun b=>sub (by rw[←aF,←aG];exact hr _)) fun b=>?_
  refine st4 (c23 _) (ext _ (ext _ (ext _ x0 e3) e1) e2) (zz _ _ _) (zn f23 (zn f13 (zz _ _ _))) ?_
  refine(bM).trans ?_
  refine(List.Perm.cons _ (bV _ _ _)).trans bM.symm
def qmd(ops:Array Oper)(L:Array Bool)(t i1 i2 i3 i4 p:Nat):Bool:=
 let s:=fun(l:Array Bool) k=>l.setIfInBounds k true
 let r:=fun l=>Region.ready .any ops l
 (Nat.blt i1 t&&(Nat.blt i2 t&&(Nat.blt i3 t&&(Nat.blt i4 t&&(!Nat.beq i1 i3&& !Nat.beq i2 i3)))))&&(r L==[i1,i3]&&(r (s L i1)==[i2,i3]&&(r (s (s (s L i1) i2) p)==[i3]&&(r (s (s L i1) i3)==[i2]&&(r (s L i3)==[i1]&&(r (s (s (s (s L i1) i2) p) i3)==[i4]&&(znn ops t (s (s L i1) i2) p&&(znn ops t (s (s (s L i1) i2) i3) p&& !Nat.beq i3 p))))))))
theorem qft(i1 i2 i3 i4 p:Nat){o1 o2 o3 o4:Oper}{α1 α2 α3 α4:Type}{A B rest:List Item}{X1:α1→Item}{X2:α3→Item}{A':α2→List Item}{B':α4→List Item}{d1 d2 d3 d4 dp x f pb:Nat}{tp:TypeId}{pp:String}{pa:Array Edge}{u1:α1→Value}{u2:α2→Value}{u3:α3→Value}{u4:α4→Value}
  (hq:qmd ops listed t i1 i2 i3 i4 p=true) (np:nth ops.toList p=some ⟨some dp,.fieldAddr T (.tmp x) f,tp,pp,pa,none⟩) (hpx:get l x=some (.pointer (some ⟨pb,0,none⟩))) (hpf:zlz P T f=some c) (ep:get l dp=none) (hdp:Nat.ble (dp+1) N.n=true) (hnp:(!Nat.beq dp d1&&(!Nat.beq dp d2&&(!Nat.beq dp d3&& !Nat.beq dp d4)))=true) (n1:nth ops.toList i1=some o1) (n2:nth ops.toList i2=some o2) (n3:nth ops.toList i3=some o3) (n4:nth ops.toList i4=some o4) (g1:o1.guard=none) (g2:o2.guard=none) (g3:o3.guard=none) (g4:o4.guard=none)
  (e1:get l d1=none) (e2:get l d2=none) (e3:get l d3=none) (e4:get l d4=none) (hne:(!Nat.beq d1 d2&&(!Nat.beq d1 d3&&(!Nat.beq d1 d4&&(!Nat.beq d2 d3&&(!Nat.beq d2 d4&& !Nat.beq d3 d4)))))=true) (hS:∀w,Hp w0 F rest w→S w)
  (s1:∀l' m',(∀t u,get l t=some u→get l' t=some u)→HO P o1 (zom Q) N l' (Hp w0 F m') (fun a=>(d1,u1 a)::l') (fun a=>Hp w0 F (X1 a::m')))
  (s2:∀a l' m',(∀t u,get l t=some u→get l' t=some u)→get l' d1=some (u1 a)→HO P o2 (zom Q) N l' (Hp w0 F (A++X1 a::m')) (fun b=>(d2,u2 b)::l') (fun b=>Hp w0 F (A' b++m')))
  (s3:∀l' m',(∀t u,get l t=some u→get l' t=some u)→HO P o3 (zom Q) N l' (Hp w0 F m') (fun a=>(d3,u3 a)::l') (fun a=>Hp w0 F (X2 a::m')))
  (s4:∀c l' m',(∀t u,get l t=some u→get l' t=some u)→get l' d3=some (u3 c)→HO P o4 (zom Q) N l' (Hp w0 F (B++X2 c::m')) (fun b=>(d4,u4 b)::l') (fun b=>Hp w0 F (B' b++m')))
  (k:∀b d,HD P ops Q S t N n (((((listed.setIfInBounds i1 true).setIfInBounds i2 true).setIfInBounds p true).setIfInBounds i3 true).setIfInBounds i4 true) ((d4,u4 d)::(dp,.pointer (some ⟨pb,c,none⟩))::(d2,u2 b)::l) (Hp w0 F (A' b++(B' d++rest)))):HD P ops Q S t N (n+5) listed l (Hp w0 F (A++(B++rest))):=by
 simp only[qmd,bH,beq_iff_eq,eZ]at hq
 obtain⟨⟨b1,b2,b3,b4,b5,b6⟩,q1,q2,q3,q4,q5,q6,q7,q8,b7⟩:=hq
 have b1:=bU b1
 have b2:=bU b2
 have b3:=bU b3
 have b4:=bU b4
 have nb:∀{a b:Nat},Nat.beq a b=false→a≠b:=fun h e=>by rw[e,lA]at h;cases h
 simp only[bH,eZ]at hne
 obtain⟨f12,f13,f14,f23,f24,f34⟩:=hne
 have f12:=nb f12
 have f13:=nb f13
 have f14:=nb f14
 have f23:=nb f23
 have f24:=nb f24
 have f34:=nb f34
 simp only[bH,eZ]at hnp
 obtain⟨g1',g2',g3',g4'⟩:=hnp
 have g1':=nb g1'
 have g2':=nb g2'
 have g3':=nb g3'
 have g4':=nb g4'
 have c3p:∀L:Array Bool,(L.setIfInBounds i3 true).setIfInBounds p true=(L.setIfInBounds p true).setIfInBounds i3 true:=fun L=>dX _ _ (nb b7)
 have c13:(listed.setIfInBounds i3 true).setIfInBounds i1 true=(listed.setIfInBounds i1 true).setIfInBounds i3 true:=dX _ _ (Ne.symm (nb b5))
 have c23:∀L:Array Bool,(L.setIfInBounds i3 true).setIfInBounds i2 true=(L.setIfInBounds i2 true).setIfInBounds i3 true:=fun L=>dX _ _ (Ne.symm (nb b6))
 have ext:∀{l':zav} {d:Nat} (v:Value),(∀t u,get l t=some u→get l' t=some u)→get l d=none→∀t u,get l t=some u→get ((d,v)::l') t=some u:=fun v hl hd t u h=>by
  rw[zb4,if_neg (fun e=>by rw[e,h]at hd;cases hd)]
  exact hl t u h
 have x0:∀t u,get l t=some u→get l t=some u:=fun _ _ h=>h
 have zz:∀(d:Nat) (v:Value) (l':zav),get ((d,v)::l') d=some v:=fun d v l'=>by rw[zb4,if_pos rfl]
 have zn:∀{d e:Nat} {v u:Value} {l':zav},e≠d→get l' d=some u→get ((e,v)::l') d=some u:=fun hne h=>by rw[zb4,if_neg hne];exact h
 have sub:∀{M:List Item},rest.Sublist M→∀w,Hp w0 F M w→S w:=fun hs w hw=>hS w (hw.sub hs)
 have hr:∀(M:List Item),rest.Sublist (M++rest):=fun M=>dI _ _
 have vp:∀{l':zav} {M:List Item} {L:Array Bool} {n:Nat},znn ops t L p=true→(∀t u,get l t=some u→get l' t=some u)→(∀w,Hp w0 F M w→S w)→HD P ops Q S t N n (L.setIfInBounds p true) ((dp,.pointer (some ⟨pb,c,none⟩))::l') (Hp w0 F M)→HD P ops Q S t N (n+1) L l' (Hp w0 F M):=fun {l'} {M} {L} {n} hb hl hs hk=>by
  have hok:zee N l' (.fieldAddr T (.tmp x) f) dp=true:=by simpa[zee,zez,zec,Op.operands,zex,hl _ _ hpx]using hdp
  obtain⟨hs',hN,hk'⟩:=ze0 hok
  have hv:OV P (.fieldAddr T (.tmp x) f) tp l' S (.pointer (some ⟨pb,c,none⟩)):=zea (x:=.tmp x) (hl _ _ hpx) hpf
  unfold OV at hv
  exact zww hb (zei np) hs (fun a s=>.inl ⟨rfl,fun w hw=>by rw[s.exec _ hs' hk',zkf _ _ none _ _ _ "" _ #[] _ none];exact hv none "" #[] w hw⟩) (fun a s=>s.put hN _) hk
 have fin:∀{l':zav} {b:α2} {d:α4} {L:Array Bool},L=((((listed.setIfInBounds i1 true).setIfInBounds i2 true).setIfInBounds p true).setIfInBounds i3 true)→(∀t u,get l t=some u→get l' t=some u)→get l' d2=some (u2 b)→get l' dp=some (.pointer (some ⟨pb,c,none⟩))→HD P ops Q S t N n (L.setIfInBounds i4 true) ((d4,u4 d)::l') (Hp w0 F (B' d++(A' b++rest))):=fun {l'} {b} {d} {L} hL hl h2 h5=>by
  subst hL
  refine zi0 (bV _ _ _) ?_
  have:=k b d
  unfold HD at this⊢
  refine fun inv a w s hw=>this inv a w ⟨s.size,s.defers,fun t v h=>?_⟩ hw
  rw[zb4]at h
  by_cases e:d4=t
  ·rw[if_pos e]at h
   exact s.slot t v (by rw[zb4,if_pos e];exact h)
  ·rw[if_neg e,zb4]at h
   refine s.slot t v ?_
   rw[zb4,if_neg e]
   by_cases e3:dp=t
   ·rw[if_pos e3]at h
    rw[←e3,h5];exact h
   ·rw[if_neg e3,zb4]at h
    by_cases e2:d2=t
    ·rw[if_pos e2]at h
     rw[←e2,h2];exact h
    ·rw[if_neg e2]at h
     exact hl t v h
 have st4:∀{l':zav} {b:α2} {c2:α3} {M:List Item} {L:Array Bool},L=((((listed.setIfInBounds i1 true).setIfInBounds i2 true).setIfInBounds p true).setIfInBounds i3 true)→(∀t u,get l t=some u→get l' t=some u)→get l' d2=some (u2 b)→get l' d3=some (u3 c2)→get l' dp=some (.pointer (some ⟨pb,c,none⟩))→M.Perm (B++X2 c2::(A' b++rest))→HD P ops Q S t N (n+1) L l' (Hp w0 F M):=fun {l'} {b} {c2} {M} {L} hL hl h2 h3 h5 hp=>by
  refine zi0 hp ?_
  refine zat i4 ⟨by rw[hL];exact q6,b4⟩ n4 (by rw[g4];rfl) (s4 c2 l' _ hl h3) (fun d=>sub (by rw[←aG];exact hr _)) fun d=>?_
  exact fin hL hl h2 h5
 refine zt7 i1 i3 ⟨q1,b1,b3⟩ n1 n3 g1 g3 (s1 l _ x0) (s3 l _ x0) (fun a=>sub (by rw[←aG,←aF];exact hr _)) (fun c=>sub (by rw[←aG,←aF];exact hr _)) (fun a=>?_) (fun c=>?_)
 ·refine zi0 (m':=A++X1 a::(B++rest)) bM.symm ?_
  refine zt7 i2 i3 ⟨q2,b2,b3⟩ n2 n3 g2 g3 (s2 a _ _ (ext _ x0 e1) (zz _ _ _)) (s3 _ _ (ext _ x0 e1)) (fun b=>sub (by rw[←aG];exact hr _)) (fun c=>sub (.cons _ (((hr B).cons _).trans (dI _ _)))) (fun b=>?_) (fun c=>?_)
  ·refine vp q7 (ext _ (ext _ x0 e1) e2) (sub (by rw[←aG];exact hr _)) ?_
   refine zat i3 ⟨q3,b3⟩ n3 (by rw[g3];rfl) (s3 _ _ (ext _ (ext _ (ext _ x0 e1) e2) ep)) (fun c=>sub (by rw[←aG,←aF];exact hr _)) fun c=>?_
   refine st4 rfl (ext _ (ext _ (ext _ (ext _ x0 e1) e2) ep) e3) (zn (Ne.symm f23) (zn g2' (zz _ _ _))) (zz _ _ _) (zn (Ne.symm g3') (zz _ _ _)) ?_
   refine(List.Perm.cons _ (bV _ _ _)).trans bM.symm
  ·refine zi0 (m':=A++X1 a::(X2 c::(B++rest))) ?_ ?_
   ·refine List.Perm.trans ?_ (cU A (List.Perm.swap _ _ _))
    exact bM.symm
   refine zat i2 ⟨q4,b2⟩ n2 (by rw[g2];rfl) (s2 a _ _ (ext _ (ext _ x0 e1) e3) (zn (Ne.symm f13) (zz _ _ _))) (fun b=>sub (by rw[←aF,←aG];exact hr _)) fun b=>?_
   rw[c23]
   refine vp q8 (ext _ (ext _ (ext _ x0 e1) e3) e2) (sub (by rw[←aF,←aG];exact hr _)) ?_
   refine st4 (c3p _) (ext _ (ext _ (ext _ (ext _ x0 e1) e3) e2) ep) (zn g2' (zz _ _ _)) (zn g3' (zn f23 (zz _ _ _))) (zz _ _ _) ?_
   refine(bM).trans ?_
   refine(List.Perm.cons _ (bV _ _ _)).trans bM.symm
 ·refine zat i1 ⟨q5,b1⟩ n1 (by rw[g1];rfl) (s1 _ _ (ext _ x0 e3)) (fun a=>sub (by rw[←aG,←aF,←aF];exact hr _)) fun a=>?_
  rw[c13]
  refine zi0 (m':=A++X1 a::(X2 c::(B++rest))) ?_ ?_
  ·refine(List.Perm.swap _ _ _).trans ?_
   refine List.Perm.trans ?_ (cU A (List.Perm.swap _ _ _))
   refine List.Perm.trans ?_ bM.symm
   exact List.Perm.cons _ bM.symm
  refine zat i2 ⟨q4,b2⟩ n2 (by rw[g2];rfl) (s2 a _ _ (ext _ (ext _ x0 e3) e1) (zz _ _ _)) (fun b=>sub (by rw[←aF,←aG];exact hr _)) fun b=>?_
  rw[c23]
  refine vp q8 (ext _ (ext _ (ext _ x0 e3) e1) e2) (sub (by rw[←aF,←aG];exact hr _)) ?_
  refine st4 (c3p _) (ext _ (ext _ (ext _ (ext _ x0 e3) e1) e2) ep) (zn g2' (zz _ _ _)) (zn g3' (zn f23 (zn f13 (zz _ _ _)))) (zz _ _ _) ?_
  refine(bM).trans ?_
  refine(List.Perm.cons _ (bV _ _ _)).trans bM.symm
end
theorem qbs{o:Oper}{l':α→zav}{M':α→List Item}(hs:∀x,(M' x).Sublist (M x))(h:HO P o Q N l H l' (fun x=>Hp w0 F (M x))):HO P o Q N l H l' (fun x=>Hp w0 F (M' x)):=by
 unfold HO at*
 exact fun a w s hw K hK=>h a w s hw K fun x a' w' s' hw'=>hK x a' w' s' (hw'.sub (hs x))
theorem zqq(w:World){t:TypeId}{i:TypeInfo}(ht:P.underlying t=some (.slice e))(hi:P.info? e=some i)(base:Option Addr)(n c c':Nat)(hn:n≤c):(Builtin.append_ #[t,t] ty #[.slice base n c,.slice none 0 c']).run P w= .ok (.slice base n c) w:=by
 cases base<;>simp[Builtin.append_,run_underlying ht,Go.sizeOf,typeInfo,hi,Builtin.lenOf,Builtin.firstCells,hn,storeCells]
theorem zxz{T':TypeId}{x y:Operand}{o:Option (Nat×Nat)}{k:Nat}{news:List Value}(hok:zee N l (.call ⟨.builtin .append, #[x,y], #[T,T]⟩) d=true)(hx:evO l x=some (slV o n))(hy:evO l y=some (.slice a k c))
  (hT:zmi P T=some e) (hi:qgk P e=some (1,b,1)) (hl:news.length=k) (h0:a=none→k=0) (h1:zb7 news=true) (hn:(n+k)*(b+1)≤140737488355328)
  (hnews:∀w,Hp w0 F (own e 1 o n xs::m) w→Rd w a news):
  HO P ⟨some d,.call ⟨.builtin .append, #[x,y], #[T,T]⟩,T',pos,after,g⟩ Q N l (Hp w0 F (own e 1 o n xs::m)) (α:=Option (Nat×Nat)) (fun o'=>(d,slV o' (n+k))::l) (fun o'=>Hp w0 F (own e 1 o' (n+k) (xs++news)::m)):=by
 cases a with
 |some a=>
  refine zdh hok hx hy hT hi rfl (by rw[hl,bO]) h1 hn fun w hw j v hj=>?_
  rcases hnews w hw with e|⟨b',off,e,hc⟩
  ·rw[e]at hj;cases hj
  ·cases e
   rw[zde]
   exact hc j v hj
 |none=>
  obtain rfl:=h0 rfl
  obtain rfl:news=[]:=bQ hl
  rw[fU,bC]
  refine zh6 (val:=fun o'=>slV o' n) hok (fun w hw=>⟨o,w,?_,hw⟩)
  obtain⟨hv,hc⟩:=zas (hw.item (own e 1 o n xs) (.head _)).1
  obtain⟨i,z,h1', -⟩:=zmw hi
  have hr:=zqq (P:=P) (ty:=T') w (zbs hT) h1' (slA o) n (slC o) c hc
  rw[←hv]at hr
  simp only[execOp,resolve,invoke,builtin]
  simp[zar hx,zar hy,hr]
theorem Hp.own0(hw:Hp w0 F (own e 1 (some (b,c)) n xs::m) w):Hp w0 F (own e 1 (some (b,c)) 0 []::m) w:=
 hw.imp (fun _ h=>h) (fun⟨_,h1,h2,cur,h3,h4,_⟩=>⟨rfl,aZ _,h2,cur,h3,h4,by simp⟩) (zac _ _ _ _ _ _)
theorem zrw{x:Nat}{v:Value}(hx:get l x=some v)(hd:Nat.ble (d+1) N.n=true)(hT:zmi P T=some e)(hi:zpt P e=some (1,b,z))(hv:v.cells= #[v]):
  HO P ⟨some d,.buildSlice T 1 #[(0,.tmp x)],ty,pos,after,g⟩ Q N l (Hp w0 F m) (α:={ b:Nat//w0.heap.size≤b }) (fun c=>(d,.slice (some ⟨c.1,0,none⟩) 1 1)::l) (fun c=>Hp w0 F (own e 1 (some (c.1,1)) 1 [v]::m)):=by
 have hp:zi2 1 l [(0,.tmp x)]=some [(0*1,1,v)]:=by simp[zi2,evO,hx]
 have h:=za3 (Q:=Q) (N:=N) (m:=m) (w0:=w0) (F:=F) (ty:=ty) (pos:=pos) (after:=after) (g:=g) (len:=1) (ps:=[(0,.tmp x)]) (L:=[(0*1,1,v)]) (d:=d) (by simpa[zee,zez,zec,Op.operands,zex,hx]using hd) hT hi hp dQ (by simp[zdi,hv])
 have e1:zek (zds z (1*1)) [(0*1,1,v)]=[v]:=by
  simp[zek,over,zds,hv]
 rw[e1]at h
 exact h
variable{vx:Value}{val:α→Value}{its:α→List Item}
theorem qkz{x y z:Nat}{vy vz:Value}{pre:List Item}(hx:get l x=some vx)(hy:get l y=some vy)(hz:get l z=some vz)(hd:Nat.ble (d+1) N.n=true)(hb:za7 P f=true)(hst:∀it∈pre,it.Stable none')
  (hc:∀w,Hp w0 F (pre++m) w→(∀it∈pre,zbq it w)→pre.Pairwise Item.Apart→Ct P f #[vx,vy,vz] w (za4 pre) val φ its):
  HO P ⟨some d,.call ⟨.value (.func f), #[.tmp x,.tmp y,.tmp z],tys⟩,ty,pos,after,g⟩ Q N l (Hp w0 F (pre++m)) (α:={ x:α//φ x }) (fun x=>(d,val x.1)::l) (fun x=>Hp w0 F (its x.1++m)):=
 zfb (xs:=[.tmp x,.tmp y,.tmp z]) (vs:=[vx,vy,vz]) (by simpa[zee,zez,zec,Op.operands,Call.operands,zex,hx,hy,hz]using hd) hb (by simp[evs,evO,hx,hy,hz]) hst hc
theorem qd5{x:Nat}(hx:get l x=some vx)(hd:Nat.ble (d+1) N.n=true)(hb:za7 P f=true)
  (hc:∀w,Hp w0 F m w→Ct P f #[vx] w none' val φ its):
  HO P ⟨some d,.call ⟨.value (.func f), #[.tmp x],tys⟩,ty,pos,after,g⟩ Q N l (Hp w0 F m) (α:={ x:α//φ x }) (fun x=>(d,val x.1)::l) (fun x=>Hp w0 F (its x.1++m)):=
 qhd (xs:=[.tmp x]) (vs:=[vx]) (by simpa[zee,zez,zec,Op.operands,Call.operands,zex,hx]using hd) hb (by simp[evs,evO,hx]) hc
theorem qtd(hf:fn.results= #[]):HX (bodyPost P fn (zyb w0 (.tuple #[]))) .normal ⟨n,[],none⟩ l (Hp w0 none' m):=qc4 hf fun _ hw=>⟨rfl,hw.fr⟩
theorem Ct.map{args:Array Value}{Fc:Nat→Prop}{α2:Type}{val2:α2→Value}{φ2:α2→Prop}{its2:α2→List Item}(h:Ct P f args w Fc val2 φ2 its2)(hm:∀x,φ2 x→∃y,val2 x=val y∧φ y∧its2 x=its y):Ct P f args w Fc val φ its:=by
 unfold Ct at*
 refine h.mono ?_
 rintro e w' ⟨x,he,hx,hi⟩
 obtain⟨y,h1,h2,h3⟩:=hm x hx
 exact⟨y,by rw[he,h1],h2,by rw[←h3];exact hi⟩
end Go.Eng
namespace Go.Proofs.YthafakdplhdfjaaGreatDoor
open Go.RowKit Go.Eng Go.Eng.Bm Go.Eng.Tr
theorem zin(k:Int)(w:World):Pu Tryz.prog 102 #[.bool true,.int .i64 k] w (.tuple #[]):=by
 refine zbn [_,_] Tryz.func102 rfl rfl ?_
 simp only[zaa,Nat.reduceAdd]
 refine goA ?_
 exact qtd rfl
theorem zvc{p:Prop}[Decidable p](hp:p)(k:Int)(w:World):Pu Tryz.prog 102 #[.bool (decide p),.int .i64 k] w (.tuple #[]):=by
 rw[decide_eq_true hp]
 exact zin k w
variable{w:World}
theorem qch{b:Nat}{bs:Bys}(h:(rdI b bs).prop w):Rd w (some ⟨b,0,none⟩) (zae bs):=Rd.mk h.1
theorem qbe(w:World):Pu Tryz.prog 157 #[.int .i64 0] w (.tuple #[]):=by
 refine zbn [_] Tryz.func157 rfl rfl ?_
 simp only[zaa]
 refine goA ?_
 exact qtd rfl
abbrev trA(c:Tc)(root:Int):List Value:=[.pointer (some ⟨c.pb,0,none⟩),.int .i64 (c.sh.kw:Int),.int .i64 (c.sh.vw:Int),.int .i64 root]
def trC(c:Tc)(root:Int):Eng.Item:=pt c.t (.cells (c.z.pre++(trA c root++c.z.post)).toArray c.z.ty (0,0))
theorem qes(c:Tc)(root:Int):(trC c root).Stable none':=zab _ _ _
variable{c:Tc}{root:Int}
theorem znr(h:(trC c root).prop w):w.rangeAt c.t c.o (trA c root):=by
 have h2:=zfu (k:=4) (zft (k:=c.o) (zbf h))
 rw[aH,List.drop_left' rfl]at h2
 exact h2
variable{l:zav}{w0:World}{F:Nat→Prop}{m:List Eng.Item}{ty:TypeId}{x:Operand}
theorem qiz{T:TypeId}(j:Nat){v:Value}(hx:evO l x=some (.pointer (some ⟨c.t,c.o+j,none⟩)))(hm:trC c root∈m)(hv:(trA c root)[j]? =some v)(hT:zja Tryz.prog T=true):OV Tryz.prog (.load T x) ty l (Hp w0 F m) v:=
 za0 hx hT (fun _ hw'=>znr (hw'.item _ hm).1 j _ hv)
theorem qr4(hx:evO l x=some (.pointer (some ⟨c.t,c.o+1,none⟩)))(hm:trC c root∈m):OV Tryz.prog (.load 79 x) ty l (Hp w0 F m) (.agg #[.int .i64 (c.sh.kw:Int),.int .i64 (c.sh.vw:Int)]):=
 zgp (xs:=[.int .i64 (c.sh.kw:Int),.int .i64 (c.sh.vw:Int)]) (c:= #[.int .i64 (c.sh.kw:Int),.int .i64 (c.sh.vw:Int)]) hx rfl (fun w' hw'=>zfu (k:=2) (zft (k:=1) (znr (hw'.item _ hm).1))) rfl
theorem zvj{Q:Exit→Act→World→Prop}{N:Fm}{y:Operand}{pos:String}{after:Array Edge}{g:Option (Nat×Bool)}{r:Int}(hok:(zez (.store 3 x y)&&zec l (.store 3 x y))=true)(hx:evO l x=some (.pointer (some ⟨c.t,c.o+3,none⟩)))(hy:evO l y=some (.int .i64 r)):
  HO Tryz.prog ⟨none,.store 3 x y,ty,pos,after,g⟩ Q N l (Hp w0 F (trC c root::m)) (α:=Unit) (fun _=>l) (fun _=>Hp w0 F (trC c r::m)):=by
 have h:=zai (P:=Tryz.prog) (Q:=Q) (N:=N) (w0:=w0) (F:=F) (m:=m) (ty:=ty) (pos:=pos) (after:=after) (g:=g) (cs:=(c.z.pre++(trA c root++c.z.post)).toArray) (E:=c.z.ty) hok hx hy rfl rfl rfl (by simp[trA])
 have e:(c.z.pre++(trA c root++c.z.post)).toArray.setIfInBounds (c.o+3) (.int .i64 r)=(c.z.pre++(trA c r++c.z.post)).toArray:=by
  rw[dE,List.set_append_right _ _ (gE _ _),fY]
  rfl
 rw[e]at h
 exact h
def tmL(c:Tc)(root:Int)(s:Pg):List Eng.Item:=[trC c root,pgI s c.d,dkI c.d,tzI]
def tmI(c:Tc)(root:Int)(s:Pg):Eng.Item:=zef (tmL c root s)
theorem qer(c:Tc)(root:Int)(s:Pg):∀it∈tmL c root s,it.Stable none':=by
 intro it hm
 rcases hm with _|⟨_,hm⟩
 ·exact qes c root
 ·exact zgv s c.d it hm
theorem zag(c:Tc)(root:Int)(s:Pg):∀it∈[tmI c root s],it.Stable none':=by
 intro it hm
 rcases hm with _|⟨_,hm⟩
 ·exact zad _
 ·cases hm
variable{s:Pg}
theorem zj6(h:Hp w0 F (tmI c root s::m) w):Hp w0 F (tmL c root s++m) w:=Hp.open1 h
theorem zho(h:Hp w0 F (tmL c root s++m) w):Hp w0 F (tmI c root s::m) w:=Hp.close1 (qer c root s) h
theorem zm3(n:Nd)(o:Po):∀it∈ndI n o,it.Stable none':=by simp[ndI,zac]
theorem zco(c:Tc)(root:Int)(s:Pg)(n:Nd)(o:Po):∀it∈tmI c root s::ndI n o,it.Stable none':=by
 intro it hm
 rcases hm with _|⟨_,hm⟩
 ·exact zad _
 ·exact zm3 n o it hm
theorem zdl(n:Nd)(o:Po):zb7 (ndO n o).toList=true:=by
 rw[zba]
 intro v hv
 simp only[ndO,aL,List.not_mem_nil,or_false]at hv
 rcases hv with rfl|rfl|rfl|rfl
 ·rfl
 ·exact zc3 _ _
 ·exact zc3 _ _
 ·exact zc3 _ _
variable{s:Sh}
theorem qom(hs:ShB s)(n:Nd)(a:Pl)(hb:NdB n)(hm:zf8 s n)(w:World)(hr:NdR w n a):Ct Tryz.prog 159 #[shV s,ndV n a] w none' (fun o:Option (Nat×Nat)=>.tuple #[slV o 512,.int .i64 0]) (fun _=>True) (fun o=>[own 5 1 o 512 (zae (zcl n))]):=
 (zsy hs n a hb w hr).map fun x hx=>by
  cases x with
  |none=>simp[hm]at hx
  |some o=>exact⟨o,rfl,trivial,rfl⟩
variable{n:Nd}
theorem qkw(hs:ShB s)(a:Option Addr)(m c:Nat)(bs:Bys)(hn:bs.length=m)(hz:m≤100000)(ht:zq5 s bs=some n)(w:World)(hr:Rd w a (zae bs)):Ct Tryz.prog 194 #[shV s,.slice a m c] w none' (fun o:Po=>.tuple #[.agg (ndO n o),.int .i64 0]) (fun _=>True) (fun o=>ndI n o):=
 (qaf hs a m c bs hn hz w hr).map fun x hx=>by
  rw[ht]at hx
  cases x with
  |none=>cases hx
  |some p=>
   obtain⟨n',o⟩:=p
   cases hx
   exact⟨o,rfl,trivial,rfl⟩
variable{g:Sg}{s:Pg}
theorem zmz(h:Tok c g s)(root at_:Int)(hl:zfs c.sh c.N g at_= .ok n):
  Cv Tryz.prog 147 #[.pointer (some ⟨c.t,c.o,none⟩),.int .i64 at_] [tmI c root s] (fun x:Pg×Po=>.agg (ndO n x.2)) (fun x=>Tok c g x.1) (fun x=>tmI c root x.1::ndI n x.2):=by
 intro w hw
 obtain⟨i,rfl,hi1,hi2,ht⟩:∃i:Nat,at_=(i:Int)∧1≤i∧i<c.N∧zq5 c.sh (g.W i)=some n:=by
  unfold zfs at hl
  split at hl
  ·rename_i hc
   refine⟨at_.toNat,oQ,oQ,oQ,?_⟩
   split at hl
   ·rename_i ht;cases hl;exact ht
   ·cases hl
  ·cases hl
 obtain⟨d,t,pb,sh,N,secs,note,V,B,z⟩:=c
 obtain rfl:=h.b
 have hN2:N≤z.n:=h.N2
 have hn2:z.n≤1024:=h.n2
 have hi2:i<N:=hi2
 have hlen:=h.len hi1 hi2
 have hpg:=h.pg hi1 hi2
 have hsn:s.n=z.n:=h.st.hn
 refine za2 [_,_] _ Tryz.func147 rfl rfl hw (.cons (fun _ h=>nomatch h) .nil) ?_
 simp only[zaa,Nat.reduceAdd]
 refine zg8 (m':=tmL _ root s) (fun w h=>zj6 (m:=[]) h) ?_
 unfold tmL
 simp only at hpg hlen⊢
 refine goA ?_
 refine zam rfl rfl fun b4 hb4=>?_
 refine goA ?_
 refine l_w rfl (qiz 0 rfl mm rfl rfl) ?_
 refine goA ?_
 refine lPu rfl (fun w1 hw1=>zl8 s d w1 (zbq.of (hw1.item (pgI s d) sQ) (zbv s d))) ?_
 rw[hsn]
 refine goA ?_
 refine lPu rfl (fun w1 hw1=>zvc oQ _ w1) ?_
 refine goA ?_
 refine l_w rfl (qiz 0 rfl mm rfl rfl) ?_
 refine goA ?_
 refine zay [2,3,0,1,4] rfl rfl ?_
 refine lCu [pgI s d,dkI d] rfl (zdp s d) (fun w1 hw1 hh1 ha1=>zhi s d h.ok h.lives h.wait h.st.dead h.st.ok i oQ w1 hh1 ha1) fun⟨b,_⟩=>?_
 rw[hpg]
 dsimp only
 refine goA ?_
 refine lPu rfl (fun w1 hw1=>qbe w1) ?_
 refine goA ?_
 refine l_w rfl (qr4 rfl mm) ?_
 refine goA ?_
 refine zdy rfl rfl kQ rfl (fun w1 hw1=>qkw (show ShB sh from h.sh) (some ⟨b,0,none⟩) 512 512 (g.W i) hlen dQ ht w1 (qch (hw1.item (rdI b (g.W i)) (.head _)).1)) fun o _=>?_
 refine goA ?_
 refine zam rfl rfl fun b7 hb7=>?_
 refine za1 rfl (zaf (cs':=ndO n o) rfl rfl rfl rfl (zdl n o) rfl) fun _=>?_
 refine goA ?_
 refine lPu rfl (fun w1 hw1=>zin _ w1) ?_
 refine goA ?_
 unfold ndI
 simp only[aF,aJ]
 refine za1 rfl (zah (zwo _ _ _ _ _ _ _ _ _) (zaf (cs':=ndO n o) rfl rfl rfl rfl (zdl n o) rfl)) fun _=>?_
 refine goA ?_
 refine zbr (m':=tmI ⟨d,t,s.b,sh,N,secs,note,V,B,z⟩ root (zb1 s d.D i)::pt b4 (.cells (ndO n o) 185 (0,0))::ndI n o) (fun w' hw'=>zho (hw'.pick [8,6,7,9,0,2,3,4] rfl rfl)) ?_
 exact zbd (zb1 s d.D i,o) rfl ⟨_,rfl,zaq rfl (.tail _ (.head _))⟩ rfl (h.page hi2) (.cons_cons _ (.cons _ (.refl _))) (zco _ _ _ _ _)
structure NdA (F:Nat→Prop) (a:Pl):Prop where
 k:∀x:Addr,a.k.1=some x→¬F x.block
 v:∀x:Addr,a.v.1=some x→¬F x.block
 d:∀x:Addr,a.d.1=some x→¬F x.block
variable{xs:List Value}
theorem qh0{a:Option Addr}(h:Rd w0 a xs)(ha:∀x:Addr,a=some x→¬F x.block)(hw:Hp w0 F m w):Rd w a xs:=by
 rcases h with h|⟨b,off,h1,h2⟩
 ·exact .inl h
 ·exact .inr ⟨b,off,h1,fun j u hu=>hw.old (a:=⟨b,off+j,none⟩) (show¬F b from ha _ h1) (h2 j u hu)⟩
theorem NdR.out{a:Pl}(h:NdR w0 n a)(ha:NdA F a)(hw:Hp w0 F m w):NdR w n a:=⟨qh0 h.k ha.k hw,qh0 h.v ha.v hw,qh0 h.d ha.d hw⟩
theorem zbx{it:Eng.Item}{e:TypeId}{o:Option (Nat×Nat)}{n:Nat}(h:Hp w0 F (it::m) w)(hm:own e 1 o n xs∈m):∀x:Addr,slA o=some x→¬za4 [it] x.block:=fun x hx ⟨y,hy,hk⟩=>by
 obtain rfl:y=it:=by simpa using hy
 match o,hx with
 |some (b,c),hx=>
  cases hx
  exact(bP.1 h.apart).1 _ hm _ hk ⟨c,rfl⟩
theorem qem{a:Option Addr}{r:Bool}{k:Nat}{x:Addr}(h:zwe a r k=some x):∃y,a=some y∧y.block=x.block:=by
 unfold zwe at h
 split at h
 ·exact⟨x,h,rfl⟩
 ·cases a with
  |none=>cases h
  |some y=>
   cases h
   exact⟨y,rfl,by unfold Addr.add;split<;>rfl⟩
theorem save_ok'{g':Sg}(h:Tok c g s)(root:Int)(at_:Nat)(n:Nd)(a:Pl)(hb:NdB n)(hl:zb8 c.sh c.N g at_ n= .ok g')(w:World)(hr:NdR w n a)(hA:NdA (za4 [tmI c root s]) a)(hw:∀it∈[tmI c root s],zbq it w):
  Ct Tryz.prog 108 #[.pointer (some ⟨c.t,c.o,none⟩),.int .i64 (at_:Int),ndV n a] w (za4 [tmI c root s]) (fun _:Pg=>.tuple #[]) (fun s'=>Tok c g' s') (fun s'=>[tmI c root s']):=by
 obtain⟨hm,hi1,hi2,rfl⟩:zf8 c.sh n∧1≤at_∧at_<c.N∧{ g with W:=wr g.W at_ (zcl n) }=g':=by
  unfold zb8 at hl
  split at hl
  ·rename_i h1
   split at hl
   ·rename_i h2;cases hl;exact⟨h1,h2.1,h2.2,rfl⟩
   ·cases hl
  ·cases hl
 obtain⟨d,t,pb,sh,N,secs,note,V,B,z⟩:=c
 obtain rfl:=h.b
 have hsh:ShB sh:=h.sh
 have hPl:=zxv hsh.k1 hm
 have h':=h.save hi1 hi2 hPl
 have hN2:N≤z.n:=h.N2
 have hn2:z.n≤1024:=h.n2
 have hi2:at_<N:=hi2
 have hsn:s.n=z.n:=h.st.hn
 refine za2 [_,_,_] _ Tryz.func108 rfl rfl hw (.cons (fun _ h=>nomatch h) .nil) ?_
 simp only[zaa,Nat.reduceAdd]
 unfold ndV
 refine zg8 (m':=tmL _ root s) (fun w h=>zj6 (m:=[]) h) ?_
 unfold tmL
 simp only at hPl⊢
 refine goA ?_
 refine zbp rfl rfl fun b5 hb5=>?_
 refine goA ?_
 refine zap [0,1,2,3,4] 11 rfl rfl kQ ?_
 (repeat first|refine dAv [3] rfl rfl rfl ?_ |refine dno [3] rfl rfl rfl ?_ |refine dT [3] rfl rfl rfl rfl ?_ |refine dF [3] rfl rfl rfl rfl ?_)
 refine goV rfl rfl (qr4 rfl mm) ?_
 refine goE ?_
 refine zat 5 ⟨kQ,dQ⟩ rfl rfl (qhd rfl kQ rfl (fun w1 hw1=>qom hsh n a hb hm w1 (hr.out hA hw1))) (fun _ _ h=>goH h) fun⟨o,_⟩=>?_
 refine goX ?_
 refine lPu rfl (fun w1 hw1=>zin _ w1) ?_
 refine zch (fun w hw=>zas (hw.item (own 5 1 o 512 (zae (zcl n))) sQ).1) fun⟨hsl,_⟩=>?_
 rw[hsl]
 refine goA ?_
 refine l_w rfl (qiz 0 rfl mm rfl rfl) ?_
 refine goA ?_
 refine zay [3,0,1,2,4,5] rfl rfl ?_
 refine lCu [pgI s d] rfl (zbl s d) (fun w1 hw1 hh1 ha1=>zqf s d (at_:Nat) (zcl n) hPl (slA o) (slC o) h.st.dead oQ w1 hh1 (za8 (hw1.item (own 5 1 o 512 (zae (zcl n))) (.tail _ (.head _))).1) (fun b off e=>zbx hw1 (.head _) ⟨b,off,none⟩ e)) fun⟨_,_⟩=>?_
 have hcc:¬((at_:Int)<1∨(s.n:Int)≤(at_:Int)):=oQ
 rw[if_neg hcc,if_neg hcc,cB]
 dsimp only
 refine goA ?_
 refine lPu rfl (fun w1 hw1=>qbe w1) ?_
 refine goA ?_
 refine zbr (m':=[tmI ⟨d,t,s.b,sh,N,secs,note,V,B,z⟩ root { s with C:=zeb s.C at_ (zcl n) }]) (fun w' hw'=>zho (m:=[]) (hw'.pick [3,0,4,5] rfl rfl)) ?_
 exact zk0 { s with C:=zeb s.C at_ (zcl n) } rfl rfl h' (.refl _) (zag _ _ _)
theorem zvo{g':Sg}(h:Tok c g s)(root:Int){q:Nat}(hl:zh8 c.N g= .ok (q,g')):
  Cv Tryz.prog 120 #[.pointer (some ⟨c.t,c.o,none⟩)] [tmI c root s] (fun _:Pg=>.int .i64 (q:Int)) (fun s'=>Tok c g' s') (fun s'=>[tmI c root s']):=by
 intro w hw
 obtain⟨h',hq1,hq2,hq3,hq4⟩:=h.alloc hl
 obtain⟨d,t,pb,sh,N,secs,note,V,B,z⟩:=c
 obtain rfl:=h.b
 refine za2 [_] _ Tryz.func120 rfl rfl hw (.cons (fun _ h=>nomatch h) .nil) ?_
 simp only[zaa]
 refine zg8 (m':=tmL _ root s) (fun w h=>zj6 (m:=[]) h) ?_
 unfold tmL
 simp only at h'⊢
 refine goA ?_
 refine l_w rfl (qiz 0 rfl mm rfl rfl) ?_
 refine goA ?_
 refine zay [1,2,3,0] rfl rfl ?_
 refine lCu [pgI s d,dkI d,tzI] rfl (zgv s d) (fun w1 hw1 hh1 ha1=>zn7 s d h.ok h.lives h.wait h.st.dead h.st.ok g.S h.hS (by rw[h.st.hn];exact h.S.2.1) h.S.2.2 q hq1 hq2 hq3 w1 hh1 ha1) fun⟨_,_⟩=>?_
 refine goA ?_
 refine lPu rfl (fun w1 hw1=>qbe w1) ?_
 refine goA ?_
 refine zbr (m':=[tmI ⟨d,t,s.b,sh,N,secs,note,V,B,z⟩ root (znt s d.D g.S q)]) (fun w' hw'=>zho (m:=[]) (hw'.pick [3,0,1,2] rfl rfl)) ?_
 exact zbd (znt s d.D g.S q) rfl rfl rfl h' (.refl _) (zag _ _ _)
theorem zub{g':Sg}(h:Tok c g s)(root:Int)(at_:Nat)(hl:zf0 c.N g at_= .ok g'):
  Cv Tryz.prog 107 #[.pointer (some ⟨c.t,c.o,none⟩),.int .i64 (at_:Int)] [tmI c root s] (fun _:Pg=>.tuple #[]) (fun s'=>Tok c g' s') (fun s'=>[tmI c root s']):=by
 intro w hw
 obtain⟨h',hq1,hq2⟩:=h.drop hl
 obtain⟨d,t,pb,sh,N,secs,note,V,B,z⟩:=c
 obtain rfl:=h.b
 refine za2 [_,_] _ Tryz.func107 rfl rfl hw (.cons (fun _ h=>nomatch h) .nil) ?_
 simp only[zaa,Nat.reduceAdd]
 refine zg8 (m':=tmL _ root s) (fun w h=>zj6 (m:=[]) h) ?_
 unfold tmL
 simp only at h'⊢
 refine goA ?_
 refine l_w rfl (qiz 0 rfl mm rfl rfl) ?_
 refine goA ?_
 refine zay [1,2,3,0] rfl rfl ?_
 refine lCu [pgI s d,dkI d] rfl (zdp s d) (fun w1 hw1 hh1 ha1=>zx8 s d h.ok h.lives h.wait h.st.dead h.st.ok (by rw[h.st.hn];exact h.n1) g.S h.hS (by rw[h.st.hn];exact h.S.2.1) h.S.2.2 at_ hq1 w1 hh1 ha1) fun⟨_,_⟩=>?_
 rw[if_neg hq2,if_neg hq2]
 refine goA ?_
 refine lPu rfl (fun w1 hw1=>qbe w1) ?_
 refine goA ?_
 refine zbr (m':=[tmI ⟨d,t,s.b,sh,N,secs,note,V,B,z⟩ root (qdk s d.D g.S at_ false)]) (fun w' hw'=>zho (m:=[]) (hw'.pick [3,0,1,2] rfl rfl)) ?_
 exact zk0 (qdk s d.D g.S at_ false) rfl rfl h' (.refl _) (zag _ _ _)
end Go.Proofs.YthafakdplhdfjaaGreatDoor
namespace Go.Proofs.YthafakdplhdfjaaGreatDoor
open Go.RowKit Go.Eng Go.Eng.Tr
theorem ziu(o:Option (Nat×Nat))(n i:Nat)(xs:List Value)(x:Value)(vb:Nat)(h1:zb7 xs=true)(h1x:zb7 [x]=true)(hi:i≤n)(hn:n≤1000000):
  Cw Tryz.prog 174 #[slV o n,.int .i64 (i:Nat),.slice (some ⟨vb,0,none⟩) 1 1] [own 9 1 o n xs,own 9 1 (some (vb,1)) 1 [x]] (fun o':Option (Nat×Nat)=>slV o' (n+1)) (fun _=>True) (fun o'=>[own 9 1 o' (n+1) (ins xs i x)]):=by
 intro w hw ha
 have hxl:xs.length=n:=by have:=(hw _ (.head _)).1.1;rwa[bO]at this
 obtain⟨hv,hnc⟩:=zas (hw _ (.head _)).1
 refine za2 [_,_,_] _ Tryz.func174 rfl rfl hw ha ?_
 by_cases hin:i=n
 ·subst hin
  have hins:ins xs i x=xs++[x]:=by unfold ins;rw[bJ oQ,cX oQ]
  rw[hins]
  simp only[zaa,Nat.reduceAdd]
  rw[hv]
  refine goA ?_
  rw[←hv]
  refine za1 rfl (zdh (news:=[x]) rfl rfl rfl rfl rfl rfl rfl h1x oQ (fun w' hw' j v hj=>by rw[zde,aH];exact zby (hw'.item _ (.tail _ (.head _))).1 j v hj)) fun o'=>?_
  refine goA ?_
  exact zbd o' rfl rfl rfl trivial (.cons_cons _ (aK _)) (by simp[zac])
 ·have hin:i<n:=oQ
  obtain⟨b,c,rfl⟩:∃b c,o=some (b,c):=by
   cases o with
   |none=>exact absurd (hw _ (.head _)).1.2 (by show¬(n=0);omega)
   |some p=>exact⟨p.1,p.2,rfl⟩
  have hcm:c≤maxLen:=(hw _ (.head _)).1.2.2.1
  unfold maxLen at hcm
  have hnc:n≤c:=hnc
  have hne:vb≠b:=fun e=>(bP.1 ha).1 _ (.head _) b ⟨c,rfl⟩ ⟨1,by rw[e]⟩
  have hsplit:xs.take i++xs.drop i=xs:=bF i xs
  have hAl:(xs.take i).length=i:=by rw[aM];omega
  have hBl:(xs.drop i).length=n - i:=by rw[aX];omega
  have hB0:xs.drop i≠[]:=fun h=>by rw[h]at hBl;simp at hBl;omega
  have h1B:zb7 (xs.drop i)=true:=zba.2 fun v hv=>zba.1 h1 v (cE hv)
  simp only[zaa,Nat.reduceAdd]
  simp only[slV]
  refine qse (fun w hw=>hw.cut) fun zs hz=>?_
  have hat:∀(j:Nat) v,(xs.drop i)[j]? =some v→(xs++zs)[i+j]? =some v:=fun j v h=>by
   rw[eG]at h
   rw[cK (aC.1 h).1];exact h
  by_cases hroom:n+1≤c
  ·obtain⟨z,zs',rfl⟩:=iK (show zs≠[]from fun h=>by rw[h]at hz;simp at hz;omega)
   refine goA ?_
   rw[zcf oQ]
   refine l_w rfl (qmy Tryz.func211 kQ kQ kQ (E:=Extern.SlicesOverlaps.overlaps #[35,35] #[4]) kQ rfl fun w' hw'=>by rw[aH];exact zky rfl rfl (hw'.item _ (.tail _ (.head _))).1 (hw'.get (.head _)) hne sQ) ?_
   refine goA ?_
   refine zap [1] 9 rfl rfl kQ ?_
   refine goE ?_
   rw[zcf oQ,zcf oQ]
   refine zat 8 ⟨kQ,dQ⟩ rfl rfl (ziq (cs:=xs.drop i) (cur:=xs++z::zs') rfl rfl rfl rfl rfl (by rw[hBl];omega) (fun w' hw'=>by rw[aH,bO];exact ztb (hw'.get (.head _)) hat) (fun h=>nomatch h) (by rw[hBl];simp;omega) h1B) (fun _ _ h=>goH h) fun _=>?_
   refine zdn kQ ?_
   refine goA ?_
   rw[zcf oQ]
   refine za1 rfl (ziq (cs:=[x]) rfl rfl rfl rfl rfl (by simp;omega) (fun w' hw'=>.inr ⟨vb,0,rfl,fun j v hj=>by rw[aH];exact zby (hw'.item (own 9 1 (some (vb,1)) 1 [x]) (.tail _ (.head _))).1 j v hj⟩) (fun h=>nomatch h) (by rw[zgw (by rw[hBl];simp;omega)];simp;omega) h1x) fun _=>?_
   rw[show put (put (xs++z::zs') (0+(i+1)*1) (xs.drop i)) (0+i*1) [x]=ins xs i x++zs' by
    have:=zyc (A:=xs.take i) (B:=xs.drop i) (zs:=zs') (z:=z) (x:=x) hB0
    rw[hsplit,hAl]at this
    rw[aH,aH,bO,bO,this]
    rfl]
   refine goA ?_
   refine zbr (fun w hw=>hw.glue (n:=n+1) (c:=c) (by unfold ins;simp;omega) (by simp at hz;omega) hroom (by unfold maxLen;omega)) ?_
   exact zbd (some (b,c)) rfl rfl rfl trivial (.cons_cons _ (aK _)) (by simp[zac])
  ·obtain rfl:c=n:=oQ
   refine goA ?_
   refine za1 rfl (qb6 (olds:=xs.take i) (z:=.string ⟨#[]⟩) rfl rfl rfl rfl rfl rfl rfl oQ oQ oQ hAl (fun h=>nomatch h) (fun w' hw'=>ztb (hw'.get (.head _)) fun j v h=>by
    have hj:=(aC.1 h).1
    rw[List.getElem?_take_of_lt oQ]at h
    rw[aH,cK oQ];exact h)) fun⟨⟨b2,c2⟩,hb2,hc2⟩=>?_
   simp only at hc2⊢
   rw[show i+(c+1 - i)=c+1 by omega]at hc2⊢
   refine zch (fun w hw=>(hw.item _ (.head _)).1.2.2.1) fun hcm2=>?_
   refine qth (fun w hw=>hw.cut) fun zs2 hz2=>?_
   refine goA ?_
   rw[zcf oQ]
   refine za1 rfl (ziq (cs:=[x]) rfl rfl rfl rfl rfl (by simp;omega) (fun w' hw'=>.inr ⟨vb,0,rfl,fun j v hj=>by rw[aH];exact zby (hw'.item (own 9 1 (some (vb,1)) 1 [x]) (.tail _ (.tail _ (.head _)))).1 j v hj⟩) (fun h=>nomatch h) (by simp;omega) h1x) fun _=>?_
   refine goA ?_
   refine zap [1,2] 9 rfl rfl kQ ?_
   refine goE ?_
   rw[zcf oQ,zcf oQ]
   refine zat 8 ⟨kQ,dQ⟩ rfl rfl (ziq (cs:=xs.drop i) rfl rfl rfl rfl rfl (by rw[hBl];omega) (fun w' hw'=>by rw[aH,bO];exact ztb (hw'.get (.tail _ (.head _))) hat) (fun h=>nomatch h) (by rw[hBl,zgw (by simp;omega)];simp;omega) h1B) (fun _ _ h=>goH h) fun _=>?_
   refine zdn kQ ?_
   refine goA ?_
   rw[show put (put (xs.take i++List.replicate (c+1 - i) (.string ⟨#[]⟩)++zs2) (0+i*1) [x]) (0+(i+1)*1) (xs.drop i)=ins xs i x++zs2 by
    have:=qce (A:=xs.take i) (B:=xs.drop i) (Z:=List.replicate (c+1 - i) (.string ⟨#[]⟩)) (zs:=zs2) (x:=x) (by rw[hBl];simp;omega)
    rw[hAl]at this
    rw[aH,aH,bO,bO,this]
    rfl]
   refine zbr (fun w hw=>hw.glue (n:=c+1) (c:=c2) (by unfold ins;simp;omega) hz2 hc2 hcm2) ?_
   exact zbd (some (b2,c2)) rfl rfl rfl trivial (.cons_cons _ (aK _)) (by simp[zac])
theorem zuy(o:Option (Nat×Nat))(n i:Nat)(xs:List Value)(x:Value)(vb:Nat)(h1:zb7 xs=true)(h1x:zb7 [x]=true)(hi:i≤n)(hn:n≤1000000):
  Cw Tryz.prog 176 #[slV o n,.int .i64 (i:Nat),.slice (some ⟨vb,0,none⟩) 1 1] [own 3 1 o n xs,own 3 1 (some (vb,1)) 1 [x]] (fun o':Option (Nat×Nat)=>slV o' (n+1)) (fun _=>True) (fun o'=>[own 3 1 o' (n+1) (ins xs i x)]):=by
 intro w hw ha
 have hxl:xs.length=n:=by have:=(hw _ (.head _)).1.1;rwa[bO]at this
 obtain⟨hv,hnc⟩:=zas (hw _ (.head _)).1
 refine za2 [_,_,_] _ Tryz.func176 rfl rfl hw ha ?_
 by_cases hin:i=n
 ·subst hin
  have hins:ins xs i x=xs++[x]:=by unfold ins;rw[bJ oQ,cX oQ]
  rw[hins]
  simp only[zaa,Nat.reduceAdd]
  rw[hv]
  refine goA ?_
  rw[←hv]
  refine za1 rfl (zdh (news:=[x]) rfl rfl rfl rfl rfl rfl rfl h1x oQ (fun w' hw' j v hj=>by rw[zde,aH];exact zby (hw'.item _ (.tail _ (.head _))).1 j v hj)) fun o'=>?_
  refine goA ?_
  exact zbd o' rfl rfl rfl trivial (.cons_cons _ (aK _)) (by simp[zac])
 ·have hin:i<n:=oQ
  obtain⟨b,c,rfl⟩:∃b c,o=some (b,c):=by
   cases o with
   |none=>exact absurd (hw _ (.head _)).1.2 (by show¬(n=0);omega)
   |some p=>exact⟨p.1,p.2,rfl⟩
  have hcm:c≤maxLen:=(hw _ (.head _)).1.2.2.1
  unfold maxLen at hcm
  have hnc:n≤c:=hnc
  have hne:vb≠b:=fun e=>(bP.1 ha).1 _ (.head _) b ⟨c,rfl⟩ ⟨1,by rw[e]⟩
  have hsplit:xs.take i++xs.drop i=xs:=bF i xs
  have hAl:(xs.take i).length=i:=by rw[aM];omega
  have hBl:(xs.drop i).length=n - i:=by rw[aX];omega
  have hB0:xs.drop i≠[]:=fun h=>by rw[h]at hBl;simp at hBl;omega
  have h1B:zb7 (xs.drop i)=true:=zba.2 fun v hv=>zba.1 h1 v (cE hv)
  simp only[zaa,Nat.reduceAdd]
  simp only[slV]
  refine qse (fun w hw=>hw.cut) fun zs hz=>?_
  have hat:∀(j:Nat) v,(xs.drop i)[j]? =some v→(xs++zs)[i+j]? =some v:=fun j v h=>by
   rw[eG]at h
   rw[cK (aC.1 h).1];exact h
  by_cases hroom:n+1≤c
  ·obtain⟨z,zs',rfl⟩:=iK (show zs≠[]from fun h=>by rw[h]at hz;simp at hz;omega)
   refine goA ?_
   rw[zcf oQ]
   refine l_w rfl (qmy Tryz.func213 kQ kQ kQ (E:=Extern.SlicesOverlaps.overlaps #[183,183] #[4]) kQ rfl fun w' hw'=>by rw[aH];exact zky rfl rfl (hw'.item _ (.tail _ (.head _))).1 (hw'.get (.head _)) hne sQ) ?_
   refine goA ?_
   refine zap [1] 9 rfl rfl kQ ?_
   refine goE ?_
   rw[zcf oQ,zcf oQ]
   refine zat 8 ⟨kQ,dQ⟩ rfl rfl (ziq (cs:=xs.drop i) (cur:=xs++z::zs') rfl rfl rfl rfl rfl (by rw[hBl];omega) (fun w' hw'=>by rw[aH,bO];exact ztb (hw'.get (.head _)) hat) (fun h=>nomatch h) (by rw[hBl];simp;omega) h1B) (fun _ _ h=>goH h) fun _=>?_
   refine zdn kQ ?_
   refine goA ?_
   rw[zcf oQ]
   refine za1 rfl (ziq (cs:=[x]) rfl rfl rfl rfl rfl (by simp;omega) (fun w' hw'=>.inr ⟨vb,0,rfl,fun j v hj=>by rw[aH];exact zby (hw'.item (own 3 1 (some (vb,1)) 1 [x]) (.tail _ (.head _))).1 j v hj⟩) (fun h=>nomatch h) (by rw[zgw (by rw[hBl];simp;omega)];simp;omega) h1x) fun _=>?_
   rw[show put (put (xs++z::zs') (0+(i+1)*1) (xs.drop i)) (0+i*1) [x]=ins xs i x++zs' by
    have:=zyc (A:=xs.take i) (B:=xs.drop i) (zs:=zs') (z:=z) (x:=x) hB0
    rw[hsplit,hAl]at this
    rw[aH,aH,bO,bO,this]
    rfl]
   refine goA ?_
   refine zbr (fun w hw=>hw.glue (n:=n+1) (c:=c) (by unfold ins;simp;omega) (by simp at hz;omega) hroom (by unfold maxLen;omega)) ?_
   exact zbd (some (b,c)) rfl rfl rfl trivial (.cons_cons _ (aK _)) (by simp[zac])
  ·obtain rfl:c=n:=oQ
   refine goA ?_
   refine za1 rfl (qb6 (olds:=xs.take i) (z:=.int .i64 0) rfl rfl rfl rfl rfl rfl rfl oQ oQ oQ hAl (fun h=>nomatch h) (fun w' hw'=>ztb (hw'.get (.head _)) fun j v h=>by
    have hj:=(aC.1 h).1
    rw[List.getElem?_take_of_lt oQ]at h
    rw[aH,cK oQ];exact h)) fun⟨⟨b2,c2⟩,hb2,hc2⟩=>?_
   simp only at hc2⊢
   rw[show i+(c+1 - i)=c+1 by omega]at hc2⊢
   refine zch (fun w hw=>(hw.item _ (.head _)).1.2.2.1) fun hcm2=>?_
   refine qth (fun w hw=>hw.cut) fun zs2 hz2=>?_
   refine goA ?_
   rw[zcf oQ]
   refine za1 rfl (ziq (cs:=[x]) rfl rfl rfl rfl rfl (by simp;omega) (fun w' hw'=>.inr ⟨vb,0,rfl,fun j v hj=>by rw[aH];exact zby (hw'.item (own 3 1 (some (vb,1)) 1 [x]) (.tail _ (.tail _ (.head _)))).1 j v hj⟩) (fun h=>nomatch h) (by simp;omega) h1x) fun _=>?_
   refine goA ?_
   refine zap [1,2] 9 rfl rfl kQ ?_
   refine goE ?_
   rw[zcf oQ,zcf oQ]
   refine zat 8 ⟨kQ,dQ⟩ rfl rfl (ziq (cs:=xs.drop i) rfl rfl rfl rfl rfl (by rw[hBl];omega) (fun w' hw'=>by rw[aH,bO];exact ztb (hw'.get (.tail _ (.head _))) hat) (fun h=>nomatch h) (by rw[hBl,zgw (by simp;omega)];simp;omega) h1B) (fun _ _ h=>goH h) fun _=>?_
   refine zdn kQ ?_
   refine goA ?_
   rw[show put (put (xs.take i++List.replicate (c+1 - i) (.int .i64 0)++zs2) (0+i*1) [x]) (0+(i+1)*1) (xs.drop i)=ins xs i x++zs2 by
    have:=qce (A:=xs.take i) (B:=xs.drop i) (Z:=List.replicate (c+1 - i) (.int .i64 0)) (zs:=zs2) (x:=x) (by rw[hBl];simp;omega)
    rw[hAl]at this
    rw[aH,aH,bO,bO,this]
    rfl]
   refine zbr (fun w hw=>hw.glue (n:=c+1) (c:=c2) (by unfold ins;simp;omega) hz2 hc2 hcm2) ?_
   exact zbd (some (b2,c2)) rfl rfl rfl trivial (.cons_cons _ (aK _)) (by simp[zac])
theorem zit(b c n i:Nat)(xs:List Value)(h1:zb7 xs=true)(hi:i<n)(hn:n≤1000000):
  Cv Tryz.prog 155 #[.slice (some ⟨b,0,none⟩) n c,.int .i64 (i:Nat),.int .i64 ((i+1:Nat):Int)] [own 9 1 (some (b,c)) n xs] (fun _:Unit=>.slice (some ⟨b,0,none⟩) (n - 1) c) (fun _=>True) (fun _=>[own 9 1 (some (b,c)) (n - 1) (xs.eraseIdx i)]):=by
 intro w hw
 have hxl:xs.length=n:=by have:=(hw _ (.head _)).1.1;rwa[bO]at this
 have hnc:n≤c:=(hw _ (.head _)).1.2.1
 have hcm:c≤maxLen:=(hw _ (.head _)).1.2.2.1
 have hcm':=hcm
 unfold maxLen at hcm'
 refine za2 [_,_,_] _ Tryz.func155 rfl rfl hw (.cons (fun _ h=>nomatch h) .nil) ?_
 have hBl:(xs.drop (i+1)).length=n - (i+1):=by rw[aX];omega
 have h1B:zb7 (xs.drop (i+1))=true:=zba.2 fun v hv=>zba.1 h1 v (cE hv)
 simp only[zaa,Nat.reduceAdd]
 refine qse (fun w hw=>hw.cut) fun zs hz=>?_
 have hat:∀(j:Nat) v,(xs.drop (i+1))[j]? =some v→(xs++zs)[i+1+j]? =some v:=fun j v h=>by
  rw[eG]at h
  rw[cK (aC.1 h).1];exact h
 have herase:xs.eraseIdx i=xs.take i++xs.drop (i+1):=gV xs i
 refine goA ?_
 refine l_w rfl (qr2 rfl rfl rfl rfl rfl rfl ⟨oQ,oQ,oQ⟩) ?_
 refine goA ?_
 refine zap [] 8 rfl rfl kQ ?_
 refine goE ?_
 obtain⟨a,hae,hac⟩:∃a,zwe (some (⟨b,0,none⟩:Addr)) (decide (c=i+1)) ((i+1)*1)=some a∧∀w:World,w.heap[b]? =some (.cells (xs++zs).toArray 9 (0,0))→∀(j:Nat) (v:Value),(xs.drop (i+1))[j]? =some v→w.cell? (a.add j)=some v:=by
  by_cases hc:c=i+1
  ·refine⟨_,by rw[decide_eq_true hc];rfl,fun w' _ j v hj=>?_⟩
   have:=(aC.1 hj).1
   omega
  ·refine⟨⟨b,i+1,none⟩,by rw[zcf hc,aH,bO],fun w' hw' j v hj=>?_⟩
   rw[zde]
   have:=zbf hw' (i+1+j) v (hat j v hj)
   rwa[aH]at this
 rw[hae]
 refine zat 6 ⟨kQ,dQ⟩ rfl rfl (qhb (news:=xs.drop (i+1)) rfl rfl rfl rfl rfl hBl h1B oQ (by simp;omega) (fun w' hw'=>hac w' (hw'.get (.head _)))) (fun _ _ h=>goH h) fun _=>?_
 refine goE ?_
 refine zdn kQ ?_
 rw[show i+(n - (i+1))=n - 1 by omega]
 refine goA ?_
 rw[zcf oQ]
 refine za1 rfl (qb7 (z:=.string ⟨#[]⟩) rfl rfl rfl rfl rfl rfl oQ (by rw[zgw (by rw[hBl];simp;omega)];simp;omega)) fun _=>?_
 obtain⟨y,hy⟩:∃y,xs=xs.take i++y::xs.drop (i+1):=⟨xs[i]'oQ,by rw[←bX,bF]⟩
 have hAl:(xs.take i).length=i:=by rw[aM];omega
 rw[show put (put (xs++zs) i (xs.drop (i+1))) (0+(n - 1)*1) (List.replicate (n - (n - 1)) (.string ⟨#[]⟩))=xs.eraseIdx i++(.string ⟨#[]⟩)::zs by
  have:=qhy (A:=xs.take i) (B:=xs.drop (i+1)) (zs:=zs) (y:=y) (z:=.string ⟨#[]⟩)
  rw[←hy,hAl,hBl]at this
  rw[show n - (n - 1)=1 by omega,aH,bO,show n - 1=i+(n - (i+1)) by omega,herase]
  exact this]
 refine goA ?_
 refine zbr (fun w hw=>hw.glue (n:=n - 1) (c:=c) (by rw[eS oQ];omega) (by simp;omega) oQ hcm) ?_
 exact zbd () rfl rfl rfl trivial (.cons_cons _ (aK _)) (by simp[zac])
theorem zux(b c n i:Nat)(xs:List Value)(h1:zb7 xs=true)(hi:i<n)(hn:n≤1000000):
  Cv Tryz.prog 200 #[.slice (some ⟨b,0,none⟩) n c,.int .i64 (i:Nat),.int .i64 ((i+1:Nat):Int)] [own 3 1 (some (b,c)) n xs] (fun _:Unit=>.slice (some ⟨b,0,none⟩) (n - 1) c) (fun _=>True) (fun _=>[own 3 1 (some (b,c)) (n - 1) (xs.eraseIdx i)]):=by
 intro w hw
 have hxl:xs.length=n:=by have:=(hw _ (.head _)).1.1;rwa[bO]at this
 have hnc:n≤c:=(hw _ (.head _)).1.2.1
 have hcm:c≤maxLen:=(hw _ (.head _)).1.2.2.1
 have hcm':=hcm
 unfold maxLen at hcm'
 refine za2 [_,_,_] _ Tryz.func200 rfl rfl hw (.cons (fun _ h=>nomatch h) .nil) ?_
 have hBl:(xs.drop (i+1)).length=n - (i+1):=by rw[aX];omega
 have h1B:zb7 (xs.drop (i+1))=true:=zba.2 fun v hv=>zba.1 h1 v (cE hv)
 simp only[zaa,Nat.reduceAdd]
 refine qse (fun w hw=>hw.cut) fun zs hz=>?_
 have hat:∀(j:Nat) v,(xs.drop (i+1))[j]? =some v→(xs++zs)[i+1+j]? =some v:=fun j v h=>by
  rw[eG]at h
  rw[cK (aC.1 h).1];exact h
 have herase:xs.eraseIdx i=xs.take i++xs.drop (i+1):=gV xs i
 refine goA ?_
 refine l_w rfl (qr2 rfl rfl rfl rfl rfl rfl ⟨oQ,oQ,oQ⟩) ?_
 refine goA ?_
 refine zap [] 8 rfl rfl kQ ?_
 refine goE ?_
 obtain⟨a,hae,hac⟩:∃a,zwe (some (⟨b,0,none⟩:Addr)) (decide (c=i+1)) ((i+1)*1)=some a∧∀w:World,w.heap[b]? =some (.cells (xs++zs).toArray 3 (0,0))→∀(j:Nat) (v:Value),(xs.drop (i+1))[j]? =some v→w.cell? (a.add j)=some v:=by
  by_cases hc:c=i+1
  ·refine⟨_,by rw[decide_eq_true hc];rfl,fun w' _ j v hj=>?_⟩
   have:=(aC.1 hj).1
   omega
  ·refine⟨⟨b,i+1,none⟩,by rw[zcf hc,aH,bO],fun w' hw' j v hj=>?_⟩
   rw[zde]
   have:=zbf hw' (i+1+j) v (hat j v hj)
   rwa[aH]at this
 rw[hae]
 refine zat 6 ⟨kQ,dQ⟩ rfl rfl (qhb (news:=xs.drop (i+1)) rfl rfl rfl rfl rfl hBl h1B oQ (by simp;omega) (fun w' hw'=>hac w' (hw'.get (.head _)))) (fun _ _ h=>goH h) fun _=>?_
 refine goE ?_
 refine zdn kQ ?_
 rw[show i+(n - (i+1))=n - 1 by omega]
 refine goA ?_
 rw[zcf oQ]
 refine za1 rfl (qb7 (z:=.int .i64 0) rfl rfl rfl rfl rfl rfl oQ (by rw[zgw (by rw[hBl];simp;omega)];simp;omega)) fun _=>?_
 obtain⟨y,hy⟩:∃y,xs=xs.take i++y::xs.drop (i+1):=⟨xs[i]'oQ,by rw[←bX,bF]⟩
 have hAl:(xs.take i).length=i:=by rw[aM];omega
 rw[show put (put (xs++zs) i (xs.drop (i+1))) (0+(n - 1)*1) (List.replicate (n - (n - 1)) (.int .i64 0))=xs.eraseIdx i++(.int .i64 0)::zs by
  have:=qhy (A:=xs.take i) (B:=xs.drop (i+1)) (zs:=zs) (y:=y) (z:=.int .i64 0)
  rw[←hy,hAl,hBl]at this
  rw[show n - (n - 1)=1 by omega,aH,bO,show n - 1=i+(n - (i+1)) by omega,herase]
  exact this]
 refine goA ?_
 refine zbr (fun w hw=>hw.glue (n:=n - 1) (c:=c) (by rw[eS oQ];omega) (by simp;omega) oQ hcm) ?_
 exact zbd () rfl rfl rfl trivial (.cons_cons _ (aK _)) (by simp[zac])
end Go.Proofs.YthafakdplhdfjaaGreatDoor
