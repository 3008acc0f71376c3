/- Parts: forest; law 11. No condition. -/
import Derived.Test.YthafakdplhdfjaaGreatDoorHi16
set_option maxRecDepth 100000
set_option maxHeartbeats 40000000
namespace Go.Proofs.YthafakdplhdfjaaGreatDoor
open Go.RowKit Go.Eng Go.Eng.Bm Go.Eng.Tr
structure OnK (c:Fc) (r:List Rt):Prop where
 rest:c.d.D.Rest
 siz:Siz c.d.D c.n c.secs c.note c.V
 has:∃h k TS,zy7 c.d.D c.n c.secs c.note c.V c.B h k TS
 kl:c.d.D.keep.length≤1000000
 st:qxk c r
 N2:c.N≤c.n
 n2:c.n≤1024
structure OpK (c:Fc) (r:List Rt) (x:Bool×Fc×Pg):Prop where
 db:x.2.1.d.b=c.d.b
 N:x.2.1.N=c.N
 n:x.2.1.n=c.n
 secs:x.2.1.secs=c.secs
 note:x.2.1.note=c.note
 B:x.2.1.B=c.B+1
 V:x.2.1.V=c.V
 off:x.1=true→c.d.D.left≠none∧Off x.2.1.d.D c.n c.secs c.note c.V (c.B+1)
 on:x.1=false→qv8 x.2.1 r r x.2.2
def opV(x:Bool×Fc×Pg):Value:=if x.1 then .tuple #[.pointer none,.int .i64 ((4:Nat):Int)]else .tuple #[.pointer (some ⟨x.2.1.b,0,none⟩),.int .i64 ((0:Nat):Int)]
variable{c:Fc}{r:List Rt}
theorem qvd(s0:Pg)(h:OnK c r)(hB:c.B+1<9223372036854775808):
  Cw Tryz.prog 37 #[.pointer (some ⟨c.d.b,0,none⟩)] [dkI c.d,ctI,tzI] opV (OpK c r) (fun x=>[doI x.1 x.2.1 (r.map zbj) 0 x.2.2,ctI]):=by
 intro w hw ha
 have hv:=h.st.base
 have hp0:∃S,zy6 c.n (c.V.getD 0 []) S:=by
  obtain⟨g0,w1,w2,w3,w4,w5⟩:=hv
  exact⟨_,w2⟩
 refine za2 [_] _ Tryz.func37 rfl rfl hw ha ?_
 simp only[zaa]
 refine goA ?_
 refine lCu [dkI c.d,ctI] rfl (zbo c.d) (fun w1 hw1 hh1 ha1=>zqk c.d c.n c.secs c.note c.V c.B h.kl h.rest h.siz hB h.has hp0 w1 hh1 ha1) fun⟨⟨d2,so⟩,hd2⟩=>?_
 obtain⟨q1,q2⟩:=hd2
 have q1:d2.b=c.d.b:=q1
 cases so with
 |none=>
  obtain⟨q2,q3⟩:=q2
  rw[show oqV (d2,none)= .tuple #[.pointer none,.int .i64 ((4:Nat):Int)]from rfl]
  simp only[oqI,aD,aH]
  refine goA ?_
  refine qi6 [dkI d2,tzI] ?_
  rw[show zef [dkI d2,tzI]=doI true { c with d:=d2,B:=c.B+1 } (r.map zbj) 0 s0 from rfl]
  exact xC2 (true,{ c with d:=d2,B:=c.B+1 },s0) ⟨q1,rfl,rfl,rfl,rfl,rfl,rfl,fun _=>⟨q2,q3⟩,fun h=>nomatch h⟩
 |some s=>
  obtain⟨q2,q3⟩:=q2
  have q2:zig c.d.D d2.D:=q2
  have q3:StX s d2.D c.n c.secs c.note c.V [] (c.B+1):=q3
  simp only[bX,fX,if_true,oqI,aD,aH]
  obtain⟨g0,w1,w2,w3,w4,w5⟩:=hv
  have hCs:s.C=[]:=zu8 q3.eC
  refine goA ?_
  refine zbp rfl rfl fun b6 hb6=>?_
  refine goA ?_
  have kf:Fok { c with d:=d2,b:=b6,pb:=s.b,B:=c.B+1 } g0 s:=⟨q3.self',rfl,fun i h1 h2=>by show ze5 c.V s.C i=_;rw[hCs];exact w1 i h1 h2,by show zy6 c.n (ze5 c.V s.C 0) _;rw[hCs];exact w2,qjz (i:=0) dQ,Nat.le_of_lt h.st.N1,h.N2,h.n2,fun i _=>by rw[hCs];rfl,w3⟩
  have hl8:(r.map zbj).length=8:=by rw[aE];exact w4.len
  refine zcy (m':=qny { c with d:=d2,b:=b6,pb:=s.b,B:=c.B+1 } X0 false 0 s++[ctI]) (fun w' hw'=>hw'.pick [0,1,2,4,3] rfl rfl) ?_
  refine lCu (qny { c with d:=d2,b:=b6,pb:=s.b,B:=c.B+1 } X0 false 0 s) rfl (zpp _ _ _ _ _) (fun w1 hw1 hh1 ha1=>zpo kf h.st.N1 rfl hl8 (fun a ha=>⟨(FoV.roots w4 a ha).1,aW (FoV.roots w4 a ha).2 h.N2⟩) w5 w1 hh1 ha1) fun⟨s',hs'⟩=>?_
  have hs':Fok { c with d:=d2,b:=b6,pb:=s.b,B:=c.B+1 } g0 s':=hs'
  simp only[aD,aH]
  refine goA ?_
  exact zc1 (false,{ c with d:=d2,b:=b6,pb:=s.b,B:=c.B+1 },s') rfl rfl rfl rfl ⟨q1,rfl,rfl,rfl,rfl,rfl,rfl,fun h=>(nomatch h),fun _=>⟨⟨h.st.N1,h.st.room,⟨g0,w1,w2,w3,w4,w5⟩⟩,g0,hs',w4,w5⟩⟩ (.refl _) (zh1 _ _ _ _ _)
structure FmK (c:Fc) (r:List Rt) (s:Pg) (M A:List Mp) (n:Nat):Prop where
 rdy:qv8 c r r s
 N:c.N=120
 rm:Rm r M A
 tot:zq9 r≤n
structure CgR where
 e:Nat
 dead:Bool
 r:List Rt
 M:List Mp
 A:List Mp
 c:Fc
 s:Pg
 T:List Mp
 rT:List Rt
structure qxp (c:Fc) (r:List Rt) (M:List Mp) (n:Nat) (x:C11) (y:CgR):Prop where
 keep:qsc c y.c
 T8:y.T.length=8
 is:(y.dead=false∧FmK y.c y.r y.s y.M y.A (n+x.L.length))∨(y.dead=true∧y.e=4∧qwu y.c r y.rT∧Rm r M y.A∧Rm y.rT y.T y.A∧zq9 r≤n+x.L.length∧zq9 y.rT≤n+x.L.length∧y.M=M)
variable{s:Pg}
theorem qur{M A:List Mp}{n:Nat}(h:FmK c r s M A n)(hB:c.B+700<9223372036854775808){I:Eng.Item}[Stab I](x:C11)(hx:x.Ok I)(hn:n+x.L.length≤240){xb err:Nat}:
  Cw Tryz.prog 23 #[.pointer (some ⟨xb,0,none⟩),.agg x.vs.toArray] [foI c (r.map zbj) false err s,ctI,arM A,stF xb c.d.b c.b M,I]
   (fun y:CgR=>.tuple #[.int .i64 (y.e:Nat),mfV y.T,.bool true]) (qxp c r M n x)
   (fun y=>[doI y.dead y.c (y.r.map zbj) 0 y.s,ctI,arM y.A,stF xb c.d.b c.b y.M,I]):=by
 have h8:=h.rm.l8
 obtain⟨g,k1,k2,k3⟩:=h.rdy.now
 have h0:Stp c (zbu (r.map zbj)) A n ⟨0,r,s,M,A⟩:=⟨⟨g,k1,k2,k3⟩,h.rm,fun _ h=>h,h.tot⟩
 refine qnp [_,_] Tryz.func23 rfl fun w0=>?_
 simp only[zaa]
 refine goA ?_
 refine zc9 rfl rfl rfl fun b2 hb2=>?_
 refine zbp rfl rfl fun b3 hb3=>?_
 refine goA ?_
 refine zam rfl rfl fun b5 hb5=>?_
 refine goA ?_
 refine l_w rfl (zgp (xs:=zc6 dmE M) (c:=(zc6 dmE M).toArray) rfl (by rw[zce h8];rfl) (fun w' hw'=>by
  have:=zbf (hw'.get (b:=xb) (o:=.cells (.pointer (some ⟨c.d.b,0,none⟩):: .pointer (some ⟨c.b,0,none⟩)::zc6 dmE M).toArray 41 (0,0)) mm)
  exact fun j v hv=>by have:=this (2+j) v (by rw[fQ];exact hv);rwa[aJ]at this) rfl) ?_
 refine goA ?_
 refine zam rfl rfl fun b7 hb7=>?_
 refine zdg rfl rfl rfl fun b8 hb8=>?_
 refine lSa (cs':=(zc6 dmE M).toArray) (hT:=by rw[aC,zce h8];rfl) (h1:=zc8 _) (h2:=by rw[aC,zce h8];rfl) ?_
 refine goB ?_
 refine l_w rfl (zhw rfl) ?_
 refine goA ?_
 have hph:∀y:Cg,Stp c (zbu (r.map zbj)) A (n+x.L.length) y∧esM y.M=x.L.foldl qqh (esM M)→qv8 c r y.r y.s:=fun y ⟨hy,_⟩=>by
  obtain⟨g',e1,e2,e3⟩:=hy.now
  exact⟨h.rdy.st,g',e1,e2,e3⟩
 refine lC (qv1 h.rdy hB (X:=Cg) (fd:=61) (cs:=[.pointer (some ⟨b2,0,none⟩),.pointer (some ⟨b3,0,none⟩),.pointer (some ⟨b7,0,none⟩),.pointer (some ⟨b8,0,none⟩)]) kQ (dcI I b2 b3 b7 b8 xb c.d.b c.b x M ⟨0,r,s,M,A⟩) (fun y=>dcI I b2 b3 b7 b8 xb c.d.b c.b x M y) (inferInstance:StabL (dcI I b2 b3 b7 b8 xb c.d.b c.b x M ⟨0,r,s,M,A⟩)).st (fun y=>(inferInstance:StabL (dcI I b2 b3 b7 b8 xb c.d.b c.b x M y)).st) (fun _=>if x.fl then 5 else 0) (fun _=>0) (fun y=>y.r) (fun y=>y.s) _ hph (fun w2 hh2 ha2=>zrn (y0:=⟨0,r,s,M,A⟩) h.N x hx hn b2 b3 b7 b8 xb h0 w2 hh2 ha2)) fun⟨y,⟨de,dd,c',r',s'⟩⟩ ⟨⟨hy,hye⟩,hk,hr⟩=>?_
 simp only[eeZ]at hy hye hk hr⊢
 have hy8:=hy.rm.l8
 have hrm0:Rm r M y.A:=⟨h.rm.l8,h.rm.rel,fun p hp=>hy.arc (h.rm.arc p hp)⟩
 have ht0:=h.tot
 have ht1:=hy.tot
 obtain⟨xL,fl,xa,xc⟩:=x
 unfold dcI
 dsimp only at hy hye hk hr ht1⊢
 by_cases hde:de=0
 ·subst hde
  obtain⟨rfl,hfl,rfl,hR⟩:dd=false∧fl=false∧r'=y.r∧qv8 c' r' r' s':=by
   rcases hr with ⟨h1,h2,h3,h4⟩ |⟨-,h2, -⟩
   ·have hf:fl=false:=by
     cases fl with
     |true=>rw[if_pos rfl]at h2;cases h2
     |false=>rfl
    subst hf
    exact⟨h1,rfl,h3,h4⟩
   ·cases h2
  subst hfl
  refine goA ?_
  refine l_w rfl (zcw (cs:=(zc6 dmE y.M).toArray) rfl (by rw[aC,zce hy8];rfl) mm) ?_
  refine goA ?_
  refine lSR (off:=2) (cs:=.pointer (some ⟨c.d.b,0,none⟩):: .pointer (some ⟨c.b,0,none⟩)::zc6 dmE M) (V:=zc6 dmE y.M) (by rw[zce hy8,aR,aR,zce h8];omega) (zc8 _) (hT:=by rw[zce hy8];rfl) ?_
  rw[show∀a b:Value,put (a::b::zc6 dmE M) 2 (zc6 dmE y.M)=a::b::zc6 dmE y.M from fun a b=>by unfold put;rw[zce hy8,eG (by rw[aR,aR,zce h8];omega)];simp]
  refine goA ?_
  refine ziv [pt b7 _,pt b8 _,pt b3 _] 99 ?_
  refine goP ?_
  refine dVP rfl rfl (zcw (cs:=(zc6 dmE y.M).toArray) rfl (by rw[aC,zce hy8];rfl) mm) ?_
  refine goP ?_
  refine dSa 13 (cs':=(zc6 dmE y.M).toArray) (hT:=by rw[aC,zce hy8];rfl) (h1:=zc8 _) (h2:=by rw[aC,zce hy8];rfl) ?_
  refine goQ ?_
  exact xC3 ⟨0,false,y.r,y.M,y.A,c',s',y.M,y.r⟩ ⟨hk,hy8,.inl ⟨rfl,hR,hk.N.trans h.N,hy.rm,ht1⟩⟩ (hf:=rfl) (h2:=⟨_,rfl,zaq (by rw[aC,zce hy8];rfl) mm⟩)
 ·have hq:(fl=true→de=5):=fun hf=>by
   subst hf
   rcases hr with ⟨-,h2, -⟩ |⟨-, -,h3, -⟩
   ·exact h2
   ·cases h3
  have hA:qxp c r M n ⟨xL,fl,xa,xc⟩ ⟨de,dd,r',M,y.A,c',s',y.M,y.r⟩:=by
   refine⟨hk,hy8,?_⟩
   rcases hr with ⟨h1,h2,h3,h4⟩ |⟨h1,h2,h3,h4⟩
   ·have hf:fl=true:=by
     cases fl with
     |true=>rfl
     |false=>exact absurd h2 hde
    subst hf
    have h3:r'=r:=by simpa using h3
    subst h3
    exact .inl ⟨h1,h4,hk.N.trans h.N,hrm0,by show zq9 r'≤n+xL.length;omega⟩
   ·exact .inr ⟨h1,h2,h4,hrm0,hy.rm,by show zq9 r≤n+xL.length;omega,ht1,rfl⟩
  have hr8:y.M.length=8:=hy8
  clear hr
  cases fl with
  |true=>
   obtain rfl:=hq rfl
   refine goA ?_
   refine ziv [pt b7 _,pt b8 _,pt b3 _] 99 ?_
   refine goP ?_
   refine dVP rfl rfl (zcw (cs:=(zc6 dmE y.M).toArray) rfl (by rw[aC,zce hy8];rfl) mm) ?_
   refine goP ?_
   refine dSa 13 (cs':=(zc6 dmE y.M).toArray) (hT:=by rw[aC,zce hy8];rfl) (h1:=zc8 _) (h2:=by rw[aC,zce hy8];rfl) ?_
   refine goQ ?_
   exact xC3 ⟨5,dd,r',M,y.A,c',s',y.M,y.r⟩ hA (hf:=rfl) (h2:=⟨_,rfl,zaq (by rw[aC,zce hy8];rfl) mm⟩)
  |false=>
   refine goA ?_
   refine ziv [pt b7 _,pt b8 _,pt b3 _] 99 ?_
   refine goP ?_
   refine dVP rfl rfl (zcw (cs:=(zc6 dmE y.M).toArray) rfl (by rw[aC,zce hy8];rfl) mm) ?_
   refine goP ?_
   refine dSa 13 (cs':=(zc6 dmE y.M).toArray) (hT:=by rw[aC,zce hy8];rfl) (h1:=zc8 _) (h2:=by rw[aC,zce hy8];rfl) ?_
   refine goQ ?_
   exact xC3 ⟨de,dd,r',M,y.A,c',s',y.M,y.r⟩ hA (hf:=rfl) (h2:=⟨_,rfl,zaq (by rw[aC,zce hy8];rfl) mm⟩)
abbrev smX(b7 b6 b3 b5:Nat)(M A:List Mp)(t:Nat)(st:Bool×Nat):List Eng.Item:=[pt b7 (.cells #[.bool st.1] 4 (0,0)),pt b6 (.cells #[.int .i64 (st.2:Nat)] 3 (0,0)),pt b3 (.cells (zc6 dmE M).toArray 39 (0,0)),pt b5 (.cells #[.int .i64 (t:Nat)] 3 (0,0)),arM A]
theorem qwt{a b:K}(h:a≠b):seq (kB a) (kB b)=false:=by
 unfold seq
 exact decide_eq_false fun e=>h (by have:=congrArg (fun z:ByteArray=>z.data.toList) e;simpa[kB]using this)
theorem qvf(b7 b6 b3 b5:Nat){M A:List Mp}{t:Nat}{o:Om}{e:E}(hM:M[t]? =some (o,e))(h8:M.length=8)(hA:(o,e)∈A)(hb:e.length≤1000000){i:Nat}{y:K×K}(hy:e[i]? ≠some y)(hi:i≤1000000):
  Cw Tryz.prog 64 #[kV y.1,kV y.2,.pointer (some ⟨b7,0,none⟩),.pointer (some ⟨b6,0,none⟩),.pointer (some ⟨b3,0,none⟩),.pointer (some ⟨b5,0,none⟩)] (smX b7 b6 b3 b5 M A t (true,i)) (fun _:Unit=>.bool false) (fun _=>True) (fun _=>smX b7 b6 b3 b5 M A t (false,i+1)):=by
 obtain⟨ht, -⟩:=aF.1 hM
 obtain⟨A1,A2,rfl⟩:=List.append_of_mem hA
 obtain⟨o1,o2⟩:=o
 refine qnp [.string (kB y.1),.string (kB y.2),_,_,_,_] Tryz.func64 rfl fun w0=>?_
 simp only[zaa]
 refine zg8 (fun _ h=>zza (p:=((o1,o2),e)) qt5 h) ?_
 by_cases hlt:i<e.length
 ·obtain⟨z,hz⟩:∃z,e[i]? =some z:=⟨_,aB hlt⟩
  refine zhm (fun w hw=>And.intro (zdj (hw.item (own 9 1 o1 e.length (e.map fun y=>kV y.1)) mm).1 oQ) (zdj (hw.item (own 9 1 o2 e.length (e.map fun y=>kV y.2)) mm).1 oQ)) fun⟨⟨kb,kc,e1⟩,⟨vb,vc,e2⟩⟩=>?_
  subst e1
  subst e2
  have c1:=qdr hM (j:=0) (v:=.slice (some ⟨kb,0,none⟩) e.length kc) rfl
  have c2:=qdr hM (j:=1) (v:=.slice (some ⟨vb,0,none⟩) e.length vc) rfl
  refine goA ?_
  refine ziv [pt b6 _,pt b3 _,pt b5 _,own 9 1 (some (kb,kc)) e.length (e.map fun y=>kV y.1),own 9 1 (some (vb,vc)) e.length (e.map fun y=>kV y.2)] 99 ?_
  refine dV 0 ?_
  refine goP ?_
  refine dVP rfl rfl (zc5 rfl rfl mm (by rw[aJ];exact c1)) ?_
  refine goP ?_
  rw[decide_eq_true (show((i:Nat):Int)<((e.length:Nat):Int) by omega)]
  refine goP ?_
  refine dVP rfl rfl (zc5 rfl rfl mm (by rw[aJ];exact c1)) ?_
  refine goP ?_
  refine dVP rfl rfl (zrc (v:=.string (kB z.1)) rfl rfl mm (by rw[aN,aJ,hz];rfl)) ?_
  refine goP ?_
  by_cases hk:z.1=y.1
  ·rw[hk,show seq (kB y.1) (kB y.1)=true by simp[seq]]
   refine goP ?_
   refine dVP rfl rfl (zc5 rfl rfl mm (by rw[aJ];exact c2)) ?_
   refine goP ?_
   refine dVP rfl rfl (zrc (v:=.string (kB z.2)) rfl rfl mm (by rw[aN,aJ,hz];rfl)) ?_
   refine goP ?_
   rw[qwt (a:=z.2) (b:=y.2) fun h=>hy (by rw[hz,Prod.ext hk h])]
   refine goP ?_
   refine dS1 32 ?_
   refine goQ ?_
   refine zbr (fun _ h=>zwt (A1:=A1) (A2:=A2) (p:=((some (kb,kc),some (vb,vc)),e)) qt4 h) ?_
   exact xC () trivial
  ·rw[qwt hk]
   refine goP ?_
   refine dS1 32 ?_
   refine goQ ?_
   refine zbr (fun _ h=>zwt (A1:=A1) (A2:=A2) (p:=((some (kb,kc),some (vb,vc)),e)) qt4 h) ?_
   exact xC () trivial
 ·refine zhm (fun w hw=>(zas (hw.item (own 9 1 o1 e.length (e.map fun y=>kV y.1)) mm).1).1) fun f1=>?_
  have c1:=qdr hM (j:=0) (v:=.slice (slA o1) e.length (slC o1)) (by rw[←f1];rfl)
  refine goA ?_
  refine ziv [pt b6 _,pt b3 _,pt b5 _] 99 ?_
  refine dV 0 ?_
  refine goP ?_
  refine dVP rfl rfl (zc5 rfl rfl mm (by rw[aJ];exact c1)) ?_
  refine goP ?_
  rw[decide_eq_false (show¬((i:Nat):Int)<((e.length:Nat):Int) by omega)]
  refine goP ?_
  refine dS1 32 ?_
  refine goQ ?_
  refine zbr (fun _ h=>zwt (A1:=A1) (A2:=A2) (p:=((o1,o2),e)) qt4 h) ?_
  exact xC () trivial
theorem qve(hN:c.N=120){g:Sg}(hk:Fok c g s)(hv:FoV c.N g r)(ht:zq9 r≤250){M A:List Mp}(h8:M.length=8)(hA:∀p∈M,p∈A)(hb:∀p∈M,p.2.length≤1000000){M0:List Mp}{xb err:Nat}:
  Cw Tryz.prog 26 #[.pointer (some ⟨xb,0,none⟩),mfV M] [foI c (r.map zbj) false err s,arM A,stF xb c.d.b c.b M0] (fun y:Bool×Pg=>.bool y.1) (fun y=>Fok c g y.2∧(y.1=true→∀(i:Nat) (x:Rt),r[i]? =some x→∃o,M[i]? =some (o,zdb x))) (fun y=>[foI c (r.map zbj) false err y.2,arM A,stF xb c.d.b c.b M0]):=by
 refine qnp [_,_] Tryz.func26 rfl fun w0=>?_
 simp only[zaa]
 refine goA ?_
 refine zbp rfl rfl fun b3 hb3=>?_
 refine goA ?_
 refine zdg rfl rfl rfl fun b5 hb5=>?_
 refine lS (v:=.int .i64 ((0:Nat):Int)) ?_
 refine goA ?_
 refine que (fun y:Nat×Nat×Pg=>[(0,.pointer (some ⟨xb,0,none⟩)),(3,.pointer (some ⟨b3,0,none⟩)),(5,.pointer (some ⟨y.2.1,0,none⟩))]) (fun y=>y.1≤8∧Fok c g y.2.2∧∀(i:Nat) (x:Rt),i<y.1→r[i]? =some x→∃o,M[i]? =some (o,zdb x)) (fun y=>[foI c (r.map zbj) false err y.2.2,arM A,stF xb c.d.b c.b M0,pt b3 (.cells (zc6 dmE M).toArray 39 (0,0)),pt y.2.1 (.cells #[.int .i64 (y.1:Nat)] 3 (0,0))]) (fun y=>8 - y.1) (0,b5,s) ⟨bA _,hk,fun _ _ h=>absurd h (fA _)⟩ fun⟨t,q5,s1⟩ ⟨h1,h2,h3⟩=>?_
 dsimp only at h1 h2 h3⊢
 by_cases h9:t<8
 ·obtain⟨x,hx⟩:∃x,r[t]? =some x:=⟨_,aB (by rw[hv.len];exact h9)⟩
  obtain⟨⟨o,e⟩,ho⟩:∃p,M[t]? =some p:=⟨_,aB (by rw[h8];exact h9)⟩
  have hoA:=hA _ (bH ho)
  have heb:e.length≤1000000:=hb _ (bH ho)
  have hxl:=qmt hx
  have har:(r.map zbj)[t]? =some (zbj x):=by rw[aN,hx];rfl
  refine goA ?_
  refine zdg rfl rfl rfl fun b6 hb6=>?_
  refine lS (v:=.int .i64 ((0:Nat):Int)) ?_
  refine goA ?_
  refine zdg rfl rfl rfl fun b7 hb7=>?_
  refine goB ?_
  refine ziv [stF xb _ _ M0] 99 ?_
  refine goP ?_
  refine qtg rfl rfl rfl rfl kQ (fun _ h=>Fnds.hp qt4 h) (zhw rfl) ?_
  refine dV 4 ?_
  refine dC 6 (zzr h2 h9 har (qwg hN hv ht hx) (σ:=Bool×Nat) (fun st=>smX b7 b6 b3 q5 M A t st) (fun k st=>st=(true,k.length)∧k<+:e) (fun st=>st.1=false) (true,0) (fd:=64) (cs:=[.pointer (some ⟨b7,0,none⟩),.pointer (some ⟨b6,0,none⟩),.pointer (some ⟨b3,0,none⟩),.pointer (some ⟨q5,0,none⟩)]) kQ (fun st=>(inferInstance:StabL (smX b7 b6 b3 q5 M A t st)).st) ⟨rfl,List.nil_prefix⟩ (fun k y st hp hI w2 hh2 ha2=>?_)) fun⟨s2,ok2,i2⟩ ⟨hs2,hi2⟩=>?_
  ·obtain⟨rfl,hpe⟩:=hI
   obtain⟨t2,ht2⟩:=hpe
   have hkl:k.length≤e.length:=by rw[←ht2,aA];omega
   by_cases hy:e[k.length]? =some y
   ·refine(zyd b7 b6 b3 q5 ho h8 hoA heb (i:=k.length) (y:=y) hy w2 hh2 ha2).map fun z hz=>⟨(z.1,(z.1,z.2)),rfl,.inl ⟨by rw[hz],by rw[hz];simp,?_⟩,by rw[hz]⟩
    refine⟨t2.drop 1,?_⟩
    rw[←ht2]at hy⊢
    rw[cX (aY _),kC]at hy
    cases t2 with
    |nil=>cases hy
    |cons a t2=>cases hy;simp
   ·exact(qvf b7 b6 b3 q5 ho h8 hoA heb hy oQ w2 hh2 ha2).map fun z hz=>⟨(false,(false,k.length+1)),rfl,.inr ⟨rfl,rfl⟩,rfl⟩
  ·refine goQ ?_
   dsimp only at hs2 hi2⊢
   refine zhm (fun w hw=>(zas ((hw.item (arM A) mm).1.1 (own 9 1 o.1 e.length (e.map fun y=>kV y.1)) (bW.2 ⟨_,hoA,.head _⟩)).1).1) fun f1=>?_
   have c1:=qdr ho (j:=0) (v:=.slice (slA o.1) e.length (slC o.1)) (by rw[←f1];rfl)
   refine ziv [pt b7 _,pt b6 _,pt b3 _,pt q5 _] 99 ?_
   cases ok2 with
   |false=>
    refine goQ ?_
    exact xC (false,s2) ⟨hs2,fun h=>nomatch h⟩
   |true=>
    obtain⟨e2,hpe⟩:=hi2.resolve_right fun h=>nomatch h
    obtain rfl:i2=(zdb x).length:=(jB e2).2
    refine goP ?_
    refine dVP rfl rfl (zc5 rfl rfl mm (by rw[aJ];exact c1)) ?_
    refine goP ?_
    by_cases hlen:(zdb x).length=e.length
    ·have hee:zdb x=e:=hpe.eq_of_length hlen
     rw[hlen,bne_self_eq_false]
     refine goQ ?_
     refine zdg rfl rfl rfl fun q6 hq6=>?_
     refine goB ?_
     exact xR (t+1,q6,s2) ⟨h9,hs2,fun i z hi hz=>by
      rcases iQ.1 hi with h|rfl
      ·exact h3 i z h hz
      ·rw[hx]at hz;cases hz;exact⟨o,by rw[ho,hee]⟩⟩ (by dsimp only;omega)
    ·rw[show((((zdb x).length:Nat):Int) != ((e.length:Nat):Int))=true by rw[bne_iff_ne];omega]
     refine goQ ?_
     exact xC (false,s2) ⟨hs2,fun h=>nomatch h⟩
 ·obtain rfl:t=8:=oQ
  refine goA ?_
  exact xC (true,s1) ⟨h2,fun _ i x hx=>h3 i x (by rw[←hv.len];exact(aF.1 hx).1) hx⟩
end Go.Proofs.YthafakdplhdfjaaGreatDoor
namespace Go.Eng
open Go.RowKit
theorem qvc{P:Program}{Q:Exit→Act→World→Prop}{N:Fm}{w0:World}{F:Nat→Prop}{ops:Array Oper}{rest:List Oper}{G:Prop}{α:Type}(L:α→zav)(φ:α→Prop)(M:α→List Item)
  (k:∀x,φ x→HL P ops Q N rest (L x) (Hp w0 F (M x))) (h:(∀x l' m',φ x→Has l' (L x)→(∃r,Fnds (M x) m' r)→HL P ops Q N rest l' (Hp w0 F m'))→G):G:=
 h fun x l' m' hx hl ⟨r,hs⟩=>by
  have k:=k x hx
  unfold HL at k⊢
  exact fun a w s hw=>k a w ⟨s.size,s.defers,fun t v hv=>s.slot t v (qf9 hl hv)⟩ (hs.hp hw)
end Go.Eng
namespace Go.Proofs.YthafakdplhdfjaaGreatDoor
open Go.RowKit Go.Eng Go.Eng.Bm Go.Eng.Tr
theorem Fok.fuse{c:Fc}{g:Sg}{s:Pg}(h:Fok c g s){m:Nat}(hm:m≤9223372036854775807){keep:Bys}(hk:keep.length≤1000000):Fok { c with d:={ c.d with D:=zxc c.d.D m keep } } g s:=by
 obtain⟨⟨⟨TS,h1⟩,h2,h3,h4,h5,h6⟩,k2,k3,k4,k5,k6,k7,k8,k9,k10⟩:Tok (frC c [] false 0 0) g s:=h
 exact⟨⟨⟨TS,h1.fuse hm keep⟩,h2,h3,hk,h5,h6⟩,k2,k3,k4,k5,k6,k7,k8,k9,k10⟩
theorem qv8.fuse{c:Fc}{r:List Rt}{s:Pg}(h:qv8 c r r s){m:Nat}(hm:m≤9223372036854775807){keep:Bys}(hk:keep.length≤1000000):qv8 { c with d:={ c.d with D:=zxc c.d.D m keep } } r r s:=by
 obtain⟨g,k1,k2,k3⟩:=h.now
 exact⟨⟨h.st.N1,h.st.room,h.st.base⟩,g,k1.fuse hm hk,k2,k3⟩
structure qxm (c:Fc) (r:List Rt):Prop where
 off:Off c.d.D c.n c.secs c.note c.V c.B
 st:qxk c r
 N2:c.N≤c.n
 n2:c.n≤1024
structure AgK (c:Fc) (r:List Rt) (x:Fc×Pg):Prop where
 rdy:qv8 x.1 r r x.2
 db:x.1.d.b=c.d.b
 N:x.1.N=c.N
 n:x.1.n=c.n
 secs:x.1.secs=c.secs
 note:x.1.note=c.note
 B:x.1.B≤c.B+3
theorem qww{c:Fc}{r:List Rt}(s0:Pg)(h:qxm c r)(hB:c.B+10<9223372036854775808)(keep:Bys)(hkeep:keep.length≤100)(n:Nat)(hn:n<256)(xb fb:Nat)(M:List Mp):
  Cw Tryz.prog 25 #[.pointer (some ⟨xb,0,none⟩),.string ⟨keep.toArray⟩,.int .u8 (n:Nat)] [zef [dkI c.d,tzI],ctI,stF xb c.d.b fb M] (fun _:Fc×Pg=>.bool true) (AgK c r) (fun x=>[foI x.1 (r.map zbj) false 0 x.2,ctI,stF xb x.1.d.b x.1.b M]):=by
 refine qnp [_,_,_] Tryz.func25 rfl fun w0=>?_
 simp only[zaa]
 refine goA ?_
 refine que (fun y:Nat×Fc=>[(0,.pointer (some ⟨xb,0,none⟩)),(1,.string ⟨keep.toArray⟩),(2,.int .u8 (n:Nat)),(7,.int .i64 (y.1:Nat))]) (fun y=>y.1≤2∧qxm y.2 r∧y.2.d.b=c.d.b∧y.2.N=c.N∧y.2.n=c.n∧y.2.secs=c.secs∧y.2.note=c.note∧y.2.B=c.B+y.1) (fun y=>[zef [dkI y.2.d,tzI],ctI,stF xb c.d.b fb M]) (fun y=>3 - y.1) (0,c) ⟨bA _,h,rfl,rfl,rfl,rfl,rfl,rfl⟩ fun⟨i,y⟩ ⟨hi,ho,e1,e2,e3,e4,e5,e6⟩=>?_
 dsimp only at hi ho e1 e2 e3 e4 e5 e6⊢
 rw[←e1]
 obtain⟨hr0,hz0,hrec⟩:=ho.off.start
 have hl0:y.d.D.left=none:=ho.off.left
 have hkeep0:y.d.D.keep=[]:=ho.off.keep
 refine qxi ?_
 refine goA ?_
 refine lC (fun w hw _=>qvu y.d w hw) fun _ _=>?_
 obtain⟨d1,hd1⟩:∃d1:Dk,d1={ y.d with D:={ y.d.D with dead:=false } }:=⟨_,rfl⟩
 have hD1:d1.D={ y.d.D with dead:=false }:=by rw[hd1]
 have hb1:d1.b=y.d.b:=by rw[hd1]
 rw[←hd1,←hb1]
 rw[←hD1]at hr0 hz0 hrec
 have hl1:d1.D.left=none:=by rw[hD1];exact hl0
 have hk1:d1.D.keep=[]:=by rw[hD1];exact hkeep0
 clear hd1 hD1 hl0 hkeep0
 have hst:∀d:Dk,qxk { y with d:=d } r:=fun _=>⟨ho.st.N1,ho.st.room,ho.st.base⟩
 refine qvc (P:=Tryz.prog) (ops:= ?o1) (Q:= ?q1) (N:= ?n1) (rest:= ?r1) (w0:=w0) (F:=za4 [zef [dkI c.d,tzI],ctI,stF xb d1.b fb M]) (α:=Dk)
  (fun d2=>[(0,.pointer (some ⟨xb,0,none⟩)),(1,.string ⟨keep.toArray⟩),(2,.int .u8 (n:Nat)),(7,.int .i64 (i:Nat)),(41,.pointer (some ⟨d2.b,0,none⟩))])
  (fun d2=>d2.b=d1.b∧OnK { y with d:=d2 } r∧(i=2→d2.D.left=none))
  (fun d2=>[dkI d2,ctI,tzI,stF xb d2.b fb M]) ?k1 (fun hshare=> ?h1)
 case h1=>
  by_cases hi2:i<2
  ·by_cases hbit:i<n%3
   ·refine goA ?_
    refine lC (fun w hw _=>quj d1 (n%11) oQ keep w hw) fun _ _=>?_
    refine goA ?_
    obtain⟨hd,k0,TS,R⟩:=hrec
    obtain⟨f1,f2,f3⟩:=qwp hr0 hz0 R (m:=n%11) oQ keep
    refine hshare { d1 with D:=zxc d1.D (n%11) keep } _ _ ⟨rfl,⟨f1,f2,⟨_,_,_,f3⟩,by show keep.length≤_;omega,hst _,ho.N2,ho.n2⟩,fun h=>oQ⟩ ?_ ?_
    ·exact⟨rfl,rfl,rfl,rfl,rfl,trivial⟩
    ·exact⟨_,qt4 (L:=[dkI { d1 with D:=zxc d1.D (n%11) keep },ctI,tzI,stF xb d1.b fb M])⟩
   ·refine goA ?_
    refine hshare d1 _ _ ⟨rfl,⟨hr0,hz0,hrec,by rw[hk1];decide,hst d1,ho.N2,ho.n2⟩,fun h=>oQ⟩ ?_ ?_
    ·exact⟨rfl,rfl,rfl,rfl,rfl,trivial⟩
    ·exact⟨_,qt4 (L:=[dkI d1,ctI,tzI,stF xb d1.b fb M])⟩
  ·refine goA ?_
   refine hshare d1 _ _ ⟨rfl,⟨hr0,hz0,hrec,by rw[hk1];decide,hst d1,ho.N2,ho.n2⟩,fun _=>hl1⟩ ?_ ?_
   ·exact⟨rfl,rfl,rfl,rfl,rfl,trivial⟩
   ·exact⟨_,qt4 (L:=[dkI d1,ctI,tzI,stF xb d1.b fb M])⟩
 case k1=>
  rintro d2 ⟨hb2,hon,hl2⟩
  refine lC (pre:=[dkI d2,ctI,tzI]) (qvd s0 hon (by show y.B+1<_;omega)) fun⟨dd,c3,s3⟩ hx=>?_
  obtain⟨x1,x2,x3,x4,x5,x6,x7,x8,x9⟩:=hx
  dsimp only at x1 x2 x3 x4 x5 x6 x7 x8 x9⊢
  cases dd with
  |true=>
   obtain⟨x8,x10⟩:=x8 rfl
   have hi2:i<2:=by
    rcases gG i 2 with h|h
    ·exact h
    ·exact absurd (hl2 oQ) x8
   rw[show opV (true,c3,s3)= .tuple #[.pointer none,.int .i64 ((4:Nat):Int)]from rfl,show doI true c3 (r.map zbj) 0 s3=zef [dkI c3.d,tzI]from rfl,hb2]
   refine goB ?_
   exact xR (i+1,c3) ⟨by dsimp only;omega,⟨by rw[x3,x4,x5,x6,x7];exact x10,⟨by rw[x2];exact ho.st.N1,by rw[x2,x4];exact ho.st.room,ho.st.base.sw x7 x2 x3⟩,by rw[x2,x3];exact ho.N2,by rw[x3];exact ho.n2⟩,x1.trans hb2,x2.trans e2,x3.trans e3,x4.trans e4,x5.trans e5,by dsimp only;omega⟩ (by dsimp only;omega)
  |false=>
   have hR:=x9 rfl
   rw[show opV (false,c3,s3)= .tuple #[.pointer (some ⟨c3.b,0,none⟩),.int .i64 ((0:Nat):Int)]from rfl,show doI false c3 (r.map zbj) 0 s3=foI c3 (r.map zbj) false 0 s3 from rfl,←x1]
   refine goB ?_
   refine zgb (.swap _ _ _) ?_
   refine zcy (m':=foL c3 (r.map zbj) false 0 s3++[stF xb c3.d.b c3.b M,ctI]) (fun w hw=>zk7 hw) ?_
   unfold foL
   simp only[aD,aH]
   refine lC (fun w hw _=>quj c3.d 1073741824 dQ [] w hw) fun _ _=>?_
   refine goA ?_
   refine zbr (m':=foI { c3 with d:={ c3.d with D:=zxc c3.d.D 1073741824 [] } } (r.map zbj) false 0 s3::[stF xb c3.d.b c3.b M,ctI]) (fun w hw=>zhe (m:=[stF xb c3.d.b c3.b M,ctI]) (hw.pick [1,2,0,3,4,5] rfl rfl)) ?_
   exact xC ({ c3 with d:={ c3.d with D:=zxc c3.d.D 1073741824 [] } },s3) ⟨hR.fuse dQ dQ,x1.trans (hb2.trans (hb1.trans e1)),x2.trans e2,x3.trans e3,x4.trans e4,x5.trans e5,by show c3.B≤_;omega⟩
end Go.Proofs.YthafakdplhdfjaaGreatDoor
namespace Go.Eng
open Go.RowKit
variable{P:Program}{f:FuncId}{pre:List Item}{α:Type}{val:α→Value}{φ:α→Prop}{its:α→List Item}
theorem qwx{args:Array Value}{w:World}{b:Nat}{o:Obj}(hb:w.heap[b]? =some o)(h:Ct P f args w (za4 (pre++[pt b o])) val φ (fun x=>its x++[pt b o])):Ct P f args w (za4 pre) val φ its:=by
 unfold Ct at*
 refine h.mono ?_
 rintro e w' ⟨x,he,hx,hi⟩
 refine⟨x,he,hx,⟨⟨hi.fr.os,hi.fr.tape,hi.fr.output,hi.fr.size,fun k hk hn=>?_⟩,fun it hm=>?_,(bL.1 hi.apart).1⟩⟩
 ·by_cases e1:k=b
  ·subst e1;rw[hb];exact(hi.item (pt k o) (aU _ (.head _))).1
  ·refine hi.fr.block k hk ?_
   rintro⟨it,hm,hf⟩
   rcases aS.1 hm with hm|hm
   ·exact hn ⟨it,hm,hf⟩
   ·rcases hm with _|⟨_,hm⟩
    ·exact e1 hf
    ·cases hm
 ·obtain⟨h1,h2,h3⟩:=hi.item it (aP _ hm)
  refine⟨h1,h2,fun k hk=>⟨(h3 k hk).1,fun hlt=>?_⟩⟩
  obtain⟨it',hm',hf'⟩:=(h3 k hk).2 hlt
  rcases aS.1 hm' with hm'|hm'
  ·exact⟨it',hm',hf'⟩
  ·rcases hm' with _|⟨_,hm'⟩
   ·exact((bL.1 hi.apart).2.2 it hm (pt b o) (.head _) k hk hf').elim
   ·cases hm'
theorem dCw(i:Nat){Q:Exit→Act→World→Prop}{N:Fm}{l:zav}{ops:Array Oper}{w0:World}{F:Nat→Prop}{m r:List Item}{ty:TypeId}{pos:String}{after:Array Edge}{g:Option (Nat×Bool)}{d:Nat}{n t:Nat}{listed:Array Bool}{xs:List Operand}{tys:Array TypeId}{us:Array Value}{vs:List Value}{s r':List Item}
  (hc:∀w,Hp w0 F m w→(∀it∈pre,zbq it w)→pre.Pairwise Item.Apart→Ct P f us w (za4 pre) val φ its) (k:∀x,φ x→HD P ops Q (Hp w0 F s) t N n (listed.setIfInBounds i true) ((d,val x)::l) (Hp w0 F (apI (its x) r)))
  (hi0:nth ops.toList i=some ⟨some d,.call ⟨.value (.func f),xs.toArray,tys⟩,ty,pos,after,g⟩:=by rfl) (hx:evs l xs=some vs:=by rfl) (hu:vs.toArray=us:=by rfl) (hf:Fnds pre m r:=by exact qt4)
  (hs:Fnds s r r':=by exact qt4) (hr0:Region.ready .any ops listed=[i]:=by kernel_rfl) (hr1:i<t:=by decide)
  [hst:StabL pre] (hg:okG ops l g=true:=by rfl) (hok:zee N l (.call ⟨.value (.func f),xs.toArray,tys⟩) d=true:=by rfl) (hb:za7 P f=true:=by kernel_rfl):
  HD P ops Q (Hp w0 F s) t N (n+1) listed l (Hp w0 F m):=
 qqo (m':=pre++r) (fun _ hw=>by rw[zf9];exact hw.perm hf.perm) (zat i ⟨hr0,hr1⟩ hi0 hg (zfb hok hb hx hst.st fun w hw hh ha=>by rw[hu];exact hc w (by rw[zf9]at hw;exact hw.perm hf.perm.symm) hh ha) (fun _ _ h=>hs.hp (h.sub (dE _ _))) fun x=>by rw[zf9];exact k x.1 x.2)
end Go.Eng
namespace Go.Proofs.YthafakdplhdfjaaGreatDoor
open Go.RowKit Go.Eng Go.Eng.Bm Go.Eng.Tr
variable{r:List Rt}{n:Nat}
theorem Rm.small{M A:List Mp}(h:Rm r M A)(h8:r.length=8)(ht:zq9 r≤n):∀p∈M,p.2.length≤n:=fun p hp=>by
 obtain⟨i,hi⟩:=List.getElem?_of_mem hp
 have hi8:i<8:=by rw[←h.l8];exact(aF.1 hi).1
 obtain⟨x,hx⟩:∃x,r[i]? =some x:=⟨_,aB oQ⟩
 obtain⟨o,ho⟩:=h.rel i x hx
 rw[hi]at ho
 cases ho
 exact bZ (qmt hx) ht
variable{c:Fc}{s:Pg}
theorem FmK.at_{M A:List Mp}(h:FmK c r s M A n):∃g,Fok c g s∧FoV c.N g r∧∀s',Fok c g s'→FmK c r s' M A n:=by
 obtain⟨g,k1,k2,k3⟩:=h.rdy.now
 exact⟨g,k1,k2,fun s' hs'=>⟨⟨h.rdy.st,g,hs',k2,k3⟩,h.N,h.rm,h.tot⟩⟩
variable{err:Nat}
theorem qws{M A:List Mp}(h:FmK c r s M A n)(hn:n≤250){M0:List Mp}{xb:Nat}:
  Cw Tryz.prog 26 #[.pointer (some ⟨xb,0,none⟩),mfV M] [foI c (r.map zbj) false err s,arM A,stF xb c.d.b c.b M0] (fun _:Pg=>.bool true) (fun s'=>FmK c r s' M A n) (fun s'=>[foI c (r.map zbj) false err s',arM A,stF xb c.d.b c.b M0]):=fun w hw ha=>by
 obtain⟨g,k1,k2,k3⟩:=h.at_
 exact(qbr h.N k1 k2 h.rm (bZ h.tot hn) w hw ha).map fun y hy=>⟨y,rfl,k3 y hy,rfl⟩
theorem qxf{M' A:List Mp}(h:FmK c r s M' A n)(hn:n≤250){M:List Mp}(h8:M.length=8)(hA:∀p∈M,p∈A)(hb:∀p∈M,p.2.length≤1000000)(hno:¬∀(i:Nat) (x:Rt),r[i]? =some x→∃o,M[i]? =some (o,zdb x)){M0:List Mp}{xb:Nat}:
  Cw Tryz.prog 26 #[.pointer (some ⟨xb,0,none⟩),mfV M] [foI c (r.map zbj) false err s,arM A,stF xb c.d.b c.b M0] (fun _:Pg=>.bool false) (fun s'=>FmK c r s' M' A n) (fun s'=>[foI c (r.map zbj) false err s',arM A,stF xb c.d.b c.b M0]):=fun w hw ha=>by
 obtain⟨g,k1,k2,k3⟩:=h.at_
 refine(qve h.N k1 k2 (bZ h.tot hn) h8 hA hb w hw ha).map fun y hy=>⟨y.2,?_,k3 y.2 hy.1,rfl⟩
 cases hq:y.1 with
 |true=>exact absurd (hy.2 hq) hno
 |false=>rfl
theorem qw8{M A:List Mp}(h:FmK c r s M A n)(hn:n≤250):
  Cw Tryz.prog 27 #[.pointer (some ⟨c.b,0,none⟩)] [foI c (r.map zbj) false err s] (fun _:Pg=>.tuple #[.agg (zy9 r 8).toArray,.int .i64 0]) (fun s'=>FmK c r s' M A n) (fun s'=>[foI c (r.map zbj) false err s']):=fun w hw ha=>by
 obtain⟨g,k1,k2,k3⟩:=h.at_
 exact(zxb h.N k1 k2 (bZ h.tot hn) w hw ha).map fun y hy=>⟨y,rfl,k3 y hy,rfl⟩
theorem qv9{g:Sg}{R:List Nat}{busy:Bool}(h:Fok c g s)(w:World)(hh:zbq (foI c R busy err s) w):Pu Tryz.prog 24 #[.pointer (some ⟨c.d.b,0,none⟩)] w (.bool true):=by
 have k:Tok (frC c [] false 0 0) g s:=h
 have:=zzb c.d w (hh.1.1 _ (.tail _ (.tail _ (.head _))))
 rwa[show c.d.D.dead=false from k.lives]at this
theorem qw5{w:World}{a:Option Addr}{xs:List Value}(h:Rd w a xs){i:Nat}(hi:i<xs.length):∃b off,a=some ⟨b,off,none⟩:=by
 rcases h with h|⟨b,off,e, -⟩
 ·rw[h]at hi;exact absurd hi (fA _)
 ·exact⟨b,off,e⟩
theorem quu(bs:List UInt8):(zae bs).length=bs.length:=by unfold zae;rw[aE]
theorem FmK.mono{M A:List Mp}{k:Nat}(h:FmK c r s M A n)(hk:n≤k):FmK c r s M A k:=⟨h.rdy,h.N,h.rm,bZ h.tot hk⟩
theorem qxe{M M':List Mp}(h:M.length=8)(h':M'.length=8)(a b:Value):put (a::b::zc6 dmE M) 2 (zc6 dmE M')=a::b::zc6 dmE M':=by
 unfold put
 rw[zce h',eG (by rw[aR,aR,zce h];omega)]
 simp
theorem qxo{M A:List Mp}(h:FmK c r s M A n)(hn:n≤250){M0:List Mp}{xb:Nat}{w0 w:World}{F:Nat→Prop}{m m':List Eng.Item}(hw:Hp w0 F m w)(hs:Fnds [foI c (r.map zbj) false err s,arM A,stF xb c.d.b c.b M0] m m'):
  Ct Tryz.prog 26 #[.pointer (some ⟨xb,0,none⟩),mfV M] w (za4 [foI c (r.map zbj) false err s,arM A]) (fun _:Pg=>.bool true) (fun s'=>FmK c r s' M A n) (fun s'=>[foI c (r.map zbj) false err s',arM A]):=by
 have h1:=hs.hp hw
 refine qwx (h1.get (b:=xb) mm) (qws h hn w (fun it hm=>?_) h1.apart)
 exact zbq.of (h1.item it hm) ((inferInstance:StabL [foI c (r.map zbj) false err s,arM A,stF xb c.d.b c.b M0]).st it hm)
structure Kst where
 i:Nat
 er:Nat
 r:List Rt
 s:Pg
 c:Fc
 M:List Mp
 A:List Mp
structure qw7 (n:Nat) (y:Kst):Prop where
 fm:FmK y.c y.r y.s y.M y.A (12*n)
 B:y.c.B≤604+610*n
 n:y.c.n=256
theorem qwl(L:List C11)(fs:List UInt8){I:Eng.Item}[Stab I](hI:∀x∈L,x.Ok I)(a a2:Option Addr)(cp cp2:Nat)(hr:∀w,I.prop w→Rd w a (zc6 C11.vs L))(hr2:∀w,I.prop w→ctI.prop w→tzI.prop w→Rd w a2 (zae fs))(keep:Bys):
    Cw Tryz.prog 6 #[.slice a L.length cp,.slice a2 fs.length cp2,.string ⟨keep.toArray⟩] [ctI,tzI,I] (fun _:Unit=>.bool true) (fun _=>True) (fun _=>[ctI,tzI,I]):=by
  refine qnp [_,_,_] Tryz.func6 rfl fun w0=>?_
  simp only[zaa]
  refine goA ?_
  refine lPu rfl (fun w1 hw1=>quq L a cp w1 (hr w1 (hw1.item I mm).1)) ?_
  cases hg:zlv L with
  |true=>
    refine goA ?_
    refine lC qf8 fun _ _=>?_
    refine goB ?_
    exact xC () trivial
  |false=>
   by_cases h20:20<fs.length
   · refine goA ?_
     refine lC qf8 fun _ _=>?_
     refine goB ?_
     exact xC () trivial
   by_cases h100:100<(⟨keep.toArray⟩:ByteArray).size
   · refine goA ?_
     refine lC qf8 fun _ _=>?_
     refine goB ?_
     exact xC () trivial
   obtain⟨hL20,h12⟩:=qwv hg
   have hkl:keep.length≤100:=by
     have h:¬100<keep.toArray.size:=h100
     rw[aC]at h
     omega
   refine goA ?_
   refine lC zlx fun⟨xb,c,s⟩ hB=>?_
   have h0:=qu8 hB
   have hBB:=hB.B
   have hn:=hB.n
   dsimp only at h0 hBB hn⊢
   have hK:FmK c r8 s qv5 qvz (12*0):=⟨⟨⟨h0.rdy.st.N1,h0.rdy.st.room,h0.rdy.st.base⟩,h0.rdy.now⟩,h0.N,h0.rm,h0.tot⟩
   rw[qvh]
   refine zcy (fun _ h=>quw h) ?_
   refine goB ?_
   refine que (fun y:Kst=>[(0,.slice a L.length cp),(1,.slice a2 fs.length cp2),(2,.string ⟨keep.toArray⟩),(7,.pointer (some ⟨xb,0,none⟩)),(9,.int .i64 (y.i:Nat))]) (fun y=>y.i≤L.length∧qw7 y.i y) (fun y=>[foI y.c (y.r.map zbj) false y.er y.s,ctI,arM y.A,stF xb y.c.d.b y.c.b y.M,I]) (fun y=>L.length - y.i) ⟨0,0,r8,s,c,qv5,qvz⟩ ⟨bA _,hK,by dsimp only;omega,hn⟩ fun⟨i,er,r1,s1,c1,M1,A1⟩ ⟨hi,f1,hb1,hn1⟩=>?_
   dsimp only at hi f1 hb1 hn1⊢
   by_cases hil:i<L.length
   · obtain⟨x,hx⟩:∃x,L[i]=x:=⟨_,rfl⟩
     have hxL:x∈L:=hx▸aV hil
     have hxo:=hI x hxL
     have hx12:=h12 x hxL
     refine zhm (fun w hw=>qwq (hr w (hw.item I mm).1) hil) fun⟨b,off,ha⟩=>?_
     subst ha
     have hrow:∀w,I.prop w→w.rangeAt b (off+i*2) x.vs:=fun w hp=>by
       obtain⟨b',off',e,h⟩:=qet (hr w hp) hil
       cases e
       rw[hx]at h
       exact h
     refine goA ?_
     refine qvc (P:=Tryz.prog) (ops:= ?o1) (Q:= ?q1) (N:= ?n1) (rest:= ?r1) (w0:=w0) (F:=za4 [ctI,tzI,I]) (α:=Fc×Nat)
       (fun y=>[(0,.slice (some ⟨b,off,none⟩) L.length cp),(1,.slice a2 fs.length cp2),(2,.string ⟨keep.toArray⟩),(7,.pointer (some ⟨xb,0,none⟩)),(9,.int .i64 (i:Nat)),(10,.int .u8 (y.2:Nat)),(62,.pointer (some ⟨xb,2,none⟩))])
       (fun y=>FmK y.1 r1 s1 M1 A1 (12*i)∧y.1.B=c1.B∧y.1.n=256∧y.2<256)
       (fun y=>[foI y.1 (r1.map zbj) false er s1,ctI,arM A1,stF xb y.1.d.b y.1.b M1,I]) ?k1 (fun hshare=> ?h1)
     case h1=>
       by_cases hfl:i<fs.length
       · refine zhm (fun w hw=>qw5 (hr2 w (hw.item I mm).1 (hw.item ctI mm).1 ((hw.item (foI c1 (r1.map zbj) false er s1) mm).1.1 _ (.tail _ (.tail _ (.tail _ (.head _))))).1) (i:=i) (by rw[quu];exact hfl)) fun⟨b2,off2,e2⟩=>?_
         obtain⟨n,hn'⟩:∃n,(fs[i]).toNat=n:=⟨_,rfl⟩
         have hn2:n<256:=hn'▸(fs[i]).toNat_lt
         have hrow2:∀w,I.prop w→ctI.prop w→tzI.prop w→w.cell? ⟨b2,off2+i,none⟩=some (.int .u8 (n:Nat)):=fun w hp hq hz=>by
           rcases hr2 w hp hq hz with h|⟨b',off',e,h⟩
           · have:=congrArg List.length h
             rw[quu]at this
             have:fs.length=0:=this
             omega
           · rw[e2]at e
             cases e
             have:=h i (.int .u8 ((fs[i]).toNat:Int)) (by unfold zae;rw[aN,aB hfl];rfl)
             rw[this,hn']
         refine goA ?_
         refine zd2 46 _ (.slice (some ⟨b2,off2,none⟩) fs.length cp2) rfl (by rw[e2]) ?_
         refine goA ?_
         refine l_w rfl (za0 (v:=.int .u8 (n:Nat)) rfl rfl (fun w' hw'=>hrow2 w' (hw'.item I mm).1 (hw'.item ctI mm).1 ((hw'.item (foI c1 (r1.map zbj) false er s1) mm).1.1 _ (.tail _ (.tail _ (.tail _ (.head _))))).1)) ?_
         refine goA ?_
         by_cases h200:n<200
         · refine goA ?_
           refine zcy (m':=foL c1 (r1.map zbj) false er s1++[ctI,arM A1,stF xb c1.d.b c1.b M1,I]) (fun w hw=>zk7 hw) ?_
           unfold foL
           simp only[aD,aH]
           refine lC (fun w hw _=>quj c1.d n oQ keep w hw) fun _ _=>?_
           refine zcy (m':=foI { c1 with d:={ c1.d with D:=zxc c1.d.D n keep } } (r1.map zbj) false er s1::[ctI,arM A1,stF xb c1.d.b c1.b M1,I]) (fun w hw=>zhe (m:=[ctI,arM A1,stF xb c1.d.b c1.b M1,I]) (hw.pick [1,2,0,3,4,5,6,7] rfl rfl)) ?_
           refine goA ?_
           refine hshare ({ c1 with d:={ c1.d with D:=zxc c1.d.D n keep } },n) _ _ ⟨⟨f1.rdy.fuse oQ oQ,f1.N,f1.rm,f1.tot⟩,rfl,hn1,hn2⟩ ?_ ?_
           · exact⟨rfl,rfl,rfl,rfl,rfl,rfl,rfl,trivial⟩
           · exact⟨_,qt4 (L:=[foI { c1 with d:={ c1.d with D:=zxc c1.d.D n keep } } (r1.map zbj) false er s1,ctI,arM A1,stF xb c1.d.b c1.b M1,I])⟩
         · refine goA ?_
           refine hshare (c1,n) _ _ ⟨f1,rfl,hn1,hn2⟩ ?_ ?_
           · exact⟨rfl,rfl,rfl,rfl,rfl,rfl,rfl,trivial⟩
           · exact⟨_,qt4 (L:=[foI c1 (r1.map zbj) false er s1,ctI,arM A1,stF xb c1.d.b c1.b M1,I])⟩
       · refine goA ?_
         refine hshare (c1,255) _ _ ⟨f1,rfl,hn1,show(255:Nat)<256 by decide⟩ ?_ ?_
         · exact⟨rfl,rfl,rfl,rfl,rfl,rfl,rfl,trivial⟩
         · exact⟨_,qt4 (L:=[foI c1 (r1.map zbj) false er s1,ctI,arM A1,stF xb c1.d.b c1.b M1,I])⟩
     case k1=>
       rintro⟨c2,n⟩ ⟨f2,hb2,hn2,hnn⟩
       dsimp only at f2 hb2 hn2 hnn⊢
       have h8M:=f2.rm.l8
       refine l_w rfl (qv7 h8M rfl mm) ?_
       refine goA ?_
       refine zam rfl rfl fun b11 hb11=>?_
       refine lSa (cs':=(zc6 dmE M1).toArray) (hT:=by rw[aC,zce h8M];rfl) (h1:=zc8 _) (h2:=by rw[aC,zce h8M];rfl) ?_
       refine goA ?_
       refine l_w rfl (zgp (xs:=x.vs) (c:=x.vs.toArray) rfl rfl (fun w' hw'=>hrow w' (hw'.item I mm).1) rfl) ?_
       refine lC (qur f2 oQ x hxo oQ) fun⟨e,dd,r3,M3,A3,c3,s3,T3,rT⟩ h3=>?_
       obtain⟨kp,t8,is⟩:=h3
       dsimp only at kp t8 is⊢
       have hB3:=kp.B
       have hn3:c3.n=256:=kp.n.trans hn2
       refine goA ?_
       refine zam rfl rfl fun b13 hb13=>?_
       refine goA ?_
       refine lSa (cs':=(zc6 dmE T3).toArray) (hT:=by rw[aC,zce t8];rfl) (h1:=zc8 _) (h2:=by rw[aC,zce t8];rfl) ?_
       refine goA ?_
       rw[←kp.b,←kp.db]
       refine qvc (P:=Tryz.prog) (ops:= ?o2) (Q:= ?q2) (N:= ?n2) (rest:= ?r2) (w0:=w0) (F:=za4 [ctI,tzI,I]) (α:=Kst)
         (fun y=>[(0,.slice (some ⟨b,off,none⟩) L.length cp),(1,.slice a2 fs.length cp2),(2,.string ⟨keep.toArray⟩),(7,.pointer (some ⟨xb,0,none⟩)),(9,.int .i64 (i:Nat)),(119,.pointer (some ⟨y.c.b,0,none⟩))])
         (fun y=>qw7 (i+1) y)
         (fun y=>[foI y.c (y.r.map zbj) false y.er y.s,ctI,arM y.A,stF xb y.c.d.b y.c.b y.M,I]) ?k2 (fun hshare=> ?h2)
       case h2=>
         rcases is with ⟨rfl,f3⟩ |⟨rfl,rfl,hG,hm1,hm2,ht1,ht2,rfl⟩
         · rw[show doI false c3 (r3.map zbj) 0 s3=foI c3 (r3.map zbj) false 0 s3 from rfl]
           obtain⟨g3,k1, -, -⟩:=f3.at_
           refine lPu rfl (fun w1 hw1=>qv9 k1 w1 (zbq.of (hw1.item (foI c3 (r3.map zbj) false 0 s3) mm) (zad _))) ?_
           refine goA ?_
           refine hshare ⟨i,0,r3,s3,c3,M3,A3⟩ _ _ ⟨f3.mono oQ,by dsimp only;omega,hn3⟩ ?_ ?_
           · exact⟨rfl,rfl,rfl,rfl,rfl,rfl,trivial⟩
           · exact⟨_,qt4 (L:=[foI c3 (r3.map zbj) false 0 s3,ctI,arM A3,stF xb c3.d.b c3.b M3,I])⟩
         · rw[show doI true c3 (r3.map zbj) 0 s3=zef [dkI c3.d,tzI]from rfl]
           have hN3:c3.N=120:=kp.N.trans f2.N
           obtain⟨rr,hv,ht,hcase⟩:∃rr,Vok c3 rr∧zq9 rr≤12*(i+1)∧(Rm rr M3 A3∨((¬∀(j:Nat) (z:Rt),rr[j]? =some z→∃o,M3[j]? =some (o,zdb z))∧Rm rr T3 A3)):=by
             rcases hG.vok with hv|hv
             · exact⟨r1,hv,oQ,.inl hm1⟩
             · by_cases heq:∀(j:Nat) (z:Rt),rT[j]? =some z→∃o,M3[j]? =some (o,zdb z)
               · exact⟨rT,hv,oQ,.inl ⟨hm1.l8,heq,hm1.arc⟩⟩
               · exact⟨rT,hv,oQ,.inr ⟨heq,hm2⟩⟩
           have hO:qxm c3 rr:=⟨hG.off,⟨hG.N1,hG.room,hv⟩,oQ,oQ⟩
           refine qxd ?_
           refine lPu rfl (fun w1 hw1=>zzb c3.d w1 (zbq.of (hw1.item (dkI c3.d) mm) (zad _))) ?_
           rw[hG.off.dead]
           refine goA ?_
           refine l_w rfl (zcw (cs:=(zc6 dmE M3).toArray) rfl (by rw[aC,zce h8M];rfl) mm) ?_
           refine goA ?_
           refine lSR (off:=2) (cs:=.pointer (some ⟨c3.d.b,0,none⟩):: .pointer (some ⟨c3.b,0,none⟩)::zc6 dmE M3) (V:=zc6 dmE M3) (by rw[zce h8M,aR,aR,zce h8M];omega) (zc8 _) (hT:=by rw[zce h8M];rfl) ?_
           rw[qxe h8M h8M]
           refine qw2 [dkI c3.d,tzI] ?_
           refine goA ?_
           refine lC (qww s3 hO oQ keep hkl n hnn xb c3.b M3) fun⟨c4,s4⟩ hA=>?_
           obtain⟨a1,a2',a3,a4,a5,a6,a7⟩:=hA
           dsimp only at a1 a2' a3 a4 a5 a6 a7⊢
           rcases hcase with hm|⟨hno,hm⟩
           · have f4:FmK c4 rr s4 M3 A3 (12*(i+1)):=⟨a1,a3.trans hN3,hm,ht⟩
             refine goA ?_
             refine l_w rfl (zcw (cs:=(zc6 dmE M3).toArray) rfl (by rw[aC,zce h8M];rfl) mm) ?_
             refine goA ?_
             refine lC (qws f4 oQ) fun s5 f5=>?_
             refine goA ?_
             refine l_w rfl (zcw (cs:=(zc6 dmE M3).toArray) rfl (by rw[aC,zce h8M];rfl) mm) ?_
             refine goA ?_
             refine lC (qws f5 oQ) fun s6 f6=>?_
             refine goA ?_
             refine hshare ⟨i,0,rr,s6,c4,M3,A3⟩ _ _ ⟨f6,by dsimp only;omega,a4.trans hn3⟩ ?_ ?_
             · exact⟨rfl,rfl,rfl,rfl,rfl,rfl,trivial⟩
             · exact⟨_,qt4 (L:=[foI c4 (rr.map zbj) false 0 s6,ctI,arM A3,stF xb c4.d.b c4.b M3,I])⟩
           · have f4:FmK c4 rr s4 T3 A3 (12*(i+1)):=⟨a1,a3.trans hN3,hm,ht⟩
             have hsm:∀p∈M3,p.2.length≤1000000:=fun p hp=>by
               have h8r:r1.length=8:=by
                 obtain⟨g,k1,k2, -⟩:=f1.at_
                 exact k2.len
               have:=hm1.small h8r ht1 p hp
               omega
             refine goA ?_
             refine l_w rfl (zcw (cs:=(zc6 dmE M3).toArray) rfl (by rw[aC,zce h8M];rfl) mm) ?_
             refine goA ?_
             refine lC (qxf f4 oQ h8M hm1.arc hsm hno) fun s5 f5=>?_
             refine goA ?_
             refine l_w rfl (zcw (cs:=(zc6 dmE T3).toArray) rfl (by rw[aC,zce t8];rfl) mm) ?_
             refine goA ?_
             refine lC (qws f5 oQ) fun s6 f6=>?_
             refine goA ?_
             refine l_w rfl (zcw (cs:=(zc6 dmE M3).toArray) rfl (by rw[aC,zce h8M];rfl) mm) ?_
             refine goA ?_
             refine lC (qxf f6 oQ h8M hm1.arc hsm hno) fun s7 f7=>?_
             refine goA ?_
             refine l_w rfl (zcw (cs:=(zc6 dmE T3).toArray) rfl (by rw[aC,zce t8];rfl) mm) ?_
             refine goA ?_
             refine lSR (off:=2) (cs:=.pointer (some ⟨c4.d.b,0,none⟩):: .pointer (some ⟨c4.b,0,none⟩)::zc6 dmE M3) (V:=zc6 dmE T3) (by rw[zce t8,aR,aR,zce h8M];omega) (zc8 _) (hT:=by rw[zce t8];rfl) ?_
             rw[qxe h8M t8]
             refine goA ?_
             refine hshare ⟨i,0,rr,s7,c4,T3,A3⟩ _ _ ⟨f7,by dsimp only;omega,a4.trans hn3⟩ ?_ ?_
             · exact⟨rfl,rfl,rfl,rfl,rfl,rfl,trivial⟩
             · exact⟨_,qt4 (L:=[foI c4 (rr.map zbj) false 0 s7,ctI,arM A3,stF xb c4.d.b c4.b T3,I])⟩
       case k2=>
         rintro⟨_,er4,r4,s4,c4,M4,A4⟩ ⟨f4,hb4,hn4⟩
         dsimp only at f4 hb4 hn4⊢
         have h84:=f4.rm.l8
         refine lC (qw8 f4 oQ) fun s5 f5=>?_
         obtain⟨g5,k1,k2, -⟩:=f5.at_
         have h8o:=zuu k2.len (aY 8)
         refine goA ?_
         refine zam rfl rfl fun b15 hb15=>?_
         refine lSa (cs':=(zy9 r4 8).toArray) (hT:=by rw[aC,h8o];rfl) (h1:=qt9 _ _) (h2:=by rw[aC,h8o];rfl) ?_
         refine goA ?_
         obtain⟨p,hp⟩:∃p,M4[0]? =some p:=⟨_,aB oQ⟩
         have hout:(zy9 r4 8)[0]? =some (.int .i64 (p.2.length:Nat)):=by
           obtain⟨z,hz⟩:∃z,r4[0]? =some z:=⟨_,aB (by rw[k2.len];decide)⟩
           obtain⟨o,ho⟩:=f5.rm.rel 0 z hz
           rw[hp]at ho
           cases ho
           rw[qt8 k2.len,aN,hz]
           rfl
         have hout:=toA hout
         refine zhm (fun w hw=>(zas ((hw.item (arM A4) mm).1.1 (own 9 1 p.1.1 p.2.length (p.2.map fun y=>kV y.1)) (bW.2 ⟨_,f5.rm.arc _ (bH hp),.head _⟩)).1).1) fun e1=>?_
         refine ziv [stF xb _ _ M4,pt b15 _] 99 ?_
         refine goP ?_
         refine dVP rfl rfl (zc5 rfl rfl mm (by rw[aJ];exact hout)) ?_
         refine dVP rfl rfl (zc5 (v:=.slice (slA p.1.1) p.2.length (slC p.1.1)) rfl rfl mm (qwm hp (by rw[←e1];rfl))) ?_
         refine goP ?_
         rw[bne_self_eq_false]
         refine goP ?_
         refine dVP rfl rfl (qv7 h84 rfl mm) ?_
         refine goP ?_
         refine dCw 20 (fun w hw _ _=>qxo (M0:=M4) (xb:=xb) f5 oQ hw qt4) fun s6 f6=>?_
         refine goP ?_
         refine goQ ?_
         exact xR ⟨i+1,er4,r4,s6,c4,M4,A4⟩ ⟨hil,f6,hb4,hn4⟩ (by dsimp only;omega)
   · obtain rfl:i=L.length:=oQ
     refine goA ?_
     refine qs3 ?_
     refine lC qf8 fun _ _=>?_
     refine goB ?_
     exact xC () trivial
end Go.Proofs.YthafakdplhdfjaaGreatDoor
