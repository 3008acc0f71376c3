/- Parts: law 16; A region that draws; What the cards of layer 16 share. No condition. -/
import Derived.Test.YthafakdplhdfjaaGreatDoorHh15
import Derived.Test.YthafakdplhdfjaaGreatDoorHh03
import Derived.Test.YthafakdplhdfjaaGreatDoorHh02
import Derived.Test.YthafakdplhdfjaaGreatDoorHh14
set_option maxRecDepth 100000
set_option maxHeartbeats 40000000
namespace Go.Proofs.YthafakdplhdfjaaGreatDoor
open Go.RowKit Go.Eng Go.Eng.Bm Go.Eng.Tr
variable{n:Nat}{g:Sg}{r:List Rt}{x:Rt}
theorem qqh(h:FoV n g r)(hN:n≤1024){k m:Nat}(hk:zq9 r≤m)(hK:m≤5*2^k)(hn:(4*(m/5)+32)/3+k+4<n)(h16:k<16){i:Nat}(hx:r[i]? =some x)(f:K):qnd (fSh i) n g f (zbj x:Nat) (geE (zdb x) f):=by
 have hi:i<8:=by rw[←h.len];exact(aJ.1 hx).1
 have q2:=(h.room hk hK hn h16 hx).2
 obtain⟨hr,hrep, -⟩:=h.ok i x hx
 have hlow:=h.low hx
 have hs:=znw hi
 match x,hr,hrep,hlow,q2 with
 |none,_,_,_,_=>exact .inl ⟨rfl,rfl⟩
 |some ⟨hh,t⟩,hr,hrep,hlow,q2=>
  have hr:TOk (fSh i) t:=hr
  have hlow:∀x∈pgs t,1≤x∧x<n:=hlow
  refine .inr ⟨pg t,rfl,?_,?_⟩
  ·have:=(hlow (pg t) (zcj t)).1
   omega
  ·show qp4 (fSh i) n g f 16 (pg t) (geE (ents t) f)
   rw[←qfa t f hr.ord]
   exact ql5 hs.kw hN t hr.ord hr.wd hr.below hr.le hr.two (fun h'=>by show 2≤(fSh i).fan/2;have:=hs.h4;omega) hrep hlow 16 q2
theorem quc(e:E):geE e []=e:=by
 unfold geE
 exact cU.2 fun q _=>by
  have:¬kl q.1 []:=fun h=>by obtain⟨a,b⟩:=q;cases a<;>cases h
  simpa using this
theorem qn8(k:K):(⟨k.toArray⟩:ByteArray)=kB k:=rfl
abbrev smI(b6 b3 b5 b7:Nat)(o1 o2:Option (Nat×Nat))(L:Cl)(x:Nat×Bys):List Eng.Item:=[pt b6 (.cells #[.bool true] 4 (0,0)),pt b3 (.cells #[slV o1 L.length,slV o2 L.length] 30 (0,0)),pt b5 (.cells #[.int .i64 (x.1:Nat)] 3 (0,0)),pt b7 (.cells #[.string (kB x.2)] 9 (0,0)),zrk o1 L,zsd o2 L]
variable{L:Cl}
theorem zwt(b6 b3 b5 b7:Nat)(o1 o2:Option (Nat×Nat))(hL:∀p∈L,p.1.length=32)(hn:L.length≤1000)(i:Nat)(hi:i≤1000)(last hb:Bys)(hbl:hb.length=32)(m:Nat)(h0:0<m)(hm:m<4294967296)(hc:zga L hb=m)(hk:i≠0→kl last hb):
  Cw Tryz.prog 48 #[zng hb,.int .u32 (m:Nat),.pointer (some ⟨b6,0,none⟩),.pointer (some ⟨b3,0,none⟩),.pointer (some ⟨b5,0,none⟩),.pointer (some ⟨b7,0,none⟩)] [zef (smI b6 b3 b5 b7 o1 o2 L (i,last))] (fun x:Bool×Nat×Bys=>.bool x.1) (fun x=>x=(true,i+1,hb)) (fun x=>[zef (smI b6 b3 b5 b7 o1 o2 L x.2)]):=by
 refine qnp [_,_,_,_,_,_] Tryz.func48 rfl fun w0=>?_
 simp only[zaa]
 refine zg8 (m':=smI b6 b3 b5 b7 o1 o2 L (i,last)) (fun _ h=>Hp.open1 h) ?_
 refine zhm (fun w hw=>And.intro (zas (hw.item (zrk o1 L) mm).1).1 (zas (hw.item (zsd o2 L) mm).1).1) fun⟨f1,f2⟩=>?_
 unfold zng
 refine goA ?_
 refine zbp rfl rfl fun b9 hb9=>?_
 refine goA ?_
 unfold smI
 dsimp only
 rw[f1,f2]
 refine ziv [pt b3 _,pt b5 _,pt b7 _,pt b9 _,zrk o1 L,zsd o2 L] 99 ?_
 refine dV 0 ?_
 refine goP ?_
 refine dV 5 (hv:=zcw rfl (by rw[bC,aD,hbl];rfl) (.head _)) ?_
 refine dPF 6 (fun w1 hw1=>zny L hL oQ hb hbl (slA o1) (slA o2) (slC o1) (slC o2) w1 (za8 (hw1.item (zrk o1 L) mm).1) (za8 (hw1.item (zsd o2 L) mm).1)) ?_
 rw[hc]
 refine goP ?_
 rw[beq_self_eq_true]
 refine goP ?_
 rw[decide_eq_true (show((m:Nat):Int)>0 by omega)]
 refine goP ?_
 by_cases hi0:i=0
 ·subst hi0
  rw[show(((0:Nat):Int)==0)=true from rfl]
  refine goP ?_
  refine dS1 23 ?_
  refine goQ ?_
  refine l_w rfl (zg9 rfl rfl rfl rfl) ?_
  refine goA ?_
  refine l_w rfl (zlp (bs:=hb) rfl hbl.symm rfl rfl rfl (fun w' hw'=>zmu (hw'.item (haC b9 hb) mm).1)) ?_
  refine goB ?_
  rw[←f1,←f2,qn8]
  refine qi6 (smI b6 b3 b5 b7 o1 o2 L (0+1,hb)) ?_
  exact xC (true,0+1,hb) rfl
 ·rw[show(((i:Nat):Int)==0)=false by simpa using hi0]
  refine goP ?_
  refine dVP rfl rfl (zg9 rfl rfl rfl rfl) ?_
  refine dVP rfl rfl (zlp (bs:=hb) rfl hbl.symm rfl rfl rfl (fun w' hw'=>zmu (hw'.item (haC b9 hb) mm).1)) ?_
  refine goP ?_
  rw[qn8,zjt,zjt,qmh,qgw,decide_eq_false (zhf (hk hi0)),decide_eq_false (Ne.symm (zi8 (hk hi0))),show(!(false||false))=true from rfl]
  refine goP ?_
  refine dS1 23 ?_
  refine goQ ?_
  refine l_w rfl (zg9 rfl rfl rfl rfl) ?_
  refine goA ?_
  refine l_w rfl (zlp (bs:=hb) rfl hbl.symm rfl rfl rfl (fun w' hw'=>zmu (hw'.item (haC b9 hb) mm).1)) ?_
  refine goB ?_
  rw[←f1,←f2,qn8]
  refine qi6 (smI b6 b3 b5 b7 o1 o2 L (i+1,hb)) ?_
  exact xC (true,i+1,hb) rfl
theorem qf7:∀{e:E} {y:K×K},Es e→y∈e→zi6 e y.1=some y.2
 |p::r,y,hs,hy=>by
  unfold zi6
  rcases aI.1 hy with rfl|hy
  ·simp
  ·have h1:=zi8 ((zpm hs).1 y hy)
   rw[gR (by simpa using h1)]
   exact qf7 (zpm hs).2 hy
theorem qts{m k:Nat}(hm:m<4294967296)(hk:k<4294967296)(h:beN 4 m=beN 4 k):m=k:=by
 have h1:=zgc (w:=4) (n:=m) oQ []
 have h2:=zgc (w:=4) (n:=k) oQ []
 rw[h,h2]at h1
 exact(congrArg (·.1) h1).symm
theorem Rel.ent{e:E}(h:Rel e L)(hs:Es e){y:K×K}(hy:y∈e):y.1.length=32∧0<zga L y.1∧zga L y.1<4294967296∧y.2=beN 4 (zga L y.1):=by
 have h1:=qf7 hs hy
 rw[h.get]at h1
 obtain⟨h2,h3⟩:=zg3 h.pos y.1
 have h4:zga L y.1≠0:=fun e=>by rw[e]at h1;cases h1
 unfold cnt? at h1
 rw[if_neg h4]at h1
 obtain⟨p,hp,hpe⟩:=aO.1 (h3.1 h4)
 exact⟨hpe▸h.l32 p hp,oQ,h2,(cN h1).symm⟩
def qji(k:E):Bys:=((k.getLast?).map (·.1)).getD []
variable{c:Fc}{s:Pg}{busy:Bool}{err:Nat}
theorem zza(h:Fok c g s){R:List Nat}{a:Nat}(ha:R[0]? =some a){xs:E}(hl:qnd (fSh 0) c.N g [] (a:Nat) xs)(hs:Es xs)(hrel:Rel xs L)(hn:L.length≤1000)(o1 o2:Option (Nat×Nat)):
  Cw Tryz.prog 14 #[.pointer (some ⟨c.b,0,none⟩),clV o1 o2 L] [foI c R busy err s,zrk o1 L,zsd o2 L] (fun _:Pg=>.bool true) (fun s'=>Fok c g s') (fun s'=>[foI c R busy err s',zrk o1 L,zsd o2 L]):=by
 have hx:∀y∈xs,y.1.length=32∧∃m,0<m∧m<4294967296∧y.2=beN 4 m:=fun y hy=>by
  obtain⟨e1,e2,e3,e4⟩:=hrel.ent hs hy
  exact⟨e1,_,e2,e3,e4⟩
 refine qnp [_,_] Tryz.func14 rfl fun w0=>?_
 simp only[zaa]
 refine goA ?_
 refine zbp rfl rfl fun b3 hb3=>?_
 refine goA ?_
 refine zdg rfl rfl rfl fun b5 hb5=>?_
 refine goB ?_
 refine zdg rfl rfl rfl fun b6 hb6=>?_
 refine goB ?_
 refine zdg rfl rfl rfl fun b7 hb7=>?_
 refine goB ?_
 refine l_w rfl (zhw rfl) ?_
 refine goB ?_
 rw[qn8 []]
 refine qqv (smI b6 b3 b5 b7 o1 o2 L (0,[])) ?_
 refine lC (zoz h ha hl hx (σ:=Nat×Bys) (fun st=>zef (smI b6 b3 b5 b7 o1 o2 L st)) (fun k st=>st=(k.length,qji k)) (fun _=>False) (0,[]) (fd:=48) (cs:=[.pointer (some ⟨b6,0,none⟩),.pointer (some ⟨b3,0,none⟩),.pointer (some ⟨b5,0,none⟩),.pointer (some ⟨b7,0,none⟩)]) kQ (fun st=>zad _) rfl (fun k y m st hp hy hm hi w2 hh2=>?_)) fun⟨s',st⟩ ⟨hs',hst⟩=>?_
 ·subst hi
  have hlk:=hp.length_le
  rw[aA]at hlk
  have hlk:k.length+1≤xs.length:=hlk
  have hlen:=hrel.len
  obtain⟨e1,e2,e3,e4⟩:=hrel.ent hs (hp.subset (aT _ (.head _)))
  have hmk:zga L y.1=m:=qts e3 hm (e4.symm.trans hy)
  refine Ct.map (zwt b6 b3 b5 b7 o1 o2 hrel.l32 hn k.length oQ (qji k) y.1 e1 m oQ hm hmk (fun h0=>?_) w2 (fun it hm=>by rw[aK.1 hm];exact hh2) (.cons (fun _ h=>nomatch h) .nil)) fun z hz=>⟨z,rfl,.inl ⟨by rw[hz],?_⟩,rfl⟩
  ·obtain⟨t,ht⟩:=hp
   rw[←ht]at hs
   unfold Es Ks at hs
   rw[bV,bV]at hs
   have h1:=(bQ.1 hs).1
   have h2:=(bQ.1 h1).2.2
   obtain⟨z,hz⟩:∃z,k.getLast? =some z:=by
    cases hq:k.getLast? with
    |none=>rw[List.getLast?_eq_none_iff]at hq;subst hq;exact absurd rfl h0
    |some z=>exact⟨z,rfl⟩
   unfold qji
   rw[hz]
   exact h2 z.1 (aO.2 ⟨z,List.mem_of_getLast? hz,rfl⟩) y.1 (.head _)
  ·show z.2=_
   rw[hz,aA]
   unfold qji
   rw[List.getLast?_concat]
   rfl
 ·obtain rfl:st=(xs.length,qji xs):=hst.resolve_right fun h=>h
  simp only at hs'
  refine goB ?_
  refine lC (fun w hw _=>zls hs' ha hl hx (by have:=hrel.len;omega) w hw) fun s2 hs2=>?_
  refine qt7 ?_
  unfold smI
  dsimp only
  rw[hrel.len]
  refine zch (fun w hw=>(zas (hw.item (zrk o1 L) mm).1).1) fun f1=>?_
  rw[f1]
  refine goB ?_
  rw[beq_self_eq_true]
  refine goB ?_
  exact xC s2 hs2
abbrev zpl(L:Cl)(h:Bys)(by_:Int)(fl:Bool):Cl:=if okC (zga L h) by_∧fl=false then zle L h ((zga L h:Int)+by_).toNat else L
structure Cst (c:Fc) (r:List Rt) (s:Pg) (L:Cl) (n:Nat):Prop where
 rdy:Rdy c r r s
 N:c.N=120
 B:c.B≤604+601*n
 rel:∃x,r[0]? =some x∧Rel (zdb x) L
 tot:zq9 r≤n
theorem qnq(h:n=120):Few n 64 4:=by subst h;exact⟨dQ,dQ,dQ,dQ⟩
theorem Cst.len{c:Fc}{r:List Rt}{s:Pg}{L:Cl}{n:Nat}(h:Cst c r s L n):L.length≤n:=by
 obtain⟨x,hx,hr⟩:=h.rel
 rw[←hr.len]
 exact cI (qmt hx) h.tot
theorem zzx(h:Cst c r s L n)(hn:n≤63){hc:UInt8}{by_:Int}(hby: -9223372036854775808≤by_∧by_<9223372036854775808){fl:Bool}{o1 o2:Option (Nat×Nat)}:
  Cw Tryz.prog 11 #[.pointer (some ⟨c.b,0,none⟩),clV o1 o2 L,.agg #[.int .u8 (hc.toNat:Int),.int .i64 by_,.bool fl]] [foI c (r.map zbj) false err s,ctI,zrk o1 L,zsd o2 L]
   (fun y:(Option (Nat×Nat)×Option (Nat×Nat))×Nat×List Rt×Fc×Pg=>.tuple #[clV y.1.1 y.1.2 (zpl L (hsh hc) by_ fl),.bool true]) (fun y=>Cst y.2.2.2.1 y.2.2.1 y.2.2.2.2 (zpl L (hsh hc) by_ fl) (n+1)∧y.2.2.2.1.b=c.b)
   (fun y=>[foI y.2.2.2.1 (y.2.2.1.map zbj) false y.2.1 y.2.2.2.2,ctI,zrk y.1.1 (zpl L (hsh hc) by_ fl),zsd y.1.2 (zpl L (hsh hc) by_ fl)]):=fun w hw ha=>by
 obtain⟨x,hx,hr⟩:=h.rel
 refine(qcl h.rdy (by have:=h.B;omega) (qnq h.N) (by have:=h.tot;omega) hx hr (by have:=h.len;omega) hc by_ hby fl err o1 o2 w hw ha).map fun y hy=>⟨y,rfl,⟨⟨hy.rdy,hy.keep.N.trans h.N,?_,hy.rel,?_⟩,hy.keep.b⟩,rfl⟩
 ·have:=hy.keep.B
  have:=h.B
  omega
 ·have:=hy.tot
  have:=h.tot
  omega
theorem Cst.at_(h:Cst c r s L n):∃g x,Fok c g s∧FoV c.N g r∧r[0]? =some x∧Rel (zdb x) L∧Es (zdb x)∧(r.map zbj)[0]? =some (zbj x)∧∀s',Fok c g s'→Cst c r s' L n:=by
 obtain⟨g,k1,k2,k3⟩:=h.rdy.now
 obtain⟨x,hx,hr⟩:=h.rel
 exact⟨g,x,k1,k2,hx,hr,(k2.ok 0 x hx).2.2,by rw[aP,hx];rfl,fun s' hs'=>⟨⟨h.rdy.st,g,hs',k2,k3⟩,h.N,h.B,h.rel,h.tot⟩⟩
theorem qqb(h:Cst c r s L n)(hn:n≤64){hb:Bys}(hbl:hb.length=32):
  Cw Tryz.prog 12 #[.pointer (some ⟨c.b,0,none⟩),zng hb] [foI c (r.map zbj) busy err s] (fun _:Pg=>.tuple #[.int .u32 (zga L hb:Nat),.int .i64 0]) (fun s'=>Cst c r s' L n) (fun s'=>[foI c (r.map zbj) busy err s']):=fun w hw _=>by
 obtain⟨g,x,k1,k2,k3,k4, -,k5,k6⟩:=h.at_
 have hf:=qnq h.N
 refine(zse k1 k5 hb hbl (zg3 k4.pos hb).1 ?_ w hw).map fun y hy=>⟨y,rfl,k6 y hy,rfl⟩
 rw[←k4.get]
 exact k2.get hf.le (by have:=h.tot;omega) hf.lo hf.rm hf.dp k3 hb
theorem qoy(h:Cst c r s L n)(hn:n≤64)(hv:FoV c.N g r)(hx:r[0]? =some x):qnd (fSh 0) c.N g [] (zbj x:Nat) (zdb x):=by
 have hf:=qnq h.N
 have:=qqh hv hf.le (by have:=h.tot;omega) hf.lo hf.rm hf.dp hx []
 rwa[quc]at this
theorem qru(h:Cst c r s L n)(hn:n≤64){o1 o2:Option (Nat×Nat)}:
  Cw Tryz.prog 14 #[.pointer (some ⟨c.b,0,none⟩),clV o1 o2 L] [foI c (r.map zbj) busy err s,zrk o1 L,zsd o2 L] (fun _:Pg=>.bool true) (fun s'=>Cst c r s' L n) (fun s'=>[foI c (r.map zbj) busy err s',zrk o1 L,zsd o2 L]):=fun w hw ha=>by
 obtain⟨g,x,k1,k2,k3,k4,k7,k5,k6⟩:=h.at_
 exact(zza k1 k5 (qoy h hn k2 k3) k7 k4 (by have:=h.len;omega) o1 o2 w hw ha).map fun y hy=>⟨y,rfl,k6 y hy,rfl⟩
theorem qkk(h:Cst c r s L n)(hn:n≤64):
  Cw Tryz.prog 16 #[.pointer (some ⟨c.b,0,none⟩)] [foI c (r.map zbj) busy err s] (fun _:Pg=>.tuple #[.int .i64 (L.length:Nat),.int .i64 0]) (fun s'=>Cst c r s' L n) (fun s'=>[foI c (r.map zbj) busy err s']):=fun w hw _=>by
 obtain⟨g,x,k1,k2,k3,k4,k7,k5,k6⟩:=h.at_
 refine(zls k1 k5 (qoy h hn k2 k3) (fun y hy=>?_) (by have:=k4.len;have:=h.len;omega) w hw).map fun y hy=>⟨y,by rw[k4.len],k6 y hy,rfl⟩
 obtain⟨e1,e2,e3,e4⟩:=k4.ent k7 hy
 exact⟨e1,_,e2,e3,e4⟩
theorem qqa(h:Beg c s):Cst c r8 s [] 0:=
 ⟨h.rdy,h.N,by have:=h.B;omega,⟨none,rfl,⟨fun _ h=>(nomatch h),fun _ h=>(nomatch h),.nil,fun _=>rfl,rfl⟩⟩,dQ⟩
theorem qed:Cw Tryz.prog 9 #[] [ctI,tzI] (fun _:Unit=>.bool true) (fun _=>True) (fun _=>[ctI,tzI]):=by
 refine qnp [] Tryz.func9 rfl fun w0=>?_
 simp only[zaa]
 refine goA ?_
 refine lC zlx fun⟨xb,c,s⟩ hB=>?_
 have h0:=qqa hB
 simp only at h0
 refine zcy (fun _ h=>zps 45 32 (zps 2 1 h)) ?_
 refine goB ?_
 refine lC (zzx (hc:=1) (by_:=2) (fl:=false) (o1:=none) (o2:=none) h0 dQ dQ) fun⟨⟨p1,p2⟩,er1,r1,c1,s1⟩ ⟨h1,e1⟩=>?_
 dsimp only at h1 e1⊢
 obtain⟨L1,hL1⟩:∃L,zpl [] (hsh 1) 2 false=L:=⟨_,rfl⟩
 rw[hL1]at h1⊢
 rw[←e1]
 refine goB ?_
 refine zam rfl rfl fun b25 hb25=>?_
 refine goB ?_
 refine ziv [fsC xb _ _] 99 ?_
 refine goP ?_
 refine dV 4 ?_
 refine goP ?_
 refine dC 6 (zzx (hc:=1) (by_:= -3) (fl:=false) (o1:=p1) (o2:=p2) h1 dQ dQ) fun⟨⟨p1,p2⟩,er2,r2,c2,s2⟩ ⟨h2,e2⟩=>?_
 dsimp only at h2 e2⊢
 obtain⟨L2,hL2⟩:∃L,zpl L1 (hsh 1) (-3) false=L:=⟨_,rfl⟩
 rw[hL2]at h2⊢
 rw[←e2]
 refine goP ?_
 refine dSa 10 ?_
 refine goQ ?_
 refine ziv [fsC xb _ _] 99 ?_
 refine goP ?_
 refine dV 4 ?_
 refine goP ?_
 refine dC 6 (zzx (hc:=1) (by_:= -1) (fl:=false) (o1:=p1) (o2:=p2) h2 dQ dQ) fun⟨⟨p1,p2⟩,er3,r3,c3,s3⟩ ⟨h3,e3⟩=>?_
 dsimp only at h3 e3⊢
 obtain⟨L3,hL3⟩:∃L,zpl L2 (hsh 1) (-1) false=L:=⟨_,rfl⟩
 rw[hL3]at h3⊢
 rw[←e3]
 refine goP ?_
 refine dSa 10 ?_
 refine goQ ?_
 refine l_w rfl (zks rfl rfl rfl rfl rfl) ?_
 refine goA ?_
 refine lC (qqb h3 dQ (hb:=hsh 1) rfl) fun s4 h4=>?_
 rw[show zga L3 (hsh 1)=1 by rw[←hL3,←hL2,←hL1];decide+kernel]
 refine goB ?_
 refine ziv [fsC xb _ _,pt b25 _] 99 ?_
 refine goP ?_
 refine dC 21 (qru h4 dQ (o1:=p1) (o2:=p2)) fun s5 h5=>?_
 refine goQ ?_
 refine qtx ?_
 exact xC () trivial
end Go.Proofs.YthafakdplhdfjaaGreatDoor
namespace Go.Eng
open Go.RowKit
variable{P:Program}{Q:Exit→Act→World→Prop}{N:Fm}{l:zav}{ops:Array Oper}{rest:List Oper}{w0:World}{F:Nat→Prop}{m m' r:List Item}{ty:TypeId}{pos:String}{after:Array Edge}{g:Option (Nat×Bool)}{d:Nat}
instance(q:IntKind)(b:Nat)(A:zcs):Stab (zck q b A):=⟨zax _ _ _ _⟩
theorem lMU{q:IntKind}{T kt et:TypeId}{x y z:Operand}{b h:Nat}{v:Value}{A:zcs}(hh:okN q h)(k:HL P ops Q N rest l (Hp w0 F (zck q b (zjs A h v)::r)))(hx:evO l x=some (.map (some b)):=by rfl)(hy:evO l y=some (.int q (h:Int)):=by rfl)(hz:evO l z=some v:=by rfl)
  (hT:P.underlying T=some (.map kt et):=by rfl) (hk:P.underlying kt=some (.int q):=by rfl) (hf:Fnd (zck q b A) m r:=by exact qt5) (hg:okG ops l g=true:=by rfl) (hok:(zez (.mapUpdate T x y z)&&zec l (.mapUpdate T x y z))=true:=by rfl):
  HL P ops Q N (⟨none,.mapUpdate T x y z,ty,pos,after,g⟩::rest) l (Hp w0 F m):=zeh hg (zah hf.perm (zir hk hok hx hy hz hT hh)) fun _=>k
end Go.Eng
namespace Go.Proofs.YthafakdplhdfjaaGreatDoor
open Go.RowKit Go.Eng Go.Eng.Bm Go.Eng.Tr
structure A16 where
 h:UInt8
 n:Int
 fl:Bool
def A16.vs(x:A16):List Value:=[.int .u8 (x.h.toNat:Int),.int .i64 x.n,.bool x.fl]
theorem A16.sz(x:A16):x.vs.length=3:=rfl
def A16.Ok(x:A16):Prop:= -9223372036854775808≤x.n∧x.n<9223372036854775808
theorem qf8{w:World}{L:List A16}{a:Option Addr}(h:Rd w a (zc6 A16.vs L)){i:Nat}(hi:i<L.length):∃b off,a=some ⟨b,off,none⟩∧w.rangeAt b (off+i*3) (L[i]'hi).vs:=by
 obtain⟨b,off,rfl,hrow⟩:=h.at_ (by intro h;have:=congrArg List.length h;rw[zdx A16.sz]at this;simp at this;omega)
 exact⟨b,off,rfl,Rd.row A16.sz hrow hi⟩
end Go.Proofs.YthafakdplhdfjaaGreatDoor
namespace Go.Proofs.YthafakdplhdfjaaGreatDoor
open Go.ChangeShapes Go.ChangeMaps Go.WideShapes Go.ChangeAt Go.RowKit Go.Eng Go.Proofs.YthafakdplhdfjaaGreatDoor
variable{W:World}{H:Type}{enc:TypeId×Value→H}
theorem qso{sp:Nat→Bool}{held:Bool}{cs:List Value}{y:DataW H×List MemPlace}{n:Nat}(h:DataW.trod enc Tryz.prog W 0 sp held n 43 cs=some y):∃e:A16,cs=e.vs∧e.Ok:=by
 obtain⟨y0,y1,y2,m,hl,t0,t1,t2⟩:=qfp Tryz.underlying43 h
 have hl3:cs.length=3:=hl.trans kQ
 match cs,hl3 with
 | [a,b,c],_=>
  obtain⟨d,hd, -,wd⟩:=DataW.trod_int Tryz.underlying5 t0
  obtain⟨k,hk, -,wk⟩:=DataW.trod_int Tryz.underlying2 t1
  obtain⟨v,hv, -⟩:=DataW.trod_bool Tryz.underlying4 t2
  have hd':(([a,b,c]:List Value).drop 0).take (Tryz.prog.cellsOf 5)=[.int .u8 d]:=hd
  have hk':(([a,b,c]:List Value).drop 1).take (Tryz.prog.cellsOf 2)=[.int .i64 k]:=hk
  have hv':(([a,b,c]:List Value).drop 2).take (Tryz.prog.cellsOf 4)=[.bool v]:=hv
  rw[show Tryz.prog.cellsOf 5=1 by kernel_rfl]at hd'
  rw[show Tryz.prog.cellsOf 2=1 by kernel_rfl]at hk'
  rw[show Tryz.prog.cellsOf 4=1 by kernel_rfl]at hv'
  simp at hd' hk' hv'
  have vd:0≤d∧d≤255:=by simpa[Lit.wf,IntKind.min,IntKind.max,IntKind.bits,IntKind.signed]using wd
  have vk: -9223372036854775808≤k∧k≤9223372036854775807:=by simpa[Lit.wf,IntKind.min,IntKind.max,IntKind.bits,IntKind.signed]using wk
  refine⟨⟨UInt8.ofNat d.toNat,k,v⟩,?_,⟨vk.1,by show k<_;omega⟩⟩
  show _=[Value.int .u8 ((UInt8.ofNat d.toNat).toNat:Int),.int .i64 k,.bool v]
  rw[hd',hk',hv',UInt8.toNat_ofNat',bB oQ,Int.toNat_of_nonneg vd.1]
theorem qtr{a0:Option Addr}{len0 cap0:Nat}{d:DataW H}{ps:List MemPlace}(h:DataW.Trod enc Tryz.prog W 0 (fun _=>true) true 22 (.slice a0 len0 cap0) d ps):∃L:List A16,L.length=len0∧len0≤9223372036854775807∧Rd W a0 (zc6 A16.vs L)∧∀e∈L,e.Ok:=by
 obtain⟨fuel,hf⟩:=h
 exact qq3 (⟨0,0,false⟩:A16) dQ A16.sz Tryz.underlying22 kQ (fun _ _ _=>qso) hf
theorem zyd(hT:zo8 W∧qbc W){L:List A16}{a:Option Addr}(hr:Rd W a (zc6 A16.vs L)):∀b off,a=some ⟨b,off,none⟩→L≠[]→¬za4 [ctI,tzI] b:=by
 intro b off he hL
 obtain⟨b',off',he',hrow⟩:=qf8 hr (jR.2 hL)
 rw[he]at he'
 cases he'
 exact qj9 hT (hrow 0 _ rfl) (hrow 1 _ rfl) (fun n h=>by cases h) (fun n h=>by cases h)
end Go.Proofs.YthafakdplhdfjaaGreatDoor
namespace Go.Proofs.YthafakdplhdfjaaGreatDoor
open Go.RowKit Go.Eng Go.Eng.Bm Go.Eng.Tr
instance(xb db fb:Nat):Stab (fsC xb db fb):=⟨zab _ _ _⟩
def hs1(c:UInt8):Bys:=c::List.replicate 31 0
theorem qh6{a b:UInt8}(h:hs1 a=hs1 b):a=b:=(List.cons.inj h).1
abbrev dsI(b3 b7 xb db fb:Nat)(a:A16):List Eng.Item:=[pt b3 (.cells #[.pointer (some ⟨xb,0,none⟩)] 24 (0,0)),fsC xb db fb,pt b7 (.cells #[.int .u8 (a.h.toNat:Int),.int .i64 a.n,.bool a.fl] 43 (0,0))]
def qar(m:Nat)(a:A16):Nat:=if okC m a.n then(if a.fl then 7 else 0)else 2
variable{c:Fc}{s:Pg}{r:List Rt}
theorem zzj{g:Sg}(h:Fok c g s)(hv:FoV c.N g r){K k:Nat}(hf:Few c.N K k)(ht:zq9 r≤K){xr:Rt}(hx:r[0]? =some xr)(b3 b7 xb db:Nat)(a:A16)(ho:a.Ok){m:Nat}(hm:m<4294967296)(hg:zi6 (zdb xr) (hs1 a.h)=cnt? m):
  Cw Tryz.prog 19 #[.pointer (some ⟨b3,0,none⟩),.pointer (some ⟨b7,0,none⟩)] (foI c (r.map zbj) true 0 s::dsI b3 b7 xb db c.b a) (fun _:List Rt×Pg=>.int .i64 (qar m a:Nat)) (qmf c g r xr (hs1 a.h) m a.n) (fun y=>foI c (y.1.map zbj) true 0 y.2::dsI b3 b7 xb db c.b a):=by
 refine qnp [_,_] Tryz.func19 rfl fun w0=>?_
 simp only[zaa]
 refine goA ?_
 refine ziv [pt b3 _,fsC xb _ _,pt b7 _] 99 ?_
 refine goP ?_
 refine dVP rfl rfl (zks rfl rfl rfl rfl rfl) ?_
 refine goP ?_
 refine dC 9 (fun w hw _=>zlv h hv hf ht hx (hs1 a.h) rfl hm hg a.n ho w hw) fun⟨r',s'⟩ hp=>?_
 obtain⟨ah,an,fl⟩:=a
 dsimp only at hp⊢
 by_cases hok:okC m an
 ·rw[if_pos hok,if_pos hok]
  refine goQ ?_
  cases fl with
  |true=>
   refine goB ?_
   exact xC (r',s') hp (e:=by unfold qar;rw[if_pos hok];rfl)
  |false=>
   refine goB ?_
   exact xC (r',s') hp (e:=by unfold qar;rw[if_pos hok];rfl)
 ·rw[if_neg hok,if_neg hok]
  refine goQ ?_
  exact xC (r',s') hp (e:=by unfold qar;rw[if_neg hok])
structure Sm (A:zcs) (L:Cl):Prop where
 at_:∀c:UInt8,(A.lookup c.toNat).getD (.int .i64 0)= .int .i64 (zga L (hs1 c):Nat)
 ks:∀p∈L,∃c,p.1=hs1 c
variable{A:zcs}{L:Cl}
theorem Sm.add(h:Sm A L)(c:UInt8)(q:Nat):Sm (zjs A c.toNat (.int .i64 (q:Nat))) (zle L (hs1 c) q):=by
 refine⟨fun k=>?_,fun p hp=>?_⟩
 ·rw[qbr,zvg]
  by_cases e:k=c
  ·rw[if_pos (by rw[e]),if_pos (by rw[e])];rfl
  ·rw[if_neg (fun h=>e (UInt8.toNat_inj.1 h)),if_neg (fun h=>e (qh6 h))]
   exact h.at_ k
 ·unfold zle at hp
  rcases aR.1 hp with hp|hp
  ·exact h.ks p (cR.1 hp).1
  ·split at hp
   ·cases hp
   ·rw[aK.1 hp];exact⟨c,rfl⟩
def qry(L:Cl)(k:Nat):Nat:=((List.range k).filter fun n=>decide (0<zga L (hs1 (UInt8.ofNat n)))).length
theorem qhp(L:Cl)(c:UInt8):qry L (c.toNat+1)=qry L c.toNat+if 0<zga L (hs1 c)then 1 else 0:=by
 unfold qry
 rw[List.range_succ,fZ,aA]
 congr 1
 rw[List.filter_cons,UInt8.ofNat_toNat]
 by_cases h:0<zga L (hs1 c)<;>simp[h]
theorem qm1{e:E}(hr:Rel e L)(h:Sm A L):qry L 256=L.length:=by
 have hp:(((List.range 256).filter fun n=>decide (0<zga L (hs1 (UInt8.ofNat n)))).map fun n=>hs1 (UInt8.ofNat n)).Perm (L.map (·.1)):=by
  refine(iC ?_ hr.nd).2 fun k=>?_
  ·refine List.pairwise_map.2 ((List.nodup_range.filter _).imp_of_mem fun {a b} ha hb hne he=>hne ?_)
   have ha:=dG.1 (cR.1 ha).1
   have hb:=dG.1 (cR.1 hb).1
   have h1:=congrArg UInt8.toNat (qh6 he)
   rw[UInt8.toNat_ofNat',UInt8.toNat_ofNat',bB oQ,bB oQ]at h1
   exact h1
  ·rw[←(zg3 hr.pos k).2,aO]
   constructor
   ·rintro⟨n,hn,rfl⟩
    have:=of_decide_eq_true (cR.1 hn).2
    omega
   ·intro h0
    obtain⟨p,hp,rfl⟩:=aO.1 ((zg3 hr.pos k).2.1 h0)
    obtain⟨c,hc⟩:=h.ks p hp
    exact⟨c.toNat,cR.2 ⟨dG.2 c.toNat_lt,by rw[UInt8.ofNat_toNat,←hc];simpa using kC h0⟩,by rw[UInt8.ofNat_toNat,hc]⟩
 have:=hp.length_eq
 rwa[aD,aD]at this
theorem qod{n:Nat}(h:Cst c r s L n)(hn:n≤63){a:A16}(ho:a.Ok){b3 b7 xb db err:Nat}:
  Cw Tryz.prog 18 #[.pointer (some ⟨c.b,0,none⟩),.func (.func 19) #[] #[.pointer (some ⟨b3,0,none⟩),.pointer (some ⟨b7,0,none⟩)]] (foI c (r.map zbj) false err s::ctI::dsI b3 b7 xb db c.b a)
   (fun _:List Rt×Fc×Pg=>.int .i64 (qar (zga L (hs1 a.h)) a:Nat)) (fun y=>Cst y.2.1 y.1 y.2.2 (zpl L (hs1 a.h) a.n a.fl) (n+1)∧y.2.1.b=c.b) (fun y=>foI y.2.1 (y.1.map zbj) false 0 y.2.2::ctI::dsI b3 b7 xb db c.b a):=fun w hw ha=>by
 obtain⟨xr,hx,hr⟩:=h.rel
 obtain⟨g,k1,k2,k3⟩:=h.rdy.now
 have hB:=h.B
 have hT:=h.tot
 have hL:=h.len
 have hm:=(zg3 hr.pos (hs1 a.h)).1
 have hph:∀y:List Rt×Pg,qmf c g r xr (hs1 a.h) (zga L (hs1 a.h)) a.n y→Rdy c r y.1 y.2:=fun y hy=>by
  obtain⟨g',e1,e2,e3⟩:=hy.now
  exact⟨h.rdy.st,g',e1,e2,e3.trans k3⟩
 refine(zpn h.rdy oQ (X:=List Rt×Pg) (fd:=19) (cs:=[.pointer (some ⟨b3,0,none⟩),.pointer (some ⟨b7,0,none⟩)]) kQ (dsI b3 b7 xb db c.b a) (fun _=>dsI b3 b7 xb db c.b a) (by simp[fsC,zab]) (by simp[fsC,zab]) (fun _=>qar (zga L (hs1 a.h)) a) (fun _=>0) (fun y=>y.1) (fun y=>y.2) _ hph
  (fun w2 hh2 ha2=>zzj k1 k2 (qnq h.N) oQ hx b3 b7 xb db a ho hm (hr.get _) w2 hh2 ha2) w hw ha).map fun y hy=>?_
 obtain⟨⟨r',s1⟩,c',s'⟩:=y
 obtain⟨e1,e2,e3⟩:=hy
 simp only[ee0]at e1 e2 e3⊢
 have hB2:=e2.B
 by_cases hz:qar (zga L (hs1 a.h)) a=0
 ·rw[if_pos hz]at e3
  have hok:okC (zga L (hs1 a.h)) a.n∧a.fl=false:=by
   unfold qar at hz
   split at hz
   ·rename_i hk
    refine⟨hk,?_⟩
    cases hf:a.fl with
    |false=>rfl
    |true=>rw[hf]at hz;cases hz
   ·cases hz
  have:=qdf (o:=(none,none)) (er:=0) h.rdy hx hr rfl hok.1 rfl e1 e2 e3
  refine⟨(r',c',s'),trivial,⟨⟨this.rdy,e2.N.trans h.N,by show c'.B≤_;omega,?_,by have:=this.tot;show zq9 r'≤_;dsimp only at this;omega⟩,e2.b⟩,by rw[if_pos hz]⟩
  obtain⟨x,hx2,hx3⟩:=this.rel
  refine⟨x,hx2,?_⟩
  have e4:(okC (zga L (hs1 a.h)) a.n∧false=false):=⟨hok.1,rfl⟩
  rw[if_pos e4]at hx3
  unfold zpl
  rw[if_pos hok]
  exact hx3
 ·rw[if_neg hz]at e3
  have hno:¬(okC (zga L (hs1 a.h)) a.n∧a.fl=false):=fun⟨h1,h2⟩=>hz (by unfold qar;rw[if_pos h1,h2];rfl)
  refine⟨(r,c',s'),trivial,⟨⟨e3,e2.N.trans h.N,by show c'.B≤_;omega,⟨xr,hx,?_⟩,by show zq9 r≤_;omega⟩,e2.b⟩,by rw[if_neg hz]⟩
  unfold zpl
  rw[if_neg hno]
  exact hr
theorem qt8(c:UInt8):okN .u8 c.toNat:=by
 have:=c.toNat_lt
 show(Lit.int .u8 ((c.toNat:Nat):Int)).wf=true
 simp[Lit.wf,IntKind.min,IntKind.max,IntKind.bits,IntKind.signed]
 omega
structure Pt where
 i:Nat
 er:Nat
 r:List Rt
 c:Fc
 s:Pg
 L:Cl
 A:zcs
theorem zzk(L:List A16)(hok:∀x∈L,x.Ok)(a:Option Addr)(cp:Nat)(w:World)(hr:Rd w a (zc6 A16.vs L))(hap:∀b off,a=some ⟨b,off,none⟩→L≠[]→¬za4 [ctI,tzI] b)(hw:∀it∈[ctI,tzI],zbq it w)(ha:[ctI,tzI].Pairwise Eng.Item.Apart):
  Ct Tryz.prog 5 #[.slice a L.length cp] w (za4 [ctI,tzI]) (fun _:Unit=>.bool true) (fun _=>True) (fun _=>[ctI,tzI]):=by
 refine za2 [_] _ Tryz.func5 rfl rfl hw ha ?_
 simp only[zaa]
 refine goA ?_
 by_cases h60:60<L.length
 ·refine goA ?_
  refine lC qed fun _ _=>?_
  refine goB ?_
  exact xC () trivial
 ·refine goA ?_
  refine lC zlx fun⟨xb,c,s⟩ hB=>?_
  have h0:=qqa hB
  dsimp only at h0⊢
  refine goB ?_
  refine zdg rfl rfl rfl fun b3 hb3=>?_
  refine goB ?_
  refine zeh rfl (zgu (q:=.u8) rfl) fun⟨mb,hmb⟩=>?_
  dsimp only
  refine goB ?_
  refine que (fun y:Pt=>[(0,.slice a L.length cp),(3,.pointer (some ⟨b3,0,none⟩)),(5,.map (some mb)),(6,.int .i64 (y.i:Nat))]) (fun y=>y.i≤L.length∧Cst y.c y.r y.s y.L y.i∧y.c.b=c.b∧Sm y.A y.L)
   (fun y=>[foI y.c (y.r.map zbj) false y.er y.s,ctI,pt b3 (.cells #[.pointer (some ⟨xb,0,none⟩)] 24 (0,0)),fsC xb c.d.b c.b,zck .u8 mb y.A]) (fun y=>L.length - y.i) ⟨0,0,r8,c,s,[],[]⟩ ⟨aZ _,h0,rfl,⟨fun _=>rfl,fun _ h=>nomatch h⟩⟩ fun⟨i,er,r1,c1,s1,L1,A⟩ ⟨hi,h1,e1,hA⟩=>?_
  dsimp only at hi h1 e1 hA⊢
  rw[←e1]
  by_cases hil:i<L.length
  ·obtain⟨b,off,rfl,hri⟩:=qf8 hr hil
   have hF:=hap b off rfl (fun h=>by subst h;exact absurd hil (fN _))
   have ho:=hok _ (aS hil)
   generalize L[i]=t at hri ho
   refine goA ?_
   refine l_w rfl (zgp (xs:=t.vs) (c:= #[.int .u8 (t.h.toNat:Int),.int .i64 t.n,.bool t.fl]) rfl rfl (fun w' hw'=>za5 hri hF hw') rfl) ?_
   refine zam rfl rfl fun b7 hb7=>?_
   refine goB ?_
   refine l_w rfl (zhw rfl) ?_
   refine goB ?_
   refine lC (qod (err:=er) h1 oQ ho) fun⟨r2,c2,s2⟩ ⟨h2,e2⟩=>?_
   dsimp only at h2 e2⊢
   rw[←e2]
   obtain⟨th,tn,fl⟩:=t
   unfold dsI
   dsimp only at h2 ho⊢
   obtain⟨m,hm⟩:∃m,zga L1 (hs1 th)=m:=⟨_,rfl⟩
   have hat:=hA.at_ th
   have hm32:m<4294967296:=by obtain⟨xr, -,hrel⟩:=h1.rel;rw[←hm];exact(zg3 hrel.pos (hs1 th)).1
   unfold zpl at h2
   rw[hm]at hat h2⊢
   by_cases hk:okC m tn
   ·cases fl with
    |false=>
     rw[show qar m ⟨th,tn,false⟩=0 by unfold qar;rw[if_pos hk];rfl]
     rw[if_pos ⟨hk,rfl⟩]at h2
     refine goB ?_
     refine l_w rfl (zv5 (q:=.u8) (h:=th.toNat) (A:=A) (b:=mb) rfl rfl rfl rfl rfl (qt8 th) mm) ?_
     rw[hat]
     obtain⟨k1,k2⟩:=hk
     refine goB ?_
     refine lMU (qt8 th) ?_
     rw[show((m:Nat):Int)+tn=((((m:Nat):Int)+tn).toNat:Nat) by omega]
     refine goB ?_
     exact xR ⟨i+1,0,r2,c2,s2,_,zjs A th.toNat (.int .i64 ((((m:Nat):Int)+tn).toNat:Nat))⟩ ⟨hil,h2,rfl,hA.add th _⟩ (by dsimp only;omega)
    |true=>
     rw[show qar m ⟨th,tn,true⟩=7 by unfold qar;rw[if_pos hk];rfl]
     rw[if_neg (fun h=>Bool.noConfusion h.2)]at h2
     refine goB ?_
     exact xR ⟨i+1,0,r2,c2,s2,L1,A⟩ ⟨hil,h2,rfl,hA⟩ (by dsimp only;omega)
   ·rw[show qar m ⟨th,tn,fl⟩=2 by unfold qar;rw[if_neg hk]]
    rw[if_neg (fun h=>hk h.1)]at h2
    refine goB ?_
    refine l_w rfl (zv5 (q:=.u8) (h:=th.toNat) (A:=A) (b:=mb) rfl rfl rfl rfl rfl (qt8 th) mm) ?_
    rw[hat]
    refine l_w rfl (ql3 rfl ⟨oQ,oQ⟩) ?_
    refine goB ?_
    by_cases hge: -((m:Nat):Int)≤tn
    ·rw[decide_eq_true (show tn≥ -((m:Nat):Int)from hge)]
     refine goB ?_
     refine l_w rfl (zv5 (q:=.u8) (h:=th.toNat) (A:=A) (b:=mb) rfl rfl rfl rfl rfl (qt8 th) mm) ?_
     rw[hat]
     refine goB ?_
     exact xR ⟨i+1,0,r2,c2,s2,L1,A⟩ ⟨hil,h2,rfl,hA⟩ (by dsimp only;omega)
    ·rw[decide_eq_false (show¬tn≥ -((m:Nat):Int)from hge)]
     refine goB ?_
     exact xR ⟨i+1,0,r2,c2,s2,L1,A⟩ ⟨hil,h2,rfl,hA⟩ (by dsimp only;omega)
  ·obtain rfl:i=L.length:=oQ
   obtain⟨xr, -,hrel⟩:=h1.rel
   refine goB ?_
   refine que (fun y:Nat×Nat×Pg=>[(3,.pointer (some ⟨b3,0,none⟩)),(5,.map (some mb)),(9,.int .i64 (y.2.1:Nat)),(10,.int .i64 (y.1:Nat))]) (fun y=>y.1≤256∧y.2.1=qry L1 y.1∧Cst c1 r1 y.2.2 L1 L.length)
    (fun y=>[foI c1 (r1.map zbj) false er y.2.2,ctI,pt b3 (.cells #[.pointer (some ⟨xb,0,none⟩)] 24 (0,0)),fsC xb c.d.b c1.b,zck .u8 mb A]) (fun y=>256 - y.1) (0,0,s1) ⟨aZ _,rfl,h1⟩ fun⟨j,st,s2⟩ ⟨hj,hst,h2⟩=>?_
   dsimp only at hj hst h2⊢
   by_cases hjl:j<256
   ·obtain⟨c8,rfl⟩:∃c:UInt8,c.toNat=j:=⟨UInt8.ofNat j,by rw[UInt8.toNat_ofNat',bB oQ]⟩
    have hm32:=(zg3 hrel.pos (hs1 c8)).1
    have hs:=qhp L1 c8
    have hle:qry L1 c8.toNat≤c8.toNat:=cI (eK _ _) (iG eL)
    refine goB ?_
    refine l_w rfl (zks rfl rfl rfl rfl rfl) ?_
    refine goB ?_
    refine lC (qqb h2 oQ (hb:=hs1 c8) rfl) fun s3 h3=>?_
    refine goB ?_
    refine l_w rfl (zv5 (q:=.u8) (h:=c8.toNat) (A:=A) (b:=mb) rfl rfl rfl rfl rfl (qt8 c8) mm) ?_
    rw[hA.at_ c8]
    refine goB ?_
    rw[bne_self_eq_false]
    refine goB ?_
    by_cases h0:0<zga L1 (hs1 c8)
    ·rw[if_pos h0]at hs
     refine goB ?_
     exact xR (c8.toNat+1,st+1,s3) ⟨hjl,by dsimp only;omega,h3⟩ (by dsimp only;omega)
    ·rw[if_neg h0]at hs
     refine goB ?_
     exact xR (c8.toNat+1,st,s3) ⟨hjl,by dsimp only;omega,h3⟩ (by dsimp only;omega)
   ·obtain rfl:j=256:=oQ
    rw[qm1 hrel hA]at hst
    subst hst
    refine goB ?_
    refine lC (qkk h2 oQ) fun s3 h3=>?_
    refine goB ?_
    rw[beq_self_eq_true]
    refine goB ?_
    refine qs3 ?_
    refine lC qed fun _ _=>?_
    refine goB ?_
    exact xC () trivial
end Go.Proofs.YthafakdplhdfjaaGreatDoor
