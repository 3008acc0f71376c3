/- Parts: forest; package tree; law 11; What the cards of layer 11 share. No condition. -/
import Derived.Test.YthafakdplhdfjaaGreatDoorHf16
import Derived.Test.YthafakdplhdfjaaGreatDoorHf14
import Derived.Test.YthafakdplhdfjaaGreatDoorHf15
set_option maxRecDepth 100000
set_option maxHeartbeats 40000000
namespace Go.Proofs.YthafakdplhdfjaaGreatDoor
open Go.RowKit Go.Eng Go.Eng.Bm Go.Eng.Tr
theorem zou(S:Nat→Bool):∀n,cnt S n=((List.range n).filter S).length
 |0=>rfl
 |n+1=>by
  rw[cnt,zou S n,List.range_succ,iB,aA]
  cases h:S n<;>simp[h]
variable{n:Nat}
theorem qso(hn:0<n){S:Nat→Bool}{L:List Nat}(h:Acc n S L):cnt S n=1+L.length:=by
 rw[zou]
 have n1:((List.range n).filter S).Nodup:=dM jY List.nodup_range
 have n2:(0::L).Nodup:=cP.2 ⟨fun h0=>by have:=(h.low 0 h0).1;omega,h.nodup⟩
 have e:∀x,x∈(List.range n).filter S↔x∈0::L:=fun x=>by
  rw[dP,dL,aL]
  refine⟨fun⟨h1,h2⟩=>(h.is x h1).1 h2,fun h1=>?_⟩
  have hx:x<n:=by
   rcases h1 with rfl|h1
   ·exact hn
   ·exact(h.low x h1).2
  exact⟨hx,(h.is x hx).2 h1⟩
 have l1:=zve n1 fun x hx=>(e x).1 hx
 have l2:=zve n2 fun x hx=>(e x).2 hx
 rw[aW]at l1 l2
 omega
def qum(r:List Rt)(i:Nat):Nat:=2+((r.take i).map fun x=>(zjb x).length).sum
variable{r:List Rt}{i:Nat}{x:Rt}
theorem qud(h:r[i]? =some x):qum r (i+1)=qum r i+(zjb x).length:=by
 unfold qum
 rw[cV,h]
 simp
 omega
theorem quc(l:List Nat)(i:Nat):(l.take i).sum≤l.sum:=by
 conv=>rhs;rw[←bF i l,List.sum_append]
 omega
theorem qvs(r:List Rt)(i:Nat):qum r i≤2+(r.map fun x=>(zjb x).length).sum:=by
 unfold qum
 rw[eM]
 have:=quc (r.map fun x=>(zjb x).length) i
 omega
theorem qu3(h:r.length=8):qum r 8=2+(r.map fun x=>(zjb x).length).sum:=by
 unfold qum
 rw[bJ oQ]
variable{c:Fc}{g:Sg}{s:Pg}
theorem qwh(hk:Fok c g s)(hv:FoV c.N g r):cnt g.S 1024=2+(r.map fun x=>(zjb x).length).sum:=by
 have h0:Tok (frC c [] false 0 0) g s:=hk
 have hc:zrl c.N g.S:=fun j hj=>by
  rcases gQ j c.n with h|h
  ·exact h0.hi j hj h
  ·exact h0.S.2.1 j h
 have h1:c.N≤1024:=cH h0.N2 h0.n2
 have h2:0<c.N:=h0.N1
 rw[show(1024:Nat)=c.N+(1024 - c.N) by omega,zw1 hc,qso h2 hv.acc,aW,List.length_flatMap]
 omega
def zy9(r:List Rt)(i:Nat):List Value:=(r.take i).map (fun x=>.int .i64 ((zdb x).length:Nat))++List.replicate (8 - i) (.int .i64 0)
theorem zuu(h8:r.length=8)(hi:i≤8):(zy9 r i).length=8:=by
 unfold zy9
 rw[aA,aD,aM,cD]
 omega
theorem qua(h:r[i]? =some x)(hi:i<8):(zy9 r i).set i (.int .i64 ((zdb x).length:Nat))=zy9 r (i+1):=by
 obtain⟨hl, -⟩:=aC.1 h
 unfold zy9
 rw[cV,h,cC,aG,List.set_append_right _ _ (by rw[aD,aM];omega),aD,aM,dB oQ,lD,show 8 - i=(8 - (i+1))+1 by omega,List.replicate_succ]
 rfl
theorem qt8(h8:r.length=8):zy9 r 8=r.map fun x=>.int .i64 ((zdb x).length:Nat):=by
 unfold zy9
 rw[bJ oQ]
 simp
theorem qt9(r:List Rt)(i:Nat):zb7 (zy9 r i)=true:=by
 refine zba.2 fun v hv=>?_
 rcases aR.1 hv with h|h
 ·obtain⟨x, -,rfl⟩:=aS.1 h
  rfl
 ·rw[fC h]
  rfl
variable{R:List Nat}{busy:Bool}{err:Nat}
theorem qcl(h:Fok c g s):
  Cw Tryz.prog 66 #[.pointer (some ⟨c.pb,0,none⟩)] [foI c R busy err s] (fun _:Pg=>.int .i64 (cnt g.S 1024:Nat)) (fun s'=>Fok c g s') (fun s'=>[foI c R busy err s']):=fun w hw ha=>by
 have k:Tok (frC c [] false 0 0) g s:=h
 have h':=k.page (i:=0) (by have:=k.N1;omega)
 obtain⟨d,b,pb,N,n,secs,note,V,B⟩:=c
 obtain rfl:=k.b
 have h1:=(zk7 (m:=[]) (Hp.begin hw ha _ fun _ h=>h)).pick (m':=[pgI s d,dkI d,foC ⟨d,b,s.b,N,n,secs,note,V,B⟩ R busy err,tzI]) [1,2,0,3] rfl rfl
 have hc:=zu4 s d k.ok k.lives k.wait k.st.dead k.st.ok (by rw[k.st.hn];exact cH k.N1 k.N2) g.S k.hS (by rw[k.st.hn];exact k.S.2.1) k.S.2.2 w (fun it hm=>by
  rcases hm with _|⟨_,_|⟨_,hm⟩⟩
  ·exact zbq.of (h1.item (pgI s d) (.head _)) (zbl s d _ (.head _))
  ·exact zbq.of (h1.item (dkI d) (.tail _ (.head _))) (zgv s d _ (.tail _ (.head _)))
  ·cases hm) (bN.1 (show([pgI s d,dkI d]++[foC ⟨d,b,s.b,N,n,secs,note,V,B⟩ R busy err,tzI]).Pairwise Eng.Item.Apart from h1.apart)).1
 have h2:=hc.calls
 unfold Ct
 refine h2.mono ?_
 rintro e w' ⟨x,he,hx,hi⟩
 have h3:=Hp.call (m:=[pgI s d,dkI d]) h1 hi fun k _ ⟨it,hm,hk⟩=>⟨it,hm,hk⟩
 exact⟨zb1 s d.D 0,he,h',Hp.its (m:=[foI ⟨d,b,s.b,N,n,secs,note,V,B⟩ R busy err (zb1 s d.D 0)]) (zhe (m:=[]) (h3.pick [2,0,1,3] rfl rfl)) (.refl _) (zb3 _ _ _ _ _)⟩
theorem zua(h:Fok c g s){a:Nat}(hi:i<8)(ha:R[i]? =some a){k p:Nat}(hl:zls (fSh i) c.N g (a:Nat)= .ok (k,p))(hk:k≤1000000000)(hp:p≤1000000000):
  Cw Tryz.prog 65 #[.pointer (some ⟨c.b,1+i*4,none⟩)] [foI c R busy err s] (fun _:Pg=>.tuple #[.int .i64 (k:Int),.int .i64 (p:Int),.int .i64 0]) (fun s'=>Fok c g s') (fun s'=>[foI c R busy err s']):=fun w hw _=>by
 rw[zik ha]at hw⊢
 rw[←qj5 (c:=c) (busy:=busy) (err:=err) ha]
 exact(qry (h.tok R busy err hi) _ hl hk hp w hw).map fun y hy=>⟨y,rfl,Tok.fok hy,by rw[zik ha]⟩
theorem zxb(hN:c.N=120)(hk:Fok c g s)(hv:FoV c.N g r)(ht:zq9 r≤250):
  Cw Tryz.prog 27 #[.pointer (some ⟨c.b,0,none⟩)] [foI c (r.map zbj) busy err s] (fun _:Pg=>.tuple #[.agg (zy9 r 8).toArray,.int .i64 0]) (fun s'=>Fok c g s') (fun s'=>[foI c (r.map zbj) busy err s']):=by
 have h8:=hv.len
 have hcn:=qwh hk hv
 have hf:=qnq hN
 have hlen:=hv.acc.nodup
 refine qnp [_] Tryz.func27 rfl fun w0=>?_
 simp only[zaa]
 refine goA ?_
 refine zam rfl rfl fun b2 hb2=>?_
 refine goA ?_
 refine zam rfl rfl fun b4 hb4=>?_
 refine goA ?_
 refine que (fun y:Nat×Pg=>[(0,.pointer (some ⟨c.b,0,none⟩)),(2,.pointer (some ⟨b2,0,none⟩)),(4,.pointer (some ⟨b4,0,none⟩)),(5,.int .i64 (qum r y.1:Nat)),(13,.int .i64 (y.1:Nat))]) (fun y=>y.1≤8∧Fok c g y.2) (fun y=>[foI c (r.map zbj) busy err y.2,pt b2 (.cells (Array.replicate 8 (.int .i64 0)) 73 (0,0)),pt b4 (.cells (zy9 r y.1).toArray 73 (0,0))]) (fun y=>8 - y.1) (0,s) ⟨aZ _,hk⟩ fun⟨i,s1⟩ ⟨hi,hs1⟩=>?_
 dsimp only at hi hs1⊢
 by_cases h9:i<8
 ·obtain⟨x,hx⟩:∃x,r[i]? =some x:=⟨_,aB oQ⟩
  have har:(r.map zbj)[i]? =some (zbj x):=by rw[aO,hx];rfl
  have hxl:=qmt hx
  have hpl:=qud hx
  have hps:=qvs r (i+1)
  have hcl:=qfo g.S 1024
  refine goA ?_
  refine lC (zua hs1 h9 har (hv.check hf.le ht hf.lo hf.rm hf.dp hx) oQ oQ) fun s2 hs2=>?_
  refine goA ?_
  refine lS (cs2:=(zy9 r (i+1)).toArray) (hi:=by rw[aI,zuu h8 oQ];omega) (hn:=by rw[aH,dE,qua hx h9]) ?_
  refine goA ?_
  exact xR (i+1,s2) ⟨h9,hs2⟩ (by dsimp only;omega) (hl:=⟨rfl,rfl,rfl,by rw[hpl];rfl,rfl,trivial⟩)
 ·obtain rfl:i=8:=oQ
  have e:=qu3 h8
  refine goA ?_
  refine l_w rfl (qpg (c:=c) (R:=r.map zbj) (s:=s1) (v:=.pointer (some ⟨c.pb,0,none⟩)) rfl mm rfl rfl) ?_
  refine goA ?_
  refine lC (qcl hs1) fun s2 hs2=>?_
  rw[hcn,e]
  refine goB ?_
  have ho:=zuu h8 (bA 8)
  refine l_w rfl (zcw (cs:=(zy9 r 8).toArray) rfl (by rw[aI,ho];rfl) mm) ?_
  refine lSa (cs':=(zy9 r 8).toArray) (hT:=by rw[aI,ho];rfl) (h1:=qt9 _ _) (h2:=by rw[aI,ho];rfl) ?_
  refine goA ?_
  exact xC2 s2 hs2 (hf:=rfl) (h1:=⟨_,rfl,zaq (by rw[aI,ho];rfl) mm⟩)
theorem qws(k:Int)(w:World):Ce Tryz.prog 102 #[.bool false,.int .i64 k] w (za4 []) (fun _:Unit=>.error (.iface 47 (.int .i64 k))) (fun _=>True) (fun _=>[]):=by
 refine qxi [_,_] [] Tryz.func102 rfl rfl (fun _ h=>nomatch h) .nil ?_
 simp only[zaa]
 refine goA ?_
 refine l_w rfl (ov (v:=.iface 47 (.int .i64 k)) fun _ _ _ _ _=>rfl) ?_
 refine qw4 rfl rfl ?_
 exact qxm () rfl trivial (aK _) (fun _ h=>nomatch h)
variable{w0 w:World}{F:Nat→Prop}{m:List Eng.Item}{v:Value}
theorem qv9{b:Nat}{k:Int}{E:TypeId}(hw:Hp w0 F (pt b (.cells #[v] E (0,0))::m) w):CallsD Tryz.prog 97 #[.pointer (some ⟨b,0,none⟩)] (.panicking (qwi (.iface 47 (.int .i64 k)))) w
  fun e u' w'=>u'= .panicking [{ v:=.iface 47 (.int .i64 k),recovered:=true }]∧(∃v,e= .returned v)∧Hp w0 F (pt b (.cells #[.int .i64 k] E (0,0))::m) w':=by
 refine callsD_of_wpS Tryz.func97 rfl fun c₀ cs hu=>?_
 apply wpS_seq
 apply wpS_region
 simp[wpOpsS,go_sem,recoverD,hu,qwi,Exit.thenS]
 apply wpS_seq
 apply wpS_region
 have hq:∀w,(eqGuard .neq 20 (.tmp 6) (.const .nilIface) (.iface 47 (.int .i64 k)) .nilIface).run Tryz.prog w= .ok () w:=fun _=>rfl
 have hq2:∀w,(binOp .neq 20 (.iface 47 (.int .i64 k)) .nilIface).run Tryz.prog w= .ok (.bool true) w:=fun _=>rfl
 simp[wpOpsS,go_sem,hu,Exit.thenS,Act.eval,hq,hq2]
 refine wpS_cond (t:=true) (by simp[Act.eval,Array.replicate]) ?_
 simp only[if_true]
 have hta:∀w,(Instr.typeAssert (.iface 47 (.int .i64 k)) 20 47 true).run Tryz.prog w= .ok (.tuple #[.int .i64 k,.bool true]) w:=fun _=>rfl
 apply wpS_seq
 apply wpS_region
 simp[wpOpsS,go_sem,hu,Exit.thenS,Act.eval,hta]
 apply wpS_seq
 apply wpS_seq
 apply wpS_region
 simp[wpOpsS,go_sem,hu,Exit.thenS,Act.eval]
 refine wpS_cond (t:=false) (by simp[Act.eval,Array.replicate]) ?_
 simp only[bT,if_false]
 refine wpS_of_wp (wp_skip ?_)
 simp only[Exit.thenS]
 have hb:=hw.get (b:=b) (o:=.cells #[v] E (0,0)) sQ
 have hc:w.cell? ⟨b,0,none⟩=some v:=cell_of_row w b 0 #[v] E _ hb
 have hf:w.frozen? ⟨b,0,none⟩=false:=frozen_of_row w b 0 #[v] E hb
 apply wpS_region
 simp[wpOpsS,go_sem,hu,Exit.thenS,Act.eval,hc,hf]
 have hr:∀(a:Act) (w:World),(results Tryz.f97 a.tmps).run Tryz.prog w= .ok (.tuple #[]) w:=fun _ _=>by simp[results,go_sem]
 exact⟨rfl,_,rfl,_,hr _ _,rfl,⟨_,rfl⟩,hw.setCell (i:=0) (.int .i64 k)⟩
theorem qv1{c:Tc}(h:Tok c g s)(root:Int)(key:K)(hk:key.length≠c.sh.kw):
  Cv Tryz.prog 68 #[.pointer (some ⟨c.t,c.o,none⟩),kV key] [tmI c root s] (fun _:Unit=>.tuple #[kV [],.bool false,.int .i64 2]) (fun _=>True) (fun _=>[tmI c root s]):=by
 intro w hw
 refine qfq [_,_] _ Tryz.func68 rfl rfl hw (.cons (fun _ h=>nomatch h) .nil) ?_
 simp only[zaa,Nat.reduceAdd]
 refine goA ?_
 refine zdg rfl rfl rfl fun b6 hb6=>?_
 refine goA ?_
 refine zu2 (xs:=[.tmp 6]) rfl rfl ?_
 refine goA ?_
 refine lPu rfl (fun w1 hw1=>zo3 h root w1 (zbq.of (hw1.item (tmI c root s) mm) (zad _))) ?_
 refine goA ?_
 refine l_w rfl (zv6 rfl mm rfl) ?_
 refine goA ?_
 rw[zju,show(((key.length:Nat):Int)==(c.sh.kw:Int))=false from beq_false_of_ne oQ]
 refine zeh rfl (qxn (pre:=[]) rfl kQ rfl (fun _ h=>nomatch h) (fun w1 _ _ _=>qws _ w1) (fun _ p _ hp=>?_)) fun⟨⟨_,_⟩,_,h⟩=>by cases h
 cases hp
 repeat first|refine qvi ?_ |refine x_pan_block ?_
 refine qw7 (m':=[pt b6 (.cells #[.int .i64 2] 47 (0,0)),tmI c root s]) kQ (fun w hw=>qv9 hw) ?_
 exact qa6 () rfl rfl rfl ⟨_,rfl,zb5 rfl (.head _)⟩ rfl trivial (.cons _ (.refl _)) (zag _ _ _)
theorem qvf(h:Fok c g s){a:Nat}(hi:i<8)(ha:R[i]? =some a)(key:K)(hk:key.length≠(fSh i).kw):
  Cw Tryz.prog 31 #[.pointer (some ⟨c.b,0,none⟩),.int .i64 (i:Nat),kV key] [foI c R busy err s] (fun _:Unit=>.tuple #[kV [],.bool false,.int .i64 2]) (fun _=>True) (fun _=>[foI c R busy err s]):=by
 rw[zik ha]
 refine qnp [_,_,_] Tryz.func31 rfl fun w0=>?_
 simp only[zaa]
 refine goA ?_
 refine lPu rfl (fun w1 hw1=>zk9 hi c.b w1) ?_
 refine goA ?_
 rw[←qj5 (c:=c) (busy:=busy) (err:=err) ha]
 refine lCu [tmI (frC c R busy err i) (a:Nat) s] rfl (zag _ _ s) (fun w1 hw1 hh1 ha1=>qv1 (h.tok R busy err hi) _ key hk w1 hh1) fun _=>?_
 simp only[aF,aJ]
 refine goA ?_
 exact qa6 () rfl rfl rfl rfl rfl trivial (.refl _) (zag _ _ s)
variable{i:Int}
theorem qvx(b:Nat)(hi:i<0∨8≤i)(v:Value):Cw Tryz.prog 31 #[.pointer (some ⟨b,0,none⟩),.int .i64 i,v] [] (fun _:Unit=>.tuple #[kV [],.bool false,.int .i64 2]) (fun _=>True) (fun _=>[]):=by
 refine qnp [_,_,_] Tryz.func31 rfl fun w0=>?_
 simp only[zaa]
 refine goA ?_
 refine lPu rfl (fun w1 hw1=>qur hi b w1) ?_
 refine goA ?_
 exact qa6 () rfl rfl rfl rfl rfl trivial (aK _) (fun _ h=>nomatch h)
theorem qvd(b:Nat)(hi:i<0∨8≤i)(v z:Value):Cw Tryz.prog 33 #[.pointer (some ⟨b,0,none⟩),.int .i64 i,v,z] [] (fun _:Unit=>.tuple #[kV [],kV [],.bool false,.int .i64 2]) (fun _=>True) (fun _=>[]):=by
 refine qnp [_,_,_,_] Tryz.func33 rfl fun w0=>?_
 simp only[zaa]
 refine goA ?_
 refine lPu rfl (fun w1 hw1=>qur hi b w1) ?_
 refine goA ?_
 exact qwu () rfl rfl rfl rfl rfl rfl trivial (aK _) (fun _ h=>nomatch h)
theorem zt5(hl:R.length=8)(v:Value):
  Cw Tryz.prog 71 #[.pointer (some ⟨c.b,0,none⟩),.int .i64 ((0:Nat):Int),v] [foI c R false err s] (fun _:Unit=>.int .i64 2) (fun _=>True) (fun _=>[foI c R false err s]):=by
 refine qnp [_,_,_] Tryz.func71 rfl fun w0=>?_
 simp only[zaa]
 refine goA ?_
 refine lPu rfl (fun w1 hw1=>zk9 (i:=0) dQ c.b w1) ?_
 refine goA ?_
 refine l_w rfl (qpg (c:=c) (R:=R) (s:=s) rfl mm (zl2 hl false err).1 rfl) ?_
 refine goA ?_
 exact xC () trivial
theorem qn2(hl:R.length=8)(k v:ByteArray):
  Cw Tryz.prog 40 #[.pointer (some ⟨c.b,0,none⟩),.int .i64 ((0:Nat):Int),.string k,.string v] [foI c R false err s] (fun _:Unit=>.int .i64 2) (fun _=>True) (fun _=>[foI c R false err s]):=by
 refine qnp [_,_,_,_] Tryz.func40 rfl fun w0=>?_
 simp only[zaa]
 refine goA ?_
 refine zc9 rfl rfl rfl fun b6 hb6=>?_
 refine zc9 rfl rfl rfl fun b7 hb7=>?_
 refine goA ?_
 refine l_w rfl (zhw rfl) ?_
 refine goA ?_
 refine lC (zt5 hl _) fun _ _=>?_
 refine goA ?_
 exact xC () trivial
theorem zxn:Cw Tryz.prog 42 #[.pointer (some ⟨c.b,0,none⟩)] [foI c R busy err s] (fun _:Unit=>.pointer (some ⟨c.pb,0,none⟩)) (fun _=>True) (fun _=>[foI c R busy err s]):=by
 refine qnp [_] Tryz.func42 rfl fun w0=>?_
 simp only[zaa]
 refine goA ?_
 refine l_w rfl (qpg (c:=c) (R:=R) (s:=s) (v:=.pointer (some ⟨c.pb,0,none⟩)) rfl mm rfl rfl) ?_
 refine goA ?_
 exact xC () trivial
theorem qar(h:Fok c g s)(w:World)(hh:zbq (foI c R busy err s) w):Pu Tryz.prog 57 #[.pointer (some ⟨c.pb,0,none⟩)] w (.string ⟨c.note.toArray⟩):=by
 have k:Tok (frC c [] false 0 0) g s:=h
 have h2:=zxt s c.d w (hh.1.1 _ (.tail _ (.head _)))
 obtain⟨TS,h3⟩:=k.st.st
 rw[k.b,h3.hnote]at h2
 exact h2
def qv5:List Mp:=List.replicate 8 ((none,none),[])
def qvz:List Mp:=[((none,none),[])]
theorem quw(h:Hp w0 F m w):Hp w0 F (arM qvz::m) w:=Hp.close1 (zg3 qvz) (zps 9 1 (zps 9 1 h))
theorem qvh(xb db fb:Nat):fsC xb db fb=stF xb db fb qv5:=rfl
theorem qu8(h:Beg c s):qe9 c r8 s qv5 qvz 0:=
 ⟨h.rdy,h.N,⟨rfl,fun i x hx=>by
  obtain rfl:x=none:=fC (bI hx)
  have hi:i<8:=(aC.1 hx).1
  exact⟨(none,none),by unfold qv5;rw[iZ,if_pos hi];rfl⟩,fun p hp=>by rw[fC hp];exact .head _⟩,dQ⟩
theorem ql3{L:List S11}{q cp:Nat}{fl:Bool}{e:TypeId}(hL:∀y∈L,y.Ok):C11.Ok ⟨L,fl,some ⟨q,0,none⟩,cp⟩ (own e 4 (some (q,n)) n (zc6 S11.vs L)):=
 ⟨hL,fun _ h=>za8 h,fun b off h _=>by cases h;exact⟨n,rfl⟩⟩
theorem qu6(d t k v:Nat):S11.Ok ⟨d,t,k,v⟩↔d<256∧t<256∧k<65536∧v<65536:=⟨fun h=>⟨h.d,h.t,h.k,h.v⟩,fun h=>⟨h.1,h.2.1,h.2.2.1,h.2.2.2⟩⟩
variable{M:List Mp}
theorem qe9.to{s':Pg}{A:List Mp}(h:qe9 c r s M A n)(h1:FoV c.N g r)(h2:g.W 1=zbu (r.map zbj))(h3:Fok c g s'):qe9 c r s' M A n:=⟨⟨h.rdy.st,g,h3,h1,h2⟩,h.N,h.rm,h.tot⟩
theorem qu1{A:List Mp}(h:qe9 c r s M A n)(hn:n≤250){xb:Nat}:
  Cw Tryz.prog 26 #[.pointer (some ⟨xb,0,none⟩),mfV M] [foI c (r.map zbj) false err s,arM A,stF xb c.d.b c.b M] (fun _:Pg=>.bool true) (fun s'=>qe9 c r s' M A n) (fun s'=>[foI c (r.map zbj) false err s',arM A,stF xb c.d.b c.b M]):=fun w hw ha=>by
 obtain⟨g,k1,k2,k3⟩:=h.rdy.now
 exact(qbr h.N k1 k2 h.rm (cH h.tot hn) w hw ha).map fun y hy=>⟨y,rfl,h.to k2 k3 hy,rfl⟩
theorem qru{A:List Mp}(h:qe9 c r s M A n)(hn:n≤250):
  Cw Tryz.prog 27 #[.pointer (some ⟨c.b,0,none⟩)] [foI c (r.map zbj) false err s] (fun _:Pg=>.tuple #[.agg (zy9 r 8).toArray,.int .i64 0]) (fun s'=>qe9 c r s' M A n) (fun s'=>[foI c (r.map zbj) false err s']):=fun w hw ha=>by
 obtain⟨g,k1,k2,k3⟩:=h.rdy.now
 exact(zxb h.N k1 k2 (cH h.tot hn) w hw ha).map fun y hy=>⟨y,rfl,h.to k2 k3 hy,rfl⟩
structure Chg where
 r:List Rt
 M:List Mp
 A:List Mp
 c:Fc
 s:Pg
 T:List Mp
structure qvy (c:Fc) (M:List Mp) (n:Nat) (x:C11) (y:Chg):Prop where
 fm:qe9 y.c y.r y.s y.M y.A (n+x.L.length)
 b:y.c.b=c.b
 db:y.c.d.b=c.d.b
 B:y.c.B≤c.B+601
 note:y.c.note=c.note
 es:esM y.M=if x.fl then esM M else x.L.foldl qqh (esM M)
 T8:y.T.length=8
variable{I:Eng.Item}
theorem zrs{A:List Mp}(h:qe9 c r s M A n)(hB:c.B+700<9223372036854775808)[Stab I](x:C11)(hx:x.Ok I)(hn:n+x.L.length≤240){xb:Nat}:
  Cw Tryz.prog 23 #[.pointer (some ⟨xb,0,none⟩),.agg x.vs.toArray] [foI c (r.map zbj) false err s,ctI,arM A,stF xb c.d.b c.b M,I]
   (fun y:Chg=>.tuple #[.int .i64 (if x.fl then 5 else 0:Nat),mfV y.T,.bool true]) (fun y=>qvy c M n x y)
   (fun y=>[foI y.c (y.r.map zbj) false 0 y.s,ctI,arM y.A,stF xb y.c.d.b y.c.b y.M,I]):=fun w hw ha=>
 (zt2 h hB x hx hn w hw ha).map fun y ⟨h1,k,h2,h3⟩=>⟨⟨if x.fl then r else y.1.r,if x.fl then M else y.1.M,y.1.A,y.2.1,y.2.2,y.1.M⟩,rfl,⟨h1,k.b,k.db,k.B,k.note,by dsimp only;split<;>first|rfl|exact h3,h2.l8⟩,by rw[k.b,k.db]⟩
variable{i:Nat}
theorem qvn{A:List Mp}(h:qe9 c r s M A n)(hi:i<8):(zy9 r 8)[i]? =some (.int .i64 (((esM M).getD i []).length:Nat)):=by
 obtain⟨g,k1,k2,k3⟩:=h.rdy.now
 have h8:=k2.len
 obtain⟨x,hx⟩:∃x,r[i]? =some x:=⟨_,aB oQ⟩
 obtain⟨o,ho⟩:=h.rm.rel i x hx
 rw[qt8 h8,aO,hx,aE,aO,ho]
 rfl
theorem qvo{A:List Mp}(h:qe9 c r s M A n):zy9 r 8=((esM M).map (·.length)).map fun k=>.int .i64 (k:Nat):=by
 obtain⟨g,k1,k2,k3⟩:=h.rdy.now
 have h8:=k2.len
 have hM:=h.rm.l8
 refine gN fun i=>?_
 by_cases hi:i<8
 ·rw[qvn h hi,dJ,aO,aE]
  obtain⟨e,he⟩:∃e,(esM M)[i]? =some e:=⟨_,aB (by rw[aD,hM];exact hi)⟩
  rw[he]
  rfl
 ·rw[dG (by rw[zuu h8 (bA 8)];omega),dG (by rw[aD,aD,aD,hM];omega)]
variable{l:zav}{ty:TypeId}{x:Operand}
theorem qv7{xb db fb:Nat}(h8:M.length=8)(hx:evO l x=some (.pointer (some ⟨xb,2,none⟩)))(hm:stF xb db fb M∈m):OV Tryz.prog (.load 39 x) ty l (Hp w0 F m) (mfV M):=
 zgp (xs:=zc6 dmE M) (c:=(zc6 dmE M).toArray) hx (by rw[zce h8];rfl) (fun w' hw'=>by
  have:=zbf (hw'.get (b:=xb) (o:=.cells (.pointer (some ⟨db,0,none⟩):: .pointer (some ⟨fb,0,none⟩)::zc6 dmE M).toArray 41 (0,0)) hm)
  exact fun j v hv=>by have:=this (2+j) v (by rw[fT];exact hv);rwa[aH]at this) rfl
variable{H:World→Prop}{sh:Sh}
theorem qxe(hx:evO l x=some (shV sh)):OV Tryz.prog (.field 79 x 0) ty l H (.int .i64 (sh.kw:Int)):=ov fun _ _ _ _ _=>by
 simp only[execOp,zar hx]
 rfl
theorem qvt(hx:evO l x=some (shV sh)):OV Tryz.prog (.field 79 x 1) ty l H (.int .i64 (sh.vw:Int)):=ov fun _ _ _ _ _=>by
 simp only[execOp,zar hx]
 rfl
theorem qf8:Cw Tryz.prog 21 #[] [ctI,tzI] (fun _:Unit=>.bool true) (fun _=>True) (fun _=>[ctI,tzI]):=by
 refine qnp [] Tryz.func21 rfl fun w0=>?_
 simp only[zaa]
 refine goA ?_
 refine lC zlx fun⟨xb,c,s⟩ hB=>?_
 have h0:=qu8 hB
 have hBB:=hB.B
 dsimp only at h0 hBB⊢
 rw[qvh]
 refine zcy (fun _ h=>quw h) ?_
 refine goB ?_
 refine za1 rfl (za3 (L:=[(0,4,.agg (S11.vs ⟨1,0,1,2⟩).toArray),(4,4,.agg (S11.vs ⟨1,6,1,3⟩).toArray)]) rfl rfl rfl rfl rfl rfl) fun⟨q1,_⟩=>?_
 refine goB ?_
 refine lC (zrs h0 oQ (I:=own 121 4 (some (q1,2)) 2 (zc6 S11.vs [⟨1,0,1,2⟩,⟨1,6,1,3⟩])) ⟨[⟨1,0,1,2⟩,⟨1,6,1,3⟩],false,some ⟨q1,0,none⟩,2⟩ (ql3 (by simp[qu6])) (show 0+2≤240 by decide)) fun⟨r1,M1,A1,c1,s1,T1⟩ h1=>?_
 dsimp only
 obtain⟨f1,g1, -,u1,n1,e1,t1⟩:=h1
 dsimp only at f1 g1 u1 n1 e1 t1
 simp only[bT,if_false]at e1⊢
 refine goB ?_
 refine zam rfl rfl fun b4 hb4=>?_
 refine goB ?_
 refine lSa (cs':=(zc6 dmE T1).toArray) (hT:=by rw[aI,zce t1];rfl) (h1:=zc8 _) (h2:=by rw[aI,zce t1];rfl) ?_
 refine goB ?_
 refine za1 rfl (za3 (L:=[(0,4,.agg (S11.vs ⟨1,0,1,9⟩).toArray),(4,4,.agg (S11.vs ⟨0,6,1,0⟩).toArray)]) rfl rfl rfl rfl rfl rfl) fun⟨q2,_⟩=>?_
 refine goB ?_
 refine lC (zrs f1 oQ (I:=own 121 4 (some (q2,2)) 2 (zc6 S11.vs [⟨1,0,1,9⟩,⟨0,6,1,0⟩])) ⟨[⟨1,0,1,9⟩,⟨0,6,1,0⟩],true,some ⟨q2,0,none⟩,2⟩ (ql3 (by simp[qu6])) (show 0+2+2≤240 by decide)) fun⟨r2,M2,A2,c2,s2,T2⟩ h2=>?_
 dsimp only
 obtain⟨f2,g2, -,u2,n2,e2,t2⟩:=h2
 dsimp only at f2 g2 u2 n2 e2 t2
 simp only[if_true]at e2⊢
 refine goB ?_
 refine zam rfl rfl fun b7 hb7=>?_
 refine goB ?_
 refine lSa (cs':=(zc6 dmE T2).toArray) (hT:=by rw[aI,zce t2];rfl) (h1:=zc8 _) (h2:=by rw[aI,zce t2];rfl) ?_
 refine goB ?_
 refine lC (qru f2 dQ) fun s3 f3=>?_
 have hl:(esM M2).map (·.length)=[1,0,0,0,0,0,1,0]:=by rw[e2,e1];decide+kernel
 rw[qvo f2,hl]
 refine goB ?_
 refine zam rfl rfl fun b9 hb9=>?_
 refine goB ?_
 refine l_w rfl (qv7 f2.rm.l8 rfl mm) ?_
 refine goB ?_
 refine lC (qu1 f3 dQ) fun s4 f4=>?_
 obtain⟨g4,k1,k2,k3⟩:=f4.rdy.now
 refine goB ?_
 refine lC (qn2 (c:=c2) (R:=r2.map zbj) (s:=s4) (err:=0) (by rw[aD];exact k2.len) ⟨#[]⟩ ⟨#[]⟩) fun _ _=>?_
 refine goB ?_
 refine lC (zxn (c:=c2) (R:=r2.map zbj) (busy:=false) (err:=0) (s:=s4)) fun _ _=>?_
 refine goA ?_
 refine lPu rfl (fun w1 hw1=>qar k1 w1 (zbq.of (hw1.item (foI c2 (r2.map zbj) false 0 s4) mm) (zad _))) ?_
 rw[n2,n1,hB.note]
 refine goA ?_
 rw[show seq ⟨zvf.toArray⟩ ⟨#[110,111,116,101]⟩=true by unfold seq;decide+kernel]
 refine goA ?_
 refine lPu rfl (fun w1 hw1=>zxa (i:=5) dQ w1) ?_
 refine l_w rfl (qvt rfl) ?_
 refine goA ?_
 refine qtx ?_
 exact xC () trivial
theorem C11.sz(x:C11):x.vs.length=2:=rfl
variable{L:List C11}{a:Option Addr}
theorem qet(h:Rd w a (zc6 C11.vs L))(hi:i<L.length):∃b off,a=some ⟨b,off,none⟩∧w.rangeAt b (off+i*2) (L[i]'hi).vs:=by
 obtain⟨b,off,rfl,hrow⟩:=h.at_ (by intro h;have:=congrArg List.length h;rw[zdx C11.sz]at this;simp at this;omega)
 exact⟨b,off,rfl,Rd.row C11.sz hrow hi⟩
theorem qwq(h:Rd w a (zc6 C11.vs L))(hi:i<L.length):∃b off,a=some ⟨b,off,none⟩:=by
 obtain⟨b,off,e, -⟩:=qet h hi
 exact⟨b,off,e⟩
def zlv(L:List C11):Bool:=decide (20<L.length)||L.any fun x=>decide (12<x.L.length)
theorem quq(L:List C11)(a:Option Addr)(cp:Nat)(w:World)(hr:Rd w a (zc6 C11.vs L)):Pu Tryz.prog 20 #[.slice a L.length cp] w (.bool (zlv L)):=by
 refine zbn [_] Tryz.func20 rfl rfl ?_
 simp only[zaa]
 refine goA ?_
 by_cases h20:20<L.length
 ·rw[show zlv L=true by unfold zlv;rw[decide_eq_true h20];rfl]
  refine goA ?_
  exact zdk rfl rfl rfl
 ·refine goA ?_
  refine que (fun i:Nat=>[(0,.slice a L.length cp),(3,.int .i64 (i:Nat))]) (fun i=>i≤L.length∧∀x∈L.take i,¬12<x.L.length) (fun _=>[]) (fun i=>L.length - i) 0 ⟨aZ _,fun _ h=>nomatch h⟩ fun i ⟨hi,hs⟩=>?_
  by_cases hil:i<L.length
  ·obtain⟨b,off,rfl,hri⟩:=qet hr hil
   have hm:=aT hil
   have hts:L.take (i+1)=L.take i++[L[i]]:=by rw[cV,aB hil];rfl
   generalize L[i]=x at hri hm hts
   refine goA ?_
   refine l_w rfl (za0 (v:=.slice x.a x.L.length x.cp) rfl rfl (fun w' hw'=>za5 hri (fun h=>h) hw' 0 _ rfl)) ?_
   refine goA ?_
   by_cases h12:12<x.L.length
   ·rw[show zlv L=true by unfold zlv;rw[List.any_eq_true.2 ⟨x,hm,decide_eq_true h12⟩,kZ]]
    refine goA ?_
    exact zdk rfl rfl rfl
   ·refine goA ?_
    exact xR (i+1) ⟨hil,fun y hy=>by
     rw[hts]at hy
     rcases aR.1 hy with hy|hy
     ·exact hs y hy
     ·rw[aN.1 hy];exact h12⟩ oQ
  ·obtain rfl:i=L.length:=oQ
   rw[gD]at hs
   rw[show zlv L=false by
    unfold zlv
    rw[decide_eq_false h20,gS,jB]
    exact fun x hx=>by simpa using hs x hx]
   refine goA ?_
   exact zdk rfl rfl rfl
theorem qwv(h:zlv L=false):L.length≤20∧∀x∈L,x.L.length≤12:=by
 unfold zlv at h
 rw[Bool.or_eq_false_iff,decide_eq_false_iff_not,jB]at h
 exact⟨oQ,fun x hx=>by have:=h.2 x hx;simp at this;omega⟩
theorem qe9.mono{A:List Mp}{k:Nat}(h:qe9 c r s M A n)(hk:n≤k):qe9 c r s M A k:=⟨h.rdy,h.N,h.rm,cH h.tot hk⟩
theorem toA{l:List Value}(h:l[i]? =some v):l.toArray[i]? =some v:=by simpa using h
theorem qwm{t:Nat}{p:Mp}(hM:M[t]? =some p){j:Nat}{x y:Value}(hv:(dmE p)[j]? =some v):(x::y::zc6 dmE M).toArray[2+t*2+j]? =some v:=by
 have:=qdr hM hv
 rw[show 2+t*2+j=t*2+j+2 by omega]
 simpa using this
theorem qwl(h:Fok c g s){a:Nat}(hi:i<8)(ha:R[i]? =some a)(key:K){v:Option K}(hl:quj (fSh i) c.N g key (a:Nat)= .ok v):
  Cw Tryz.prog 31 #[.pointer (some ⟨c.b,0,none⟩),.int .i64 (i:Nat),kV key] [foI c R busy err s] (fun _:Pg=>.tuple #[kV (if key.length=(fSh i).kw then v.getD []else[]),.bool (if key.length=(fSh i).kw then v.isSome else false),.int .i64 (if key.length=(fSh i).kw then 0 else 2)]) (fun s'=>Fok c g s') (fun s'=>[foI c R busy err s']):=fun w hw hap=>by
 by_cases hk:key.length=(fSh i).kw
 ·simp only[if_pos hk]
  exact qve h hi ha key hk hl w hw
 ·simp only[if_neg hk]
  exact(qvf h hi ha key hk w hw hap).map fun _ _=>⟨s,rfl,h,rfl⟩
theorem qwt(a:ByteArray):seq a a=true:=by simp[seq]
theorem qv8:seq (kB []) ⟨#[]⟩=true:=by unfold seq;decide+kernel
theorem qxf{xb db fb:Nat}{o:Om}{e:E}(hM:M[i]? =some (o,e))(hx:evO l x=some (.pointer (some ⟨xb,2+i*2,none⟩)))(hm:stF xb db fb M∈m):OV Tryz.prog (.load 37 x) ty l (Hp w0 F m) (dmV o e):=
 zgp (xs:=dmE (o,e)) (c:=dmC o e) hx rfl (fun w' hw'=>by
  have:=zbf (hw'.get (b:=xb) (o:=.cells (.pointer (some ⟨db,0,none⟩):: .pointer (some ⟨fb,0,none⟩)::zc6 dmE M).toArray 41 (0,0)) hm)
  exact fun j v hv=>by
   have h2:=qwm (x:=.pointer (some ⟨db,0,none⟩)) (y:=.pointer (some ⟨fb,0,none⟩)) hM hv
   have:=this (2+i*2+j) v (by simpa using h2)
   rwa[aH]at this) rfl
structure Pst where
 i:Nat
 er:Nat
 r:List Rt
 s:Pg
 c:Fc
 M:List Mp
 A:List Mp
theorem qwo(L:List C11)[Stab I](hI:∀x∈L,x.Ok I)(a:Option Addr)(cp:Nat)(hr:∀w,I.prop w→Rd w a (zc6 C11.vs L))(tree:Int)(k:Nat)(hk:k<65536)(also:Bool):
  Cw Tryz.prog 7 #[.slice a L.length cp,.int .i64 tree,.int .u16 (k:Nat),.bool also] [ctI,tzI,I] (fun _:Unit=>.bool true) (fun _=>True) (fun _=>[ctI,tzI,I]):=by
 refine qnp [_,_,_,_] Tryz.func7 rfl fun w0=>?_
 simp only[zaa]
 refine goA ?_
 refine lPu rfl (fun w1 hw1=>quq L a cp w1 (hr w1 (hw1.item I mm).1)) ?_
 cases hg:zlv L with
 |true=>
  refine goA ?_
  refine lC qf8 fun _ _=>?_
  refine goB ?_
  exact xC () trivial
 |false=>
  obtain⟨h20,h12⟩:=qwv hg
  refine goA ?_
  refine lC zlx fun⟨xb,c,s⟩ hB=>?_
  have h0:=qu8 hB
  have hBB:=hB.B
  dsimp only at h0 hBB⊢
  rw[qvh]
  refine zcy (fun _ h=>quw h) ?_
  refine goB ?_
  refine que (fun y:Pst=>[(0,.slice a L.length cp),(1,.int .i64 tree),(2,.int .u16 (k:Nat)),(3,.bool also),(9,.pointer (some ⟨xb,0,none⟩)),(11,.int .i64 (y.i:Nat))]) (fun y=>y.i≤L.length∧qe9 y.c y.r y.s y.M y.A (12*y.i)∧y.c.B≤604+601*y.i) (fun y=>[foI y.c (y.r.map zbj) false y.er y.s,ctI,arM y.A,stF xb y.c.d.b y.c.b y.M,I]) (fun y=>L.length - y.i) ⟨0,0,r8,s,c,qv5,qvz⟩ ⟨aZ _,h0,by dsimp only;omega⟩ fun⟨i,er,r1,s1,c1,M1,A1⟩ ⟨hi,f1,hb1⟩=>?_
  dsimp only at hi f1 hb1⊢
  by_cases hil:i<L.length
  ·obtain⟨x,hx⟩:∃x,L[i]=x:=⟨_,rfl⟩
   have hxL:x∈L:=hx▸aT hil
   have hxo:=hI x hxL
   have hx12:=h12 x hxL
   refine zhm (fun w hw=>qwq (hr w (hw.item I mm).1) hil) fun⟨b,off,ha⟩=>?_
   subst ha
   have hrow:∀w,I.prop w→w.rangeAt b (off+i*2) x.vs:=fun w hp=>by
    obtain⟨b',off',e,h⟩:=qet (hr w hp) hil
    cases e
    rw[hx]at h
    exact h
   refine goA ?_
   refine l_w rfl (zgp (xs:=x.vs) (c:=x.vs.toArray) rfl rfl (fun w' hw'=>hrow w' (hw'.item I mm).1) rfl) ?_
   refine goA ?_
   refine lC (zrs f1 oQ x hxo oQ) fun⟨r2,M2,A2,c2,s2,T2⟩ h2=>?_
   dsimp only
   obtain⟨f2,g2,g3,u2, -, -,t2⟩:=h2
   dsimp only at f2 g2 g3 u2 t2
   refine goB ?_
   refine zam rfl rfl fun b13 hb13=>?_
   refine goB ?_
   refine lSa (cs':=(zc6 dmE T2).toArray) (hT:=by rw[aI,zce t2];rfl) (h1:=zc8 _) (h2:=by rw[aI,zce t2];rfl) ?_
   refine goB ?_
   refine l_w rfl (za0 (v:=.bool x.fl) rfl rfl (fun w' hw'=>hrow w' (hw'.item I mm).1 1 _ rfl)) ?_
   generalize x.fl=q
   refine l_w rfl (ov (v:=.bool false) fun _ _ _ _ _=>by cases q<;>rfl) ?_
   refine goA ?_
   refine l_w rfl (qv7 f2.rm.l8 rfl mm) ?_
   refine goB ?_
   refine lC (qu1 f2 oQ) fun s3 f3=>?_
   refine goB ?_
   exact xR ⟨i+1,0,r2,s3,c2,M2,A2⟩ ⟨hil,f3.mono (by dsimp only;omega),by dsimp only;omega⟩ (by dsimp only;omega)
  ·obtain rfl:i=L.length:=oQ
   refine goA ?_
   refine lC (qru f1 oQ) fun s3 f3=>?_
   refine goA ?_
   refine zam rfl rfl fun b15 hb15=>?_
   have h8:=zuu (r:=r1) (by obtain⟨g,k1,k2,k3⟩:=f1.rdy.now;exact k2.len) (bA 8)
   refine lSa (cs':=(zy9 r1 8).toArray) (hT:=by rw[aI,h8];rfl) (h1:=qt9 _ _) (h2:=by rw[aI,h8];rfl) ?_
   refine goB ?_
   refine que (fun t:Nat=>[(1,.int .i64 tree),(2,.int .u16 (k:Nat)),(3,.bool also),(9,.pointer (some ⟨xb,0,none⟩)),(15,.pointer (some ⟨b15,0,none⟩)),(16,.int .i64 0),(17,.int .i64 (t:Nat))]) (fun t=>t≤8) (fun _=>[foI c1 (r1.map zbj) false er s3,ctI,arM A1,stF xb c1.d.b c1.b M1,I,pt b15 (.cells (zy9 r1 8).toArray 73 (0,0))]) (fun t=>8 - t) 0 (aZ _) fun t ht=>?_
   by_cases ht8:t<8
   ·obtain⟨p,hp⟩:∃p,M1[t]? =some p:=⟨_,aB (by have:=f1.rm.l8;omega)⟩
    have hout:=qvn f3 ht8
    rw[aE,aO,hp]at hout
    have hout:(zy9 r1 8)[t]? =some (.int .i64 (p.2.length:Nat)):=hout
    refine zhm (fun w hw=>(zas ((hw.item (arM A1) mm).1.1 (own 9 1 p.1.1 p.2.length (p.2.map fun y=>kV y.1)) (bS.2 ⟨_,f1.rm.arc _ (bI hp),.head _⟩)).1).1) fun e1=>?_
    refine goA ?_
    refine ziv [stF xb _ _ M1,pt b15 _] 99 ?_
    refine goP ?_
    have hout:=toA hout
    refine dVP rfl rfl (zc5 rfl rfl mm (by rw[aH];exact hout)) ?_
    refine dVP rfl rfl (zc5 (v:=.slice (slA p.1.1) p.2.length (slC p.1.1)) rfl rfl mm (qwm hp (by rw[←e1];rfl))) ?_
    refine goP ?_
    rw[bne_self_eq_false]
    refine goP ?_
    refine dPF 14 (fun w _=>zxa ht8 w) ?_
    refine dVP rfl rfl (qxe rfl) ?_
    refine goP ?_
    refine dPF 17 (fun w _=>qt6 ht8 w) ?_
    refine goP ?_
    rw[bne_self_eq_false]
    refine goP ?_
    refine dPF 22 (fun w _=>zxa ht8 w) ?_
    refine dVP rfl rfl (qvt rfl) ?_
    refine goP ?_
    refine dPF 25 (fun w _=>quf ht8 w) ?_
    refine goP ?_
    rw[bne_self_eq_false]
    refine goQ ?_
    exact xR (t+1) ht8 oQ
   ·obtain rfl:t=8:=oQ
    by_cases htr:tree<0∨8≤tree
    ·refine goA ?_
     refine ziv [stF xb _ _ M1] 99 ?_
     refine goP ?_
     refine dPF 6 (fun w _=>zpl k 32 hk dQ dQ w) ?_
     refine dC 7 (qvx c1.b htr _) fun _ _=>?_
     refine goQ ?_
     refine ziv [stF xb _ _ M1] 99 ?_
     refine goP ?_
     refine dPF 6 (fun w _=>zpl k 32 hk dQ dQ w) ?_
     refine goP ?_
     refine dC 8 (qvd c1.b htr _ _) fun _ _=>?_
     refine goQ ?_
     rcases htr with hn|hn
     all_goals
      refine goA ?_
      rw[qv8]
      refine goA ?_
      refine l_w rfl (ov (v:=kV []) fun _ _ _ _ _=>rfl) ?_
      refine goA ?_
      rw[qv8]
      refine goA ?_
      refine qs3 ?_
      refine lC qf8 fun _ _=>?_
      refine goB ?_
      exact xC () trivial
    ·obtain⟨i,rfl⟩:∃i:Nat,tree=i:=⟨tree.toNat,oQ⟩
     have hi8:i<8:=oQ
     obtain⟨g,k1,k2,k3⟩:=f3.rdy.now
     have hf:=qnq f3.N
     have htot:=f3.tot
     obtain⟨x,hx⟩:∃x,r1[i]? =some x:=⟨_,aB (by rw[k2.len];exact hi8)⟩
     have har:(r1.map zbj)[i]? =some (zbj x):=by rw[aO,hx];rfl
     obtain⟨om,hom⟩:=f3.rm.rel _ x hx
     have hes:=(k2.ok _ x hx).2.2
     have hxl:=qmt hx
     have hfr:(geE (zdb x) (zpf k 32)).find? (frP (zpf k 32) also)=zxc (zdb x) (zpf k 32) also:=qw2 (zdb x) (zpf k 32) also
     refine goA ?_
     refine ziv [stF xb _ _ M1] 99 ?_
     refine goP ?_
     refine dPF 6 (fun w _=>zpl k 32 hk dQ dQ w) ?_
     refine dC 7 (qwl k1 hi8 har (zpf k 32) (k2.get hf.le oQ hf.lo hf.rm hf.dp hx (zpf k 32))) fun s4 k4=>?_
     refine goQ ?_
     refine ziv [stF xb _ _ M1] 99 ?_
     refine goP ?_
     refine dPF 6 (fun w _=>zpl k 32 hk dQ dQ w) ?_
     refine goP ?_
     refine dC 8 (fun w hw _=>quu k4 hi8 har (zpf k 32) also (by rw[zgk];decide) (qts k2 hf.le (show zq9 r1≤250 by omega) hf.lo hf.rm hf.dp hx (zpf k 32)) w hw) fun s5 k5=>?_
     rw[hfr]
     unfold frV
     refine goQ ?_
     rw[zgk]
     refine ziv [stF xb _ _ M1] 99 ?_
     refine goP ?_
     refine dVP rfl rfl (qxf hom rfl mm) ?_
     refine goP ?_
     refine dPF 7 (fun w _=>zpl k 32 hk dQ dQ w) ?_
     refine goP ?_
     refine dPF 9 (fun w1 hw1=>qu2 om (zdb x) (zpf k 32) also oQ w1 (fun it hm=>(hw1.item (arM A1) mm).1.1 it (bS.2 ⟨_,f3.rm.arc _ (bI hom),hm⟩))) ?_
     refine goQ ?_
     refine ziv [stF xb _ _ M1] 99 ?_
     refine goP ?_
     refine dVP rfl rfl (qxf hom rfl mm) ?_
     refine goP ?_
     refine dPF 7 (fun w _=>zpl k 32 hk dQ dQ w) ?_
     refine goP ?_
     refine dPF 8 (fun w1 hw1=>qh6 om (zdb x) hes (zpf k 32) oQ w1 (fun it hm=>(hw1.item (arM A1) mm).1.1 it (bS.2 ⟨_,f3.rm.arc _ (bI hom),hm⟩))) ?_
     refine goQ ?_
     generalize zi6 (zdb x) (zpf k 32)=v
     generalize zxc (zdb x) (zpf k 32) also=y
     by_cases hkw:32=(fSh i).kw
     ·simp only[if_pos hkw]
      refine lPu rfl (fun w1 hw1=>qt6 hi8 w1) ?_
      rw[←hkw]
      refine goA ?_
      refine l_w rfl (qxl rfl rfl) ?_
      rw[qwt]
      refine goA ?_
      refine l_w rfl (qxk rfl rfl rfl) ?_
      rw[beq_self_eq_true]
      refine goA ?_
      refine lPu rfl (fun w1 hw1=>qt6 hi8 w1) ?_
      rw[←hkw]
      refine goA ?_
      refine qs3 ?_
      refine lC qf8 fun _ _=>?_
      refine goB ?_
      exact xC () trivial
     ·simp only[if_neg hkw]
      refine lPu rfl (fun w1 hw1=>qt6 hi8 w1) ?_
      refine goA ?_
      refine lPu rfl (fun w1 hw1=>qt6 hi8 w1) ?_
      refine goA ?_
      refine qs3 ?_
      refine lC qf8 fun _ _=>?_
      refine goB ?_
      exact xC () trivial
end Go.Proofs.YthafakdplhdfjaaGreatDoor
namespace Go.Proofs.YthafakdplhdfjaaGreatDoor
open Go.ChangeShapes Go.ChangeMaps Go.WideShapes Go.ChangeAt Go.RowKit Go.Eng Go.Proofs.YthafakdplhdfjaaGreatDoor
variable{P:Program}{W:World}{sp:Nat→Bool}{held:Bool}{H:Type}{enc:TypeId×Value→H}{t:TypeId}{cs:List Value}{x:DataW H×List MemPlace}
theorem qvg{base:Nat}{f0 f1:Field}{fuel:Nat}(ht:P.underlying t=some (.struct #[f0,f1]))(h:DataW.trod enc P W base sp held fuel t cs=some x):
  ∃y0 y1 n,cs.length=P.cellsOf t∧DataW.trod enc P W base sp held n f0.type ((cs.drop f0.offset).take (P.cellsOf f0.type))=some y0∧DataW.trod enc P W base sp held n f1.type ((cs.drop f1.offset).take (P.cellsOf f1.type))=some y1:=by
 obtain⟨xs,n,_,rfl,hl,hlen,hf⟩:=DataW.trod_struct ht h
 match xs,hlen with
 | [y0,y1],_=>exact⟨y0,y1,n,hl,by simpa using hf 0 f0 rfl,by simpa using hf 1 f1 rfl⟩
theorem qvq{base:Nat}{f0 f1 f2 f3:Field}{fuel:Nat}(ht:P.underlying t=some (.struct #[f0,f1,f2,f3]))(h:DataW.trod enc P W base sp held fuel t cs=some x):
  ∃y0 y1 y2 y3 n,cs.length=P.cellsOf t∧DataW.trod enc P W base sp held n f0.type ((cs.drop f0.offset).take (P.cellsOf f0.type))=some y0∧DataW.trod enc P W base sp held n f1.type ((cs.drop f1.offset).take (P.cellsOf f1.type))=some y1∧
   DataW.trod enc P W base sp held n f2.type ((cs.drop f2.offset).take (P.cellsOf f2.type))=some y2∧DataW.trod enc P W base sp held n f3.type ((cs.drop f3.offset).take (P.cellsOf f3.type))=some y3:=by
 obtain⟨xs,n,_,rfl,hl,hlen,hf⟩:=DataW.trod_struct ht h
 match xs,hlen with
 | [y0,y1,y2,y3],_=>exact⟨y0,y1,y2,y3,n,hl,by simpa using hf 0 f0 rfl,by simpa using hf 1 f1 rfl,by simpa using hf 2 f2 rfl,by simpa using hf 3 f3 rfl⟩
variable{y:DataW H×List MemPlace}{n:Nat}
theorem qxc(h:DataW.trod enc Tryz.prog W 0 sp held n 121 cs=some y):∃e:S11,cs=e.vs∧e.Ok:=by
 obtain⟨y0,y1,y2,y3,m,hl,t0,t1,t2,t3⟩:=qvq Tryz.underlying121 h
 have hl4:cs.length=4:=hl.trans kQ
 match cs,hl4 with
 | [a,b,c,d],_=>
  obtain⟨p,hp, -,wp⟩:=DataW.trod_int Tryz.underlying5 t0
  obtain⟨q,hq, -,wq⟩:=DataW.trod_int Tryz.underlying5 t1
  obtain⟨r,hr, -,wr⟩:=DataW.trod_int Tryz.underlying77 t2
  obtain⟨s,hs, -,ws⟩:=DataW.trod_int Tryz.underlying77 t3
  have hp':(([a,b,c,d]:List Value).drop 0).take (Tryz.prog.cellsOf 5)=[.int .u8 p]:=hp
  have hq':(([a,b,c,d]:List Value).drop 1).take (Tryz.prog.cellsOf 5)=[.int .u8 q]:=hq
  have hr':(([a,b,c,d]:List Value).drop 2).take (Tryz.prog.cellsOf 77)=[.int .u16 r]:=hr
  have hs':(([a,b,c,d]:List Value).drop 3).take (Tryz.prog.cellsOf 77)=[.int .u16 s]:=hs
  rw[show Tryz.prog.cellsOf 5=1 by kernel_rfl]at hp' hq'
  rw[show Tryz.prog.cellsOf 77=1 by kernel_rfl]at hr' hs'
  simp at hp' hq' hr' hs'
  have vp:0≤p∧p≤255:=by simpa[Lit.wf,IntKind.min,IntKind.max,IntKind.bits,IntKind.signed]using wp
  have vq:0≤q∧q≤255:=by simpa[Lit.wf,IntKind.min,IntKind.max,IntKind.bits,IntKind.signed]using wq
  have vr:0≤r∧r≤65535:=by simpa[Lit.wf,IntKind.min,IntKind.max,IntKind.bits,IntKind.signed]using wr
  have vs:0≤s∧s≤65535:=by simpa[Lit.wf,IntKind.min,IntKind.max,IntKind.bits,IntKind.signed]using ws
  refine⟨⟨p.toNat,q.toNat,r.toNat,s.toNat⟩,?_,⟨by show p.toNat<_;omega,by show q.toNat<_;omega,by show r.toNat<_;omega,by show s.toNat<_;omega⟩⟩
  show _=[Value.int .u8 (p.toNat:Int),.int .u8 (q.toNat:Int),.int .u16 (r.toNat:Int),.int .u16 (s.toNat:Int)]
  rw[hp',hq',hr',hs',Int.toNat_of_nonneg vp.1,Int.toNat_of_nonneg vq.1,Int.toNat_of_nonneg vr.1,Int.toNat_of_nonneg vs.1]
structure C11.Pre (x:C11) (W:World):Prop where
 ok:∀y∈x.L,y.Ok
 rd:Rd W x.a (zc6 S11.vs x.L)
theorem qwy(h:DataW.trod enc Tryz.prog W 0 (fun _=>true) true n 68 cs=some y):
  ∃(a:Option Addr) (L:List S11) (cp:Nat),cs=[.slice a L.length cp]∧Rd W a (zc6 S11.vs L)∧∀e∈L,e.Ok:=by
 have hc:∃(a:Option Addr) (k cp:Nat),cs=(Value.slice a k cp).cells.toList:=by
  rcases Go.Deep.open_slice Tryz.underlying68 h with ⟨hcs,_⟩ |⟨a,len,cap,m,n,D,Pl,hcs, -⟩
  ·exact⟨none,0,0,hcs⟩
  ·exact⟨some a,len,cap,hcs⟩
 obtain⟨a,k,cp,rfl⟩:=hc
 obtain⟨L,rfl, -,h2,h3⟩:=qwk (⟨0,0,0,0⟩:S11) dQ S11.sz Tryz.underlying68 kQ (fun _ _ _=>qxc) h
 exact⟨a,L,cp,by simp[Value.cells],h2,h3⟩
theorem qxa(h:DataW.trod enc Tryz.prog W 0 (fun _=>true) true n 70 cs=some y):∃e:C11,cs=e.vs∧e.Pre W:=by
 obtain⟨y0,y1,m,hl,t0,t1⟩:=qvg Tryz.underlying70 h
 have hl2:cs.length=2:=hl.trans kQ
 match cs,hl2 with
 | [a,b],_=>
  obtain⟨ad,L,cp,hs,hr,hok⟩:=qwy t0
  obtain⟨v,hv, -⟩:=DataW.trod_bool Tryz.underlying4 t1
  have hs':(([a,b]:List Value).drop 0).take (Tryz.prog.cellsOf 68)=[.slice ad L.length cp]:=hs
  have hv':(([a,b]:List Value).drop 1).take (Tryz.prog.cellsOf 4)=[.bool v]:=hv
  rw[show Tryz.prog.cellsOf 68=1 by kernel_rfl]at hs'
  rw[show Tryz.prog.cellsOf 4=1 by kernel_rfl]at hv'
  simp at hs' hv'
  refine⟨⟨L,v,ad,cp⟩,?_,⟨hok,hr⟩⟩
  show _=[Value.slice ad L.length cp,.bool v]
  rw[hs',hv']
theorem qxj{a0:Option Addr}{len0 cap0:Nat}{d:DataW H}{ps:List MemPlace}(h:DataW.Trod enc Tryz.prog W 0 (fun _=>true) true 62 (.slice a0 len0 cap0) d ps):∃L:List C11,L.length=len0∧len0≤9223372036854775807∧Rd W a0 (zc6 C11.vs L)∧∀e∈L,e.Pre W:=by
 obtain⟨fuel,hf⟩:=h
 exact qwk (⟨[],false,none,0⟩:C11) dQ C11.sz Tryz.underlying62 kQ (fun _ _ _=>qxa) hf
theorem qv2{a:Addr}{v:Value}(h:W.cell? a=some v):a.block<W.heap.size:=by
 unfold World.cell? at h
 rcases gQ a.block W.heap.size with hl|hl
 ·exact hl
 ·rw[dR hl]at h
  cases h
theorem C11.Pre.is(hT:zo8 W∧qbc W){x:C11}(h:x.Pre W):x.Ok (qwz W (za4 [ctI,tzI])):=by
 refine C11.of_old h.ok h.rd fun b off he hL=>?_
 obtain⟨b',off',he',hrow⟩:=qu0 h.rd (iP.2 hL)
 rw[he]at he'
 cases he'
 exact⟨qv2 (hrow 0 _ rfl),qut hT (hrow 0 _ rfl) (hrow 2 _ rfl) (fun n h=>by cases h) (fun n h=>by cases h)⟩
theorem qw3(hT:zo8 W∧qbc W){L:List C11}{a:Option Addr}(hr:Rd W a (zc6 C11.vs L)):∀b off,a=some ⟨b,off,none⟩→L≠[]→b<W.heap.size∧¬za4 [ctI,tzI] b:=by
 intro b off he hL
 obtain⟨b',off',he',hrow⟩:=qet hr (iP.2 hL)
 rw[he]at he'
 cases he'
 exact⟨qv2 (hrow 0 _ rfl),qut hT (hrow 0 _ rfl) (hrow 0 _ rfl) (fun n h=>by cases h) (fun n h=>by cases h)⟩
abbrev qxh(W:World):List Eng.Item:=[ctI,tzI,qwz W (za4 [ctI,tzI])]
theorem qwr(hT:zo8 W∧qbc W):∀it∈qxh W,zbq it W:=by
 intro it hm
 rcases hm with _|⟨_,_|⟨_,_|⟨_,hm⟩⟩⟩
 ·exact qdc hT _ (.head _)
 ·exact qdc hT _ (.tail _ (.head _))
 ·exact⟨fun _ _ _=>rfl,(inferInstance:Stab (qwz W (za4 [ctI,tzI]))).st,fun k hk=>hk.1⟩
 ·cases hm
theorem qv3(W:World):(qxh W).Pairwise Eng.Item.Apart:=by
 have h:=zzl
 refine(bN (l₁:=[ctI,tzI]) (l₂:=[qwz W (za4 [ctI,tzI])])).2 ⟨h,eB _ _,fun x hx y hy k h1 h2=>?_⟩
 rcases hy with _|⟨_,hy⟩
 ·exact h2.2 ⟨x,hx,h1⟩
 ·cases hy
theorem qw1{W':World}(hT:zo8 W∧qbc W)(h:Its (za4 (qxh W)) W (qxh W) W'):Below W.heap.size W W':=by
 refine⟨h.fr.os,h.fr.tape,h.fr.output,h.fr.size,fun k hk=>?_⟩
 by_cases h1:k=1
 ·rw[h1,hT.1.obj]
  exact((h.item ctI (.head _)).1:zo8 W').obj
 by_cases h2:k=0
 ·rw[h2,hT.2.obj]
  exact((h.item tzI (.tail _ (.head _))).1:qbc W').obj
 ·refine(h.item (qwz W (za4 [ctI,tzI])) (.tail _ (.tail _ (.head _)))).1 k hk ?_
  rintro⟨it,hm,hf⟩
  rcases hm with _|⟨_,_|⟨_,hm⟩⟩
  ·exact h1 hf
  ·exact h2 hf
  ·cases hm
end Go.Proofs.YthafakdplhdfjaaGreatDoor
