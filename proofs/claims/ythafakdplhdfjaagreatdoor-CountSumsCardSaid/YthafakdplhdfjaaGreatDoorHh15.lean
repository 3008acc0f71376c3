/- Parts: law 8; forest; law 11; count; law 16. No condition. -/
import Derived.Test.YthafakdplhdfjaaGreatDoorHh14
import Derived.Test.YthafakdplhdfjaaGreatDoorHh12
set_option maxRecDepth 100000
set_option maxHeartbeats 40000000
namespace Go.Proofs.YthafakdplhdfjaaGreatDoor
open Go.RowKit Go.Eng Go.Eng.Bm
def needC'(C:PR):Nat:=(514*C.length+496)/497
def cmP(s:Pg)(d:Dk)(n secs:Nat)(note:Bys)(V:List Bys)(C:PR)(B:Nat)(x:Nat×Dk×Pg):Prop:=x.2.1.b=d.b∧x.2.2.b=s.b∧
  ((x.1=6∧secs<needC' C∧x.2.1.D=d.D∧x.2.2={ s with C:=[] })∨
   (needC' C≤secs∧x.1=0∧zig d.D x.2.1.D∧StX x.2.2 x.2.1.D n secs note (zd9 V C) [] (B+601))∨
   (needC' C≤secs∧x.1=4∧d.D.left≠none∧x.2.2.dead=true∧(Off x.2.1.D n secs note V (B+601)∨Off x.2.1.D n secs note (zd9 V C) (B+601))))
theorem qsm(s:Pg)(D:Dsk)(x:PR×List Nat):(cmR s D x).b=s.b:=by
 have h1:(zoo s D).2.2.b=s.b:=by unfold zoo;split<;>rfl
 have h2:(cmF s D).2.2.b=s.b:=by
  unfold cmF
  split
  ·exact h1
  ·exact h1
 unfold cmR
 split
 ·exact h2
 ·exact h2
theorem ql8{s:Pg}{D:Dsk}{x:PR×List Nat}(h:(cmF s D).1=4):(cmR s D x).dead=true:=by
 unfold cmR
 rw[if_neg oQ]
 unfold cmF at h⊢
 split at h<;>rename_i h0
 ·rw[if_pos h0]
  unfold qey at h⊢
  simp only at h⊢
  rw[decide_eq_true h,Bool.or_true]
 ·rw[if_neg h0]
  unfold zoo at h⊢
  split at h<;>rename_i h1
  ·rw[if_pos h1]
   simp only at h⊢
   rw[decide_eq_true h,Bool.or_true]
  ·cases h
theorem zl7(s:Pg)(d:Dk)(n secs:Nat)(note:Bys)(V:List Bys)(C:PR)(B:Nat)(hst:StX s d.D n secs note V C B)(hB:B+700<9223372036854775808)(hC0:s.C≠[]):
  Cw Tryz.prog 80 #[.pointer (some ⟨s.b,0,none⟩)] [pgI s d,dkI d,ctI] (fun x:Nat×Dk×Pg=>.int .i64 (x.1:Int)) (cmP s d n secs note V C B) (fun x=>[pgI x.2.2 x.2.1,dkI x.2.1,ctI]):=by
 intro w hw ha
 have hneed:=hst.need hC0
 obtain⟨TS,h⟩:=hst.st
 have z:=h.siz
 have hn:=h.hn
 have hs:=h.hsecs
 have hnx:=h.next
 have hs2:=z.s2
 have hs1:=z.s1
 have hn2:=z.n2
 have hle:=hst.le
 have hmany:=hst.many
 have hneed':zao (tC s).length=needC' C:=hneed
 have hneedle:zao (tC s).length≤100000:=by rw[hneed];omega
 have hRl:s.R.length≤1024:=by
  have:=zkk h.Rn (L:=List.range n) fun x hx=>dG.2 (h.Rk x hx).2.2
  rw[eL]at this
  omega
 have hcom:=hst.commit hB hC0
 refine Ct.imp (zr1 s d z.ok hst.keep hst.wait hst.dead oQ h.log.hok oQ h.log.usedle oQ h.log.c01 h.log.dead (by rw[hn];exact h.Kok) (by rw[hn];exact h.Cok) (fun i hi=>cH.1 (h.Rk i hi).1) hRl oQ hC0 w hw ha) ?_
 rintro⟨d',x2⟩ ⟨⟨k1, -,k3⟩,kg⟩
 simp only at k1 k3 kg
 rw[hs,hneed']at k3 kg
 simp only[hs,hneed']
 by_cases hlt:secs<needC' C
 ·rw[if_pos hlt]at k3
  refine⟨(6,d',{ s with C:=[] }),?_,⟨k1,rfl,.inl ⟨rfl,hlt,k3,rfl⟩⟩,?_⟩
  ·simp only[if_pos hlt]
  ·simp only[if_pos hlt]
 ·rw[if_neg hlt]at k3
  have hge:needC' C≤secs:=oQ
  refine⟨((cmF s d.D).1,d',cmR s d.D x2),?_,⟨k1,qsm _ _ _,.inr ?_⟩,?_⟩
  ·simp only[if_neg hlt]
  ·rcases hcom hge with ⟨e,hl,hx⟩ |⟨e,hlf,ho⟩
   ·refine .inl ⟨hge,e,?_,?_⟩
    ·show zig d.D d'.D;rw[k3];exact hl
    ·show StX (cmR s d.D x2) d'.D n secs note (zd9 V C) [] (B+601)
     rw[k3];exact hx x2 (kg hlt e)
   ·refine .inr ⟨hge,e,hlf,ql8 e,?_⟩
    show Off d'.D n secs note V (B+601)∨Off d'.D n secs note (zd9 V C) (B+601)
    rw[k3];exact ho
  ·simp only[if_neg hlt]
end Go.Proofs.YthafakdplhdfjaaGreatDoor
namespace Go.Proofs.YthafakdplhdfjaaGreatDoor
open Go.RowKit Go.Eng Go.Eng.Bm Go.Eng.Tr
structure Aft (c:Fc) (g:Sg) (R:List Nat) (x:Fc×Pg):Prop where
 b:x.1.b=c.b
 pb:x.1.pb=c.pb
 N:x.1.N=c.N
 n:x.1.n=c.n
 secs:x.1.secs=c.secs
 note:x.1.note=c.note
 db:x.1.d.b=c.d.b
 left:x.1.d.D.left=none
 B:x.1.B≤c.B+601
 ok:∃g',Fok x.1 g' x.2∧g'.S=g.S∧(∀i,i≠1→g'.W i=g.W i)∧g'.W 1=zbu R
 clean:x.2.C=[]
theorem zu8{C:PR}(h:∀i,([]:PR).lookup i=C.lookup i):C=[]:=by
 cases C with
 |nil=>rfl
 |cons p C=>have:=h p.1;rw[cL]at this;simp at this
variable{c:Fc}{g:Sg}{s:Pg}
theorem Fok.need(h:Fok c g s)(hr:(514*c.N+496)/497≤c.secs):needC' s.C≤c.secs:=by
 have h0:Tok (frC c [] false 0 0) g s:=h
 have hC:PR.Ok s.C c.N:=fun p hp=>by
  have h1:=h0.st.Cok p hp
  refine⟨Nat.lt_of_not_le fun hn=>?_,h1.2⟩
  have h2:=h0.low p.1 hn
  rw[qb2 h0.st.hCn hp]at h2
  cases h2
 have:=zz7 hC h0.st.hCn
 have h3:(514*s.C.length+496)/497≤(514*c.N+496)/497:=Nat.div_le_div_right oQ
 exact cI h3 hr
theorem Fok.over{s':Pg}{d':Dk}(h:Fok c g s)(hb:s'.b=s.b)(hst:StX s' d'.D c.n c.secs c.note (zd9 c.V s.C) [] (c.B+601)):Fok { c with d:=d',V:=zd9 c.V s.C,B:=c.B+601 } g s'∧s'.C=[]:=by
 have h0:Tok (frC c [] false 0 0) g s:=h
 have hC:s'.C=[]:=zu8 hst.eC
 have hv:∀i,i<c.n→ze5 (zd9 c.V s.C) s'.C i=ze5 c.V s.C i:=fun i hi=>by
  rw[hC]
  show(([]:PR).lookup i).getD ((zd9 c.V s.C).getD i [])=_
  rw[zx6 (by have:=h0.st.len;exact Nat.lt_of_lt_of_eq hi this.symm)]
  rfl
 refine⟨⟨hst.self',hb.trans h0.b,fun i h1 h2=>(hv i h2).trans (h0.W i h1 h2),?_,h0.sh,h0.N1,h0.N2,h0.n2,fun i _=>by rw[hC];rfl,h0.hi⟩,hC⟩
 show zy6 c.n (ze5 (zd9 c.V s.C) s'.C 0) g.S
 rw[hv 0 h0.n1]
 exact h0.S
theorem zh1(c:Fc)(R:List Nat)(busy:Bool)(err:Nat)(s:Pg):∀it∈[foI c R busy err s,ctI],it.Stable none':=by
 intro it hm
 rcases hm with _|⟨_,_|⟨_,hm⟩⟩
 ·exact zad _
 ·exact zcb _
 ·cases hm
theorem zuh(h:Fok c g s)(h1N:1<c.N)(hroom:(514*c.N+496)/497≤c.secs)(hB:c.B+700<9223372036854775808)(hleft:c.d.D.left=none){R R0:List Nat}(hl:R.length=8)(hR:∀a∈R,a<65536)(hl0:R0.length=8)(hW:g.W 1=zbu R0){busy:Bool}{err:Nat}:
  Cw Tryz.prog 54 #[.pointer (some ⟨c.b,0,none⟩)] [foI c R busy err s,ctI] (fun _:Fc×Pg=>.int .i64 0) (Aft c g R) (fun x=>[foI x.1 R busy err x.2,ctI]):=by
 intro w hw ha
 have h0:Tok (frC c [] false 0 0) g s:=h
 have hb:s.b=c.pb:=h0.b
 have hpg:pageB s c.d.D 1=g.W 1:=h0.pg (bA _) h1N
 have h':=h0.page (i:=1) h1N
 have hsn:s.n=c.n:=h0.st.hn
 have hb1:(zb1 s c.d.D 1).b=c.pb:=h'.b
 have hn1:(zb1 s c.d.D 1).n=c.n:=h'.st.hn
 have hn2:c.n≤1024:=h0.n2
 have h1n:1<c.n:=aV h1N h0.N2
 refine za2 [_] _ Tryz.func54 rfl rfl hw ha ?_
 simp only[zaa]
 refine zg8 (m':=foL c R busy err s++[ctI]) (fun w h=>zk7 h) ?_
 unfold foL
 simp only[aC,aE]
 refine goA ?_
 rw[←hb]
 refine zay [1,2,0,3,4] rfl rfl ?_
 refine lCu [pgI s c.d,dkI c.d] rfl (zdp s c.d) (fun w1 hw1 hh1 ha1=>zhi s c.d h0.ok h0.lives h0.wait h0.st.dead h0.st.ok 1 oQ w1 hh1 ha1) fun⟨b,_⟩=>?_
 rw[hpg,hW]
 dsimp only
 refine goA ?_
 refine zcy (m':=foI c R busy err (zb1 s c.d.D 1)::[rdI b (zbu R0),ctI]) (fun w' hw'=>zhe (m:=[rdI b (zbu R0),ctI]) (hw'.pick [3,1,2,4,0,5] rfl rfl)) ?_
 refine zdy rfl rfl kQ rfl (fun w1 hw1=>zpq hl hR w1 (zbq.of (hw1.item _ (.head _)) (zad _))) fun x hx=>?_
 simp only[aC,aE]
 refine zch (fun w hw=>(zas (hw.item (own 5 1 x 512 (zae (zbu R))) (.head _)).1).1) fun f1=>?_
 rw[f1]
 refine goA ?_
 refine lPu rfl (fun w1 hw1=>zfp (some ⟨b,0,none⟩) (slA x) 512 512 512 (slC x) (zbu R0) (zbu R) (zem hl0) (zem hl) w1 (qch (hw1.item (rdI b (zbu R0)) mm).1) (za8 (hw1.item (own 5 1 x 512 (zae (zbu R))) mm).1)) ?_
 obtain⟨bb,hbb⟩:∃z,decide (zbu R0=zbu R)=z:=⟨_,rfl⟩
 rw[hbb]
 refine goA ?_
 refine zq3 (w0:=w) (F:=za4 [foI c R busy err s,ctI]) (α:=Pg) (fun _=>[(0,.pointer (some ⟨c.b,0,none⟩)),(4,.int .i64 0)]) (fun s2=>∃g',Fok c g' s2∧g'.S=g.S∧(∀i,i≠1→g'.W i=g.W i)∧g'.W 1=zbu R) (fun s2=>[foI c R busy err s2,ctI]) ?_ fun s2 ⟨g2,k1,k2,k3,k4⟩=>?_
 ·cases bb with
  |true=>
   have e:=of_decide_eq_true hbb
   refine goA ?_
   exact zep (zb1 s c.d.D 1) ⟨rfl,rfl,trivial⟩ ⟨g,Tok.fok (R:=[]) (busy:=false) (err:=0) (i:=0) h',rfl,fun _ _=>rfl,hW.trans e⟩ (fun w' hw'=>hw'.pick [1,3] rfl rfl)
  |false=>
   refine goA ?_
   refine zcy (m':=foL c R busy err (zb1 s c.d.D 1)++[own 5 1 x 512 (zae (zbu R)),ctI]) (fun w h=>zk7 (h.pick [1,0,3] rfl rfl)) ?_
   unfold foL
   simp only[aC,aE]
   refine goA ?_
   rw[←hb1]
   refine zay [1,4,0,2,3,5] rfl rfl ?_
   refine lCu [pgI (zb1 s c.d.D 1) c.d] rfl (zbl _ _) (fun w1 hw1 hh1 ha1=>zqf (zb1 s c.d.D 1) c.d 1 (zbu R) (zem hl) (slA x) (slC x) h'.st.dead oQ w1 hh1 (za8 (hw1.item (own 5 1 x 512 (zae (zbu R))) mm).1) (fun b off e=>zbx hw1 (.head _) ⟨b,off,none⟩ e)) fun⟨_,_⟩=>?_
   have hcc:¬((1:Int)<1∨((zb1 s c.d.D 1).n:Int)≤1):=oQ
   rw[if_neg hcc,if_neg hcc,show(1:Int).toNat=1 from rfl]
   simp only[aC,aE]
   refine goA ?_
   refine zep { zb1 s c.d.D 1 with C:=zeb (zb1 s c.d.D 1).C 1 (zbu R) } ⟨rfl,rfl,trivial⟩ ⟨_,Tok.fok (R:=[]) (busy:=false) (err:=0) (i:=0) (h'.save (bA _) h1N (zem hl)),rfl,fun i hi=>?_,show wr g.W 1 (zbu R) 1=zbu R from ze6 _ _ _⟩ (fun w' hw'=>zhe (m:=[ctI]) (hw'.pick [2,0,3,4,5] rfl rfl))
   show wr g.W 1 (zbu R) i=g.W i
   unfold wr
   rw[if_neg hi]
 ·have k0:Tok (frC c [] false 0 0) g2 s2:=k1
  have hb2:s2.b=c.pb:=k0.b
  refine zg8 (m':=foL c R busy err s2++[ctI]) (fun w h=>zk7 h) ?_
  unfold foL
  simp only[aC,aE]
  refine goA ?_
  rw[←hb2]
  by_cases hC:s2.C=[]
  ·refine lPu rfl (fun w1 hw1=>zvq s2 c.d k0.st.dead hC w1 (zbq.of (hw1.item (pgI s2 c.d) mm) (zbv _ _))) ?_
   refine goA ?_
   refine zbr (m':=foI c R busy err s2::[ctI]) (fun w' hw'=>zhe (m:=[ctI]) hw') ?_
   exact zbd (c,s2) rfl rfl rfl ⟨rfl,rfl,rfl,rfl,rfl,rfl,rfl,hleft,gM _ _,⟨g2,k1,k2,k3,k4⟩,hC⟩ (.refl _) (zh1 _ _ _ _ _)
  ·refine zay [1,2,4,0,3] rfl rfl ?_
   refine lCu [pgI s2 c.d,dkI c.d,ctI] rfl (zdq s2 c.d) (fun w1 hw1 hh1 ha1=>zl7 s2 c.d c.n c.secs c.note c.V s2.C c.B k0.st hB hC w1 hh1 ha1) fun⟨⟨e,d',s3⟩,hx⟩=>?_
   obtain⟨x1,x2,hx⟩:=hx
   have hnd:=k1.need hroom
   simp only at x1 x2 hx⊢
   obtain⟨-,rfl,hlv,hst⟩:needC' s2.C≤c.secs∧e=0∧zig c.d.D d'.D∧StX s3 d'.D c.n c.secs c.note (zd9 c.V s2.C) [] (c.B+601):=by
    rcases hx with ⟨-,h1, -⟩ |hx|⟨-, -,h1, -⟩
    ·omega
    ·exact hx
    ·exact absurd hleft h1
   obtain⟨k5,k6⟩:=k1.over x2 hst
   refine goA ?_
   refine zbr (m':=foI { c with d:=d',V:=zd9 c.V s2.C,B:=c.B+601 } R busy err s3::[ctI]) (fun w' hw'=>zhe (m:=[ctI]) (hw'.pick [3,0,1,4,2] rfl rfl)) ?_
   exact zbd ({ c with d:=d',V:=zd9 c.V s2.C,B:=c.B+601 },s3) rfl rfl rfl ⟨rfl,rfl,rfl,rfl,rfl,rfl,x1,hlv.left hleft,bA _,⟨g2,k5,k2,k3,k4⟩,k6⟩ (.refl _) (zh1 _ _ _ _ _)
end Go.Proofs.YthafakdplhdfjaaGreatDoor
namespace Go.Proofs.YthafakdplhdfjaaGreatDoor
open Go.RowKit Go.Eng Go.Eng.Bm Go.Eng.Tr
variable{n:Nat}{g:Sg}{r:List Rt}
theorem FoV.roots(h:FoV n g r):∀a∈r.map zbj,a≠1∧a<n:=fun a ha=>by
 obtain⟨x,hx,rfl⟩:=aO.1 ha
 obtain⟨i,hi⟩:=List.getElem?_of_mem hx
 have hnd:=h.acc.nodup
 have h1:=h.acc.low 1 (.head _)
 match x,hi,hx with
 |none,_,_=>exact⟨dQ,by show 0<n;omega⟩
 |some ⟨k,t⟩,hi,hx=>
  have hp:pg t∈r.flatMap zjb:=cE.2 ⟨_,hx,zcj t⟩
  refine⟨fun e=>?_,(h.acc.low _ (.tail _ hp)).2⟩
  have e:pg t=1:=e
  rw[e]at hp
  exact(cP.1 hnd).1 hp
def Vok(c:Fc)(r:List Rt):Prop:=∃g,(∀i,1≤i→i<c.n→c.V.getD i []=g.W i)∧zy6 c.n (c.V.getD 0 []) g.S∧(∀i,c.N≤i→i<c.n→g.S i=false)∧FoV c.N g r∧g.W 1=zbu (r.map zbj)
structure Fst (c:Fc) (r:List Rt):Prop where
 N1:1<c.N
 room:(514*c.N+496)/497≤c.secs
 left:c.d.D.left=none
 base:Vok c r
structure Rdy (c:Fc) (r0 r:List Rt) (s:Pg):Prop where
 st:Fst c r0
 now:∃g,Fok c g s∧FoV c.N g r∧g.W 1=zbu (r0.map zbj)
variable{c:Fc}{s:Pg}
theorem Fok.back(h:Fok c g s)(hv:Vok c r):∃g',Fok c g' { s with C:=[] }∧FoV c.N g' r∧g'.W 1=zbu (r.map zbj):=by
 have h0:Tok (frC c [] false 0 0) g s:=h
 obtain⟨g',k1,k2,k3,k4,k5⟩:=hv
 exact⟨g',⟨h0.st.abort,h0.b,k1,k2,h0.sh,h0.N1,h0.N2,h0.n2,fun _ _=>rfl,k3⟩,k4,k5⟩
theorem Fok.keeps(h:Fok c g s)(hC:s.C=[])(hv:FoV c.N g r)(h1:g.W 1=zbu (r.map zbj)):Vok c r:=by
 have h0:Tok (frC c [] false 0 0) g s:=h
 have e:∀i,ze5 c.V s.C i=c.V.getD i []:=fun i=>by rw[hC];rfl
 refine⟨g,fun i h2 h3=>(e i).symm.trans (h0.W i h2 h3),?_,h0.hi,hv,h1⟩
 rw[←e 0]
 exact h0.S
theorem FoV.same{g':Sg}(h:FoV n g r)(hS:g'.S=g.S)(hW:∀i,i≠1→g'.W i=g.W i):FoV n g' r:=by
 refine⟨h.len,fun i x hx=>?_,by rw[hS];exact h.acc⟩
 obtain⟨k1,k2,k3⟩:=h.ok i x hx
 refine⟨k1,k2.frame fun y hy=>hW y fun e=>?_,k3⟩
 subst e
 exact(cP.1 h.acc.nodup).1 (cE.2 ⟨x,cB hx,hy⟩)
structure qsc (c c':Fc):Prop where
 b:c'.b=c.b
 pb:c'.pb=c.pb
 N:c'.N=c.N
 n:c'.n=c.n
 secs:c'.secs=c.secs
 note:c'.note=c.note
 db:c'.d.b=c.d.b
 B:c'.B≤c.B+601
def eeF(er ex:Nat):Nat:=if er=0 then ex else er
variable{err:Nat}
theorem zpn{r0:List Rt}(h:Rdy c r0 r0 s)(hB:c.B+700<9223372036854775808){X:Type}{fd:FuncId}{cs:List Value}(hb:za7 Tryz.prog fd=true)(D:List Eng.Item)(D':X→List Eng.Item)(hsD:∀it∈D,it.Stable none')(hsD':∀x,∀it∈D' x,it.Stable none')(ex er:X→Nat)(rx:X→List Rt)(sx:X→Pg)(φ:X→Prop)(hφ:∀x,φ x→Rdy c r0 (rx x) (sx x))
  (hdo:∀w1,(∀it∈foI c (r0.map zbj) true 0 s::D,zbq it w1)→(foI c (r0.map zbj) true 0 s::D).Pairwise Eng.Item.Apart→Ct Tryz.prog fd cs.toArray w1 (za4 (foI c (r0.map zbj) true 0 s::D)) (fun x:X=>.int .i64 (ex x:Nat)) φ (fun x=>foI c ((rx x).map zbj) true (er x) (sx x)::D' x)):
  Cw Tryz.prog 18 #[.pointer (some ⟨c.b,0,none⟩),.func (.func fd) #[] cs.toArray] (foI c (r0.map zbj) false err s::ctI::D) (fun x:X×Fc×Pg=>.int .i64 (eeF (er x.1) (ex x.1):Nat))
   (fun x=>φ x.1∧qsc c x.2.1∧Rdy x.2.1 (if eeF (er x.1) (ex x.1)=0 then rx x.1 else r0) (if eeF (er x.1) (ex x.1)=0 then rx x.1 else r0) x.2.2) (fun x=>foI x.2.1 ((if eeF (er x.1) (ex x.1)=0 then rx x.1 else r0).map zbj) false (er x.1) x.2.2::ctI::D' x.1):=by
 intro w hw hap
 obtain⟨g,k1,k2,k3⟩:=h.now
 have hl:(r0.map zbj).length=8:=by rw[aD];exact k2.len
 refine za2 [_,_] _ Tryz.func18 rfl rfl hw hap ?_
 simp only[zaa,Nat.reduceAdd]
 refine goA ?_
 refine l_w rfl (zwf (v':=.bool false) (ov fun _ _ _ _ _=>rfl) rfl) ?_
 refine goA ?_
 refine l_w rfl (qpg (c:=c) (R:=r0.map zbj) (s:=s) rfl (.head _) (zl2 hl false err).1 rfl) ?_
 refine goA ?_
 refine zcy (m':=foL c (r0.map zbj) false err s++(ctI::D)) (fun w h=>zk7 h) ?_
 unfold foL
 simp only[aC,aE]
 refine goA ?_
 refine za1 rfl (qb8 hl rfl rfl rfl rfl) fun _=>?_
 refine goA ?_
 refine za1 rfl (qhe (e':=0) hl rfl rfl rfl rfl) fun _=>?_
 refine goA ?_
 refine zcy (m':=(foI c (r0.map zbj) true 0 s::D)++[ctI]) (fun w hw=>(zhe (m:=ctI::D) hw).perm (.cons _ (fI _ _).symm)) ?_
 have hst:∀it∈foI c (r0.map zbj) true 0 s::D,it.Stable none':=fun it hm=>by
  rcases aI.1 hm with rfl|hm
  ·exact zad _
  ·exact hsD it hm
 refine zeh rfl (zx1 (pre:=foI c (r0.map zbj) true 0 s::D) (fs:=[]) (cs:=cs) rfl hb rfl rfl rfl hst (fun w1 hw1 hh1 ha1=>hdo w1 hh1 ha1)) fun⟨x,hx⟩=>?_
 obtain⟨g2,j1,j2,j3⟩:=(hφ x hx).now
 have hl':((rx x).map zbj).length=8:=by rw[aD];exact j2.len
 have j0:Tok (frC c [] false 0 0) g2 (sx x):=j1
 have hb2:(sx x).b=c.pb:=j0.b
 have hlt:∀a∈(rx x).map zbj,a<65536:=fun a ha=>by
  have h5:a<1024:=aV (FoV.roots j2 a ha).2 (cI j0.N2 j0.n2)
  omega
 refine zcy (m':=foL c ((rx x).map zbj) true (er x) (sx x)++(ctI::D' x)) (fun w hw=>zk7 (hw.perm (.cons _ (fI _ _)))) ?_
 unfold foL
 simp only[aC,aE]
 refine goA ?_
 refine za1 rfl (qb8 hl' rfl rfl rfl rfl) fun _=>?_
 refine goA ?_
 refine l_w rfl (qrw rfl (.head _) (zl2 hl' false (er x)).2 rfl) ?_
 refine goA ?_
 have hfin:∀z:X×Fc×Pg,∀it∈foI z.2.1 ((if eeF (er z.1) (ex z.1)=0 then rx z.1 else r0).map zbj) false (er z.1) z.2.2::ctI::D' z.1,it.Stable none':=fun z it hm=>by
  rcases aI.1 hm with rfl|hm
  ·exact zad _
  ·rcases aI.1 hm with rfl|hm
   ·exact zcb _
   ·exact hsD' z.1 it hm
 obtain⟨ee,hee⟩:∃z,eeF (er x) (ex x)=z:=⟨_,rfl⟩
 refine zq3 (w0:=w) (F:=za4 (foI c (r0.map zbj) false err s::ctI::D)) (α:=Unit) (fun _=>[(0,.pointer (some ⟨c.b,0,none⟩)),(5,.int .i64 (ee:Nat))]) (fun _=>True) (fun _=>foC c ((rx x).map zbj) false (er x)::pgI (sx x) c.d::dkI c.d::tzI::ctI::D' x) ?_ fun _ _=>?_
 ·by_cases h0:er x=0
  ·rw[show ee=ex x by rw[←hee];exact if_pos h0,h0]
   refine goA ?_
   exact zep () ⟨rfl,rfl,trivial⟩ trivial (fun w' hw'=>hw')
  ·rw[show ee=er x by rw[←hee];exact if_neg h0]
   refine goA ?_
   refine l_w rfl (qrw rfl (.head _) (zl2 hl' false (er x)).2 rfl) ?_
   refine goA ?_
   exact zep () ⟨rfl,rfl,trivial⟩ trivial (fun w' hw'=>hw')
 ·by_cases h0:ee=0
  ·subst h0
   refine goA ?_
   refine zcy (m':=[foI c ((rx x).map zbj) false (er x) (sx x),ctI]++D' x) (fun w hw=>zhe (m:=ctI::D' x) hw) ?_
   refine lCu [foI c ((rx x).map zbj) false (er x) (sx x),ctI] rfl (zh1 _ _ _ _ _) (fun w1 hw1 hh1 ha1=>zuh j1 h.st.N1 h.st.room hB h.st.left hl' hlt hl j3 w1 hh1 ha1) fun⟨⟨c',s'⟩,af⟩=>?_
   have af:Aft c g2 ((rx x).map zbj) (c',s'):=af
   obtain⟨a1,a2,a3,a4,a5,a6,a7,a8,a9,⟨g3,b1,b2,b3,b4⟩,a10⟩:=af
   simp only at a1 a2 a3 a4 a5 a6 a7 a8 a9 b1 a10
   simp only[aC,aE]
   refine goA ?_
   have hV:=FoV.same j2 b2 b3
   have hR:Rdy c' (rx x) (rx x) s':=by
    refine⟨⟨by rw[a3];exact h.st.N1,by rw[a3,a5];exact h.st.room,a8,b1.keeps a10 (by rw[a3];exact hV) b4⟩,g3,b1,by rw[a3];exact hV,b4⟩
   exact zbd (x,c',s') rfl rfl (by rw[hee];rfl) ⟨hx,⟨a1,a2,a3,a4,a5,a6,a7,a9⟩,by rw[hee];exact hR⟩ (by simp only;rw[hee];exact .refl _) (hfin (x,c',s'))
  ·obtain⟨g0,c1,c2,c3⟩:=Fok.back j1 h.st.base
   have c0:Tok (frC c [] false 0 0) g0 { sx x with C:=[] }:=c1
   refine goA ?_
   rw[←hb2]
   refine zgb (zcg _ _ _) ?_
   refine lCu [pgI (sx x) c.d] rfl (zbl _ _) (fun w1 hw1 hh1 ha1=>zk2 (sx x) c.d w1 hh1) fun⟨_,_⟩=>?_
   simp only[aC,aE]
   refine zgb (zcg _ _ _) ?_
   refine goA ?_
   refine zcy (m':=qny c (frT c.pb 0 ((rx x).map zbj)) false (er x) { sx x with C:=[] }++(ctI::D' x)) (fun w hw=>hw) ?_
   refine lCu (qny c (frT c.pb 0 ((rx x).map zbj)) false (er x) { sx x with C:=[] }) rfl (zpp _ _ _ _ _) (fun w1 hw1 hh1 ha1=>zpo c1 h.st.N1 (by rw[zhr,hl']) hl (fun a ha=>⟨(FoV.roots c2 a ha).1,aV (FoV.roots c2 a ha).2 c0.N2⟩) c3 w1 hh1 ha1) fun⟨s',hs'⟩=>?_
   have hs':Fok c g0 s':=hs'
   simp only[aC,aE]
   refine goA ?_
   exact zbd (x,c,s') rfl rfl (by rw[hee]) ⟨hx,⟨rfl,rfl,rfl,rfl,rfl,rfl,rfl,gM _ _⟩,by rw[hee,if_neg h0];exact⟨h.st,g0,hs',c2,c3⟩⟩ (by simp only;rw[hee,if_neg h0];exact .refl _) (hfin (x,c,s'))
theorem StX.has'{D:Dsk}{secs:Nat}{note:Bys}{V:List Bys}{C:PR}{B:Nat}(h:StX s D n secs note V C B)(hB:B<9223372036854775808):∃hd c TS,zy7 D n secs note V B hd c TS:=by
 obtain⟨TS,h1⟩:=h.st
 exact⟨_,_,_,h1.rec' hB⟩
def r8:List Rt:=List.replicate 8 none
theorem qri:zbu (r8.map zbj)=zej:=by decide+kernel
def S01:Nat→Bool:=us (upd noU 0 true) 1 true
variable{N:Nat}
theorem qtu(h:1<N)(W:Nat→Bys):FoV N ⟨W,S01⟩ r8:=by
 refine⟨rfl,fun i x hx=>?_,⟨?_,fun i _=>?_,fun x hx=>?_⟩⟩
 ·obtain rfl:x=none:=iM (cB hx)
  exact⟨trivial,trivial,List.Pairwise.nil⟩
 ·show(1::[]).Nodup
  simp
 ·show S01 i=true↔i=0∨i∈[1]
  unfold S01 us upd noU
  by_cases h1:i=1
  ·simp[h1]
  ·by_cases h0:i=0<;>simp[h0,h1]
 ·have hx:x∈[1]:=hx
  rw[aK.1 hx]
  omega
theorem qn1(hs:StX s c.d.D c.n c.secs c.note (V0 c.n) [] c.B)(hb:s.b=c.pb)(hV:c.V=V0 c.n)(h1:1<c.N)(hN:c.N≤c.n)(hn:c.n≤1024):Fok c ⟨fun i=>(V0 c.n).getD i [],upd noU 0 true⟩ s∧s.C=[]:=by
 have hC:s.C=[]:=zu8 hs.eC
 refine⟨⟨by rw[←hV]at hs;exact hs.self',hb,fun i _ _=>?_,?_,qjz (i:=0) dQ,by show 1≤c.N;omega,hN,hn,fun i _=>by rw[hC];rfl,fun i hi _=>?_⟩,hC⟩
 ·show ze5 c.V s.C i=_
  rw[hC,hV]
  rfl
 ·show zy6 c.n (ze5 c.V s.C 0) _
  rw[hC,hV]
  show zy6 c.n ((V0 c.n).getD 0 []) _
  rw[aH,qng oQ]
  exact ql9 c.n oQ
 ·have hi:c.N≤i:=hi
  show upd noU 0 true i=false
  unfold upd noU
  simp
  omega
theorem qk3(h:1<N)(W:Nat→Bys):zh8 N ⟨W,upd noU 0 true⟩= .ok (1,⟨wr W 1 zej,S01⟩):=by
 have hf:∃i,i<N∧upd noU 0 true i=false:=⟨1,h,dQ⟩
 obtain⟨f1,f2,f3⟩:=zjr hf
 have e:nw N (upd noU 0 true)=1:=by
  rcases gX (nw N (upd noU 0 true)) 1 with h1|h1|h1
  ·rw[show nw N (upd noU 0 true)=0 by omega]at f1;exact absurd f1 dQ
  ·exact h1
  ·exact absurd (f3 1 h1) dQ
 unfold zh8
 rw[if_pos hf,e]
 rfl
theorem zuj(d:Dk)(N nn log:Nat)(hd:d.D=zvd N)(hN:N≤4096)(hl1:96≤log)(hl2:log≤512)(hn1:64≤nn)(hn2:nn≤1024)(hroom:2+log+nn≤N)(M:Nat)(hM:1<M)(hMn:M≤nn)(hMl:(514*M+496)/497≤log):
  Cw Tryz.prog 44 #[.pointer (some ⟨d.b,0,none⟩),.int .i64 (log:Int),.int .i64 (nn:Int),.string ⟨zvf.toArray⟩] [dkI d,ctI,tzI] (fun _:Fc×Pg=>.int .i64 0) (fun x=>x.1.d.b=d.b∧x.1.N=M∧x.1.n=nn∧x.1.secs=log∧x.1.note=zvf∧x.1.B=603∧x.2.C=[]∧x.1.d.D.left=none∧Vok x.1 r8∧∃g,Fok x.1 g x.2) (fun x=>[dkI x.1.d,ctI,tzI]):=by
 intro w hw ha
 refine za2 [_,_,_,_] _ Tryz.func44 rfl rfl hw ha ?_
 simp only[zaa,Nat.reduceAdd]
 refine goA ?_
 refine lCu [dkI d,ctI] rfl (zbo d) (fun w1 hw1 hh1 ha1=>zw7 d N log nn zvf hd hN hl1 hl2 hn1 hn2 dQ hroom w1 hh1 ha1) fun⟨d1,k1,f2,f3,f6,f4,hh,f5⟩=>?_
 simp only[aC,aE]
 refine goA ?_
 rw[←k1]
 refine lCu [dkI d1,ctI] rfl (zbo d1) (fun w1 hw1 hh1 ha1=>zqk d1 nn log zvf (V0 nn) 1 f6 f2 f4 dQ ⟨_,_,_,f5⟩ ⟨_,by rw[aH,qng oQ];exact ql9 nn oQ⟩ w1 hh1 ha1) fun⟨⟨d2,so⟩,hd2⟩=>?_
 obtain⟨q1,q2⟩:=hd2
 cases so with
 |none=>exact absurd f3 q2.1
 |some s=>
  obtain⟨q2,q3⟩:=q2
  simp only[bX,gB,if_true,oqI,aC,aE]
  obtain⟨c,hc⟩:∃c:Fc,c=⟨d2,0,s.b,M,nn,log,zvf,V0 nn,2⟩:=⟨_,rfl⟩
  have kk:=qn1 (c:=c) (s:=s) (by rw[hc];exact q3) (by rw[hc]) (by rw[hc]) (by rw[hc];exact hM) (by rw[hc];exact hMn) (by rw[hc];exact hn2)
  have hpn:=qk3 (N:=M) hM (fun i=>(V0 c.n).getD i [])
  have k0:Tok (frC c [] false 0 0) ⟨fun i=>(V0 c.n).getD i [],upd noU 0 true⟩ s:=kk.1
  obtain⟨t1,hq1,hq2,hq3, -⟩:=k0.alloc (q:=1) (g':=⟨wr (fun i=>(V0 c.n).getD i []) 1 zej,S01⟩) (by rw[hc]at hpn⊢;exact hpn)
  have ed:(frC c [] false 0 0).d=d2:=by rw[hc];rfl
  rw[ed]at t1
  have hsb:(znt s d2.D (upd noU 0 true) 1).b=s.b:=by have:=t1.b;rw[hc]at this;exact this
  refine goA ?_
  refine zay [0,1,3,2] rfl rfl ?_
  refine lCu [pgI s d2,dkI d2,tzI] rfl (zgv s d2) (fun w1 hw1 hh1 ha1=>zn7 s d2 (by have:=k0.ok;rwa[ed]at this) (by have:=k0.lives;rwa[ed]at this) (by have:=k0.wait;rwa[ed]at this) k0.st.dead (by have:=k0.st.ok;rwa[ed]at this) (upd noU 0 true) (by have:=k0.hS;rwa[ed]at this) (by rw[k0.st.hn];exact k0.S.2.1) k0.S.2.2 1 hq1 hq2 hq3 w1 hh1 ha1) fun⟨_,_⟩=>?_
  simp only[aC,aE]
  refine goA ?_
  obtain⟨s1,hs1⟩:∃z,znt s d2.D (upd noU 0 true) 1=z:=⟨_,rfl⟩
  have hC1:s1.C≠[]:=fun e=>by
   have h2:=zcp (zeb (zb1 s d2.D 0).C 0 (bmB s.n (upd (upd noU 0 true) 1 true))) 1 zej 1
   rw[if_pos rfl]at h2
   have e2:zeb (zeb (zb1 s d2.D 0).C 0 (bmB s.n (upd (upd noU 0 true) 1 true))) 1 zej=[]:=by rw[←hs1]at e;exact e
   rw[e2]at h2
   cases h2
  rw[hs1]at t1 hsb⊢
  have f1:Fok c ⟨wr (fun i=>(V0 c.n).getD i []) 1 zej,S01⟩ s1:=t1
  refine zay [0,1,3,2] rfl rfl ?_
  simp only[bX]
  rw[←hsb]
  have hst1:StX s1 d2.D nn log zvf (V0 nn) s1.C 2:=by have:=t1.st;rw[hc]at this;exact this
  refine lCu [pgI s1 d2,dkI d2,ctI] rfl (zdq s1 d2) (fun w1 hw1 hh1 ha1=>zl7 s1 d2 nn log zvf (V0 nn) s1.C 2 hst1 dQ hC1 w1 hh1 ha1) fun⟨⟨e,d',s3⟩,hx⟩=>?_
  obtain⟨x1,x2,hx⟩:=hx
  subst hc
  have hnd:=f1.need hMl
  simp only at x1 x2 hx hnd⊢
  obtain⟨-,rfl,hlv,hst⟩:needC' s1.C≤log∧e=0∧zig d2.D d'.D∧StX s3 d'.D nn log zvf (zd9 (V0 nn) s1.C) [] (2+601):=by
   rcases hx with ⟨-,h1, -⟩ |hx|⟨-, -,h1, -⟩
   ·omega
   ·exact hx
   ·exact absurd (q2.left f3) h1
  obtain⟨k5,k6⟩:=f1.over x2 hst
  simp only[aC,aE]
  refine goA ?_
  have hv:FoV M ⟨wr (fun i=>(V0 nn).getD i []) 1 zej,S01⟩ r8:=qtu hM _
  exact zbd (_,s3) rfl rfl rfl ⟨x1.trans q1,rfl,rfl,rfl,rfl,rfl,k6,hlv.left (q2.left f3),k5.keeps k6 hv (show wr (fun i=>(V0 nn).getD i []) 1 zej 1=_ from(ze6 _ _ _).trans qri.symm),_,k5⟩ (.cons _ (.cons_cons _ (.cons_cons _ (.cons_cons _ (aG _))))) (by simp[zgz,zcb,dkI,zad])
def X0:List Value:=[.pointer none,.int .i64 0,.int .i64 0,.int .i64 0,.pointer none,.int .i64 0,.int .i64 0,.int .i64 0,.pointer none,.int .i64 0,.int .i64 0,.int .i64 0,.pointer none,.int .i64 0,.int .i64 0,.int .i64 0,.pointer none,.int .i64 0,.int .i64 0,.int .i64 0,.pointer none,.int .i64 0,.int .i64 0,.int .i64 0,.pointer none,.int .i64 0,.int .i64 0,.int .i64 0,.pointer none,.int .i64 0,.int .i64 0,.int .i64 0]
theorem zzs{s0:Pg}(hk:Fok c g s0)(hC:s0.C=[])(hv:Vok c r)(hN:1<c.N)(hroom:(514*c.N+496)/497≤c.secs)(hleft:c.d.D.left=none)(hB:c.B+1<9223372036854775808):
  Cw Tryz.prog 37 #[.pointer (some ⟨c.d.b,0,none⟩)] [dkI c.d,ctI,tzI] (fun x:Fc×Pg=>.tuple #[.pointer (some ⟨x.1.b,0,none⟩),.int .i64 0]) (fun x=>x.1.d.b=c.d.b∧x.1.N=c.N∧x.1.n=c.n∧x.1.secs=c.secs∧x.1.note=c.note∧x.1.B=c.B+1∧Rdy x.1 r r x.2) (fun x=>[foI x.1 (r.map zbj) false 0 x.2,ctI]):=by
 intro w hw ha
 have h0:Tok (frC c [] false 0 0) g s0:=hk
 have hst:StX s0 c.d.D c.n c.secs c.note c.V s0.C c.B:=h0.st
 refine za2 [_] _ Tryz.func37 rfl rfl hw ha ?_
 simp only[zaa]
 refine goA ?_
 refine lCu [dkI c.d,ctI] rfl (zbo c.d) (fun w1 hw1 hh1 ha1=>zqk c.d c.n c.secs c.note c.V c.B hst.keep hst.rest hst.siz hB (hst.has' oQ) hst.p0 w1 hh1 ha1) fun⟨⟨d2,so⟩,hd2⟩=>?_
 obtain⟨q1,q2⟩:=hd2
 cases so with
 |none=>exact absurd hleft q2.1
 |some s=>
  obtain⟨q2,q3⟩:=q2
  have q1:d2.b=c.d.b:=q1
  have q2:zig c.d.D d2.D:=q2
  have q3:StX s d2.D c.n c.secs c.note c.V [] (c.B+1):=q3
  simp only[bX,gB,if_true,oqI,aC,aE]
  obtain⟨g0,w1,w2,w3,w4,w5⟩:=hv
  have hCs:s.C=[]:=zu8 q3.eC
  refine goA ?_
  refine zbp rfl rfl fun b6 hb6=>?_
  refine goA ?_
  have kf:Fok { c with d:=d2,b:=b6,pb:=s.b,B:=c.B+1 } g0 s:=⟨q3.self',rfl,fun i h1 h2=>by show ze5 c.V s.C i=_;rw[hCs];exact w1 i h1 h2,by show zy6 c.n (ze5 c.V s.C 0) _;rw[hCs];exact w2,qjz (i:=0) dQ,h0.N1,h0.N2,h0.n2,fun i _=>by rw[hCs];rfl,w3⟩
  have hl8:(r.map zbj).length=8:=by rw[aD];exact w4.len
  refine zcy (m':=qny { c with d:=d2,b:=b6,pb:=s.b,B:=c.B+1 } X0 false 0 s++[ctI]) (fun w' hw'=>hw'.pick [0,1,2,4,3] rfl rfl) ?_
  refine lCu (qny { c with d:=d2,b:=b6,pb:=s.b,B:=c.B+1 } X0 false 0 s) rfl (zpp _ _ _ _ _) (fun w1 hw1 hh1 ha1=>zpo kf hN rfl hl8 (fun a ha=>⟨(FoV.roots w4 a ha).1,aV (FoV.roots w4 a ha).2 h0.N2⟩) w5 w1 hh1 ha1) fun⟨s',hs'⟩=>?_
  have hs':Fok { c with d:=d2,b:=b6,pb:=s.b,B:=c.B+1 } g0 s':=hs'
  simp only[aC,aE]
  refine goA ?_
  exact zc1 ({ c with d:=d2,b:=b6,pb:=s.b,B:=c.B+1 },s') rfl rfl rfl rfl ⟨q1,rfl,rfl,rfl,rfl,rfl,⟨hN,hroom,q2.left hleft,⟨g0,w1,w2,w3,w4,w5⟩⟩,g0,hs',w4,w5⟩ (.refl _) (zh1 _ _ _ _ _)
def fsA(db fb:Nat):Array Value:= #[.pointer (some ⟨db,0,none⟩),.pointer (some ⟨fb,0,none⟩),.slice none 0 0,.slice none 0 0,.slice none 0 0,.slice none 0 0,.slice none 0 0,.slice none 0 0,.slice none 0 0,.slice none 0 0,.slice none 0 0,.slice none 0 0,.slice none 0 0,.slice none 0 0,.slice none 0 0,.slice none 0 0,.slice none 0 0,.slice none 0 0]
def fsC(xb db fb:Nat):Eng.Item:=pt xb (.cells (fsA db fb) 41 (0,0))
structure Beg (c:Fc) (s:Pg):Prop where
 rdy:Rdy c r8 r8 s
 N:c.N=120
 n:c.n=256
 secs:c.secs=128
 note:c.note=zvf
 B:c.B=604
theorem zlx:
  Cw Tryz.prog 10 #[] [ctI,tzI] (fun x:Nat×Fc×Pg=>.tuple #[.pointer (some ⟨x.1,0,none⟩),.bool true]) (fun x=>Beg x.2.1 x.2.2) (fun x=>[fsC x.1 x.2.1.d.b x.2.1.b,foI x.2.1 (r8.map zbj) false 0 x.2.2,ctI]):=by
 intro w hw ha
 refine za2 [] _ Tryz.func10 rfl rfl hw ha ?_
 simp only[zaa]
 refine goA ?_
 refine zdy rfl rfl kQ rfl (fun w1 hw1=>qdd 386 oQ w1) fun x hx=>?_
 simp only[aC,aE]
 refine goA ?_
 refine lCu [dkI x,ctI,tzI] rfl (by simp[zgz,zcb,dkI,zad]) (fun w1 hw1 hh1 ha1=>zuj x 386 256 128 hx dQ dQ dQ dQ dQ dQ 120 dQ dQ dQ w1 hh1 ha1) fun⟨⟨c,s0⟩,hf⟩=>?_
 obtain⟨k1,k2,k3,k4,k5,k6,k7,k8,k9,g,k10⟩:=hf
 simp only at k1 k2 k3 k4 k5 k6 k7 k8 k9 k10
 simp only[aC,aE]
 refine goA ?_
 rw[←k1]
 refine lCu [dkI c.d,ctI,tzI] rfl (by simp[zgz,zcb,dkI,zad]) (fun w1 hw1 hh1 ha1=>zzs k10 k7 k9 (by rw[k2];decide) (by rw[k2,k4];decide) k8 (by rw[k6];decide) w1 hh1 ha1) fun⟨⟨c1,s1⟩,hf⟩=>?_
 obtain⟨j1,j2,j3,j4,j5,j6,j7⟩:=hf
 simp only at j1 j2 j3 j4 j5 j6 j7
 simp only[aC,aE]
 rw[←j1]
 refine goA ?_
 refine zbp rfl rfl fun b24 hb24=>?_
 refine goA ?_
 refine zc1 (b24,c1,s1) rfl rfl rfl rfl ⟨j7,j2.trans k2,j3.trans k3,j4.trans k4,j5.trans k5,by rw[j6,k6]⟩ (.refl _) ?_
 intro it hm
 rcases hm with _|⟨_,hm⟩
 ·exact zab _ _ _
 ·exact zh1 _ _ _ _ _ it hm
theorem zsj(n:Nat)(h0:0<n)(hn:n<4294967296)(w:World):Pu Tryz.prog 47 #[kV (beN 4 n)] w (.tuple #[.int .u32 (n:Nat),.int .i64 0]):=by
 have hlen:(beN 4 n).length=4:=zal 4 n
 have hop:opN 4 (beN 4 n,false)=(n,([],false)):=by
  have:=zgc (w:=4) (n:=n) oQ []
  rwa[aU]at this
 refine zbn [_] Tryz.func47 rfl rfl ?_
 simp only[zaa]
 refine goA ?_
 refine za1 rfl (zs3 rfl rfl rfl rfl) fun⟨p1,hp1,hp2⟩=>?_
 dsimp only
 rw[show(kB (beN 4 n)).data.toList=beN 4 n from rfl,show(kB (beN 4 n)).size=4 by rw[zju];exact hlen]
 refine goA ?_
 refine zdy rfl rfl kQ rfl (fun w1 hw1=>zih (some ⟨p1.1,0,none⟩) 4 p1.2 (beN 4 n) hlen dQ w1 (.inr ⟨p1.1,0,rfl,zib (hw1.item (zmk 5 (beN 4 n) p1.1 p1.2) (.head _)).1⟩)) fun x hx=>?_
 obtain⟨b,oD⟩:=x
 simp only at hx⊢
 have hsD:(own 5 1 oD 4 (zae (beN 4 n))).Stable none':=zac _ _ _ _ _ _
 generalize own 5 1 oD 4 (zae (beN 4 n))=D at hx hsD
 simp only[aC,aE]
 refine goA ?_
 refine l_w rfl (qix rfl) ?_
 refine goA ?_
 refine zeh rfl (zx1 (pre:=[opI b (slA oD) (slC oD) (beN 4 n,false),D]) (fs:=[.pointer (some ⟨b,0,none⟩)]) (cs:=[]) rfl kQ rfl rfl rfl (by simp[zak,hsD]) (fun w1 hw1 hh1 ha1=>zhh n _ hop hsD hx (.inr (.inr rfl)) (by rw[hlen];decide) hh1 ha1)) fun⟨y,hy⟩=>?_
 simp only[aC,aE]
 refine goA ?_
 refine lPu rfl (fun w1 hw1=>zwz b y.1 y.2 ([],false) w1 (zbq.of (hw1.item _ (.head _)) (zak _ _ _ _))) ?_
 refine goA ?_
 exact zie rfl rfl rfl rfl
abbrev haC(b:Nat)(h:Bys):Eng.Item:=pt b (.cells (h.map fun c=>Value.int .u8 (c.toNat:Int)).toArray 45 (0,0))
theorem zmu{w:World}{b:Nat}{h:Bys}(hp:(haC b h).prop w):∀j (hj:j<h.length),w.cell? ((⟨b,0,none⟩:Addr).add j)=some (.int .u8 (h[j].toNat:Int)):=fun j hj=>by
 have:=zbf hp j (.int .u8 (h[j].toNat:Int)) (by rw[aP,aB hj];rfl)
 rw[aL]at this
 unfold Addr.add
 by_cases h0:j=0
 ·subst h0;exact this
 ·simpa[h0]using this
def cnt?(m:Nat):Option K:=if m=0 then none else some (beN 4 m)
theorem zse(h:Fok c g s){R:List Nat}{busy:Bool}{a:Nat}(ha:R[0]? =some a)(hb:Bys)(hbl:hb.length=32){m:Nat}(hm:m<4294967296)(hl:zua (fSh 0) c.N g hb (a:Nat)= .ok (cnt? m)):
  Cv Tryz.prog 12 #[.pointer (some ⟨c.b,0,none⟩),zng hb] [foI c R busy err s] (fun _:Pg=>.tuple #[.int .u32 (m:Nat),.int .i64 0]) (fun s'=>Fok c g s') (fun s'=>[foI c R busy err s']):=by
 intro w hw
 refine za2 [_,_] _ Tryz.func12 rfl rfl hw (.cons (fun _ h=>nomatch h) .nil) ?_
 simp only[zaa,Nat.reduceAdd]
 unfold zng
 refine goA ?_
 refine zbp rfl rfl fun b3 hb3=>?_
 refine goA ?_
 refine l_w rfl (zg9 rfl rfl rfl rfl) ?_
 refine goA ?_
 refine l_w rfl (zlp (bs:=hb) rfl hbl.symm rfl rfl rfl (fun w' hw'=>zmu (hw'.item (haC b3 hb) (.head _)).1)) ?_
 refine goA ?_
 refine zgb (zcg _ _ _) ?_
 refine lCu [foI c R busy err s] rfl (zb3 _ _ _ _ _) (fun w1 hw1 hh1 ha1=>qe8 (i:=0) h dQ ha hb hbl hl w1 hh1) fun⟨s',hs'⟩=>?_
 simp only[aC,aE]
 unfold cnt?
 by_cases h0:m=0
 ·subst h0
  simp only[if_true,iS,jI]
  refine goA ?_
  exact zc1 s' rfl rfl rfl rfl hs' (.cons_cons _ (aG _)) (zb3 _ _ _ _ _)
 ·rw[if_neg h0]
  simp only[gB,dK]
  refine goA ?_
  refine lPu rfl (fun w1 hw1=>zsj m oQ hm w1) ?_
  refine goA ?_
  exact zc1 s' rfl rfl rfl rfl hs' (.cons_cons _ (aG _)) (zb3 _ _ _ _ _)
end Go.Proofs.YthafakdplhdfjaaGreatDoor
namespace Go.Eng
open Go.RowKit
theorem ql3{P:Program}{l:zav}{H:World→Prop}{ty T:TypeId}{x:Operand}{a:Int}(hx:evO l x=some (.int .i64 a))(h: -9223372036854775808≤ -a∧ -a<9223372036854775808):OV P (.unOp .neg T x) ty l H (.int .i64 (-a)):=ov fun _ _ _ w _=>by
 have e:(Op.unary .neg (.int .i64 a):Sem Value).run P w= .ok (.int .i64 (-a)) w:=by
  show Result.ok (Value.int .i64 (IntKind.i64.wrap (0 - a))) w=_
  rw[Int.zero_sub,zxd _ h.1 h.2]
 simp only[execOp,zar hx,Sem.run_bind,e]
 rfl
end Go.Eng
namespace Go.Proofs.YthafakdplhdfjaaGreatDoor
open Go.RowKit Go.Eng Go.Eng.Bm Go.Eng.Tr
def setC(e:E)(k:K)(m:Nat):E:=if m=0 then zfy e k else zfx e k (beN 4 m)
theorem qj7{w:World}{e:TypeId}{b c n:Nat}{h:Bys}(hp:(own e 1 (some (b,c)) n (zae h)).prop w):∀j (hj:j<h.length),w.cell? ((⟨b,0,none⟩:Addr).add j)=some (.int .u8 (h[j].toNat:Int)):=fun j hj=>by
 have:=zby hp j (.int .u8 (h[j].toNat:Int)) (by unfold zae;rw[aP,aB hj];rfl)
 unfold Addr.add
 by_cases h0:j=0
 ·subst h0;exact this
 ·simpa[h0]using this
structure Few (n K k:Nat):Prop where
 le:n≤1024
 lo:K≤5*2^k
 rm:(4*(K/5)+32)/3+k+4<n
 dp:k<16
abbrev okC(m:Nat)(by_:Int):Prop:= -(m:Int)≤by_∧by_≤4294967295 - (m:Int)
structure qmf (c:Fc) (g:Sg) (r:List Rt) (x:Rt) (hb:Bys) (m:Nat) (by_:Int) (y:List Rt×Pg):Prop where
 now:∃g',Fok c g' y.2∧FoV c.N g' y.1∧g'.W 1=g.W 1
 set:∃x',y.1=r.set 0 x'∧zdb x'=if okC m by_ then setC (zdb x) hb ((m:Int)+by_).toNat else zdb x
theorem zlv{c:Fc}{g:Sg}{s:Pg}(h:Fok c g s){r:List Rt}(hv:FoV c.N g r){K k:Nat}(hf:Few c.N K k)(ht:zq9 r≤K){xr:Rt}(hx:r[0]? =some xr){err:Nat}(hb:Bys)(hbl:hb.length=32){m:Nat}(hm:m<4294967296)(hg:zi6 (zdb xr) hb=cnt? m)(by_:Int)(hby: -9223372036854775808≤by_∧by_<9223372036854775808):
  Cv Tryz.prog 15 #[.pointer (some ⟨c.b,0,none⟩),zng hb,.int .i64 by_] [foI c (r.map zbj) true err s] (fun _:List Rt×Pg=>.tuple #[.int .u32 (if okC m by_ then((m:Int)+by_).toNat else 0:Nat),.int .i64 (if okC m by_ then 0 else 2:Nat)]) (qmf c g r xr hb m by_) (fun y=>[foI c (y.1.map zbj) true err y.2]):=by
 intro w hw
 have hl:(r.map zbj).length=8:=by rw[aD];exact hv.len
 have ha:(r.map zbj)[0]? =some (zbj xr):=by rw[aP,hx];rfl
 have hget:=FoV.get hv hf.le ht hf.lo hf.rm hf.dp hx hb
 rw[hg]at hget
 refine za2 [_,_,_] _ Tryz.func15 rfl rfl hw (.cons (fun _ h=>nomatch h) .nil) ?_
 simp only[zaa,Nat.reduceAdd]
 unfold zng
 refine goA ?_
 refine zbp rfl rfl fun b4 hb4=>?_
 refine goA ?_
 refine l_w rfl (zcw rfl (by rw[bC,aD,hbl];rfl) (.head _)) ?_
 refine goA ?_
 refine zgb (zcg _ _ _) ?_
 refine lCu [foI c (r.map zbj) true err s] rfl (zb3 _ _ _ _ _) (fun w1 hw1 hh1 ha1=>zse h ha hb hbl hm hget w1 hh1) fun⟨s1,h1⟩=>?_
 have h1:Fok c g s1:=h1
 simp only[aC,aE]
 refine goA ?_
 refine l_w rfl (ql3 rfl ⟨oQ,oQ⟩) ?_
 refine goA ?_
 by_cases h1n:by_< -(m:Int)
 ·have hok:¬okC m by_:=fun hk=>by have:=hk.1;omega
  rw[if_neg hok,if_neg hok]
  refine goA ?_
  exact zc1 (r,s1) rfl rfl rfl rfl ⟨⟨g,h1,hv,rfl⟩,xr,by rw[show r.set 0 xr=r by obtain⟨hi,rfl⟩:=aJ.1 hx;exact gC hi],by rw[if_neg hok]⟩ (.cons_cons _ (aG _)) (zb3 _ _ _ _ _)
 ·by_cases h2n:by_>((4294967295 - m:Nat):Int)
  ·have hok:¬okC m by_:=fun hk=>by have:=hk.2;omega
   rw[if_neg hok,if_neg hok]
   refine goA ?_
   exact zc1 (r,s1) rfl rfl rfl rfl ⟨⟨g,h1,hv,rfl⟩,xr,by rw[show r.set 0 xr=r by obtain⟨hi,rfl⟩:=aJ.1 hx;exact gC hi],by rw[if_neg hok]⟩ (.cons_cons _ (aG _)) (zb3 _ _ _ _ _)
  ·have hok:okC m by_:=⟨oQ,oQ⟩
   obtain⟨q,hq⟩:∃q:Nat,(m:Int)+by_=(q:Int):=⟨((m:Int)+by_).toNat,oQ⟩
   have hq2:q<4294967296:=oQ
   have hqn:((m:Int)+by_).toNat=q:=oQ
   rw[if_pos hok,if_pos hok,hqn]
   refine goA ?_
   have hrg: -9223372036854775808≤(m:Int)+by_∧(m:Int)+by_<9223372036854775808:=⟨oQ,oQ⟩
   rw[hq]
   have hmr:∀y:Rt,(r.map zbj).set 0 (zbj y)=(r.set 0 y).map zbj:=fun y=>by rw[iF]
   by_cases hq0:q=0
   ·subst hq0
    obtain⟨x',g',e1,e2,e3,e4⟩:=FoV.del hv (by have:=hf.rm;omega) hf.le ht hf.lo hf.rm hf.dp hx hb
    refine goA ?_
    refine l_w rfl (zg9 rfl rfl rfl rfl) ?_
    refine goA ?_
    refine l_w rfl (zlp (bs:=hb) rfl hbl.symm rfl rfl rfl (fun w' hw'=>zmu (hw'.item (haC b4 hb) mm).1)) ?_
    refine goA ?_
    refine lCu [foI c (r.map zbj) true err s1] rfl (zb3 _ _ _ _ _) (fun w1 hw1 hh1 ha1=>zui (i:=0) h1 hl dQ ha hb hbl e1 w1 hh1) fun⟨s2,h2⟩=>?_
    simp only[aC,aE]
    rw[hmr]
    refine goA ?_
    exact zc1 (r.set 0 x',s2) rfl rfl rfl rfl ⟨⟨g',h2,e3,e4⟩,x',rfl,by rw[if_pos hok,hqn,e2];rfl⟩ (.cons_cons _ (aG _)) (zb3 _ _ _ _ _)
   ·obtain⟨x',g',e1,e2,e3,e4⟩:=FoV.put hv hf.le ht hf.lo hf.rm hf.dp hx hb (beN 4 q) hbl (zal 4 q)
    have hl4:(beN 4 q).length=4:=zal 4 q
    refine goA ?_
    refine zdy rfl rfl kQ rfl (fun w1 hw1=>zg6 w1) fun x hx=>?_
    simp only[aC,aE]
    refine goA ?_
    refine lCu (pks x none []) rfl (by simp[zab,zac]) (fun w1 hw1 hh1 ha1=>zdr x none [] 4 q (.inr (.inr rfl)) oQ dQ w1 hh1 ha1) fun⟨o2,_⟩=>?_
    rw[aE]
    dsimp only
    refine goA ?_
    refine lCu (pks x o2 (beN 4 q)) rfl (by simp[zab,zac]) (fun w1 hw1 hh1 ha1=>zdv x o2 _ (by rw[hl4];decide) w1 hh1 ha1) fun⟨o3,_⟩=>?_
    rw[hl4]
    dsimp only
    simp only[aC,aE]
    refine zch (fun w hw=>zdj (hw.item (own 5 1 o3 4 (zae (beN 4 q))) (.head _)).1 dQ) fun⟨ob,oc,eo⟩=>?_
    subst eo
    refine zch (fun w hw=>(zas (hw.item (own 5 1 (some (ob,oc)) 4 (zae (beN 4 q))) (.head _)).1).1) fun f1=>?_
    rw[f1]
    simp only[qtz,qt0]
    refine goA ?_
    refine zcx [3,0,4] rfl rfl ?_
    refine zap [1,2] 7 rfl rfl kQ ?_
    refine goE ?_
    refine goV rfl rfl (zg9 rfl rfl rfl rfl) ?_
    refine goE ?_
    refine goV rfl rfl (zlp (bs:=hb) rfl hbl.symm rfl rfl rfl (fun w' hw'=>zmu (hw'.item (haC b4 hb) mm).1)) ?_
    refine goE ?_
    refine goV rfl rfl (zlp (bs:=beN 4 q) rfl hl4.symm rfl rfl rfl (fun w' hw'=>qj7 (hw'.item (own 5 1 (some (ob,oc)) 4 (zae (beN 4 q))) mm).1)) ?_
    refine goE ?_
    refine zat 5 ⟨kQ,dQ⟩ rfl rfl (zfb (pre:=[foI c (r.map zbj) true err s1]) rfl kQ rfl (zb3 _ _ _ _ _) (fun w1 hw1 hh1 ha1=>qdj (i:=0) h1 hl dQ ha hb (beN 4 q) hbl hl4 e1 w1 hh1)) (fun _ _ h=>goH h) fun⟨s2,h2⟩=>?_
    simp only[aC,aE]
    rw[hmr]
    refine goX ?_
    exact zc1 (r.set 0 x',s2) rfl rfl rfl rfl ⟨⟨g',h2,e3,e4⟩,x',rfl,by rw[if_pos hok,hqn,e2];unfold setC;rw[if_neg hq0]⟩ (.cons_cons _ (aG _)) (zb3 _ _ _ _ _)
end Go.Proofs.YthafakdplhdfjaaGreatDoor
namespace Go.Eng
open Go.RowKit
theorem qt9{P:Program}{l:zav}{H:World→Prop}{x y:Operand}{T ty yt:TypeId}{c c':Array Value}(D:Nat){ls:List TypeId}(hx:evO l x=some (.agg c))(hy:evO l y=some (.agg c'))(hT:zdt P D T=some ls)(ha:zja P T=false)(hg:P.eqGuardType P.depth T=false)(hD:D≤10000)(h1:zc8 P ls c.toList)(h2:zc8 P ls c'.toList):OV P (.binOp .eql T x y yt) ty l H (.bool (zj2 c.toList c'.toList)):=
 zf5 hx hy fun w=>by
  have he:=zpf (P:=P) D T ls hT c.toList c'.toList Op.maxDepth w hD h1 h2
  have hof:∀cs:Array Value,zew P T cs.toList= .agg cs:=fun cs=>by
   unfold zja at ha
   unfold zew
   cases hu:P.underlying T with
   |none=>
    cases D with
    |zero=>simp[zdt]at hT
    |succ D=>simp[zdt,hu]at hT
   |some d=>cases d<;>simp_all
  rw[hof,hof]at he
  have hp:(program).run P w= .ok P w:=rfl
  have hgd:(eqGuard .eql T x y (.agg c) (.agg c')).run P w= .ok () w:=by
   simp only[eqGuard]
   simp[hp,hg]
  rw[Sem.run_bind,hgd]
  simp only[Result.andThen_ok,binOp,Op.equal,Sem.run_bind,he]
  rfl
theorem ztx{P:Program}{t:TypeId}(h:∀n:Int,zuu P t (.int .u8 n)=true):∀s:List UInt8,zc8 P (qj8 [t] s.length) (zae s)
 | []=>rfl
 |c::s=>⟨h _,ztx h s⟩
theorem zoa:∀a b:List UInt8,a.length=b.length→zj2 (zae a) (zae b)=decide (a=b)
 | [],[],_=>rfl
 |x::a,y::b,h=>by
  have ih:=zoa a b (by simpa using h)
  have e:zj2 (zae (x::a)) (zae (y::b))=(decide (x=y)&&zj2 (zae a) (zae b)):=by
   show(_&&_)=_
   congr 1
   by_cases e:x=y
   ·subst e;simp[qjw]
   ·rw[decide_eq_false e]
    show((x.toNat:Int)==(y.toNat:Int))=false
    rw[beq_eq_false_iff_ne]
    exact fun h=>e (UInt8.toNat_inj.1 oQ)
  rw[e,ih,←Bool.decide_and]
  simp
end Go.Eng
namespace Go.Proofs.YthafakdplhdfjaaGreatDoor
open Go.RowKit Go.Eng Go.Eng.Bm Go.Eng.Tr
variable{h:Bys}
theorem zt3(hh:h.length=32):(zae h).length=32:=by rw[zan,hh]
theorem qdo(hh:h.length=32):zc8 Tryz.prog (qj8 [5] 32) (zae h).toArray.toList:=by
 have hfit:∀n:Int,zuu Tryz.prog 5 (.int .u8 n)=true:=fun n=>rfl
 have:=ztx hfit h
 rwa[hh]at this
def zrn(L:List Bys):List Value:=L.flatMap zae
variable{L:List Bys}
theorem zup(h:∀x∈L,x.length=32):(zrn L).length=L.length*32:=by
 induction L with
 |nil=>rfl
 |cons x L ih=>
  have e:zrn (x::L)=zae x++zrn L:=by simp[zrn]
  rw[e,aA,ih fun q hq=>h q (by simp[hq]),zt3 (h x sQ),aW];omega
theorem zxb(L:List Bys)(x:Bys):zrn (L++[x])=zrn L++zae x:=by simp[zrn]
theorem qe9(A:List Bys)(x:Bys)(B:List Bys):zrn (A++x::B)=zrn A++(zae x++zrn B):=by simp[zrn]
theorem qh9(h:∀x∈L,x.length=32){i:Nat}(hi:i<L.length){j:Nat}(hj:j<32):(zrn L)[i*32+j]? =(zae L[i])[j]? :=by
 have hs:L.take i++(L[i]::L.drop (i+1))=L:=by rw[cZ,bF]
 have hl:(zrn (L.take i)).length=i*32:=by
  rw[zup fun x hx=>h x (bW hx),aM,dD oQ]
 have e:zrn L=zrn (L.take i)++(zae L[i]++zrn (L.drop (i+1))):=by
  have:=qe9 (L.take i) L[i] (L.drop (i+1))
  rwa[hs]at this
 rw[e,cT oQ,hl,fB,cJ (by rw[zt3 (h _ (aS hi))];exact hj)]
abbrev Cl:=List (Bys×Nat)
def zga(L:Cl)(h:Bys):Nat:=((L.find? fun p=>decide (p.1=h)).map (·.2)).getD 0
def zle(L:Cl)(h:Bys)(m:Nat):Cl:=(L.filter fun p=>decide (p.1≠h))++(if m=0 then[]else[(h,m)])
def n64(m:Nat):Value:=.int .i64 (m:Int)
abbrev clV(o1 o2:Option (Nat×Nat))(L:Cl):Value:=.agg #[slV o1 L.length,slV o2 L.length]
variable{L:Cl}
theorem zsc{i:Nat}(hi:i<L.length)(hn:∀p∈L.take i,p.1≠h):(L[i].1=h→zga L h=L[i].2)∧(L[i].1≠h→∀p∈L.take (i+1),p.1≠h):=by
 refine⟨fun he=>?_,fun he p hp=>?_⟩
 ·have e:L=L.take i++L[i]::L.drop (i+1):=by rw[cZ,bF]
  have h2:(L.take i++L[i]::L.drop (i+1)).find? (fun p=>decide (p.1=h))=some L[i]:=by
   rw[fT,dB.2 (fun p hp=>by simpa using hn p hp),Option.none_or,List.find?_cons_of_pos (by simpa using he)]
  unfold zga
  rw[←e]at h2
  rw[h2]
  rfl
 ·rw[cO hi,aR,aK]at hp
  rcases hp with hp|rfl
  ·exact hn p hp
  ·exact he
theorem qg1(hn:∀p∈L,p.1≠h):zga L h=0:=by
 unfold zga
 rw[dB.2 (fun p hp=>by simpa using hn p hp)]
 rfl
theorem zny(L:Cl)(hL:∀p∈L,p.1.length=32)(hn:L.length≤1000000)(h:Bys)(hh:h.length=32)(a1 a2:Option Addr)(c1 c2:Nat)(w:World)(hr1:Rd w a1 (zrn (L.map (·.1))))(hr2:Rd w a2 (L.map fun p=>n64 p.2)):
  Pu Tryz.prog 13 #[.agg #[.slice a1 L.length c1,.slice a2 L.length c2],.agg (zae h).toArray] w (.int .i64 (zga L h:Nat)):=by
 refine zbn [_,_] Tryz.func13 rfl rfl ?_
 simp only[zaa,Nat.reduceAdd]
 have hbl:=zt3 hh
 refine goA ?_
 refine zbp rfl rfl fun b2 hb2=>?_
 refine goA ?_
 refine zbp rfl rfl fun b3 hb3=>?_
 refine goA ?_
 refine zc0 (α:=Nat) (fun i=>[(2,.pointer (some ⟨b2,0,none⟩)),(3,.pointer (some ⟨b3,0,none⟩)),(5,.int .i64 i)]) (fun i=>i≤L.length∧∀p∈L.take i,p.1≠h)
  (fun i=>[pt b3 (.cells (zae h).toArray 45 (0,0)),pt b2 (.cells #[.slice a1 L.length c1,.slice a2 L.length c2] 30 (0,0))]) (fun i=>L.length - i) 0 ⟨rfl,rfl,rfl,trivial⟩ ⟨aZ _,fun p hp=>by cases hp⟩ (fun w' hw'=>hw') fun i ⟨hi,hno⟩=>?_
 by_cases hi2:i<L.length
 ·have hlen:=zup (L:=L.map (·.1)) (fun x hx=>by obtain⟨p,hp,rfl⟩:=aO.1 hx;exact hL p hp)
  rw[aD]at hlen
  obtain⟨b,off,rfl,hat⟩:=hr1.at_ (fun e=>by rw[e]at hlen;simp at hlen;omega)
  obtain⟨b',off',rfl,hat'⟩:=hr2.at_ (fun e=>by have:=congrArg List.length e;rw[aD,dS]at this;omega)
  have hLi:=hL L[i] (aS hi2)
  obtain⟨hf1,hf2⟩:=zsc hi2 hno
  have hrow:w.rangeAt b (off+i*32) (zae L[i].1):=fun j v hj=>by
   have h32:j<32:=by have:=(aJ.1 hj).1;rwa[zt3 hLi]at this
   rw[iN]
   exact hat _ _ (by rw[qh9 (L:=L.map (·.1)) (fun x hx=>by obtain⟨p,hp,rfl⟩:=aO.1 hx;exact hL p hp) (by rw[aD];exact hi2) h32,cS];exact hj)
  have hre:zj2 (zae L[i].1).toArray.toList (zae h).toArray.toList=decide (L[i].1=h):=zoa _ _ (by rw[hLi,hh])
  have hnum:(L.map fun p=>n64 p.2)[i]? =some (n64 L[i].2):=by rw[aP,aB hi2];rfl
  generalize L[i]=x at hLi hrow hre hf1 hf2 hnum
  have hbx:=zt3 hLi
  refine goA ?_
  refine ziw kQ ?_
  (repeat first|refine dAv [5] rfl rfl rfl ?_ |refine dno [5] rfl rfl rfl ?_ |refine dT [5] rfl rfl rfl rfl ?_ |refine dF [5] rfl rfl rfl rfl ?_)
  refine goV rfl rfl (zf6 (xs:=zae x.1) rfl (by rw[hbx];rfl) (fun w' hw'=>za5 hrow (fun h=>h) hw')) ?_
  refine goV rfl rfl (zcw rfl (by rw[bC,hbl];rfl) (.head _)) ?_
  refine goV rfl rfl (qt9 5 (ls:=qj8 [5] 32) rfl rfl kQ kQ kQ dQ (qdo hLi) (qdo hh)) ?_
  rw[hre]
  refine goE ?_
  refine zdn kQ ?_
  by_cases he:x.1=h
  ·rw[decide_eq_true he,hf1 he]
   refine goA ?_
   refine l_w rfl (za0 (v:=n64 x.2) rfl rfl (fun w' hw'=>za5 hat' (fun h=>h) hw' i _ hnum)) ?_
   refine goA ?_
   exact zdk rfl rfl rfl
  ·rw[decide_eq_false he]
   refine goA ?_
   exact zaw (i+1) ⟨rfl,rfl,rfl,trivial⟩ ⟨hi2,hf2 he⟩ (fun w' hw'=>hw') oQ
 ·rw[qg1 (L:=L) (h:=h) (fun p hp=>hno p (by rw[bK oQ];exact hp))]
  refine goA ?_
  exact zdk rfl rfl rfl
end Go.Proofs.YthafakdplhdfjaaGreatDoor
namespace Go.Eng
open Go.RowKit
theorem qua{P:Program}{l:zav}{H:World→Prop}{x y:Operand}{T ty yt:TypeId}{c c':Array Value}(D:Nat){ls:List TypeId}(hx:evO l x=some (.agg c))(hy:evO l y=some (.agg c'))(hT:zdt P D T=some ls)(ha:zja P T=false)(hg:P.eqGuardType P.depth T=false)(hD:D≤10000)(h1:zc8 P ls c.toList)(h2:zc8 P ls c'.toList):OV P (.binOp .neq T x y yt) ty l H (.bool (!zj2 c.toList c'.toList)):=
 zf5 hx hy fun w=>by
  have he:=zpf (P:=P) D T ls hT c.toList c'.toList Op.maxDepth w hD h1 h2
  have hof:∀cs:Array Value,zew P T cs.toList= .agg cs:=fun cs=>by
   unfold zja at ha
   unfold zew
   cases hu:P.underlying T with
   |none=>
    cases D with
    |zero=>simp[zdt]at hT
    |succ D=>simp[zdt,hu]at hT
   |some d=>cases d<;>simp_all
  rw[hof,hof]at he
  have hp:(program).run P w= .ok P w:=rfl
  have hgd:(eqGuard .neq T x y (.agg c) (.agg c')).run P w= .ok () w:=by
   simp only[eqGuard]
   simp[hp,hg]
  rw[Sem.run_bind,hgd]
  simp only[Result.andThen_ok,binOp,Op.equal,Sem.run_bind,he]
  rfl
variable{P:Program}{l:zav}{H:World→Prop}{w0:World}{F:Nat→Prop}{m:List Item}{N:Fm}
end Go.Eng
namespace Go.Proofs.YthafakdplhdfjaaGreatDoor
open Go.RowKit Go.Eng Go.Eng.Bm Go.Eng.Tr
theorem qre{n sz:Nat}{cs:Array Value}(h:cs.size=sz)(h2:sz≤n):zdi n [(0,sz,.agg cs)]=true:=by
 simp[zdi,Value.cells,h,h2]
theorem qg0{zs cs:List Value}{k:Nat}(h:zs.length=cs.length):zek zs [(0,k,.agg cs.toArray)]=cs:=by
 show over zs 0 cs=cs
 unfold over
 rw[iZ,aE,aL,fG oQ,aU]
abbrev flt(h:Bys)(A:Cl):Cl:=A.filter fun p=>decide (p.1≠h)
abbrev zrk(o:Option (Nat×Nat))(A:Cl):Eng.Item:=own 45 32 o A.length (zrn (A.map (·.1)))
abbrev zsd(o:Option (Nat×Nat))(A:Cl):Eng.Item:=own 2 1 o A.length (A.map fun p=>n64 p.2)
theorem zw1(o:Option (Nat×Nat))(A:Cl)(x:Bys×Nat):zrk o (A++[x])=own 45 32 o (A.length+1) (zrn (A.map (·.1))++zae x.1):=by
 unfold zrk
 rw[aA,bV,jZ,zxb]
 rfl
theorem zxn(o:Option (Nat×Nat))(A:Cl)(x:Bys×Nat):zsd o (A++[x])=own 2 1 o (A.length+1) ((A.map fun p=>n64 p.2)++[n64 x.2]):=by
 unfold zsd
 rw[aA,bV]
 rfl
theorem tw1(a b:Option (Nat×Nat))(n k:Nat):zb7 [slV a n,slV b k]=true:=zba.2 fun v hv=>by
 rcases aI.1 hv with rfl|hv
 ·exact zc3 _ _
 ·rcases aI.1 hv with rfl|hv
  ·exact zc3 _ _
  ·cases hv
theorem qfk(L:Cl)(hL:∀p∈L,p.1.length=32)(hn:L.length≤1000000)(h:Bys)(hh:h.length=32)(by_:Int)(hby: -9223372036854775808≤by_∧by_<9223372036854775808)(hm:zga L h<4294967296)(a1 a2:Option Addr)(c1 c2:Nat)(w:World)(hr1:Rd w a1 (zrn (L.map (·.1))))(hr2:Rd w a2 (L.map fun p=>n64 p.2)):
  Ct Tryz.prog 45 #[.agg #[.slice a1 L.length c1,.slice a2 L.length c2],.agg (zae h).toArray,.int .i64 by_] w none' (fun x:Option (Option (Nat×Nat)×Option (Nat×Nat))=>match x with|none=>.tuple #[.agg #[.slice a1 L.length c1,.slice a2 L.length c2],.int .i64 2] |some o=>.tuple #[clV o.1 o.2 (zle L h ((zga L h:Int)+by_).toNat),.int .i64 0])
   (fun x=>x.isSome=decide (okC (zga L h) by_)) (fun x=>match x with|none=>[] |some o=>[zrk o.1 (zle L h ((zga L h:Int)+by_).toNat),zsd o.2 (zle L h ((zga L h:Int)+by_).toNat)]):=by
 refine zes [_,_,_] Tryz.func45 rfl rfl ?_
 simp only[zaa,Nat.reduceAdd]
 have hbl:=zt3 hh
 obtain⟨m,hmm⟩:∃z,zga L h=z:=⟨_,rfl⟩
 refine goA ?_
 refine zbp rfl rfl fun b3 hb3=>?_
 refine goA ?_
 refine zbp rfl rfl fun b4 hb4=>?_
 refine goA ?_
 refine zam rfl rfl fun b6 hb6=>?_
 refine goA ?_
 refine l_w rfl (zcw rfl (by rw[bC,hbl];rfl) mm) ?_
 refine goA ?_
 refine lPu rfl (fun w1 hw1=>zny L hL hn h hh a1 a2 c1 c2 w1 (hr1.keep hw1) (hr2.keep hw1)) ?_
 rw[hmm]at hm⊢
 refine goA ?_
 refine l_w rfl (ql3 rfl ⟨oQ,oQ⟩) ?_
 refine goA ?_
 by_cases hok:okC m by_
 ·obtain⟨k1,k2⟩:=hok
  have h1n:¬by_< -(m:Int):=oQ
  have h2n:¬by_>((4294967295 - m:Nat):Int):=oQ
  obtain⟨q,hq⟩:∃q:Nat,(m:Int)+by_=(q:Int):=⟨((m:Int)+by_).toNat,oQ⟩
  have hqn:((m:Int)+by_).toNat=q:=oQ
  have hrg: -9223372036854775808≤(m:Int)+by_∧(m:Int)+by_<9223372036854775808:=⟨oQ,oQ⟩
  rw[hqn,decide_eq_true (show okC m by_ from⟨k1,k2⟩)]
  refine goA ?_
  refine zam rfl rfl fun b9 hb9=>?_
  refine goA ?_
  refine zc0 (α:=Nat×Option (Nat×Nat)×Option (Nat×Nat)) (fun y=>[(3,.pointer (some ⟨b3,0,none⟩)),(4,.pointer (some ⟨b4,0,none⟩)),(2,.int .i64 by_),(6,.pointer (some ⟨b6,0,none⟩)),(7,.int .i64 0),(8,.int .i64 (m:Nat)),(9,.pointer (some ⟨b9,0,none⟩)),(10,.int .i64 (y.1:Nat))]) (fun y=>y.1≤L.length)
   (fun y=>[zrk y.2.1 (flt h (L.take y.1)),zsd y.2.2 (flt h (L.take y.1)),pt b9 (.cells #[slV y.2.1 (flt h (L.take y.1)).length,slV y.2.2 (flt h (L.take y.1)).length] 30 (0,0)),pt b6 (.cells #[.slice none 0 0,.slice none 0 0] 30 (0,0)),pt b4 (.cells (zae h).toArray 45 (0,0)),pt b3 (.cells #[.slice a1 L.length c1,.slice a2 L.length c2] 30 (0,0))]) (fun y=>L.length - y.1) (0,none,none) ⟨rfl,rfl,rfl,rfl,rfl,rfl,rfl,rfl,trivial⟩ (aZ _) (fun w' hw'=>zd1 45 32 ((zd1 2 1 hw'))) fun⟨i,o1,o2⟩ hi=>?_
  simp only at hi⊢
  by_cases hi2:i<L.length
  ·have hlen:=zup (L:=L.map (·.1)) (fun x hx=>by obtain⟨p,hp,rfl⟩:=aO.1 hx;exact hL p hp)
   rw[aD]at hlen
   obtain⟨b,off,rfl,hat⟩:=hr1.at_ (fun e=>by rw[e]at hlen;simp at hlen;omega)
   obtain⟨b',off',rfl,hat'⟩:=hr2.at_ (fun e=>by have:=congrArg List.length e;rw[aD,dS]at this;omega)
   have hLi:=hL L[i] (aS hi2)
   have hrow:w.rangeAt b (off+i*32) (zae L[i].1):=fun j v hj=>by
    have h32:j<32:=by have:=(aJ.1 hj).1;rwa[zt3 hLi]at this
    rw[iN]
    exact hat _ _ (by rw[qh9 (L:=L.map (·.1)) (fun x hx=>by obtain⟨p,hp,rfl⟩:=aO.1 hx;exact hL p hp) (by rw[aD];exact hi2) h32,cS];exact hj)
   have hre:zj2 (zae L[i].1).toArray.toList (zae h).toArray.toList=decide (L[i].1=h):=zoa _ _ (by rw[hLi,hh])
   have hnum:(L.map fun p=>n64 p.2)[i]? =some (n64 L[i].2):=by rw[aP,aB hi2];rfl
   have hfl:flt h (L.take (i+1))=flt h (L.take i)++(if L[i].1=h then[]else[L[i]]):=by
    rw[cO hi2]
    show List.filter _ _=List.filter _ _++_
    rw[fZ]
    congr 1
    by_cases e:L[i].1=h<;>simp[e]
   generalize L[i]=x at hLi hrow hre hfl hnum
   have hbx:=zt3 hLi
   have hfn:(flt h (L.take i)).length≤1000000:=cI (eK _ _) (by rw[aM];omega)
   have hmk:(zrn ((flt h (L.take i)).map (·.1)++[x.1]))=zrn ((flt h (L.take i)).map (·.1))++zae x.1:=zxb _ _
   generalize flt h (L.take i)=A at hfl hfn hmk
   refine goA ?_
   refine ziw kQ ?_
   (repeat first|refine dAv [5] rfl rfl rfl ?_ |refine dno [5] rfl rfl rfl ?_ |refine dT [5] rfl rfl rfl rfl ?_ |refine dF [5] rfl rfl rfl rfl ?_)
   refine goV rfl rfl (zf6 (xs:=zae x.1) rfl (by rw[hbx];rfl) (fun w' hw'=>za5 hrow (fun h=>h) hw')) ?_
   refine goV rfl rfl (zcw rfl (by rw[bC,hbl];rfl) mm) ?_
   refine goV rfl rfl (qua 5 (ls:=qj8 [5] 32) rfl rfl kQ kQ kQ dQ (qdo hLi) (qdo hh)) ?_
   rw[hre]
   refine goE ?_
   refine zdn kQ ?_
   by_cases he:x.1=h
   ·rw[decide_eq_true he]
    rw[if_pos he,aU]at hfl
    refine goA ?_
    exact zaw (i+1,o1,o2) ⟨rfl,rfl,rfl,rfl,rfl,rfl,rfl,rfl,trivial⟩ hi2 (fun w' hw'=>by simp only;rw[hfl];exact hw') (by simp only;omega)
   ·rw[decide_eq_false he]
    rw[if_neg he]at hfl
    refine goA ?_
    refine zap [2,3,4,5] 10 rfl rfl kQ ?_
    refine goE ?_
    refine goV rfl rfl (zf6 (xs:=zae x.1) rfl (by rw[hbx];rfl) (fun w' hw'=>za5 hrow (fun h=>h) hw')) ?_
    refine zat 7 ⟨kQ,dQ⟩ rfl rfl (za3 (L:=[(0,32,.agg (zae x.1).toArray)]) rfl rfl rfl rfl rfl (qre (by rw[bC,hbx]) dQ)) (fun _ _ h=>goH h) fun⟨bq,hbq⟩=>?_
    refine goE ?_
    refine zat 8 ⟨kQ,dQ⟩ rfl rfl (zah (zcg _ _ _) (zdh (news:=zae x.1) rfl rfl rfl rfl rfl rfl (by rw[hbx]) (zdd _) oQ (fun w' hw' j v hj=>by rw[zde,aL];refine zby (hw'.item _ (.tail _ (.head _))).1 j v ?_;rw[qg0 (by rw[zds,aD,eL,hbx])];exact hj))) (fun _ _ h=>goH h) fun o1'=>?_
    refine goE ?_
    refine zet ⟨kQ,kQ⟩ rfl rfl (zah (zfq _ _ _ _ _) (zai rfl rfl rfl rfl (zct _ _) (zc3 _ _) sQ)) fun _=>?_
    refine goA ?_
    refine zcx [3,0,1,4,5,6] rfl rfl ?_
    refine zap [1,2,3,4,5] 10 rfl rfl kQ ?_
    refine goE ?_
    refine goV rfl rfl (za0 (v:=n64 x.2) rfl rfl (fun w' hw'=>za5 hat' (fun h=>h) hw' i _ hnum)) ?_
    refine zat 7 ⟨kQ,dQ⟩ rfl rfl (za3 (L:=[(0,1,n64 x.2)]) rfl rfl rfl rfl rfl rfl) (fun _ _ h=>goH h) fun⟨bq2,hbq2⟩=>?_
    refine goE ?_
    refine zat 8 ⟨kQ,dQ⟩ rfl rfl (zah (zcg _ _ _) (zdh (news:=[n64 x.2]) rfl rfl rfl rfl rfl rfl rfl rfl oQ (fun w' hw' j v hj=>by rw[zde,aL];exact zby (hw'.item _ (.tail _ (.head _))).1 j v hj))) (fun _ _ h=>goH h) fun o2'=>?_
    refine goE ?_
    refine zet ⟨kQ,kQ⟩ rfl rfl (zah (zdf _ _ _ _) (zai rfl rfl rfl rfl (zct _ _) (zc3 _ _) sQ)) fun _=>?_
    refine goA ?_
    refine zaw (i+1,o1',o2') ⟨rfl,rfl,rfl,rfl,rfl,rfl,rfl,rfl,trivial⟩ hi2 (fun w' hw'=>?_) (by simp only;omega)
    simp only
    rw[hfl,zw1,zxn,aA]
    exact hw'.pick [3,1,0,4,5,6] rfl rfl
  ·obtain rfl:i=L.length:=oQ
   rw[gL]
   have hfn:(flt h L).length≤1000000:=cI (eK _ _) hn
   have had:zle L h q=flt h L++(if q=0 then[]else[(h,q)]):=rfl
   rw[had]
   generalize flt h L=A at hfn
   refine goA ?_
   rw[hq]
   by_cases hq0:q=0
   ·subst hq0
    rw[if_pos rfl,aU]
    refine goA ?_
    refine za1 rfl (zah (zfq _ _ _ _ _) (zaf (cs':= #[slV o1 A.length,slV o2 A.length]) rfl rfl rfl rfl (tw1 _ _ _ _) rfl)) fun _=>?_
    refine goA ?_
    exact zc1 (some (o1,o2)) rfl ⟨_,rfl,zaq rfl (.head _)⟩ rfl rfl rfl (.cons _ (.cons_cons _ (.cons_cons _ (aG _)))) (by simp[zac])
   ·rw[if_neg hq0]
    refine goA ?_
    refine l_w rfl (zcw rfl (by rw[bC,hbl];rfl) mm) ?_
    refine goA ?_
    refine za1 rfl (za3 (L:=[(0,32,.agg (zae h).toArray)]) rfl rfl rfl rfl rfl (qre (by rw[bC,hbl]) dQ)) fun⟨bq,hbq⟩=>?_
    refine goA ?_
    refine za1 rfl (zah (zcg _ _ _) (zdh (news:=zae h) rfl rfl rfl rfl rfl rfl (by rw[hbl]) (zdd _) oQ (fun w' hw' j v hj=>by rw[zde,aL];refine zby (hw'.item _ (.tail _ (.head _))).1 j v ?_;rw[qg0 (by rw[zds,aD,eL,hbl])];exact hj))) fun o1'=>?_
    refine goA ?_
    refine za1 rfl (zah (zfq _ _ _ _ _) (zai rfl rfl rfl rfl (zct _ _) (zc3 _ _) sQ)) fun _=>?_
    refine goA ?_
    rw[hq]
    refine goA ?_
    refine zay [3,0,1,4,5,6] rfl rfl ?_
    refine za1 rfl (za3 (L:=[(0,1,n64 q)]) rfl rfl rfl rfl rfl rfl) fun⟨bq2,hbq2⟩=>?_
    refine goA ?_
    refine za1 rfl (zah (zcg _ _ _) (zdh (news:=[n64 q]) rfl rfl rfl rfl rfl rfl rfl rfl oQ (fun w' hw' j v hj=>by rw[zde,aL];exact zby (hw'.item _ (.tail _ (.head _))).1 j v hj))) fun o2'=>?_
    refine goA ?_
    refine za1 rfl (zah (zdf _ _ _ _) (zai rfl rfl rfl rfl (zct _ _) (zc3 _ _) sQ)) fun _=>?_
    refine goA ?_
    refine za1 rfl (zah (zji _ _ _ _ _ _) (zaf (cs':= #[slV o1' (A.length+1),slV o2' (A.length+1)]) rfl rfl rfl rfl (tw1 _ _ _ _) rfl)) fun _=>?_
    refine goA ?_
    refine zgf [4,2,0] rfl rfl ?_
    exact zc1 (some (o1',o2')) rfl ⟨_,rfl,zaq rfl mm⟩ rfl (by simp only;unfold clV;rw[aA];rfl) rfl (by simp only;rw[zw1,zxn];exact .cons_cons _ (.cons_cons _ (aG _))) (by simp[zac])
 ·rw[decide_eq_false hok]
  by_cases h1n:by_< -(m:Int)
  ·refine goA ?_
   refine za1 rfl (zaf (cs':= #[.slice a1 L.length c1,.slice a2 L.length c2]) rfl rfl rfl rfl rfl rfl) fun _=>?_
   refine goA ?_
   exact zc1 none rfl ⟨_,rfl,zaq rfl (.head _)⟩ rfl rfl rfl (aG _) (fun _ h=>nomatch h)
  ·have h2n:by_>((4294967295 - m:Nat):Int):=by
    refine gE fun hn2=>hok ⟨oQ,oQ⟩
   refine goA ?_
   refine za1 rfl (zaf (cs':= #[.slice a1 L.length c1,.slice a2 L.length c2]) rfl rfl rfl rfl rfl rfl) fun _=>?_
   refine goA ?_
   exact zc1 none rfl ⟨_,rfl,zaq rfl (.head _)⟩ rfl rfl rfl (aG _) (fun _ h=>nomatch h)
end Go.Proofs.YthafakdplhdfjaaGreatDoor
namespace Go.Eng
open Go.RowKit
theorem qub{P:Program}{ops:Array Oper}{Q:Exit→Act→World→Prop}{S S' H:World→Prop}{t n:Nat}{N:Fm}{listed:Array Bool}{l:zav}(hS:∀w,S' w→S w)(k:HD P ops Q S' t N n listed l H):HD P ops Q S t N n listed l H:=by
 unfold HD at*
 exact fun inv a w s hw=>ziy hS _ _ _ _ (k inv a w s hw)
end Go.Eng
namespace Go.Proofs.YthafakdplhdfjaaGreatDoor
open Go.RowKit Go.Eng Go.Eng.Bm Go.Eng.Tr
abbrev eaI(b5 b3:Nat)(fd:FuncId)(cs:List Value)(D:Eng.Item):List Eng.Item:=[pt b5 (.cells #[.int .i64 0] 47 (0,0)),pt b3 (.cells #[.func (.func fd) #[] cs.toArray] 107 (0,0)),D]
variable{fd:FuncId}{cs:List Value}{σ:Type}
theorem zu4(b5 b3:Nat)(hb:za7 Tryz.prog fd=true){D:Eng.Item}(hsD:D.Stable none'){D':σ→Eng.Item}(hsD':∀z,(D' z).Stable none')(hk:Bys)(hkl:hk.length=32)(m:Nat)(h0:0<m)(hm:m<4294967296){φ:Bool×σ→Prop}
  (hcall:∀w,zbq D w→Ct Tryz.prog fd (zng hk:: .int .u32 (m:Nat)::cs).toArray w (za4 [D]) (fun x:Bool×σ=>.bool x.1) φ (fun x=>[D' x.2])):
  Cw Tryz.prog 53 #[kV hk,kV (beN 4 m),.pointer (some ⟨b5,0,none⟩),.pointer (some ⟨b3,0,none⟩)] (eaI b5 b3 fd cs D) (fun x:Bool×σ=>.bool x.1) φ (fun x=>eaI b5 b3 fd cs (D' x.2)):=by
 intro w hw ha
 refine za2 [_,_,_,_] _ Tryz.func53 rfl rfl hw ha ?_
 simp only[zaa,Nat.reduceAdd]
 refine goA ?_
 refine lPu rfl (fun w1 hw1=>zsj m h0 hm w1) ?_
 refine goA ?_
 refine za1 rfl (zai rfl rfl rfl rfl rfl rfl sQ) fun _=>?_
 refine goA ?_
 refine zcx [2,0,1] rfl rfl ?_
 refine zap [1,2] 12 rfl rfl kQ ?_
 (repeat first|refine dAv [5] rfl rfl rfl ?_ |refine dno [5] rfl rfl rfl ?_ |refine dT [5] rfl rfl rfl rfl ?_ |refine dF [5] rfl rfl rfl rfl ?_)
 refine zat 5 ⟨kQ,dQ⟩ rfl rfl (zs3 rfl rfl rfl rfl) (fun _ _ h=>goH h) fun⟨p1,hp1,hp2⟩=>?_
 dsimp only
 rw[show(kB hk).data.toList=hk from rfl,show(kB hk).size=32 by rw[zju];exact hkl]
 refine zfa [1,0,2,3] rfl rfl ?_
 refine qub (S':=Hp w (za4 (eaI b5 b3 fd cs D)) [zmk 5 hk p1.1 p1.2,pt b5 (.cells (#[.int .i64 0].setIfInBounds 0 (.int .i64 0)) 47 (0,0)),pt b3 (.cells #[.func (.func fd) #[] cs.toArray] 107 (0,0))]) (fun w h=>h.sub (.cons _ (.refl _))) ?_
 refine goE ?_
 refine goV rfl rfl (ztu rfl rfl (bA _)) ?_
 refine goV rfl rfl (zf6 (xs:=zae hk) rfl (by rw[zt3 hkl];rfl) (fun w' hw'=>zib (hw'.item _ (.head _)).1)) ?_
 refine goE ?_
 refine zat 9 ⟨kQ,dQ⟩ rfl rfl (zx1 (pre:=[D]) (fs:=[]) (cs:=cs) rfl hb rfl rfl rfl (fun it hm=>by rw[aK.1 hm];exact hsD) (fun w1 hw1 hh1 ha1=>hcall w1 (hh1 D (.head _)))) (fun _ _ h=>goH h) fun⟨⟨rb,z⟩,hx⟩=>?_
 simp only[aC,aE]
 refine goX ?_
 refine zgf [2,3,0] rfl rfl ?_
 exact zbd (rb,z) rfl rfl rfl hx (.refl _) (by simp[zab,hsD'])
variable{c:Fc}{g:Sg}{s:Pg}{R:List Nat}{busy:Bool}{xs:E}
theorem zoz(h:Fok c g s){err a:Nat}(ha:R[0]? =some a)(hl:qnd (fSh 0) c.N g [] (a:Nat) xs)(hx:∀y∈xs,y.1.length=32∧∃m,0<m∧m<4294967296∧y.2=beN 4 m)(D:σ→Eng.Item)(I:E→σ→Prop)(J:σ→Prop)(s0:σ)(hb:za7 Tryz.prog fd=true)(hst:∀st,(D st).Stable none')(h0:I [] s0)
  (hcall:∀k y m st,(k++[y])<+:xs→y.2=beN 4 m→m<4294967296→I k st→∀w,zbq (D st) w→Ct Tryz.prog fd (zng y.1:: .int .u32 (m:Nat)::cs).toArray w (za4 [D st]) (fun x:Bool×σ=>.bool x.1) (fun x=>(x.1=true∧I (k++[y]) x.2)∨(x.1=false∧J x.2)) (fun x=>[D x.2])):
  Cw Tryz.prog 17 #[.pointer (some ⟨c.b,0,none⟩),.func (.func fd) #[] cs.toArray] [foI c R busy err s,D s0] (fun _:Pg×σ=>.int .i64 0) (fun x=>Fok c g x.1∧(I xs x.2∨J x.2)) (fun x=>[foI c R busy err x.1,D x.2]):=by
 intro w hw hap
 refine za2 [_,_] _ Tryz.func17 rfl rfl hw hap ?_
 simp only[zaa,Nat.reduceAdd]
 refine goA ?_
 refine zc9 rfl rfl rfl fun b3 hb3=>?_
 refine goA ?_
 refine l_w rfl (zwf (v':=.bool false) (ov fun _ _ _ _ _=>rfl) rfl) ?_
 refine goA ?_
 refine zdg rfl rfl rfl fun b5 hb5=>?_
 refine goA ?_
 refine za1 rfl (zai rfl rfl rfl rfl rfl rfl sQ) fun _=>?_
 refine goA ?_
 refine l_w rfl (zhw rfl) ?_
 refine goA ?_
 refine zay [2,0,1,3] rfl rfl ?_
 refine zeh rfl (zfb (pre:=[foI c R busy err s,pt b5 (.cells #[.int .i64 0] 47 (0,0)),pt b3 (.cells #[.func (.func fd) #[] cs.toArray] 107 (0,0)),D s0]) rfl kQ rfl (by simp[zab,foI,zad,hst]) (fun w1 hw1 hh1 ha1=>zzr (i:=0) (σ:=σ) h dQ ha hl (fun st=>eaI b5 b3 fd cs (D st)) I J s0 (fd:=53) (cs:=[.pointer (some ⟨b5,0,none⟩),.pointer (some ⟨b3,0,none⟩)]) kQ (fun st=>by simp[zab,hst]) h0 (fun k y st hp hi w2 hh2 ha2=>by
  obtain⟨hy1,m,hm0,hm1,hy2⟩:=hx y (hp.subset (aT _ (.head _)))
  have:=zu4 b5 b3 hb (hst st) (D':=D) hst y.1 hy1 m hm0 hm1 (fun w3 hh3=>hcall k y m st hp hy2 hm1 hi w3 hh3) w2 hh2 ha2
  rw[←hy2]at this
  exact this) w1 hh1 ha1)) fun⟨⟨s',st⟩,hx2⟩=>?_
 simp only[aC,aE]
 refine goA ?_
 exact zbd (s',st) rfl rfl rfl hx2 (.cons_cons _ (.cons _ (.cons _ (.refl _)))) (by simp[foI,zad,hst])
abbrev nuI(b n:Nat):Eng.Item:=pt b (.cells #[.int .i64 (n:Nat)] 3 (0,0))
theorem zrs(b n:Nat)(hn:n<1000000)(h:Bys)(m:Nat):
  Cv Tryz.prog 52 #[zng h,.int .u32 (m:Nat),.pointer (some ⟨b,0,none⟩)] [nuI b n] (fun x:Bool×Nat=>.bool x.1) (fun x=>x.1=true∧x.2=n+1) (fun x=>[nuI b x.2]):=by
 intro w hw
 refine za2 [_,_,_] _ Tryz.func52 rfl rfl hw (.cons (fun _ h=>nomatch h) .nil) ?_
 simp only[zaa,Nat.reduceAdd]
 unfold zng
 refine goA ?_
 refine zbp rfl rfl fun b3 hb3=>?_
 refine goA ?_
 refine za1 rfl (zah (zcg _ _ _) (zai rfl rfl rfl rfl rfl rfl sQ)) fun _=>?_
 refine goA ?_
 exact zbd (true,n+1) rfl rfl rfl ⟨rfl,rfl⟩ (.cons_cons _ (aG _)) (by simp[zab])
theorem zls(h:Fok c g s){err a:Nat}(ha:R[0]? =some a)(hl:qnd (fSh 0) c.N g [] (a:Nat) xs)(hx:∀y∈xs,y.1.length=32∧∃m,0<m∧m<4294967296∧y.2=beN 4 m)(hn:xs.length≤1000):
  Cv Tryz.prog 16 #[.pointer (some ⟨c.b,0,none⟩)] [foI c R busy err s] (fun _:Pg=>.tuple #[.int .i64 (xs.length:Nat),.int .i64 0]) (fun s'=>Fok c g s') (fun s'=>[foI c R busy err s']):=by
 intro w hw
 refine za2 [_] _ Tryz.func16 rfl rfl hw (.cons (fun _ h=>nomatch h) .nil) ?_
 simp only[zaa]
 refine goA ?_
 refine zdg rfl rfl rfl fun b4 hb4=>?_
 refine goA ?_
 refine za1 rfl (zai rfl rfl rfl rfl rfl rfl sQ) fun _=>?_
 refine goA ?_
 refine l_w rfl (zhw rfl) ?_
 refine goA ?_
 refine zay [1,0] rfl rfl ?_
 refine zeh rfl (zfb (pre:=[foI c R busy err s,nuI b4 0]) rfl kQ rfl (by simp[zab,foI,zad]) (fun w1 hw1 hh1 ha1=>zoz (σ:=Nat) h ha hl hx (fun n=>nuI b4 n) (fun k n=>n=k.length) (fun _=>False) 0 (fd:=52) (cs:=[.pointer (some ⟨b4,0,none⟩)]) kQ (fun st=>zab _ _ _) rfl (fun k y m st hp hy _ hi w2 hh2=>by
  have hlk:=hp.length_le
  rw[aA]at hlk
  have hlk:k.length+1≤xs.length:=hlk
  have hi:st=k.length:=hi
  refine Ct.imp (zrs b4 st oQ y.1 m w2 (fun it hm=>by rw[aK.1 hm];exact hh2)) fun z hz=>⟨z,rfl,.inl ⟨hz.1,?_⟩,rfl⟩
  show z.2=(k++[y]).length
  rw[hz.2,aA,hi]
  rfl) w1 hh1 ha1)) fun⟨⟨s',st⟩,hx2⟩=>?_
 obtain⟨k1,k2|k2⟩:=hx2
 ·have k2:st=xs.length:=k2
  subst k2
  simp only[aC,aE]
  refine goA ?_
  exact zc1 s' rfl rfl rfl rfl k1 (.cons_cons _ (aG _)) (zb3 _ _ _ _ _)
 ·exact k2.elim
theorem zt5(L:Cl)(h:Bys)(q:Nat):zga (zle L h q) h=q:=by
 have hf:(L.filter fun p=>decide (p.1≠h)).find? (fun p=>decide (p.1=h))=none:=dB.2 fun p hp=>by simpa using (cR.1 hp).2
 unfold zga zle
 rw[fT,hf,Option.none_or]
 split
 ·rename_i e;rw[e];rfl
 ·simp
variable{L:Cl}
theorem zy9(hL:∀p∈L,p.1.length=32){h:Bys}(hh:h.length=32)(q:Nat):∀p∈zle L h q,p.1.length=32:=fun p hp=>by
 unfold zle at hp
 rcases aR.1 hp with hp|hp
 ·exact hL p (cR.1 hp).1
 ·split at hp
  ·cases hp
  ·rw[aK.1 hp];exact hh
abbrev acI(b:Nat)(hc:UInt8)(by_:Int)(fl:Bool):Eng.Item:=pt b (.cells #[.int .u8 (hc.toNat:Int),.int .i64 by_,.bool fl] 43 (0,0))
abbrev qqg(b3 b8 b5 b10 b9 b11 fb:Nat)(h:Bys)(hc:UInt8)(by_:Int)(fl:Bool)(o1 o2:Option (Nat×Nat))(L:Cl)(okb:Bool):List Eng.Item:=[pt b3 (.cells #[.pointer (some ⟨fb,0,none⟩)] 34 (0,0)),haC b8 h,acI b5 hc by_ fl,pt b10 (.cells #[.int .i64 0] 47 (0,0)),pt b9 (.cells #[slV o1 L.length,slV o2 L.length] 30 (0,0)),pt b11 (.cells #[.bool okb] 4 (0,0)),zrk o1 L,zsd o2 L]
abbrev qtv(b3 b8 b5 b10 b9 b11:Nat):List Value:=[.pointer (some ⟨b3,0,none⟩),.pointer (some ⟨b8,0,none⟩),.pointer (some ⟨b5,0,none⟩),.pointer (some ⟨b10,0,none⟩),.pointer (some ⟨b9,0,none⟩),.pointer (some ⟨b11,0,none⟩)]
variable{r:List Rt}{xr:Rt}
theorem zxt(h:Fok c g s)(hv:FoV c.N g r){K k:Nat}(hf:Few c.N K k)(ht:zq9 r≤K)(hx:r[0]? =some xr)(b3 b8 b5 b10 b9 b11:Nat)(hb:Bys)(hbl:hb.length=32)(hc:UInt8)(fl:Bool){m:Nat}(hm:m<4294967296)(hg:zi6 (zdb xr) hb=cnt? m)(by_:Int)(hby: -9223372036854775808≤by_∧by_<9223372036854775808)(hok:okC m by_)(o1 o2:Option (Nat×Nat))(L':Cl)(hL:∀p∈L',p.1.length=32)(hln:L'.length≤1000000)(hcn:zga L' hb=((m:Int)+by_).toNat):
  Cw Tryz.prog 46 (qtv b3 b8 b5 b10 b9 b11).toArray (foI c (r.map zbj) true 0 s::qqg b3 b8 b5 b10 b9 b11 c.b hb hc by_ fl o1 o2 L' true) (fun _:List Rt×Pg=>.int .i64 (if fl then 7 else 0:Nat)) (qmf c g r xr hb m by_) (fun y=>foI c (y.1.map zbj) true 0 y.2::qqg b3 b8 b5 b10 b9 b11 c.b hb hc by_ fl o1 o2 L' true):=by
 intro w hw ha
 refine za2 [_,_,_,_,_,_] _ Tryz.func46 rfl rfl hw ha ?_
 simp only[zaa,Nat.reduceAdd]
 unfold qqg
 refine goA ?_
 refine l_w rfl (zcw rfl (by rw[bC,aD,hbl];rfl) (.tail _ (.tail _ (.head _)))) ?_
 refine goA ?_
 refine lCu [foI c (r.map zbj) true 0 s] rfl (zb3 _ _ _ _ _) (fun w1 hw1 hh1 ha1=>zlv h hv hf ht hx hb hbl hm hg by_ hby w1 hh1) fun⟨⟨r',s'⟩,hp⟩=>?_
 rw[if_pos hok,if_pos hok]
 simp only[aC,aE]
 refine zch (fun w hw=>(zas (hw.item (zrk o1 L') mm).1).1) fun f1=>?_
 refine zch (fun w hw=>(zas (hw.item (zsd o2 L') mm).1).1) fun f2=>?_
 refine goA ?_
 refine l_w rfl (zcw rfl (by rw[bC,aD,hbl];rfl) (.tail _ (.tail _ (.head _)))) ?_
 refine goA ?_
 refine lPu rfl (fun w1 hw1=>(by rw[f1,f2];exact zny L' hL hln hb hbl (slA o1) (slA o2) (slC o1) (slC o2) w1 (za8 (hw1.item (zrk o1 L') mm).1) (za8 (hw1.item (zsd o2 L') mm).1))) ?_
 rw[hcn]
 refine goA ?_
 rw[beq_self_eq_true]
 refine za1 rfl (zah (znu _ _ _ _ _ _ _ _) (zai rfl rfl rfl rfl rfl rfl sQ)) fun _=>?_
 refine goA ?_
 cases fl with
 |true=>
  refine goA ?_
  refine zgf [1,2,3,4,5,6,0,7,8] rfl rfl ?_
  exact zbd (r',s') rfl rfl rfl hp (.refl _) (by simp[zab,zac,foI,zad])
 |false=>
  refine goA ?_
  refine zgf [1,2,3,4,5,6,0,7,8] rfl rfl ?_
  exact zbd (r',s') rfl rfl rfl hp (.refl _) (by simp[zab,zac,foI,zad])
abbrev qtw(b3 b8 b5 b10 b9 b11 fb:Nat)(h:Bys)(hc:UInt8)(by_:Int)(fl:Bool)(v1 v2:Value)(okb:Bool):List Eng.Item:=[pt b3 (.cells #[.pointer (some ⟨fb,0,none⟩)] 34 (0,0)),haC b8 h,acI b5 hc by_ fl,pt b10 (.cells #[.int .i64 2] 47 (0,0)),pt b9 (.cells #[v1,v2] 30 (0,0)),pt b11 (.cells #[.bool okb] 4 (0,0))]
theorem qfo(h:Fok c g s)(hv:FoV c.N g r){K k:Nat}(hf:Few c.N K k)(ht:zq9 r≤K)(hx:r[0]? =some xr)(b3 b8 b5 b10 b9 b11:Nat)(hb:Bys)(hbl:hb.length=32)(hc:UInt8)(fl:Bool){m:Nat}(hm:m<4294967296)(hg:zi6 (zdb xr) hb=cnt? m)(by_:Int)(hby: -9223372036854775808≤by_∧by_<9223372036854775808)(hok:¬okC m by_)(v1 v2:Value):
  Cw Tryz.prog 46 (qtv b3 b8 b5 b10 b9 b11).toArray (foI c (r.map zbj) true 0 s::qtw b3 b8 b5 b10 b9 b11 c.b hb hc by_ fl v1 v2 true) (fun _:List Rt×Pg=>.int .i64 (if fl then 7 else 2:Nat)) (qmf c g r xr hb m by_) (fun y=>foI c (y.1.map zbj) true 0 y.2::qtw b3 b8 b5 b10 b9 b11 c.b hb hc by_ fl v1 v2 true):=by
 intro w hw ha
 refine za2 [_,_,_,_,_,_] _ Tryz.func46 rfl rfl hw ha ?_
 simp only[zaa,Nat.reduceAdd]
 unfold qtw
 refine goA ?_
 refine l_w rfl (zcw rfl (by rw[bC,aD,hbl];rfl) (.tail _ (.tail _ (.head _)))) ?_
 refine goA ?_
 refine lCu [foI c (r.map zbj) true 0 s] rfl (zb3 _ _ _ _ _) (fun w1 hw1 hh1 ha1=>zlv h hv hf ht hx hb hbl hm hg by_ hby w1 hh1) fun⟨⟨r',s'⟩,hp⟩=>?_
 rw[if_neg hok,if_neg hok]
 simp only[aC,aE]
 refine goA ?_
 refine za1 rfl (zah (znu _ _ _ _ _ _ _ _) (zai rfl rfl rfl rfl rfl rfl sQ)) fun _=>?_
 refine goA ?_
 cases fl with
 |true=>
  refine goA ?_
  refine zgf [1,2,3,4,5,6,0] rfl rfl ?_
  exact zbd (r',s') rfl rfl rfl hp (.refl _) (by simp[zab,zac,foI,zad])
 |false=>
  refine goA ?_
  refine zgf [1,2,3,4,5,6,0] rfl rfl ?_
  exact zbd (r',s') rfl rfl rfl hp (.refl _) (by simp[zab,zac,foI,zad])
theorem qnv(e:E)(h k:K):zi6 (zfy e h) k=if k=h then none else zi6 e k:=by
 unfold zi6 zfy
 rw[List.find?_filter]
 by_cases e1:k=h
 ·rw[if_pos e1,dB.2 (fun p _=>by subst e1;simp)]
  rfl
 ·rw[if_neg e1]
  congr 2
  funext p
  by_cases e2:p.1=k
  ·simp[e2,e1]
  ·simp[e2]
theorem qdr:∀(e:E) (h v k:K),Es e→zi6 (zfx e h v) k=if k=h then some v else zi6 e k
 | [],h,v,k,_=>by
  unfold zi6 zfx
  by_cases e:k=h
  ·simp[e]
  ·simp[e,Ne.symm e]
 |p::r,h,v,k,hs=>by
  have hr:Es r:=(bI.1 hs).2
  have ih:=qdr r h v k hr
  unfold zi6 at ih⊢
  unfold zfx
  split
  ·rename_i e
   subst e
   by_cases e2:k=p.1
   ·simp[e2]
   ·simp[e2,Ne.symm e2]
  ·rename_i e
   split
   ·by_cases e2:k=h
    ·simp[e2]
    ·simp[e2,Ne.symm e2]
   ·by_cases e3:p.1=k
    ·have e4:k≠h:=fun h2=>e (h2.symm.trans e3.symm)
     simp[e3,e4]
    ·rw[gR (by simpa using e3),gR (by simpa using e3)]
     exact ih
variable{e:E}
theorem qh3(hs:Es e)(h:K)(q:Nat)(k:K):zi6 (setC e h q) k=if k=h then cnt? q else zi6 e k:=by
 unfold setC cnt?
 split
 ·exact qnv e h k
 ·exact qdr e h _ k hs
theorem zvg(L:Cl)(h:Bys)(q:Nat)(k:Bys):zga (zle L h q) k=if k=h then q else zga L k:=by
 by_cases e:k=h
 ·rw[if_pos e,e];exact zt5 L h q
 ·rw[if_neg e]
  unfold zga zle
  rw[fT,List.find?_filter]
  have e1:(if q=0 then([]:Cl)else[(h,q)]).find? (fun p=>decide (p.1=k))=none:=by
   split
   ·rfl
   ·simp[Ne.symm e]
  rw[e1,Option.or_none]
  congr 3
  funext p
  by_cases e2:p.1=k
  ·simp[e2,e]
  ·simp[e2]
theorem zlf{β:Type}(h:Bys):∀L:List (Bys×β),(L.map (·.1)).Nodup→(L.filter fun p=>decide (p.1≠h)).length=if h∈L.map (·.1)then L.length - 1 else L.length
 | [],_=>rfl
 |p::L,hn=>by
  rw[bD,cP]at hn
  have ih:=zlf h L hn.2
  by_cases e:p.1=h
  ·have h2:h∉L.map (·.1):=e▸hn.1
   rw[if_neg h2]at ih
   rw[dU (by simpa using e),ih,if_pos (by rw[bD,e];exact .head _)]
   rfl
  ·rw[eN (by simpa using e),aW,ih]
   by_cases h2:h∈L.map (·.1)
   ·rw[if_pos h2,if_pos (by rw[bD];exact .tail _ h2),aW]
    have:0<L.length:=by
     cases L with
     |nil=>cases h2
     |cons _ _=>exact eZ _
    omega
   ·rw[if_neg h2,if_neg (by rw[bD,aI];exact fun h3=>h3.elim (fun h4=>e h4.symm) h2)]
    rfl
structure Rel (e:E) (L:Cl):Prop where
 l32:∀p∈L,p.1.length=32
 pos:∀p∈L,0<p.2∧p.2<4294967296
 nd:(L.map (·.1)).Nodup
 get:∀k,zi6 e k=cnt? (zga L k)
 len:e.length=L.length
theorem zg3(hp:∀p∈L,0<p.2∧p.2<4294967296)(h:Bys):zga L h<4294967296∧(zga L h≠0↔h∈L.map (·.1)):=by
 unfold zga
 cases hf:L.find? fun p=>decide (p.1=h)with
 |none=>
  refine⟨dQ,⟨fun h0=>absurd rfl h0,fun hm=>?_⟩⟩
  obtain⟨p,hp1,hp2⟩:=aO.1 hm
  exact absurd hp2 (by simpa using dB.1 hf p hp1)
 |some p=>
  have h1:=List.mem_of_find?_eq_some hf
  have h2:p.1=h:=by simpa using List.find?_some hf
  have h3:=hp p h1
  refine⟨h3.2,⟨fun _=>aO.2 ⟨p,h1,h2⟩,fun _=>?_⟩⟩
  show p.2≠0
  omega
theorem Rel.mem(h:Rel e L)(k:Bys):k∈keys e↔k∈L.map (·.1):=by
 rw[←qbq,h.get,←(zg3 h.pos k).2]
 unfold cnt?
 split
 ·rename_i h0;simp[h0]
 ·rename_i h0;simp[h0]
theorem qnb(h:Es e):(e.map (·.1)).Nodup:=List.Pairwise.imp (fun h=>zi8 h) h
theorem Rel.add(h:Rel e L)(hs:Es e){k:Bys}(hk:k.length=32){q:Nat}(hq:q<4294967296):Rel (setC e k q) (zle L k q):=by
 refine⟨zy9 h.l32 hk q,fun p hp=>?_,?_,fun k2=>?_,?_⟩
 ·unfold zle at hp
  rcases aR.1 hp with hp|hp
  ·exact h.pos p (cR.1 hp).1
  ·split at hp
   ·cases hp
   ·rw[aK.1 hp];exact⟨by show 0<q;omega,hq⟩
 ·unfold zle
  rw[bV,cM]
  refine⟨(List.filter_sublist.map _).nodup h.nd,?_,fun a ha b hb=>?_⟩
  ·split<;>simp
  ·obtain⟨p,hp,rfl⟩:=aO.1 ha
   have hp2:p.1≠k:=by simpa using (cR.1 hp).2
   split at hb
   ·cases hb
   ·have hb:b=k:=by simpa using hb
    rw[hb];exact hp2
 ·rw[qh3 hs,zvg,h.get]
  split<;>rfl
 ·have h1:=zlf k e (qnb hs)
  have h2:=zlf k L h.nd
  have h3:=h.mem k
  have h4:(zfy e k).length=(L.filter fun p=>decide (p.1≠k)).length:=by
   show(e.filter fun p=>decide (p.1≠k)).length=_
   rw[h1,h2,h.len]
   by_cases hm:k∈e.map (·.1)
   ·rw[if_pos hm,if_pos (h3.1 hm)]
   ·rw[if_neg hm,if_neg (fun x=>hm (h3.2 x))]
  unfold setC zle
  split
  ·rw[aU,h4]
  ·rw[qla hs,aA,←h4]
   unfold ins
   rw[aA,aW,aM,aX]
   show _=_+1
   omega
def hsh(c:UInt8):Bys:=c::(List.replicate 30 0++[c])
theorem qqm(c:UInt8):(hsh c).length=32:=rfl
theorem ee0(z:Nat):eeF 0 z=z:=if_pos rfl
structure qqd (c:Fc) (r:List Rt) (L:Cl) (h:Bys) (by_:Int) (fl:Bool) (y:(Option (Nat×Nat)×Option (Nat×Nat))×Nat×List Rt×Fc×Pg):Prop where
 rdy:Rdy y.2.2.2.1 y.2.2.1 y.2.2.1 y.2.2.2.2
 keep:qsc c y.2.2.2.1
 rel:∃x,y.2.2.1[0]? =some x∧Rel (zdb x) (if okC (zga L h) by_∧fl=false then zle L h ((zga L h:Int)+by_).toNat else L)
 tot:zq9 y.2.2.1≤zq9 r+1
variable{s':Pg}{hb:Bys}{by_:Int}{o:Option (Nat×Nat)×Option (Nat×Nat)}{er:Nat}
theorem qdf{c':Fc}(h:Rdy c r r s)(hx:r[0]? =some xr)(hrel:Rel (zdb xr) L)(h32:hb.length=32)(hok:okC (zga L hb) by_){q:Nat}(hq:((zga L hb:Int)+by_).toNat=q){y:List Rt×Pg}(hy:qmf c g r xr hb (zga L hb) by_ y)(hk:qsc c c')(h2:Rdy c' y.1 y.1 s'):qqd c r L hb by_ false (o,er,y.1,c',s'):=by
 obtain⟨x',e1,e2⟩:=hy.set
 rw[if_pos hok]at e2
 rw[hq]at e2
 obtain⟨g1, -,k2, -⟩:=h.now
 have hq2:q<4294967296:=by have:=hok.2;omega
 have hr:=hrel.add (k2.ok 0 xr hx).2.2 h32 hq2
 refine⟨h2,hk,⟨x',?_,?_⟩,?_⟩
 ·rw[e1,eB (by rw[k2.len];decide)]
 ·rw[if_pos ⟨hok,rfl⟩,hq,e2];exact hr
 ·have h3:=qpb hx x'
  have h4:=hr.len
  have h5:=hrel.len
  have h6:(zle L hb q).length≤L.length+1:=by
   unfold zle
   rw[aA]
   have h5:=eK (fun p=>decide (p.1≠hb)) L
   have h6:(if q=0 then([]:Cl)else[(hb,q)]).length≤1:=by split<;>simp
   omega
  rw[←e2]at h4
  show zq9 y.1≤_
  rw[e1]
  omega
theorem zt2{c':Fc}(hx:r[0]? =some xr)(hrel:Rel (zdb xr) L){fl:Bool}(hno:¬(okC (zga L hb) by_∧fl=false))(hk:qsc c c')(h2:Rdy c' r r s'):qqd c r L hb by_ fl (o,er,r,c',s'):=
 ⟨h2,hk,⟨xr,hx,by rw[if_neg hno];exact hrel⟩,Nat.le_succ _⟩
theorem qcl(h:Rdy c r r s)(hB:c.B+700<9223372036854775808){K k:Nat}(hf:Few c.N K k)(ht:zq9 r≤K)(hx:r[0]? =some xr)(hrel:Rel (zdb xr) L)(hln:L.length≤1000)(hc:UInt8)(by_:Int)(hby: -9223372036854775808≤by_∧by_<9223372036854775808)(fl:Bool)(err:Nat)(o1 o2:Option (Nat×Nat)):
  Cw Tryz.prog 11 #[.pointer (some ⟨c.b,0,none⟩),clV o1 o2 L,.agg #[.int .u8 (hc.toNat:Int),.int .i64 by_,.bool fl]] [foI c (r.map zbj) false err s,ctI,zrk o1 L,zsd o2 L]
   (fun y:(Option (Nat×Nat)×Option (Nat×Nat))×Nat×List Rt×Fc×Pg=>.tuple #[clV y.1.1 y.1.2 (if okC (zga L (hsh hc)) by_∧fl=false then zle L (hsh hc) ((zga L (hsh hc):Int)+by_).toNat else L),.bool true]) (qqd c r L (hsh hc) by_ fl)
   (fun y=>[foI y.2.2.2.1 (y.2.2.1.map zbj) false y.2.1 y.2.2.2.2,ctI,zrk y.1.1 (if okC (zga L (hsh hc)) by_∧fl=false then zle L (hsh hc) ((zga L (hsh hc):Int)+by_).toNat else L),zsd y.1.2 (if okC (zga L (hsh hc)) by_∧fl=false then zle L (hsh hc) ((zga L (hsh hc):Int)+by_).toNat else L)]):=by
 intro w hw ha
 obtain⟨g,k1,k2,k3⟩:=h.now
 refine za2 [_,_,_] _ Tryz.func11 rfl rfl hw ha ?_
 simp only[zaa,Nat.reduceAdd]
 refine goA ?_
 refine zc9 rfl rfl rfl fun b3 hb3=>?_
 refine goA ?_
 refine zbp rfl rfl fun b4 hb4=>?_
 refine goA ?_
 refine zbp rfl rfl fun b5 hb5=>?_
 refine goA ?_
 refine zam rfl rfl fun b6 hb6=>?_
 refine goA ?_
 refine l_w rfl (zks rfl rfl rfl rfl rfl) ?_
 refine zd2 17 _ (zng (hsh hc)) rfl rfl ?_
 unfold zng
 refine goA ?_
 refine zam rfl rfl fun b8 hb8=>?_
 refine goB ?_
 have h32:=qqm hc
 generalize hsh hc=hb at h32
 refine zch (fun w hw=>(zas (hw.item (zrk o1 L) mm).1).1) fun f1=>?_
 refine zch (fun w hw=>(zas (hw.item (zsd o2 L) mm).1).1) fun f2=>?_
 obtain⟨hm, -⟩:=zg3 hrel.pos hb
 rw[f1,f2]
 refine zdy rfl rfl kQ rfl (fun w1 hw1=>qfk L hrel.l32 oQ hb h32 by_ hby hm (slA o1) (slA o2) (slC o1) (slC o2) w1 (za8 (hw1.item (zrk o1 L) mm).1) (za8 (hw1.item (zsd o2 L) mm).1)) fun xo hxo=>?_
 have hph:∀y:List Rt×Pg,qmf c g r xr hb (zga L hb) by_ y→Rdy c r y.1 y.2:=fun y hy=>by
  obtain⟨g',e1,e2,e3⟩:=hy.now
  exact⟨h.st,g',e1,e2,e3.trans k3⟩
 by_cases hok:okC (zga L hb) by_
 ·rw[decide_eq_true hok]at hxo
  match xo,hxo with
  |some (p1,p2),_=>
   rw[←f1,←f2]
   obtain⟨q,hq⟩:∃q,((zga L hb:Int)+by_).toNat=q:=⟨_,rfl⟩
   rw[hq]
   simp only[aC,aE]
   refine goA ?_
   refine zam rfl rfl fun b9 hb9=>?_
   refine goA ?_
   refine zdg rfl rfl rfl fun b10 hb10=>?_
   refine goB ?_
   refine zdg rfl rfl rfl fun b11 hb11=>?_
   refine goB ?_
   refine l_w rfl (zhw rfl) ?_
   refine goA ?_
   have hgt:zi6 (zdb xr) hb=cnt? (zga L hb):=hrel.get hb
   have hlf:(zle L hb q).length≤1000000:=by
    unfold zle
    rw[aA]
    have h5:=eK (fun p=>decide (p.1≠hb)) L
    have h6:(if q=0 then([]:Cl)else[(hb,q)]).length≤1:=by split<;>simp
    omega
   cases fl with
   |true=>
    refine lC (zpn h hB (X:=List Rt×Pg) (fd:=46) (cs:=qtv b3 b8 b5 b10 b9 b11) kQ (qqg b3 b8 b5 b10 b9 b11 c.b hb hc by_ true p1 p2 (zle L hb q) true) (fun _=>qqg b3 b8 b5 b10 b9 b11 c.b hb hc by_ true p1 p2 (zle L hb q) true) (by simp[zab,zac]) (by simp[zab,zac]) (fun _=>7) (fun _=>0) (fun y=>y.1) (fun y=>y.2) (qmf c g r xr hb (zga L hb) by_) hph (fun w2 hh2 ha2=>zxt k1 k2 hf ht hx b3 b8 b5 b10 b9 b11 hb h32 hc true hm hgt by_ hby hok p1 p2 (zle L hb q) (zy9 hrel.l32 h32 q) hlf (by rw[zt5,hq]) w2 hh2 ha2)) (fun⟨⟨r',s1⟩,c',s'⟩ ⟨hd1,hd2,hd3⟩=>?_)
    simp only[ee0,show((7:Nat)=0)=False from dQ,if_false]at hd1 hd2 hd3⊢
    refine goB ?_
    simp only[jV,and_false,if_false]
    exact xC2 ((o1,o2),0,r,c',s') (zt2 hx hrel (fun h=>Bool.noConfusion h.2) hd2 hd3)
   |false=>
    refine lC (zpn h hB (X:=List Rt×Pg) (fd:=46) (cs:=qtv b3 b8 b5 b10 b9 b11) kQ (qqg b3 b8 b5 b10 b9 b11 c.b hb hc by_ false p1 p2 (zle L hb q) true) (fun _=>qqg b3 b8 b5 b10 b9 b11 c.b hb hc by_ false p1 p2 (zle L hb q) true) (by simp[zab,zac]) (by simp[zab,zac]) (fun _=>0) (fun _=>0) (fun y=>y.1) (fun y=>y.2) (qmf c g r xr hb (zga L hb) by_) hph (fun w2 hh2 ha2=>zxt k1 k2 hf ht hx b3 b8 b5 b10 b9 b11 hb h32 hc false hm hgt by_ hby hok p1 p2 (zle L hb q) (zy9 hrel.l32 h32 q) hlf (by rw[zt5,hq]) w2 hh2 ha2)) (fun⟨⟨r',s1⟩,c',s'⟩ ⟨hd1,hd2,hd3⟩=>?_)
    simp only[ee0,if_true]at hd1 hd2 hd3⊢
    refine goB ?_
    refine ziv [pt b9 _,pt b11 _,pt b10 _] 99 ?_
    refine goP ?_
    refine dSa 7 ?_
    refine goQ ?_
    rw[if_pos ⟨hok,trivial⟩]
    exact xC2 ((p1,p2),0,r',c',s') (qdf h hx hrel h32 hok hq hd1 hd2 hd3)
 ·rw[decide_eq_false hok]at hxo
  match xo,hxo with
  |none,_=>
   simp only[aE]
   refine goA ?_
   refine zam rfl rfl fun b9 hb9=>?_
   refine goA ?_
   refine zdg rfl rfl rfl fun b10 hb10=>?_
   refine goB ?_
   refine zdg rfl rfl rfl fun b11 hb11=>?_
   refine goB ?_
   refine l_w rfl (zhw rfl) ?_
   refine goA ?_
   refine lC (zpn h hB (X:=List Rt×Pg) (fd:=46) (cs:=qtv b3 b8 b5 b10 b9 b11) kQ (qtw b3 b8 b5 b10 b9 b11 c.b hb hc by_ fl (.slice (slA o1) L.length (slC o1)) (.slice (slA o2) L.length (slC o2)) true) (fun _=>qtw b3 b8 b5 b10 b9 b11 c.b hb hc by_ fl (.slice (slA o1) L.length (slC o1)) (.slice (slA o2) L.length (slC o2)) true) (by simp[zab,zac]) (by simp[zab,zac]) (fun _=>if fl then 7 else 2) (fun _=>0) (fun y=>y.1) (fun y=>y.2) (qmf c g r xr hb (zga L hb) by_) hph (fun w2 hh2 ha2=>qfo k1 k2 hf ht hx b3 b8 b5 b10 b9 b11 hb h32 hc fl hm (hrel.get hb) by_ hby hok _ _ w2 hh2 ha2)) (fun⟨⟨r',s1⟩,c',s'⟩ ⟨hd1,hd2,hd3⟩=>?_)
   simp only[ee0]at hd1 hd2 hd3⊢
   cases fl with
   |true=>
    simp only[if_true,show((7:Nat)=0)=False from dQ,if_false]at hd1 hd2 hd3⊢
    refine goB ?_
    simp only[jV,and_false,if_false]
    exact xC2 ((o1,o2),0,r,c',s') (zt2 hx hrel (fun h=>Bool.noConfusion h.2) hd2 hd3) (e:=by rw[←f1,←f2];rfl)
   |false=>
    simp only[if_false,bS,show((2:Nat)=0)=False from by decide]at hd1 hd2 hd3⊢
    refine goB ?_
    refine ziv [pt b9 _,pt b11 _,pt b10 _] 99 ?_
    refine goP ?_
    refine dSa 7 ?_
    refine goQ ?_
    rw[if_neg (fun h=>hok h.1)]
    exact xC2 ((o1,o2),0,r,c',s') (zt2 hx hrel (fun h=>hok h.1) hd2 hd3) (e:=by rw[←f1,←f2];rfl)
end Go.Proofs.YthafakdplhdfjaaGreatDoor
