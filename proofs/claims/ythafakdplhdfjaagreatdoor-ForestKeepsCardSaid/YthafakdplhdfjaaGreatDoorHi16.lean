/- Parts: forest; law 11; count; package tree; What the cards of layer 11 share. No condition. -/
import Derived.Test.YthafakdplhdfjaaGreatDoorHi15
import Derived.Test.YthafakdplhdfjaaGreatDoorHi12
import Derived.Test.YthafakdplhdfjaaGreatDoorHi13
import Derived.Test.YthafakdplhdfjaaGreatDoorHi14
set_option maxRecDepth 100000
set_option maxHeartbeats 40000000
namespace Go.Proofs.YthafakdplhdfjaaGreatDoor
open Go.RowKit Go.Eng Go.Eng.Bm Go.Eng.Tr
variable{s:Pg}
theorem StX.has'{D:Dsk}{n secs:Nat}{note:Bys}{V:List Bys}{C:PR}{B:Nat}(h:StX s D n secs note V C B)(hB:B<9223372036854775808):∃hd c TS,zy7 D n secs note V B hd c TS:=by
 obtain⟨TS,h1⟩:=h.st
 exact⟨_,_,_,h1.rec' hB⟩
def r8:List Rt:=List.replicate 8 none
theorem qri:zbu (r8.map zbj)=zej:=by decide+kernel
def S01:Nat→Bool:=us (upd noU 0 true) 1 true
variable{N:Nat}
theorem qtu(h:1<N)(W:Nat→Bys):FoV N ⟨W,S01⟩ r8:=by
 refine⟨rfl,fun i x hx=>?_,⟨?_,fun i _=>?_,fun x hx=>?_⟩⟩
 ·obtain rfl:x=none:=fG (bH hx)
  exact⟨trivial,trivial,List.Pairwise.nil⟩
 ·show(1::[]).Nodup
  simp
 ·show S01 i=true↔i=0∨i∈[1]
  unfold S01 us upd noU
  by_cases h1:i=1
  ·simp[h1]
  ·by_cases h0:i=0<;>simp[h0,h1]
 ·have hx:x∈[1]:=hx
  rw[aO.1 hx]
  omega
variable{c:Fc}
theorem qn1(hs:StX s c.d.D c.n c.secs c.note (V0 c.n) [] c.B)(hb:s.b=c.pb)(hV:c.V=V0 c.n)(h1:1<c.N)(hN:c.N≤c.n)(hn:c.n≤1024):Fok c ⟨fun i=>(V0 c.n).getD i [],upd noU 0 true⟩ s∧s.C=[]:=by
 have hC:s.C=[]:=zu8 hs.eC
 refine⟨⟨by rw[←hV]at hs;exact hs.self',hb,fun i _ _=>?_,?_,qjz (i:=0) dQ,by show 1≤c.N;omega,hN,hn,fun i _=>by rw[hC];rfl,fun i hi _=>?_⟩,hC⟩
 ·show ze5 c.V s.C i=_
  rw[hC,hV]
  rfl
 ·show zy6 c.n (ze5 c.V s.C 0) _
  rw[hC,hV]
  show zy6 c.n ((V0 c.n).getD 0 []) _
  rw[aI,qng oQ]
  exact ql9 c.n oQ
 ·have hi:c.N≤i:=hi
  show upd noU 0 true i=false
  unfold upd noU
  simp
  omega
theorem qk3(h:1<N)(W:Nat→Bys):zh8 N ⟨W,upd noU 0 true⟩= .ok (1,⟨wr W 1 zej,S01⟩):=by
 have hf:∃i,i<N∧upd noU 0 true i=false:=⟨1,h,dQ⟩
 obtain⟨f1,f2,f3⟩:=zjr hf
 have e:nw N (upd noU 0 true)=1:=by
  rcases iF (nw N (upd noU 0 true)) 1 with h1|h1|h1
  ·rw[show nw N (upd noU 0 true)=0 by omega]at f1;exact absurd f1 dQ
  ·exact h1
  ·exact absurd (f3 1 h1) dQ
 unfold zh8
 rw[if_pos hf,e]
 rfl
theorem zuj(d:Dk)(N nn log:Nat)(hd:d.D=zvd N)(hN:N≤4096)(hl1:96≤log)(hl2:log≤512)(hn1:64≤nn)(hn2:nn≤1024)(hroom:2+log+nn≤N)(M:Nat)(hM:1<M)(hMn:M≤nn)(hMl:(514*M+496)/497≤log):
  Cw Tryz.prog 44 #[.pointer (some ⟨d.b,0,none⟩),.int .i64 (log:Int),.int .i64 (nn:Int),.string ⟨zvf.toArray⟩] [dkI d,ctI,tzI] (fun _:Fc×Pg=>.int .i64 0) (fun x=>x.1.d.b=d.b∧x.1.N=M∧x.1.n=nn∧x.1.secs=log∧x.1.note=zvf∧x.1.B=603∧x.2.C=[]∧x.1.d.D.left=none∧Vok x.1 r8∧∃g,Fok x.1 g x.2) (fun x=>[dkI x.1.d,ctI,tzI]):=by
 intro w hw ha
 refine za2 [_,_,_,_] _ Tryz.func44 rfl rfl hw ha ?_
 simp only[zaa,Nat.reduceAdd]
 refine goA ?_
 refine lCu [dkI d,ctI] rfl (zbo d) (fun w1 hw1 hh1 ha1=>zw7 d N log nn zvf hd hN hl1 hl2 hn1 hn2 dQ hroom w1 hh1 ha1) fun⟨d1,k1,f2,f3,f6,f4,hh,f5⟩=>?_
 simp only[aD,aH]
 refine goA ?_
 rw[←k1]
 refine lCu [dkI d1,ctI] rfl (zbo d1) (fun w1 hw1 hh1 ha1=>zqk d1 nn log zvf (V0 nn) 1 f6 f2 f4 dQ ⟨_,_,_,f5⟩ ⟨_,by rw[aI,qng oQ];exact ql9 nn oQ⟩ w1 hh1 ha1) fun⟨⟨d2,so⟩,hd2⟩=>?_
 obtain⟨q1,q2⟩:=hd2
 cases so with
 |none=>exact absurd f3 q2.1
 |some s=>
  obtain⟨q2,q3⟩:=q2
  simp only[bX,fX,if_true,oqI,aD,aH]
  obtain⟨c,hc⟩:∃c:Fc,c=⟨d2,0,s.b,M,nn,log,zvf,V0 nn,2⟩:=⟨_,rfl⟩
  have kk:=qn1 (c:=c) (s:=s) (by rw[hc];exact q3) (by rw[hc]) (by rw[hc]) (by rw[hc];exact hM) (by rw[hc];exact hMn) (by rw[hc];exact hn2)
  have hpn:=qk3 (N:=M) hM (fun i=>(V0 c.n).getD i [])
  have k0:Tok (frC c [] false 0 0) ⟨fun i=>(V0 c.n).getD i [],upd noU 0 true⟩ s:=kk.1
  obtain⟨t1,hq1,hq2,hq3, -⟩:=k0.alloc (q:=1) (g':=⟨wr (fun i=>(V0 c.n).getD i []) 1 zej,S01⟩) (by rw[hc]at hpn⊢;exact hpn)
  have ed:(frC c [] false 0 0).d=d2:=by rw[hc];rfl
  rw[ed]at t1
  have hsb:(znt s d2.D (upd noU 0 true) 1).b=s.b:=by have:=t1.b;rw[hc]at this;exact this
  refine goA ?_
  refine zay [0,1,3,2] rfl rfl ?_
  refine lCu [pgI s d2,dkI d2,tzI] rfl (zgv s d2) (fun w1 hw1 hh1 ha1=>zn7 s d2 (by have:=k0.ok;rwa[ed]at this) (by have:=k0.lives;rwa[ed]at this) (by have:=k0.wait;rwa[ed]at this) k0.st.dead (by have:=k0.st.ok;rwa[ed]at this) (upd noU 0 true) (by have:=k0.hS;rwa[ed]at this) (by rw[k0.st.hn];exact k0.S.2.1) k0.S.2.2 1 hq1 hq2 hq3 w1 hh1 ha1) fun⟨_,_⟩=>?_
  simp only[aD,aH]
  refine goA ?_
  obtain⟨s1,hs1⟩:∃z,znt s d2.D (upd noU 0 true) 1=z:=⟨_,rfl⟩
  have hC1:s1.C≠[]:=fun e=>by
   have h2:=zcp (zeb (zb1 s d2.D 0).C 0 (bmB s.n (upd (upd noU 0 true) 1 true))) 1 zej 1
   rw[if_pos rfl]at h2
   have e2:zeb (zeb (zb1 s d2.D 0).C 0 (bmB s.n (upd (upd noU 0 true) 1 true))) 1 zej=[]:=by rw[←hs1]at e;exact e
   rw[e2]at h2
   cases h2
  rw[hs1]at t1 hsb⊢
  have f1:Fok c ⟨wr (fun i=>(V0 c.n).getD i []) 1 zej,S01⟩ s1:=t1
  refine zay [0,1,3,2] rfl rfl ?_
  simp only[bX]
  rw[←hsb]
  have hst1:StX s1 d2.D nn log zvf (V0 nn) s1.C 2:=by have:=t1.st;rw[hc]at this;exact this
  refine lCu [pgI s1 d2,dkI d2,ctI] rfl (zdq s1 d2) (fun w1 hw1 hh1 ha1=>zl7 s1 d2 nn log zvf (V0 nn) s1.C 2 hst1 dQ hC1 w1 hh1 ha1) fun⟨⟨e,d',s3⟩,hx⟩=>?_
  obtain⟨x1,x2,hx⟩:=hx
  subst hc
  have hnd:=f1.need hMl
  simp only at x1 x2 hx hnd⊢
  obtain⟨-,rfl,hlv,hst⟩:needC' s1.C≤log∧e=0∧zig d2.D d'.D∧StX s3 d'.D nn log zvf (zd9 (V0 nn) s1.C) [] (2+601):=by
   rcases hx with ⟨-,h1, -⟩ |hx|⟨-, -,h1, -⟩
   ·omega
   ·exact hx
   ·exact absurd (q2.left f3) h1
  obtain⟨k5,k6⟩:=f1.over x2 hst
  simp only[aD,aH]
  refine goA ?_
  have hv:FoV M ⟨wr (fun i=>(V0 nn).getD i []) 1 zej,S01⟩ r8:=qtu hM _
  exact zbd (_,s3) rfl rfl rfl ⟨x1.trans q1,rfl,rfl,rfl,rfl,rfl,k6,hlv.left (q2.left f3),k5.keeps k6 hv (show wr (fun i=>(V0 nn).getD i []) 1 zej 1=_ from(ze6 _ _ _).trans qri.symm),_,k5⟩ (.cons _ (.cons_cons _ (.cons_cons _ (.cons_cons _ (aL _))))) (by simp[zgz,zcb,dkI,zad])
def X0:List Value:=[.pointer none,.int .i64 0,.int .i64 0,.int .i64 0,.pointer none,.int .i64 0,.int .i64 0,.int .i64 0,.pointer none,.int .i64 0,.int .i64 0,.int .i64 0,.pointer none,.int .i64 0,.int .i64 0,.int .i64 0,.pointer none,.int .i64 0,.int .i64 0,.int .i64 0,.pointer none,.int .i64 0,.int .i64 0,.int .i64 0,.pointer none,.int .i64 0,.int .i64 0,.int .i64 0,.pointer none,.int .i64 0,.int .i64 0,.int .i64 0]
theorem zzs{s0:Pg}{r:List Rt}{g:Sg}(hk:Fok c g s0)(hC:s0.C=[])(hv:Vok c r)(hN:1<c.N)(hroom:(514*c.N+496)/497≤c.secs)(hleft:c.d.D.left=none)(hB:c.B+1<9223372036854775808):
  Cw Tryz.prog 37 #[.pointer (some ⟨c.d.b,0,none⟩)] [dkI c.d,ctI,tzI] (fun x:Fc×Pg=>.tuple #[.pointer (some ⟨x.1.b,0,none⟩),.int .i64 0]) (fun x=>x.1.d.b=c.d.b∧x.1.N=c.N∧x.1.n=c.n∧x.1.secs=c.secs∧x.1.note=c.note∧x.1.B=c.B+1∧Rdy x.1 r r x.2) (fun x=>[foI x.1 (r.map zbj) false 0 x.2,ctI]):=by
 intro w hw ha
 have h0:Tok (frC c [] false 0 0) g s0:=hk
 have hst:StX s0 c.d.D c.n c.secs c.note c.V s0.C c.B:=h0.st
 refine za2 [_] _ Tryz.func37 rfl rfl hw ha ?_
 simp only[zaa]
 refine goA ?_
 refine lCu [dkI c.d,ctI] rfl (zbo c.d) (fun w1 hw1 hh1 ha1=>zqk c.d c.n c.secs c.note c.V c.B hst.keep hst.rest hst.siz hB (hst.has' oQ) hst.p0 w1 hh1 ha1) fun⟨⟨d2,so⟩,hd2⟩=>?_
 obtain⟨q1,q2⟩:=hd2
 cases so with
 |none=>exact absurd hleft q2.1
 |some s=>
  obtain⟨q2,q3⟩:=q2
  have q1:d2.b=c.d.b:=q1
  have q2:zig c.d.D d2.D:=q2
  have q3:StX s d2.D c.n c.secs c.note c.V [] (c.B+1):=q3
  simp only[bX,fX,if_true,oqI,aD,aH]
  obtain⟨g0,w1,w2,w3,w4,w5⟩:=hv
  have hCs:s.C=[]:=zu8 q3.eC
  refine goA ?_
  refine zbp rfl rfl fun b6 hb6=>?_
  refine goA ?_
  have kf:Fok { c with d:=d2,b:=b6,pb:=s.b,B:=c.B+1 } g0 s:=⟨q3.self',rfl,fun i h1 h2=>by show ze5 c.V s.C i=_;rw[hCs];exact w1 i h1 h2,by show zy6 c.n (ze5 c.V s.C 0) _;rw[hCs];exact w2,qjz (i:=0) dQ,h0.N1,h0.N2,h0.n2,fun i _=>by rw[hCs];rfl,w3⟩
  have hl8:(r.map zbj).length=8:=by rw[aE];exact w4.len
  refine zcy (m':=qny { c with d:=d2,b:=b6,pb:=s.b,B:=c.B+1 } X0 false 0 s++[ctI]) (fun w' hw'=>hw'.pick [0,1,2,4,3] rfl rfl) ?_
  refine lCu (qny { c with d:=d2,b:=b6,pb:=s.b,B:=c.B+1 } X0 false 0 s) rfl (zpp _ _ _ _ _) (fun w1 hw1 hh1 ha1=>zpo kf hN rfl hl8 (fun a ha=>⟨(FoV.roots w4 a ha).1,aW (FoV.roots w4 a ha).2 h0.N2⟩) w5 w1 hh1 ha1) fun⟨s',hs'⟩=>?_
  have hs':Fok { c with d:=d2,b:=b6,pb:=s.b,B:=c.B+1 } g0 s':=hs'
  simp only[aD,aH]
  refine goA ?_
  exact zc1 ({ c with d:=d2,b:=b6,pb:=s.b,B:=c.B+1 },s') rfl rfl rfl rfl ⟨q1,rfl,rfl,rfl,rfl,rfl,⟨hN,hroom,q2.left hleft,⟨g0,w1,w2,w3,w4,w5⟩⟩,g0,hs',w4,w5⟩ (.refl _) (zh1 _ _ _ _ _)
def fsA(db fb:Nat):Array Value:= #[.pointer (some ⟨db,0,none⟩),.pointer (some ⟨fb,0,none⟩),.slice none 0 0,.slice none 0 0,.slice none 0 0,.slice none 0 0,.slice none 0 0,.slice none 0 0,.slice none 0 0,.slice none 0 0,.slice none 0 0,.slice none 0 0,.slice none 0 0,.slice none 0 0,.slice none 0 0,.slice none 0 0,.slice none 0 0,.slice none 0 0]
def fsC(xb db fb:Nat):Eng.Item:=pt xb (.cells (fsA db fb) 41 (0,0))
structure Beg (c:Fc) (s:Pg):Prop where
 rdy:Rdy c r8 r8 s
 N:c.N=120
 n:c.n=256
 secs:c.secs=128
 note:c.note=zvf
 B:c.B=604
theorem zlx:
  Cw Tryz.prog 10 #[] [ctI,tzI] (fun x:Nat×Fc×Pg=>.tuple #[.pointer (some ⟨x.1,0,none⟩),.bool true]) (fun x=>Beg x.2.1 x.2.2) (fun x=>[fsC x.1 x.2.1.d.b x.2.1.b,foI x.2.1 (r8.map zbj) false 0 x.2.2,ctI]):=by
 intro w hw ha
 refine za2 [] _ Tryz.func10 rfl rfl hw ha ?_
 simp only[zaa]
 refine goA ?_
 refine zdy rfl rfl kQ rfl (fun w1 hw1=>qdd 386 oQ w1) fun x hx=>?_
 simp only[aD,aH]
 refine goA ?_
 refine lCu [dkI x,ctI,tzI] rfl (by simp[zgz,zcb,dkI,zad]) (fun w1 hw1 hh1 ha1=>zuj x 386 256 128 hx dQ dQ dQ dQ dQ dQ 120 dQ dQ dQ w1 hh1 ha1) fun⟨⟨c,s0⟩,hf⟩=>?_
 obtain⟨k1,k2,k3,k4,k5,k6,k7,k8,k9,g,k10⟩:=hf
 simp only at k1 k2 k3 k4 k5 k6 k7 k8 k9 k10
 simp only[aD,aH]
 refine goA ?_
 rw[←k1]
 refine lCu [dkI c.d,ctI,tzI] rfl (by simp[zgz,zcb,dkI,zad]) (fun w1 hw1 hh1 ha1=>zzs k10 k7 k9 (by rw[k2];decide) (by rw[k2,k4];decide) k8 (by rw[k6];decide) w1 hh1 ha1) fun⟨⟨c1,s1⟩,hf⟩=>?_
 obtain⟨j1,j2,j3,j4,j5,j6,j7⟩:=hf
 simp only at j1 j2 j3 j4 j5 j6 j7
 simp only[aD,aH]
 rw[←j1]
 refine goA ?_
 refine zbp rfl rfl fun b24 hb24=>?_
 refine goA ?_
 refine zc1 (b24,c1,s1) rfl rfl rfl rfl ⟨j7,j2.trans k2,j3.trans k3,j4.trans k4,j5.trans k5,by rw[j6,k6]⟩ (.refl _) ?_
 intro it hm
 rcases hm with _|⟨_,hm⟩
 ·exact zab _ _ _
 ·exact zh1 _ _ _ _ _ it hm
end Go.Proofs.YthafakdplhdfjaaGreatDoor
namespace Go.Eng
open Go.RowKit
end Go.Eng
namespace Go.Proofs.YthafakdplhdfjaaGreatDoor
open Go.RowKit Go.Eng Go.Eng.Bm Go.Eng.Tr
structure Few (n K k:Nat):Prop where
 le:n≤1024
 lo:K≤5*2^k
 rm:(4*(K/5)+32)/3+k+4<n
 dp:k<16
end Go.Proofs.YthafakdplhdfjaaGreatDoor
namespace Go.Eng
open Go.RowKit
variable{P:Program}{Q:Exit→Act→World→Prop}{N:Fm}{l:zav}{ops:Array Oper}{w0:World}{F:Nat→Prop}{S:World→Prop}{listed:Array Bool}{α:Type}
theorem qu9{m:List Item}{t n:Nat}(L:α→zav)(φ:α→Prop)(M:α→List Item)(k:∀x,φ x→HX Q .normal N (L x) (Hp w0 F (M x)))
  (h:(∀x l' m' r,φ x→Has l' (L x)→Fnds (M x) m' r→HX Q .normal N l' (Hp w0 F m'))→HD P ops Q S t N n listed l (Hp w0 F m)):HD P ops Q S t N n listed l (Hp w0 F m):=
 h fun x _ _ _ hx hl hs=>qty (L x) (M x) hl (fun _ h=>hs.hp h) (k x hx)
theorem qnv:za4 []=none':=funext fun k=>propext ⟨fun⟨_,h,_⟩=>(nomatch h),fun h=>False.elim h⟩
theorem cw0{f:FuncId}{us:Array Value}{val:α→Value}{φ:α→Prop}{its:α→List Item}(h:∀w,Ct P f us w none' val φ its):Cw P f us [] val φ its:=fun w _ _=>by rw[qnv];exact h w
theorem dLa{m r:List Item}{ty:TypeId}{pos:String}{after:Array Edge}{t:Nat}{T:TypeId}{x y:Operand}{b:Nat}{cs:Array Value}(cs':Array Value){E:TypeId}(k:HX Q .normal N l (Hp w0 F (pt b (.cells cs' E (0,0))::r)))
  (hi0:nth ops.toList t=some ⟨none,.store T x y,ty,pos,after,none⟩:=by rfl) (hx:evO l x=some (.pointer (some ⟨b,0,none⟩)):=by rfl) (hy:evO l y=some (.agg cs'):=by rfl) (hf:Fnd (pt b (.cells cs E (0,0))) m r:=by exact qt5) (hT:(P.info? T).map (·.size)=some cs'.size:=by rfl) (h1:zb7 cs'.toList=true:=by rfl) (h2:cs'.size=cs.size:=by rfl)
  (hr0:Region.ready .any ops listed=[t]:=by kernel_rfl) (hr1:Region.ready .any ops (listed.setIfInBounds t true)=[]:=by kernel_rfl) (hok:(zez (.store T x y)&&zec l (.store T x y))=true:=by rfl):HD P ops Q S t N 1 listed l (Hp w0 F m):=
 zet ⟨hr0,hr1⟩ hi0 rfl (zah hf.perm (zaf hok hx hy hT h1 h2)) fun _=>k
end Go.Eng
namespace Go.Proofs.YthafakdplhdfjaaGreatDoor
open Go.RowKit Go.Eng Go.Eng.Bm Go.Eng.Tr
structure Rm (r:List Rt) (M A:List Mp):Prop where
 l8:M.length=8
 rel:∀(i:Nat) (x:Rt),r[i]? =some x→∃o,M[i]? =some (o,zdb x)
 arc:∀p∈M,p∈A
theorem Rm.set{r:List Rt}{M A A':List Mp}(h:Rm r M A){i:Nat}{x:Rt}{o:Om}(hA:(o,zdb x)∈A')(hs:A⊆A'):Rm (r.set i x) (M.set i (o,zdb x)) A':=by
 refine⟨by rw[bE,h.l8],fun j y hy=>?_,fun p hp=>?_⟩
 ·by_cases e:i=j
  ·subst e
   have hl:i<r.length:=by rw[←bE (i:=i) (a:=x)];exact(aF.1 hy).1
   rw[dS hl]at hy
   obtain⟨o0,h0⟩:=h.rel i r[i] (aB hl)
   cases hy
   exact⟨o,dS (aF.1 h0).1⟩
  ·rw[fL e]at hy⊢
   exact h.rel j y hy
 ·rcases cG hp with hp|rfl
  ·exact hs (h.arc p hp)
  ·exact hA
abbrev stF(xb db fb:Nat)(M:List Mp):Eng.Item:=pt xb (.cells (.pointer (some ⟨db,0,none⟩):: .pointer (some ⟨fb,0,none⟩)::zc6 dmE M).toArray 41 (0,0))
variable{L:List S11}{i:Nat}
theorem qu0{w:World}{a:Option Addr}(h:Rd w a (zc6 S11.vs L))(hi:i<L.length):∃b off,a=some ⟨b,off,none⟩∧w.rangeAt b (off+i*4) (L[i]'hi).vs:=by
 obtain⟨b,off,rfl,hrow⟩:=h.at_ (by intro h;have:=congrArg List.length h;rw[zdx S11.sz]at this;simp at this;omega)
 exact⟨b,off,rfl,Rd.row S11.sz hrow hi⟩
theorem qnq{n:Nat}(h:n=120):Few n 250 6:=by subst h;exact⟨dQ,dQ,dQ,dQ⟩
structure Cg where
 i:Nat
 r:List Rt
 s:Pg
 M:List Mp
 A:List Mp
structure Stp (c:Fc) (W1:Bys) (A0:List Mp) (n:Nat) (y:Cg):Prop where
 now:∃g,Fok c g y.s∧FoV c.N g y.r∧g.W 1=W1
 rm:Rm y.r y.M y.A
 arc:A0⊆y.A
 tot:zq9 y.r≤n
def qqh(es:List E)(x:S11):List E:=es.set x.ti (if x.d=0 then zfy (es.getD x.ti []) x.key else zfx (es.getD x.ti []) x.key x.val)
abbrev esM(M:List Mp):List E:=M.map (·.2)
theorem qnb{M:List Mp}{es:List E}(he:esM M=(L.take i).foldl qqh es)(hi:i<L.length){x:S11}(hx:L[i]'hi=x){o o':Om}{e e':E}(hM:M[x.ti]? =some (o,e))(h':(if x.d=0 then zfy e x.key else zfx e x.key x.val)=e'):esM (M.set x.ti (o',e'))=(L.take (i+1)).foldl qqh es:=by
 rw[cV,aB hi,hx]
 show _=(L.take i++[x]).foldl qqh es
 rw[kO,←he]
 show _=qqh (esM M) x
 unfold qqh esM
 rw[gR,aI,aN,hM]
 exact congrArg _ h'.symm
theorem qee{c:Fc}(hN:c.N=120){W1:Bys}{A0:List Mp}{n0:Nat}(L:List S11)(hok:∀x∈L,x.Ok)(hn:n0+L.length≤240)(a:Option Addr)(cp:Nat)(xb:Nat){y0:Cg}(h0:Stp c W1 A0 n0 y0){err:Nat}(w:World)(hr:Rd w a (zc6 S11.vs L))(hap:∀b off,a=some ⟨b,off,none⟩→L≠[]→¬za4 [foI c (y0.r.map zbj) true err y0.s,arM y0.A,stF xb c.d.b c.b y0.M] b)
  (hw:∀it∈[foI c (y0.r.map zbj) true err y0.s,arM y0.A,stF xb c.d.b c.b y0.M],zbq it w) (ha:[foI c (y0.r.map zbj) true err y0.s,arM y0.A,stF xb c.d.b c.b y0.M].Pairwise Eng.Item.Apart):
  Ct Tryz.prog 62 #[.pointer (some ⟨xb,0,none⟩),.slice a L.length cp] w (za4 [foI c (y0.r.map zbj) true err y0.s,arM y0.A,stF xb c.d.b c.b y0.M]) (fun y:Cg=>.tuple #[mfV y.M,.bool true]) (fun y=>Stp c W1 A0 (n0+L.length) y∧esM y.M=L.foldl qqh (esM y0.M))
   (fun y=>[foI c (y.r.map zbj) true err y.s,arM y.A,stF xb c.d.b c.b y0.M]):=by
 have h8:=h0.rm.l8
 refine za2 [_,_] _ Tryz.func62 rfl rfl hw ha ?_
 simp only[zaa,Nat.reduceAdd]
 refine goA ?_
 refine zam rfl rfl fun b4 hb4=>?_
 refine goA ?_
 refine l_w rfl (zgp (xs:=zc6 dmE y0.M) (c:=(zc6 dmE y0.M).toArray) rfl (by rw[zce h8];rfl) (fun w' hw'=>by
  have:=zbf (hw'.get (b:=xb) (o:=.cells (.pointer (some ⟨c.d.b,0,none⟩):: .pointer (some ⟨c.b,0,none⟩)::zc6 dmE y0.M).toArray 41 (0,0)) mm)
  exact fun j v hv=>by have:=this (2+j) v (by rw[fQ];exact hv);rwa[aJ]at this) rfl) ?_
 refine goA ?_
 refine zam rfl rfl fun b6 hb6=>?_
 refine goA ?_
 refine lSa (cs':=(zc6 dmE y0.M).toArray) (hT:=by rw[aC,zce h8];rfl) (h1:=zc8 _) (h2:=by rw[aC,zce h8];rfl) ?_
 refine goA ?_
 refine que (fun y:Cg=>[(0,.pointer (some ⟨xb,0,none⟩)),(1,.slice a L.length cp),(4,.pointer (some ⟨b4,0,none⟩)),(6,.pointer (some ⟨b6,0,none⟩)),(7,.int .i64 (y.i:Nat))]) (fun y=>y.i≤L.length∧Stp c W1 A0 (n0+y.i) y∧esM y.M=(L.take y.i).foldl qqh (esM y0.M))
  (fun y=>[foI c (y.r.map zbj) true err y.s,arM y.A,stF xb c.d.b c.b y0.M,pt b6 (.cells (zc6 dmE y.M).toArray 39 (0,0)),pt b4 (.cells (Array.replicate 16 (.slice none 0 0)) 39 (0,0))]) (fun y=>L.length - y.i) { y0 with i:=0 } ⟨bA _,⟨h0.now,h0.rm,h0.arc,h0.tot⟩,rfl⟩ fun⟨i,r,s,M,A⟩ ⟨hi,hst,hes⟩=>?_
 dsimp only at hi hst hes⊢
 have hM8:=hst.rm.l8
 dsimp only at hM8
 by_cases hil:i<L.length
 ·obtain⟨b,off,rfl,hri⟩:=qu0 hr hil
  have hF:=hap b off rfl (fun h=>by subst h;exact absurd hil (fA _))
  have ho:=hok _ (aV hil)
  generalize hLt:L[i]=t at hri ho
  have h8i:t.ti<8:=dY _ dQ
  refine goA ?_
  refine l_w rfl (zgp (xs:=t.vs) (c:= #[.int .u8 t.d,.int .u8 t.t,.int .u16 t.k,.int .u16 t.v]) rfl rfl (fun w' hw'=>za5 hri hF hw') rfl) ?_
  refine zam rfl rfl fun b8 hb8=>?_
  refine goB ?_
  obtain⟨g,k1,k2,k3⟩:=hst.now
  dsimp only at k1 k2 k3
  have hlr:(r.map zbj).length=8:=by rw[aE];exact k2.len
  obtain⟨x,hx⟩:∃x,r[t.ti]? =some x:=⟨_,aB (by rw[k2.len];exact h8i)⟩
  have har:(r.map zbj)[t.ti]? =some (zbj x):=by rw[aN,hx];rfl
  obtain⟨om,hom⟩:=hst.rm.rel _ x hx
  have hee:=(k2.ok _ x hx).2.2
  have hf:=qnq hN
  have htot:=hst.tot
  have hxl:=qmt hx
  dsimp only at hom htot
  by_cases hd:t.d=0
  ·obtain⟨x',g',e1,e2,e3,e4⟩:=k2.del oQ hf.le oQ hf.lo hf.rm hf.dp hx t.key
   refine goA ?_
   refine ziv [stF xb _ _ y0.M,pt b8 _] 99 ?_
   refine goP ?_
   refine dC0 6 (fun w _=>zj2 t ho w) fun _ _=>?_
   refine dC 7 (fun w hw _=>zui k1 hlr h8i har t.key (zgk _ _) e1 w hw) fun s' hs'=>?_
   refine goQ ?_
   refine ziv [pt b8 _,pt b6 _] 99 ?_
   refine dVP rfl rfl (zcw (cs:=(zc6 dmE M).toArray) rfl (by rw[aC,zce hM8];rfl) mm) ?_
   refine goP ?_
   have hdel:=qtr hom hM8 (hst.rm.arc _ (bH hom)) hee t.key oQ
   refine qu9 (α:=Om×List Mp×Nat) (fun z=>[(0,.pointer (some ⟨xb,0,none⟩)),(1,.slice (some ⟨b,off,none⟩) L.length cp),(4,.pointer (some ⟨b4,0,none⟩)),(6,.pointer (some ⟨b6,0,none⟩)),(7,.int .i64 (i:Nat)),(10,.bool (zi6 (zdb x) t.key).isSome),(11,.int .i64 0),(12,.pointer (some ⟨z.2.2,0,none⟩)),(13,.bool (zi6 (zdb x) t.key).isSome)]) (fun z=>(z.1,zfy (zdb x) t.key)∈z.2.1∧A⊆z.2.1)
    (fun z=>[foI c ((r.map zbj).set t.ti (zbj x')) true err s',arM z.2.1,stF xb c.d.b c.b y0.M,pt b6 (.cells (zc6 dmE M).toArray 39 (0,0)),pt b4 (.cells (Array.replicate 16 (.slice none 0 0)) 39 (0,0)),pt z.2.2 (.cells (zc6 dmE (M.set t.ti (z.1,zfy (zdb x) t.key))).toArray 39 (0,0))]) (fun⟨o',A',b12⟩ hA'=>?_) (fun hk=>?_)
   ·dsimp only at hA'⊢
    have hM8':(M.set t.ti (o',zfy (zdb x) t.key)).length=8:=by rw[bE,hM8]
    refine goA ?_
    refine l_w rfl (zcw (cs:=(zc6 dmE (M.set t.ti (o',zfy (zdb x) t.key))).toArray) rfl (by rw[aC,zce hM8'];rfl) mm) ?_
    refine lSa (cs':=(zc6 dmE (M.set t.ti (o',zfy (zdb x) t.key))).toArray) (hT:=by rw[aC,zce hM8'];rfl) (h1:=zc8 _) (h2:=by rw[aC,aC,zce hM8',zce hM8]) ?_
    refine goA ?_
    generalize (zi6 (zdb x) t.key).isSome=q
    refine l_w rfl (ov (v:=.bool false) fun _ _ _ _ _=>by cases q<;>rfl) ?_
    refine goA ?_
    rw[←gR]
    have ht:=qpb hx x'
    have hp:(zfy (zdb x) t.key).length≤(zdb x).length:=gK _ _
    rw[←e2]at hp
    exact xR ⟨i+1,r.set t.ti x',s',M.set t.ti (o',zfy (zdb x) t.key),A'⟩ ⟨hil,⟨⟨g',hs',e3,e4.trans k3⟩,e2▸hst.rm.set (x:=x') (by rw[e2];exact hA'.1) hA'.2,fun p hp=>hA'.2 (hst.arc hp),by dsimp only;omega⟩,qnb hes hil hLt hom (if_pos hd)⟩ (by dsimp only;omega)
   ·refine qwa 3 8 (cw0 fun w=>zj2 t ho w) (fun _ _=>?_) (fun b12 hb12=>?_)
    ·refine qwa 4 8 hdel (fun⟨o',A'⟩ hA'=>?_) (fun b12 hb12=>?_)
     ·dsimp only at hA'⊢
      have hM8':(M.set t.ti (o',zfy (zdb x) t.key)).length=8:=by rw[bE,hM8]
      refine goP ?_
      refine dAl 8 fun b12 hb12=>?_
      refine dSa 9 (cs':=(zc6 dmE (M.set t.ti (o',zfy (zdb x) t.key))).toArray) (hT:=by rw[aC,zce hM8'];rfl) (h1:=zc8 _) (h2:=by rw[aC,zce hM8'];rfl) ?_
      refine goP ?_
      refine zdn kQ ?_
      exact hk (o',A',b12) _ _ _ hA' (by repeat first|exact trivial|refine⟨rfl,?_⟩) qt4
     ·refine dC 4 hdel fun⟨o',A'⟩ hA'=>?_
      dsimp only at hA'⊢
      have hM8':(M.set t.ti (o',zfy (zdb x) t.key)).length=8:=by rw[bE,hM8]
      refine goP ?_
      refine dSa 9 (cs':=(zc6 dmE (M.set t.ti (o',zfy (zdb x) t.key))).toArray) (hT:=by rw[aC,zce hM8'];rfl) (h1:=zc8 _) (h2:=by rw[aC,zce hM8'];rfl) ?_
      refine goP ?_
      refine zdn kQ ?_
      exact hk (o',A',b12) _ _ _ hA' (by repeat first|exact trivial|refine⟨rfl,?_⟩) qt4
    ·refine dC 3 (cw0 fun w=>zj2 t ho w) fun _ _=>?_
     refine dC 4 hdel fun⟨o',A'⟩ hA'=>?_
     dsimp only at hA'⊢
     have hM8':(M.set t.ti (o',zfy (zdb x) t.key)).length=8:=by rw[bE,hM8]
     refine goP ?_
     refine dSa 9 (cs':=(zc6 dmE (M.set t.ti (o',zfy (zdb x) t.key))).toArray) (hT:=by rw[aC,zce hM8'];rfl) (h1:=zc8 _) (h2:=by rw[aC,zce hM8'];rfl) ?_
     refine goP ?_
     refine zdn kQ ?_
     exact hk (o',A',b12) _ _ _ hA' (by repeat first|exact trivial|refine⟨rfl,?_⟩) qt4
  ·obtain⟨x',g',e1,e2,e3,e4⟩:=k2.put hf.le oQ hf.lo hf.rm hf.dp hx t.key t.val (zgk _ _) (zgk _ _)
   refine goA ?_
   refine ziv [pt b8 _,pt b6 _] 7 ?_
   refine dVP rfl rfl (zcw (cs:=(zc6 dmE M).toArray) rfl (by rw[aC,zce hM8];rfl) mm) ?_
   refine goP ?_
   refine dC0 3 (fun w _=>zj2 t ho w) fun _ _=>?_
   refine dC0 5 (fun w _=>ztx t ho w) fun _ _=>?_
   refine dC 6 (qtv hom hM8 (hst.rm.arc _ (bH hom)) hee t.key t.val oQ) fun⟨o',A'⟩ hA'=>?_
   dsimp only at hA'⊢
   have hM8':(M.set t.ti (o',zfx (zdb x) t.key t.val)).length=8:=by rw[bE,hM8]
   refine dLa (zc6 dmE (M.set t.ti (o',zfx (zdb x) t.key t.val))).toArray (hT:=by rw[aC,zce hM8'];rfl) (h1:=zc8 _) (h2:=by rw[aC,aC,zce hM8',zce hM8]) ?_
   refine goA ?_
   refine ziv [stF xb _ _ y0.M,pt b8 _] 99 ?_
   refine goP ?_
   refine dC0 6 (fun w _=>zj2 t ho w) fun _ _=>?_
   refine dC0 8 (fun w _=>ztx t ho w) fun _ _=>?_
   refine dC 9 (fun w hw _=>qdj k1 hlr h8i har t.key t.val (zgk _ _) (zgk _ _) e1 w hw) fun s' hs'=>?_
   refine goQ ?_
   rw[←gR]
   have ht:=qpb hx x'
   have hp:=zvs (e:=zdb x) (k:=t.key) (v:=t.val)
   rw[←e2]at hp
   exact xR ⟨i+1,r.set t.ti x',s',M.set t.ti (o',zfx (zdb x) t.key t.val),A'⟩ ⟨hil,⟨⟨g',hs',e3,e4.trans k3⟩,e2▸hst.rm.set (x:=x') (by rw[e2,hA'];exact .head _) (by rw[hA'];exact fun _ h=>.tail _ h),fun p hp=>hA'▸ .tail _ (hst.arc hp),by dsimp only;omega⟩,qnb hes hil hLt hom (if_neg hd)⟩ (by dsimp only;omega)
 ·obtain rfl:i=L.length:=oQ
  refine goA ?_
  refine l_w rfl (zcw (cs:=(zc6 dmE M).toArray) rfl (by rw[aC,zce hM8];rfl) mm) ?_
  refine lSa (cs':=(zc6 dmE M).toArray) (hT:=by rw[aC,zce hM8];rfl) (h1:=zc8 _) (h2:=by rw[aC,zce hM8];rfl) ?_
  refine goA ?_
  exact xC2 ⟨L.length,r,s,M,A⟩ ⟨hst,by rw[hes,gI]⟩ (hf:=rfl) (h1:=⟨_,rfl,zaq (by rw[aC,zce hM8];rfl) mm⟩)
end Go.Proofs.YthafakdplhdfjaaGreatDoor
namespace Go.Eng
open Go.RowKit
variable{P:Program}{l:zav}{w0:World}{F:Nat→Prop}{α:Type}{val:α→Value}{φ:α→Prop}{its:α→List Item}
theorem lCw{Q:Exit→Act→World→Prop}{N:Fm}{ops:Array Oper}{rest:List Oper}{m r:List Item}{ty:TypeId}{pos:String}{after:Array Edge}{g:Option (Nat×Bool)}{d:Nat}{f:FuncId}{xs:List Operand}{tys:Array TypeId}{us:Array Value}{vs:List Value}{pre:List Item}
  (hc:∀w,Hp w0 F m w→(∀it∈pre,zbq it w)→pre.Pairwise Item.Apart→Ct P f us w (za4 pre) val φ its) (k:∀x,φ x→HL P ops Q N rest ((d,val x)::l) (Hp w0 F (apI (its x) r)))
  (hx:evs l xs=some vs:=by rfl) (hu:vs.toArray=us:=by rfl) (hf:Fnds pre m r:=by exact qt4) [hst:StabL pre] (hg:okG ops l g=true:=by rfl) (hok:zee N l (.call ⟨.value (.func f),xs.toArray,tys⟩) d=true:=by rfl) (hb:za7 P f=true:=by kernel_rfl):
  HL P ops Q N (⟨some d,.call ⟨.value (.func f),xs.toArray,tys⟩,ty,pos,after,g⟩::rest) l (Hp w0 F m):=
 zcy (m':=pre++r) (fun _ hw=>by rw[zf9];exact hw.perm hf.perm) (zeh hg (zfb hok hb hx hst.st fun w hw hh ha=>by rw[hu];exact hc w (by rw[zf9]at hw;exact hw.perm hf.perm.symm) hh ha) fun x=>by rw[zf9];exact k x.1 x.2)
theorem xC3{m r:List Item}{n:Nat}{fn:Func}{rv rq rp:ResultVar}{u t s:Value}(x:α)(hφ:φ x)(hf:fn.results= #[rv,rq,rp]:=by rfl)(h1:zhu P l (Hp w0 F m) rv u:=by exact rfl)(h2:zhu P l (Hp w0 F m) rq t:=by exact rfl)(h3:zhu P l (Hp w0 F m) rp s:=by exact rfl)(e: .tuple #[u,t,s]=val x:=by rfl)
  (hs:Fnds (its x) m r:=by exact qt4) [hst:StabL (its x)]:HX (bodyPost P fn (zjn w0 F val φ its)) .ret ⟨n,[],none⟩ l (Hp w0 F m):=
 zbr (m':=its x++r) (fun _ hw=>by rw[zf9];exact hw.perm hs.perm) (qa6 x hf (znd (fun _ hw=>by rw[zf9]at hw;exact hw.perm hs.perm.symm) h1) (znd (fun _ hw=>by rw[zf9]at hw;exact hw.perm hs.perm.symm) h2) (znd (fun _ hw=>by rw[zf9]at hw;exact hw.perm hs.perm.symm) h3) e hφ (fH _ _) hst.st)
theorem qbm{w:World}{L m r:List Item}{it:Item}(hs:Fnds (apI L [it]) m r)(hw:Hp w0 F m w){b:Nat}(hb:it.foot b):¬za4 L b:=by
 have h1:=hw.perm hs.perm
 rw[←zf9,←zf9]at h1
 rintro⟨x,hx,hk⟩
 exact(bL.1 (bL.1 h1.apart).1).2.2 x hx it (.head _) b hk hb
end Go.Eng
namespace Go.Proofs.YthafakdplhdfjaaGreatDoor
open Go.RowKit Go.Eng Go.Eng.Bm Go.Eng.Tr
def qwz(W:World)(T:Nat→Prop):Eng.Item:=⟨fun k=>k<W.heap.size∧¬T k,fun w=>∀k,k<W.heap.size→¬T k→w.heap[k]? =W.heap[k]?⟩
instance(W:World)(T:Nat→Prop):Stab (qwz W T):=⟨fun _ _ h hp k h1 h2=>(h k (.inr ⟨h1,h2⟩)).trans (hp k h1 h2)⟩
variable{w:World}{T:Nat→Prop}
theorem qw0{W:World}{a:Option Addr}{xs:List Value}(h:Rd W a xs)(hT:∀b off,a=some ⟨b,off,none⟩→xs≠[]→b<W.heap.size∧¬T b)(hp:(qwz W T).prop w):Rd w a xs:=by
 rcases h with h|⟨b,off,ha,hr⟩
 ·exact .inl h
 ·by_cases hx:xs=[]
  ·exact .inl hx
  ·obtain⟨h1,h2⟩:=hT b off ha hx
   refine .inr ⟨b,off,ha,fun j v hv=>?_⟩
   have h3:=hr j v hv
   unfold World.cell? at h3⊢
   rw[hp b h1 h2]
   exact h3
structure C11 where
 L:List S11
 fl:Bool
 a:Option Addr
 cp:Nat
def C11.vs(x:C11):List Value:=[.slice x.a x.L.length x.cp,.bool x.fl]
structure C11.Ok (x:C11) (I:Eng.Item):Prop where
 ok:∀y∈x.L,y.Ok
 rd:∀w,I.prop w→Rd w x.a (zc6 S11.vs x.L)
 old:∀b off,x.a=some ⟨b,off,none⟩→x.L≠[]→I.foot b
theorem C11.of_old{x:C11}{W:World}(ok:∀y∈x.L,y.Ok)(rd:Rd W x.a (zc6 S11.vs x.L))(old:∀b off,x.a=some ⟨b,off,none⟩→x.L≠[]→b<W.heap.size∧¬T b):x.Ok (qwz W T):=
 ⟨ok,fun _ hp=>qw0 rd (fun b off h1 h2=>old b off h1 (fun e=>h2 (by rw[e];rfl))) hp,old⟩
abbrev dcI(I:Eng.Item)(b2 b3 b7 b8 xb db fb:Nat)(x:C11)(M0:List Mp)(y:Cg):List Eng.Item:=[arM y.A,stF xb db fb M0,pt b2 (.cells #[.pointer (some ⟨xb,0,none⟩)] 24 (0,0)),pt b3 (.cells #[.slice x.a x.L.length x.cp,.bool x.fl] 70 (0,0)),pt b7 (.cells (zc6 dmE y.M).toArray 39 (0,0)),pt b8 (.cells #[.bool true] 4 (0,0)),I]
variable{c:Fc}{I:Eng.Item}
theorem zrn(hN:c.N=120){W1:Bys}{n0:Nat}[Stab I](x:C11)(hx:x.Ok I)(hn:n0+x.L.length≤240)(b2 b3 b7 b8 xb:Nat){y0:Cg}(h0:Stp c W1 y0.A n0 y0):
  Cw Tryz.prog 61 #[.pointer (some ⟨b2,0,none⟩),.pointer (some ⟨b3,0,none⟩),.pointer (some ⟨b7,0,none⟩),.pointer (some ⟨b8,0,none⟩)] (foI c (y0.r.map zbj) true 0 y0.s::dcI I b2 b3 b7 b8 xb c.d.b c.b x y0.M y0)
   (fun _:Cg=>.int .i64 (if x.fl then 5 else 0:Nat)) (fun y=>Stp c W1 y0.A (n0+x.L.length) y∧esM y.M=x.L.foldl qqh (esM y0.M)) (fun y=>foI c (y.r.map zbj) true 0 y.s::dcI I b2 b3 b7 b8 xb c.d.b c.b x y0.M y):=by
 have h8:=h0.rm.l8
 refine qnp [_,_,_,_] Tryz.func61 rfl fun w0=>?_
 simp only[zaa]
 refine goA ?_
 refine lCw (fun w1 hw1 hh ha=>qee hN (A0:=y0.A) (n0:=n0) x.L hx.ok hn x.a x.cp xb h0 w1 (hx.rd w1 (hw1.item I mm).1) (fun b off e hne=>qbm (it:=I) qt4 hw1 (hx.old b off e hne)) hh ha) fun y ⟨hy,hye⟩=>?_
 have hy8:=hy.rm.l8
 refine goA ?_
 refine lSa (cs':=(zc6 dmE y.M).toArray) (hT:=by rw[aC,zce hy8];rfl) (h1:=zc8 _) (h2:=by rw[aC,aC,zce hy8,zce h8]) ?_
 refine goB ?_
 obtain⟨xL,fl,xa,xc⟩:=x
 dsimp only at hy hye⊢
 cases fl with
 |true=>
  refine goB ?_
  exact xC y ⟨hy,hye⟩
 |false=>
  refine goB ?_
  exact xC y ⟨hy,hye⟩
structure qe9 (c:Fc) (r:List Rt) (s:Pg) (M A:List Mp) (n:Nat):Prop where
 rdy:Rdy c r r s
 N:c.N=120
 rm:Rm r M A
 tot:zq9 r≤n
theorem eeZ(z:Nat):eeF 0 z=z:=if_pos rfl
variable{r:List Rt}{s:Pg}{M A:List Mp}{n xb err:Nat}
theorem zt2(h:qe9 c r s M A n)(hB:c.B+700<9223372036854775808)[Stab I](x:C11)(hx:x.Ok I)(hn:n+x.L.length≤240):
  Cw Tryz.prog 23 #[.pointer (some ⟨xb,0,none⟩),.agg x.vs.toArray] [foI c (r.map zbj) false err s,ctI,arM A,stF xb c.d.b c.b M,I]
   (fun y:Cg×Fc×Pg=>.tuple #[.int .i64 (if x.fl then 5 else 0:Nat),mfV y.1.M,.bool true])
   (fun y=>qe9 y.2.1 (if x.fl then r else y.1.r) y.2.2 (if x.fl then M else y.1.M) y.1.A (n+x.L.length)∧qsc c y.2.1∧Rm y.1.r y.1.M y.1.A∧esM y.1.M=x.L.foldl qqh (esM M))
   (fun y=>[foI y.2.1 ((if x.fl then r else y.1.r).map zbj) false 0 y.2.2,ctI,arM y.1.A,stF xb c.d.b c.b (if x.fl then M else y.1.M),I]):=by
 have h8:=h.rm.l8
 obtain⟨g,k1,k2,k3⟩:=h.rdy.now
 have h0:Stp c (zbu (r.map zbj)) A n ⟨0,r,s,M,A⟩:=⟨⟨g,k1,k2,k3⟩,h.rm,fun _ h=>h,h.tot⟩
 refine qnp [_,_] Tryz.func23 rfl fun w0=>?_
 simp only[zaa]
 refine goA ?_
 refine zc9 rfl rfl rfl fun b2 hb2=>?_
 refine zbp rfl rfl fun b3 hb3=>?_
 refine goA ?_
 refine zam rfl rfl fun b5 hb5=>?_
 refine goA ?_
 refine l_w rfl (zgp (xs:=zc6 dmE M) (c:=(zc6 dmE M).toArray) rfl (by rw[zce h8];rfl) (fun w' hw'=>by
  have:=zbf (hw'.get (b:=xb) (o:=.cells (.pointer (some ⟨c.d.b,0,none⟩):: .pointer (some ⟨c.b,0,none⟩)::zc6 dmE M).toArray 41 (0,0)) mm)
  exact fun j v hv=>by have:=this (2+j) v (by rw[fQ];exact hv);rwa[aJ]at this) rfl) ?_
 refine goA ?_
 refine zam rfl rfl fun b7 hb7=>?_
 refine zdg rfl rfl rfl fun b8 hb8=>?_
 refine lSa (cs':=(zc6 dmE M).toArray) (hT:=by rw[aC,zce h8];rfl) (h1:=zc8 _) (h2:=by rw[aC,zce h8];rfl) ?_
 refine goB ?_
 refine l_w rfl (zhw rfl) ?_
 refine goA ?_
 have hph:∀y:Cg,Stp c (zbu (r.map zbj)) A (n+x.L.length) y∧esM y.M=x.L.foldl qqh (esM M)→Rdy c r y.r y.s:=fun y ⟨hy,_⟩=>by
  obtain⟨g',e1,e2,e3⟩:=hy.now
  exact⟨h.rdy.st,g',e1,e2,e3⟩
 refine lC (zpn h.rdy hB (X:=Cg) (fd:=61) (cs:=[.pointer (some ⟨b2,0,none⟩),.pointer (some ⟨b3,0,none⟩),.pointer (some ⟨b7,0,none⟩),.pointer (some ⟨b8,0,none⟩)]) kQ (dcI I b2 b3 b7 b8 xb c.d.b c.b x M ⟨0,r,s,M,A⟩) (fun y=>dcI I b2 b3 b7 b8 xb c.d.b c.b x M y) (inferInstance:StabL (dcI I b2 b3 b7 b8 xb c.d.b c.b x M ⟨0,r,s,M,A⟩)).st (fun y=>(inferInstance:StabL (dcI I b2 b3 b7 b8 xb c.d.b c.b x M y)).st) (fun _=>if x.fl then 5 else 0) (fun _=>0) (fun y=>y.r) (fun y=>y.s) _ hph (fun w2 hh2 ha2=>zrn (y0:=⟨0,r,s,M,A⟩) h.N x hx hn b2 b3 b7 b8 xb h0 w2 hh2 ha2)) fun⟨y,c',s'⟩ ⟨⟨hy,hye⟩,hk,hr⟩=>?_
 simp only[eeZ]at hy hye hk hr⊢
 have hy8:=hy.rm.l8
 obtain⟨xL,fl,xa,xc⟩:=x
 unfold dcI
 dsimp only at hy hye hk hr⊢
 cases fl with
 |true=>
  simp only[if_true,show((5:Nat)=0)=False from dQ,if_false]at hy hk hr⊢
  refine goA ?_
  refine ziv [pt b7 _,pt b8 _,pt b3 _] 99 ?_
  refine goP ?_
  refine dVP rfl rfl (zcw (cs:=(zc6 dmE y.M).toArray) rfl (by rw[aC,zce hy8];rfl) mm) ?_
  refine goP ?_
  refine dSa 13 (cs':=(zc6 dmE y.M).toArray) (hT:=by rw[aC,zce hy8];rfl) (h1:=zc8 _) (h2:=by rw[aC,zce hy8];rfl) ?_
  refine goQ ?_
  exact xC3 (y,c',s') ⟨⟨hr,hk.N.trans h.N,⟨h.rm.l8,h.rm.rel,fun p hp=>hy.arc (h.rm.arc p hp)⟩,by have:=h.tot;show zq9 r≤_;omega⟩,hk,hy.rm,hye⟩ (hf:=rfl) (h2:=⟨_,rfl,zaq (by rw[aC,zce hy8];rfl) mm⟩)
 |false=>
  simp only[if_true,if_false,bV]at hy hk hr⊢
  refine goA ?_
  refine l_w rfl (zcw (cs:=(zc6 dmE y.M).toArray) rfl (by rw[aC,zce hy8];rfl) mm) ?_
  refine goA ?_
  refine lSR (off:=2) (cs:=.pointer (some ⟨c.d.b,0,none⟩):: .pointer (some ⟨c.b,0,none⟩)::zc6 dmE M) (V:=zc6 dmE y.M) (by rw[zce hy8,aR,aR,zce h8];omega) (zc8 _) (hT:=by rw[zce hy8];rfl) ?_
  rw[show∀a b:Value,put (a::b::zc6 dmE M) 2 (zc6 dmE y.M)=a::b::zc6 dmE y.M from fun a b=>by unfold put;rw[zce hy8,eG (by rw[aR,aR,zce h8];omega)];simp]
  refine goA ?_
  refine ziv [pt b7 _,pt b8 _,pt b3 _] 99 ?_
  refine goP ?_
  refine dVP rfl rfl (zcw (cs:=(zc6 dmE y.M).toArray) rfl (by rw[aC,zce hy8];rfl) mm) ?_
  refine goP ?_
  refine dSa 13 (cs':=(zc6 dmE y.M).toArray) (hT:=by rw[aC,zce hy8];rfl) (h1:=zc8 _) (h2:=by rw[aC,zce hy8];rfl) ?_
  refine goQ ?_
  exact xC3 (y,c',s') ⟨⟨hr,hk.N.trans h.N,hy.rm,hy.tot⟩,hk,hy.rm,hye⟩ (hf:=rfl) (h2:=⟨_,rfl,zaq (by rw[aC,zce hy8];rfl) mm⟩)
abbrev smF(b7 b6 b3 b5:Nat)(M A:List Mp)(t i:Nat):List Eng.Item:=[pt b7 (.cells #[.bool true] 4 (0,0)),pt b6 (.cells #[.int .i64 (i:Nat)] 3 (0,0)),pt b3 (.cells (zc6 dmE M).toArray 39 (0,0)),pt b5 (.cells #[.int .i64 (t:Nat)] 3 (0,0)),arM A]
variable{t:Nat}{v:Value}
theorem qdr{p:Mp}(hM:M[t]? =some p){j:Nat}(hv:(dmE p)[j]? =some v):(zc6 dmE M).toArray[t*2+j]? =some v:=by
 obtain⟨hi,rfl⟩:=aF.1 hM
 have hj:j<2:=(aF.1 hv).1
 have:=qck zoz hi hj
 simpa using this.trans hv
variable{i:Nat}
theorem zyd(b7 b6 b3 b5:Nat){o:Om}{e:E}(hM:M[t]? =some (o,e))(h8:M.length=8)(hA:(o,e)∈A)(hb:e.length≤1000000){y:K×K}(hy:e[i]? =some y):
  Cw Tryz.prog 64 #[kV y.1,kV y.2,.pointer (some ⟨b7,0,none⟩),.pointer (some ⟨b6,0,none⟩),.pointer (some ⟨b3,0,none⟩),.pointer (some ⟨b5,0,none⟩)] (smF b7 b6 b3 b5 M A t i) (fun x:Bool×Nat=>.bool x.1) (fun x=>x=(true,i+1)) (fun x=>smF b7 b6 b3 b5 M A t x.2):=by
 obtain⟨hlt, -⟩:=aF.1 hy
 obtain⟨ht, -⟩:=aF.1 hM
 obtain⟨A1,A2,rfl⟩:=List.append_of_mem hA
 obtain⟨o1,o2⟩:=o
 refine qnp [.string (kB y.1),.string (kB y.2),_,_,_,_] Tryz.func64 rfl fun w0=>?_
 simp only[zaa]
 refine zg8 (fun _ h=>zza (p:=((o1,o2),e)) qt5 h) ?_
 refine zhm (fun w hw=>And.intro (zdj (hw.item (own 9 1 o1 e.length (e.map fun y=>kV y.1)) mm).1 oQ) (zdj (hw.item (own 9 1 o2 e.length (e.map fun y=>kV y.2)) mm).1 oQ)) fun⟨⟨kb,kc,e1⟩,⟨vb,vc,e2⟩⟩=>?_
 subst e1
 subst e2
 have c1:=qdr hM (j:=0) (v:=.slice (some ⟨kb,0,none⟩) e.length kc) rfl
 have c2:=qdr hM (j:=1) (v:=.slice (some ⟨vb,0,none⟩) e.length vc) rfl
 refine goA ?_
 refine ziv [pt b6 _,pt b3 _,pt b5 _,own 9 1 (some (kb,kc)) e.length (e.map fun y=>kV y.1),own 9 1 (some (vb,vc)) e.length (e.map fun y=>kV y.2)] 99 ?_
 refine dV 0 ?_
 refine goP ?_
 refine dVP rfl rfl (zc5 rfl rfl mm (by rw[aJ];exact c1)) ?_
 refine goP ?_
 rw[decide_eq_true (show((i:Nat):Int)<((e.length:Nat):Int) by omega)]
 refine goP ?_
 refine dVP rfl rfl (zc5 rfl rfl mm (by rw[aJ];exact c1)) ?_
 refine goP ?_
 refine dVP rfl rfl (zrc (v:=.string (kB y.1)) rfl rfl mm (by rw[aN,aJ,hy];rfl)) ?_
 refine goP ?_
 rw[show seq (kB y.1) (kB y.1)=true by simp[seq]]
 refine goP ?_
 refine dVP rfl rfl (zc5 rfl rfl mm (by rw[aJ];exact c2)) ?_
 refine goP ?_
 refine dVP rfl rfl (zrc (v:=.string (kB y.2)) rfl rfl mm (by rw[aN,aJ,hy];rfl)) ?_
 refine goP ?_
 rw[show seq (kB y.2) (kB y.2)=true by simp[seq]]
 refine goP ?_
 refine dS1 32 ?_
 refine goQ ?_
 refine zbr (fun _ h=>zwt (A1:=A1) (A2:=A2) (p:=((some (kb,kc),some (vb,vc)),e)) qt4 h) ?_
 exact xC (true,i+1) rfl
variable{g:Sg}{x:Rt}
theorem qts(h:FoV n g r)(hN:n≤1024){k m:Nat}(hk:zq9 r≤m)(hK:m≤5*2^k)(hn:(4*(m/5)+32)/3+k+4<n)(h16:k<16)(hx:r[i]? =some x)(f:K):qnd (fSh i) n g f (zbj x:Nat) (geE (zdb x) f):=by
 have hi:i<8:=by rw[←h.len];exact(aF.1 hx).1
 have q2:=(h.room hk hK hn h16 hx).2
 obtain⟨hr,hrep, -⟩:=h.ok i x hx
 have hlow:=h.low hx
 have hs:=znw hi
 match x,hr,hrep,hlow,q2 with
 |none,_,_,_,_=>exact .inl ⟨rfl,rfl⟩
 |some ⟨hh,t⟩,hr,hrep,hlow,q2=>
  have hr:TOk (fSh i) t:=hr
  have hlow:∀x∈pgs t,1≤x∧x<n:=hlow
  refine .inr ⟨pg t,rfl,?_,?_⟩
  ·have:=(hlow (pg t) (zcj t)).1
   omega
  ·show qp4 (fSh i) n g f 16 (pg t) (geE (ents t) f)
   rw[←qfa t f hr.ord]
   exact ql5 hs.kw hN t hr.ord hr.wd hr.below hr.le hr.two (fun h'=>by show 2≤(fSh i).fan/2;have:=hs.h4;omega) hrep hlow 16 q2
theorem qv4(e:E):geE e []=e:=by
 unfold geE
 exact cY.2 fun q _=>by
  have:¬kl q.1 []:=fun h=>by obtain⟨a,b⟩:=q;cases a<;>cases h
  simpa using this
theorem qwg(hN:c.N=120)(hv:FoV c.N g r)(ht:zq9 r≤250)(hx:r[t]? =some x):qnd (fSh t) c.N g [] (zbj x:Nat) (zdb x):=by
 have hf:=qnq hN
 have:=qts hv hf.le ht hf.lo hf.rm hf.dp hx []
 rwa[qv4]at this
theorem qbr(hN:c.N=120)(hk:Fok c g s)(hv:FoV c.N g r)(hm:Rm r M A)(ht:zq9 r≤250){M0:List Mp}:
  Cw Tryz.prog 26 #[.pointer (some ⟨xb,0,none⟩),mfV M] [foI c (r.map zbj) false err s,arM A,stF xb c.d.b c.b M0] (fun _:Pg=>.bool true) (fun s'=>Fok c g s') (fun s'=>[foI c (r.map zbj) false err s',arM A,stF xb c.d.b c.b M0]):=by
 have h8:=hm.l8
 refine qnp [_,_] Tryz.func26 rfl fun w0=>?_
 simp only[zaa]
 refine goA ?_
 refine zbp rfl rfl fun b3 hb3=>?_
 refine goA ?_
 refine zdg rfl rfl rfl fun b5 hb5=>?_
 refine lS (v:=.int .i64 ((0:Nat):Int)) ?_
 refine goA ?_
 refine que (fun y:Nat×Nat×Pg=>[(0,.pointer (some ⟨xb,0,none⟩)),(3,.pointer (some ⟨b3,0,none⟩)),(5,.pointer (some ⟨y.2.1,0,none⟩))]) (fun y=>y.1≤8∧Fok c g y.2.2) (fun y=>[foI c (r.map zbj) false err y.2.2,arM A,stF xb c.d.b c.b M0,pt b3 (.cells (zc6 dmE M).toArray 39 (0,0)),pt y.2.1 (.cells #[.int .i64 (y.1:Nat)] 3 (0,0))]) (fun y=>8 - y.1) (0,b5,s) ⟨bA _,hk⟩ fun⟨t,q5,s1⟩ ⟨h1,h2⟩=>?_
 dsimp only at h1 h2⊢
 by_cases h9:t<8
 ·obtain⟨x,hx⟩:∃x,r[t]? =some x:=⟨_,aB (by rw[hv.len];exact h9)⟩
  obtain⟨o,ho⟩:=hm.rel t x hx
  have hxl:=qmt hx
  have har:(r.map zbj)[t]? =some (zbj x):=by rw[aN,hx];rfl
  refine goA ?_
  refine zdg rfl rfl rfl fun b6 hb6=>?_
  refine lS (v:=.int .i64 ((0:Nat):Int)) ?_
  refine goA ?_
  refine zdg rfl rfl rfl fun b7 hb7=>?_
  refine goB ?_
  refine ziv [stF xb _ _ M0] 99 ?_
  refine goP ?_
  refine qtg rfl rfl rfl rfl kQ (fun _ h=>Fnds.hp qt4 h) (zhw rfl) ?_
  refine dV 4 ?_
  refine dC 6 (zzr h2 h9 har (qwg hN hv ht hx) (σ:=Nat) (fun i=>smF b7 b6 b3 q5 M A t i) (fun k i=>i=k.length) (fun _=>False) 0 (fd:=64) (cs:=[.pointer (some ⟨b7,0,none⟩),.pointer (some ⟨b6,0,none⟩),.pointer (some ⟨b3,0,none⟩),.pointer (some ⟨q5,0,none⟩)]) kQ (fun i=>(inferInstance:StabL (smF b7 b6 b3 q5 M A t i)).st) rfl (fun k y st hp hI w2 hh2 ha2=>?_)) fun⟨s2,i2⟩ ⟨hs2,hi2⟩=>?_
  ·subst hI
   obtain⟨t2,ht2⟩:=hp
   exact(zyd b7 b6 b3 q5 ho hm.l8 (hm.arc _ (bH ho)) oQ (i:=k.length) (y:=y) (by rw[←ht2];simp) w2 hh2 ha2).map fun z hz=>⟨z,rfl,.inl ⟨by rw[hz],by rw[hz];simp⟩,rfl⟩
  ·obtain rfl:i2=(zdb x).length:=hi2.resolve_right fun h=>h
   refine goQ ?_
   refine zhm (fun w hw=>(zas ((hw.item (arM A) mm).1.1 (own 9 1 o.1 (zdb x).length ((zdb x).map fun y=>kV y.1)) (bW.2 ⟨_,hm.arc _ (bH ho),.head _⟩)).1).1) fun f1=>?_
   have c1:=qdr ho (j:=0) (v:=.slice (slA o.1) (zdb x).length (slC o.1)) (by rw[←f1];rfl)
   refine ziv [pt b7 _,pt b6 _,pt b3 _,pt q5 _] 99 ?_
   refine goP ?_
   refine dVP rfl rfl (zc5 rfl rfl mm (by rw[aJ];exact c1)) ?_
   refine goP ?_
   rw[bne_self_eq_false]
   refine goQ ?_
   refine zdg rfl rfl rfl fun q6 hq6=>?_
   refine goB ?_
   exact xR (t+1,q6,s2) ⟨h9,hs2⟩ (by dsimp only;omega)
 ·obtain rfl:t=8:=oQ
  refine goA ?_
  exact xC s1 h2
theorem zou(S:Nat→Bool):∀n,cnt S n=((List.range n).filter S).length
 |0=>rfl
 |n+1=>by
  rw[cnt,zou S n,List.range_succ,iB,aA]
  cases h:S n<;>simp[h]
theorem qso(hn:0<n){S:Nat→Bool}{L:List Nat}(h:Acc n S L):cnt S n=1+L.length:=by
 rw[zou]
 have n1:((List.range n).filter S).Nodup:=dM jY List.nodup_range
 have n2:(0::L).Nodup:=cP.2 ⟨fun h0=>by have:=(h.low 0 h0).1;omega,h.nodup⟩
 have e:∀x,x∈(List.range n).filter S↔x∈0::L:=fun x=>by
  rw[dP,dL,aK]
  refine⟨fun⟨h1,h2⟩=>(h.is x h1).1 h2,fun h1=>?_⟩
  have hx:x<n:=by
   rcases h1 with rfl|h1
   ·exact hn
   ·exact(h.low x h1).2
  exact⟨hx,(h.is x hx).2 h1⟩
 have l1:=zve n1 fun x hx=>(e x).1 hx
 have l2:=zve n2 fun x hx=>(e x).2 hx
 rw[aR]at l1 l2
 omega
def qum(r:List Rt)(i:Nat):Nat:=2+((r.take i).map fun x=>(zjb x).length).sum
theorem qud(h:r[i]? =some x):qum r (i+1)=qum r i+(zjb x).length:=by
 unfold qum
 rw[cV,h]
 simp
 omega
theorem quc(l:List Nat)(i:Nat):(l.take i).sum≤l.sum:=by
 conv=>rhs;rw[←bF i l,List.sum_append]
 omega
theorem qvs(r:List Rt)(i:Nat):qum r i≤2+(r.map fun x=>(zjb x).length).sum:=by
 unfold qum
 rw[eO]
 have:=quc (r.map fun x=>(zjb x).length) i
 omega
theorem qu3(h:r.length=8):qum r 8=2+(r.map fun x=>(zjb x).length).sum:=by
 unfold qum
 rw[bI oQ]
theorem qwh(hk:Fok c g s)(hv:FoV c.N g r):cnt g.S 1024=2+(r.map fun x=>(zjb x).length).sum:=by
 have h0:Tok (frC c [] false 0 0) g s:=hk
 have hc:zrl c.N g.S:=fun j hj=>by
  rcases gG j c.n with h|h
  ·exact h0.hi j hj h
  ·exact h0.S.2.1 j h
 have h1:c.N≤1024:=bZ h0.N2 h0.n2
 have h2:0<c.N:=h0.N1
 rw[show(1024:Nat)=c.N+(1024 - c.N) by omega,zw1 hc,qso h2 hv.acc,aR,List.length_flatMap]
 omega
def zy9(r:List Rt)(i:Nat):List Value:=(r.take i).map (fun x=>.int .i64 ((zdb x).length:Nat))++List.replicate (8 - i) (.int .i64 0)
theorem zuu(h8:r.length=8)(hi:i≤8):(zy9 r i).length=8:=by
 unfold zy9
 rw[aA,aE,aM,cE]
 omega
theorem qua(h:r[i]? =some x)(hi:i<8):(zy9 r i).set i (.int .i64 ((zdb x).length:Nat))=zy9 r (i+1):=by
 obtain⟨hl, -⟩:=aF.1 h
 unfold zy9
 rw[cV,h,cD,aG,List.set_append_right _ _ (by rw[aE,aM];omega),aE,aM,dB oQ,kC,show 8 - i=(8 - (i+1))+1 by omega,List.replicate_succ]
 rfl
theorem qt8(h8:r.length=8):zy9 r 8=r.map fun x=>.int .i64 ((zdb x).length:Nat):=by
 unfold zy9
 rw[bI oQ]
 simp
theorem qt9(r:List Rt)(i:Nat):zb7 (zy9 r i)=true:=by
 refine zba.2 fun v hv=>?_
 rcases aS.1 hv with h|h
 ·obtain⟨x, -,rfl⟩:=aT.1 h
  rfl
 ·rw[fG h]
  rfl
variable{R:List Nat}{busy:Bool}
theorem qcl(h:Fok c g s):
  Cw Tryz.prog 66 #[.pointer (some ⟨c.pb,0,none⟩)] [foI c R busy err s] (fun _:Pg=>.int .i64 (cnt g.S 1024:Nat)) (fun s'=>Fok c g s') (fun s'=>[foI c R busy err s']):=fun w hw ha=>by
 have k:Tok (frC c [] false 0 0) g s:=h
 have h':=k.page (i:=0) (by have:=k.N1;omega)
 obtain⟨d,b,pb,N,n,secs,note,V,B⟩:=c
 obtain rfl:=k.b
 have h1:=(zk7 (m:=[]) (Hp.begin hw ha _ fun _ h=>h)).pick (m':=[pgI s d,dkI d,foC ⟨d,b,s.b,N,n,secs,note,V,B⟩ R busy err,tzI]) [1,2,0,3] rfl rfl
 have hc:=zu4 s d k.ok k.lives k.wait k.st.dead k.st.ok (by rw[k.st.hn];exact bZ k.N1 k.N2) g.S k.hS (by rw[k.st.hn];exact k.S.2.1) k.S.2.2 w (fun it hm=>by
  rcases hm with _|⟨_,_|⟨_,hm⟩⟩
  ·exact zbq.of (h1.item (pgI s d) (.head _)) (zbl s d _ (.head _))
  ·exact zbq.of (h1.item (dkI d) (.tail _ (.head _))) (zgv s d _ (.tail _ (.head _)))
  ·cases hm) (bL.1 (show([pgI s d,dkI d]++[foC ⟨d,b,s.b,N,n,secs,note,V,B⟩ R busy err,tzI]).Pairwise Eng.Item.Apart from h1.apart)).1
 have h2:=hc.calls
 unfold Ct
 refine h2.mono ?_
 rintro e w' ⟨x,he,hx,hi⟩
 have h3:=Hp.call (m:=[pgI s d,dkI d]) h1 hi fun k _ ⟨it,hm,hk⟩=>⟨it,hm,hk⟩
 exact⟨zb1 s d.D 0,he,h',Hp.its (m:=[foI ⟨d,b,s.b,N,n,secs,note,V,B⟩ R busy err (zb1 s d.D 0)]) (zhe (m:=[]) (h3.pick [2,0,1,3] rfl rfl)) (.refl _) (zb3 _ _ _ _ _)⟩
theorem zua(h:Fok c g s){a:Nat}(hi:i<8)(ha:R[i]? =some a){k p:Nat}(hl:zls (fSh i) c.N g (a:Nat)= .ok (k,p))(hk:k≤1000000000)(hp:p≤1000000000):
  Cw Tryz.prog 65 #[.pointer (some ⟨c.b,1+i*4,none⟩)] [foI c R busy err s] (fun _:Pg=>.tuple #[.int .i64 (k:Int),.int .i64 (p:Int),.int .i64 0]) (fun s'=>Fok c g s') (fun s'=>[foI c R busy err s']):=fun w hw _=>by
 rw[zik ha]at hw⊢
 rw[←qj5 (c:=c) (busy:=busy) (err:=err) ha]
 exact(qry (h.tok R busy err hi) _ hl hk hp w hw).map fun y hy=>⟨y,rfl,Tok.fok hy,by rw[zik ha]⟩
theorem zxb(hN:c.N=120)(hk:Fok c g s)(hv:FoV c.N g r)(ht:zq9 r≤250):
  Cw Tryz.prog 27 #[.pointer (some ⟨c.b,0,none⟩)] [foI c (r.map zbj) busy err s] (fun _:Pg=>.tuple #[.agg (zy9 r 8).toArray,.int .i64 0]) (fun s'=>Fok c g s') (fun s'=>[foI c (r.map zbj) busy err s']):=by
 have h8:=hv.len
 have hcn:=qwh hk hv
 have hf:=qnq hN
 have hlen:=hv.acc.nodup
 refine qnp [_] Tryz.func27 rfl fun w0=>?_
 simp only[zaa]
 refine goA ?_
 refine zam rfl rfl fun b2 hb2=>?_
 refine goA ?_
 refine zam rfl rfl fun b4 hb4=>?_
 refine goA ?_
 refine que (fun y:Nat×Pg=>[(0,.pointer (some ⟨c.b,0,none⟩)),(2,.pointer (some ⟨b2,0,none⟩)),(4,.pointer (some ⟨b4,0,none⟩)),(5,.int .i64 (qum r y.1:Nat)),(13,.int .i64 (y.1:Nat))]) (fun y=>y.1≤8∧Fok c g y.2) (fun y=>[foI c (r.map zbj) busy err y.2,pt b2 (.cells (Array.replicate 8 (.int .i64 0)) 73 (0,0)),pt b4 (.cells (zy9 r y.1).toArray 73 (0,0))]) (fun y=>8 - y.1) (0,s) ⟨bA _,hk⟩ fun⟨i,s1⟩ ⟨hi,hs1⟩=>?_
 dsimp only at hi hs1⊢
 by_cases h9:i<8
 ·obtain⟨x,hx⟩:∃x,r[i]? =some x:=⟨_,aB oQ⟩
  have har:(r.map zbj)[i]? =some (zbj x):=by rw[aN,hx];rfl
  have hxl:=qmt hx
  have hpl:=qud hx
  have hps:=qvs r (i+1)
  have hcl:=qfo g.S 1024
  refine goA ?_
  refine lC (zua hs1 h9 har (hv.check hf.le ht hf.lo hf.rm hf.dp hx) oQ oQ) fun s2 hs2=>?_
  refine goA ?_
  refine lS (cs2:=(zy9 r (i+1)).toArray) (hi:=by rw[aC,zuu h8 oQ];omega) (hn:=by rw[aJ,dG,qua hx h9]) ?_
  refine goA ?_
  exact xR (i+1,s2) ⟨h9,hs2⟩ (by dsimp only;omega) (hl:=⟨rfl,rfl,rfl,by rw[hpl];rfl,rfl,trivial⟩)
 ·obtain rfl:i=8:=oQ
  have e:=qu3 h8
  refine goA ?_
  refine l_w rfl (qpg (c:=c) (R:=r.map zbj) (s:=s1) (v:=.pointer (some ⟨c.pb,0,none⟩)) rfl mm rfl rfl) ?_
  refine goA ?_
  refine lC (qcl hs1) fun s2 hs2=>?_
  rw[hcn,e]
  refine goB ?_
  have ho:=zuu h8 (aY 8)
  refine l_w rfl (zcw (cs:=(zy9 r 8).toArray) rfl (by rw[aC,ho];rfl) mm) ?_
  refine lSa (cs':=(zy9 r 8).toArray) (hT:=by rw[aC,ho];rfl) (h1:=qt9 _ _) (h2:=by rw[aC,ho];rfl) ?_
  refine goA ?_
  exact xC2 s2 hs2 (hf:=rfl) (h1:=⟨_,rfl,zaq (by rw[aC,ho];rfl) mm⟩)
theorem zt5(hl:R.length=8)(v:Value):
  Cw Tryz.prog 71 #[.pointer (some ⟨c.b,0,none⟩),.int .i64 ((0:Nat):Int),v] [foI c R false err s] (fun _:Unit=>.int .i64 2) (fun _=>True) (fun _=>[foI c R false err s]):=by
 refine qnp [_,_,_] Tryz.func71 rfl fun w0=>?_
 simp only[zaa]
 refine goA ?_
 refine lPu rfl (fun w1 hw1=>zk9 (i:=0) dQ c.b w1) ?_
 refine goA ?_
 refine l_w rfl (qpg (c:=c) (R:=R) (s:=s) rfl mm (zl2 hl false err).1 rfl) ?_
 refine goA ?_
 exact xC () trivial
theorem qn2(hl:R.length=8)(k v:ByteArray):
  Cw Tryz.prog 40 #[.pointer (some ⟨c.b,0,none⟩),.int .i64 ((0:Nat):Int),.string k,.string v] [foI c R false err s] (fun _:Unit=>.int .i64 2) (fun _=>True) (fun _=>[foI c R false err s]):=by
 refine qnp [_,_,_,_] Tryz.func40 rfl fun w0=>?_
 simp only[zaa]
 refine goA ?_
 refine zc9 rfl rfl rfl fun b6 hb6=>?_
 refine zc9 rfl rfl rfl fun b7 hb7=>?_
 refine goA ?_
 refine l_w rfl (zhw rfl) ?_
 refine goA ?_
 refine lC (zt5 hl _) fun _ _=>?_
 refine goA ?_
 exact xC () trivial
theorem zxn:Cw Tryz.prog 42 #[.pointer (some ⟨c.b,0,none⟩)] [foI c R busy err s] (fun _:Unit=>.pointer (some ⟨c.pb,0,none⟩)) (fun _=>True) (fun _=>[foI c R busy err s]):=by
 refine qnp [_] Tryz.func42 rfl fun w0=>?_
 simp only[zaa]
 refine goA ?_
 refine l_w rfl (qpg (c:=c) (R:=R) (s:=s) (v:=.pointer (some ⟨c.pb,0,none⟩)) rfl mm rfl rfl) ?_
 refine goA ?_
 exact xC () trivial
theorem qar(h:Fok c g s)(w:World)(hh:zbq (foI c R busy err s) w):Pu Tryz.prog 57 #[.pointer (some ⟨c.pb,0,none⟩)] w (.string ⟨c.note.toArray⟩):=by
 have k:Tok (frC c [] false 0 0) g s:=h
 have h2:=zxt s c.d w (hh.1.1 _ (.tail _ (.head _)))
 obtain⟨TS,h3⟩:=k.st.st
 rw[k.b,h3.hnote]at h2
 exact h2
def qv5:List Mp:=List.replicate 8 ((none,none),[])
def qvz:List Mp:=[((none,none),[])]
variable{w0:World}{F:Nat→Prop}{m:List Eng.Item}
theorem quw(h:Hp w0 F m w):Hp w0 F (arM qvz::m) w:=Hp.close1 (zg3 qvz) (zps 9 1 (zps 9 1 h))
theorem qvh(xb db fb:Nat):fsC xb db fb=stF xb db fb qv5:=rfl
theorem qu8(h:Beg c s):qe9 c r8 s qv5 qvz 0:=
 ⟨h.rdy,h.N,⟨rfl,fun i x hx=>by
  obtain rfl:x=none:=fG (bH hx)
  have hi:i<8:=(aF.1 hx).1
  exact⟨(none,none),by unfold qv5;rw[jA,if_pos hi];rfl⟩,fun p hp=>by rw[fG hp];exact .head _⟩,dQ⟩
theorem ql3{L:List S11}{q cp:Nat}{fl:Bool}{e:TypeId}(hL:∀y∈L,y.Ok):C11.Ok ⟨L,fl,some ⟨q,0,none⟩,cp⟩ (own e 4 (some (q,n)) n (zc6 S11.vs L)):=
 ⟨hL,fun _ h=>za8 h,fun b off h _=>by cases h;exact⟨n,rfl⟩⟩
theorem qu6(d t k v:Nat):S11.Ok ⟨d,t,k,v⟩↔d<256∧t<256∧k<65536∧v<65536:=⟨fun h=>⟨h.d,h.t,h.k,h.v⟩,fun h=>⟨h.1,h.2.1,h.2.2.1,h.2.2.2⟩⟩
theorem qe9.to{s':Pg}(h:qe9 c r s M A n)(h1:FoV c.N g r)(h2:g.W 1=zbu (r.map zbj))(h3:Fok c g s'):qe9 c r s' M A n:=⟨⟨h.rdy.st,g,h3,h1,h2⟩,h.N,h.rm,h.tot⟩
theorem qu1(h:qe9 c r s M A n)(hn:n≤250):
  Cw Tryz.prog 26 #[.pointer (some ⟨xb,0,none⟩),mfV M] [foI c (r.map zbj) false err s,arM A,stF xb c.d.b c.b M] (fun _:Pg=>.bool true) (fun s'=>qe9 c r s' M A n) (fun s'=>[foI c (r.map zbj) false err s',arM A,stF xb c.d.b c.b M]):=fun w hw ha=>by
 obtain⟨g,k1,k2,k3⟩:=h.rdy.now
 exact(qbr h.N k1 k2 h.rm (bZ h.tot hn) w hw ha).map fun y hy=>⟨y,rfl,h.to k2 k3 hy,rfl⟩
theorem qru(h:qe9 c r s M A n)(hn:n≤250):
  Cw Tryz.prog 27 #[.pointer (some ⟨c.b,0,none⟩)] [foI c (r.map zbj) false err s] (fun _:Pg=>.tuple #[.agg (zy9 r 8).toArray,.int .i64 0]) (fun s'=>qe9 c r s' M A n) (fun s'=>[foI c (r.map zbj) false err s']):=fun w hw ha=>by
 obtain⟨g,k1,k2,k3⟩:=h.rdy.now
 exact(zxb h.N k1 k2 (bZ h.tot hn) w hw ha).map fun y hy=>⟨y,rfl,h.to k2 k3 hy,rfl⟩
structure Chg where
 r:List Rt
 M:List Mp
 A:List Mp
 c:Fc
 s:Pg
 T:List Mp
structure qvy (c:Fc) (M:List Mp) (n:Nat) (x:C11) (y:Chg):Prop where
 fm:qe9 y.c y.r y.s y.M y.A (n+x.L.length)
 b:y.c.b=c.b
 db:y.c.d.b=c.d.b
 B:y.c.B≤c.B+601
 note:y.c.note=c.note
 es:esM y.M=if x.fl then esM M else x.L.foldl qqh (esM M)
 T8:y.T.length=8
theorem zrs(h:qe9 c r s M A n)(hB:c.B+700<9223372036854775808)[Stab I](x:C11)(hx:x.Ok I)(hn:n+x.L.length≤240):
  Cw Tryz.prog 23 #[.pointer (some ⟨xb,0,none⟩),.agg x.vs.toArray] [foI c (r.map zbj) false err s,ctI,arM A,stF xb c.d.b c.b M,I]
   (fun y:Chg=>.tuple #[.int .i64 (if x.fl then 5 else 0:Nat),mfV y.T,.bool true]) (fun y=>qvy c M n x y)
   (fun y=>[foI y.c (y.r.map zbj) false 0 y.s,ctI,arM y.A,stF xb y.c.d.b y.c.b y.M,I]):=fun w hw ha=>
 (zt2 h hB x hx hn w hw ha).map fun y ⟨h1,k,h2,h3⟩=>⟨⟨if x.fl then r else y.1.r,if x.fl then M else y.1.M,y.1.A,y.2.1,y.2.2,y.1.M⟩,rfl,⟨h1,k.b,k.db,k.B,k.note,by dsimp only;split<;>first|rfl|exact h3,h2.l8⟩,by rw[k.b,k.db]⟩
theorem qvn(h:qe9 c r s M A n)(hi:i<8):(zy9 r 8)[i]? =some (.int .i64 (((esM M).getD i []).length:Nat)):=by
 obtain⟨g,k1,k2,k3⟩:=h.rdy.now
 have h8:=k2.len
 obtain⟨x,hx⟩:∃x,r[i]? =some x:=⟨_,aB oQ⟩
 obtain⟨o,ho⟩:=h.rm.rel i x hx
 rw[qt8 h8,aN,hx,aI,aN,ho]
 rfl
theorem qvo(h:qe9 c r s M A n):zy9 r 8=((esM M).map (·.length)).map fun k=>.int .i64 (k:Nat):=by
 obtain⟨g,k1,k2,k3⟩:=h.rdy.now
 have h8:=k2.len
 have hM:=h.rm.l8
 refine gQ fun i=>?_
 by_cases hi:i<8
 ·rw[qvn h hi,dJ,aN,aI]
  obtain⟨e,he⟩:∃e,(esM M)[i]? =some e:=⟨_,aB (by rw[aE,hM];exact hi)⟩
  rw[he]
  rfl
 ·rw[dH (by rw[zuu h8 (aY 8)];omega),dH (by rw[aE,aE,aE,hM];omega)]
variable{l:zav}{ty:TypeId}{x:Operand}
theorem qv7{db fb:Nat}(h8:M.length=8)(hx:evO l x=some (.pointer (some ⟨xb,2,none⟩)))(hm:stF xb db fb M∈m):OV Tryz.prog (.load 39 x) ty l (Hp w0 F m) (mfV M):=
 zgp (xs:=zc6 dmE M) (c:=(zc6 dmE M).toArray) hx (by rw[zce h8];rfl) (fun w' hw'=>by
  have:=zbf (hw'.get (b:=xb) (o:=.cells (.pointer (some ⟨db,0,none⟩):: .pointer (some ⟨fb,0,none⟩)::zc6 dmE M).toArray 41 (0,0)) hm)
  exact fun j v hv=>by have:=this (2+j) v (by rw[fQ];exact hv);rwa[aJ]at this) rfl
theorem qvt{H:World→Prop}{sh:Sh}(hx:evO l x=some (shV sh)):OV Tryz.prog (.field 79 x 1) ty l H (.int .i64 (sh.vw:Int)):=ov fun _ _ _ _ _=>by
 simp only[execOp,zar hx]
 rfl
theorem qf8:Cw Tryz.prog 21 #[] [ctI,tzI] (fun _:Unit=>.bool true) (fun _=>True) (fun _=>[ctI,tzI]):=by
 refine qnp [] Tryz.func21 rfl fun w0=>?_
 simp only[zaa]
 refine goA ?_
 refine lC zlx fun⟨xb,c,s⟩ hB=>?_
 have h0:=qu8 hB
 have hBB:=hB.B
 dsimp only at h0 hBB⊢
 rw[qvh]
 refine zcy (fun _ h=>quw h) ?_
 refine goB ?_
 refine za1 rfl (za3 (L:=[(0,4,.agg (S11.vs ⟨1,0,1,2⟩).toArray),(4,4,.agg (S11.vs ⟨1,6,1,3⟩).toArray)]) rfl rfl rfl rfl rfl rfl) fun⟨q1,_⟩=>?_
 refine goB ?_
 refine lC (zrs h0 oQ (I:=own 121 4 (some (q1,2)) 2 (zc6 S11.vs [⟨1,0,1,2⟩,⟨1,6,1,3⟩])) ⟨[⟨1,0,1,2⟩,⟨1,6,1,3⟩],false,some ⟨q1,0,none⟩,2⟩ (ql3 (by simp[qu6])) (show 0+2≤240 by decide)) fun⟨r1,M1,A1,c1,s1,T1⟩ h1=>?_
 dsimp only
 obtain⟨f1,g1, -,u1,n1,e1,t1⟩:=h1
 dsimp only at f1 g1 u1 n1 e1 t1
 simp only[bV,if_false]at e1⊢
 refine goB ?_
 refine zam rfl rfl fun b4 hb4=>?_
 refine goB ?_
 refine lSa (cs':=(zc6 dmE T1).toArray) (hT:=by rw[aC,zce t1];rfl) (h1:=zc8 _) (h2:=by rw[aC,zce t1];rfl) ?_
 refine goB ?_
 refine za1 rfl (za3 (L:=[(0,4,.agg (S11.vs ⟨1,0,1,9⟩).toArray),(4,4,.agg (S11.vs ⟨0,6,1,0⟩).toArray)]) rfl rfl rfl rfl rfl rfl) fun⟨q2,_⟩=>?_
 refine goB ?_
 refine lC (zrs f1 oQ (I:=own 121 4 (some (q2,2)) 2 (zc6 S11.vs [⟨1,0,1,9⟩,⟨0,6,1,0⟩])) ⟨[⟨1,0,1,9⟩,⟨0,6,1,0⟩],true,some ⟨q2,0,none⟩,2⟩ (ql3 (by simp[qu6])) (show 0+2+2≤240 by decide)) fun⟨r2,M2,A2,c2,s2,T2⟩ h2=>?_
 dsimp only
 obtain⟨f2,g2, -,u2,n2,e2,t2⟩:=h2
 dsimp only at f2 g2 u2 n2 e2 t2
 simp only[if_true]at e2⊢
 refine goB ?_
 refine zam rfl rfl fun b7 hb7=>?_
 refine goB ?_
 refine lSa (cs':=(zc6 dmE T2).toArray) (hT:=by rw[aC,zce t2];rfl) (h1:=zc8 _) (h2:=by rw[aC,zce t2];rfl) ?_
 refine goB ?_
 refine lC (qru f2 dQ) fun s3 f3=>?_
 have hl:(esM M2).map (·.length)=[1,0,0,0,0,0,1,0]:=by rw[e2,e1];decide+kernel
 rw[qvo f2,hl]
 refine goB ?_
 refine zam rfl rfl fun b9 hb9=>?_
 refine goB ?_
 refine l_w rfl (qv7 f2.rm.l8 rfl mm) ?_
 refine goB ?_
 refine lC (qu1 f3 dQ) fun s4 f4=>?_
 obtain⟨g4,k1,k2,k3⟩:=f4.rdy.now
 refine goB ?_
 refine lC (qn2 (c:=c2) (R:=r2.map zbj) (s:=s4) (err:=0) (by rw[aE];exact k2.len) ⟨#[]⟩ ⟨#[]⟩) fun _ _=>?_
 refine goB ?_
 refine lC (zxn (c:=c2) (R:=r2.map zbj) (busy:=false) (err:=0) (s:=s4)) fun _ _=>?_
 refine goA ?_
 refine lPu rfl (fun w1 hw1=>qar k1 w1 (zbq.of (hw1.item (foI c2 (r2.map zbj) false 0 s4) mm) (zad _))) ?_
 rw[n2,n1,hB.note]
 refine goA ?_
 rw[show seq ⟨zvf.toArray⟩ ⟨#[110,111,116,101]⟩=true by unfold seq;decide+kernel]
 refine goA ?_
 refine lPu rfl (fun w1 hw1=>zxa (i:=5) dQ w1) ?_
 refine l_w rfl (qvt rfl) ?_
 refine goA ?_
 refine qtx ?_
 exact xC () trivial
theorem C11.sz(x:C11):x.vs.length=2:=rfl
variable{L:List C11}{a:Option Addr}
theorem qet(h:Rd w a (zc6 C11.vs L))(hi:i<L.length):∃b off,a=some ⟨b,off,none⟩∧w.rangeAt b (off+i*2) (L[i]'hi).vs:=by
 obtain⟨b,off,rfl,hrow⟩:=h.at_ (by intro h;have:=congrArg List.length h;rw[zdx C11.sz]at this;simp at this;omega)
 exact⟨b,off,rfl,Rd.row C11.sz hrow hi⟩
theorem qwq(h:Rd w a (zc6 C11.vs L))(hi:i<L.length):∃b off,a=some ⟨b,off,none⟩:=by
 obtain⟨b,off,e, -⟩:=qet h hi
 exact⟨b,off,e⟩
def zlv(L:List C11):Bool:=decide (20<L.length)||L.any fun x=>decide (12<x.L.length)
theorem quq(L:List C11)(a:Option Addr)(cp:Nat)(w:World)(hr:Rd w a (zc6 C11.vs L)):Pu Tryz.prog 20 #[.slice a L.length cp] w (.bool (zlv L)):=by
 refine zbn [_] Tryz.func20 rfl rfl ?_
 simp only[zaa]
 refine goA ?_
 by_cases h20:20<L.length
 ·rw[show zlv L=true by unfold zlv;rw[decide_eq_true h20];rfl]
  refine goA ?_
  exact zdk rfl rfl rfl
 ·refine goA ?_
  refine que (fun i:Nat=>[(0,.slice a L.length cp),(3,.int .i64 (i:Nat))]) (fun i=>i≤L.length∧∀x∈L.take i,¬12<x.L.length) (fun _=>[]) (fun i=>L.length - i) 0 ⟨bA _,fun _ h=>nomatch h⟩ fun i ⟨hi,hs⟩=>?_
  by_cases hil:i<L.length
  ·obtain⟨b,off,rfl,hri⟩:=qet hr hil
   have hm:=aV hil
   have hts:L.take (i+1)=L.take i++[L[i]]:=by rw[cV,aB hil];rfl
   generalize L[i]=x at hri hm hts
   refine goA ?_
   refine l_w rfl (za0 (v:=.slice x.a x.L.length x.cp) rfl rfl (fun w' hw'=>za5 hri (fun h=>h) hw' 0 _ rfl)) ?_
   refine goA ?_
   by_cases h12:12<x.L.length
   ·rw[show zlv L=true by unfold zlv;rw[List.any_eq_true.2 ⟨x,hm,decide_eq_true h12⟩,kZ]]
    refine goA ?_
    exact zdk rfl rfl rfl
   ·refine goA ?_
    exact xR (i+1) ⟨hil,fun y hy=>by
     rw[hts]at hy
     rcases aS.1 hy with hy|hy
     ·exact hs y hy
     ·rw[aO.1 hy];exact h12⟩ oQ
  ·obtain rfl:i=L.length:=oQ
   rw[gI]at hs
   rw[show zlv L=false by
    unfold zlv
    rw[decide_eq_false h20,iP,jD]
    exact fun x hx=>by simpa using hs x hx]
   refine goA ?_
   exact zdk rfl rfl rfl
theorem qwv(h:zlv L=false):L.length≤20∧∀x∈L,x.L.length≤12:=by
 unfold zlv at h
 rw[Bool.or_eq_false_iff,decide_eq_false_iff_not,jD]at h
 exact⟨oQ,fun x hx=>by have:=h.2 x hx;simp at this;omega⟩
theorem toA{l:List Value}(h:l[i]? =some v):l.toArray[i]? =some v:=by simpa using h
theorem qwm{p:Mp}(hM:M[t]? =some p){j:Nat}{x y:Value}(hv:(dmE p)[j]? =some v):(x::y::zc6 dmE M).toArray[2+t*2+j]? =some v:=by
 have:=qdr hM hv
 rw[show 2+t*2+j=t*2+j+2 by omega]
 simpa using this
end Go.Proofs.YthafakdplhdfjaaGreatDoor
namespace Go.Proofs.YthafakdplhdfjaaGreatDoor
open Go.ChangeShapes Go.ChangeMaps Go.WideShapes Go.ChangeAt Go.RowKit Go.Eng Go.Proofs.YthafakdplhdfjaaGreatDoor
variable{P:Program}{W:World}{sp:Nat→Bool}{held:Bool}{H:Type}{enc:TypeId×Value→H}{t:TypeId}{cs:List Value}{x:DataW H×List MemPlace}
theorem qvg{base:Nat}{f0 f1:Field}{fuel:Nat}(ht:P.underlying t=some (.struct #[f0,f1]))(h:DataW.trod enc P W base sp held fuel t cs=some x):
  ∃y0 y1 n,cs.length=P.cellsOf t∧DataW.trod enc P W base sp held n f0.type ((cs.drop f0.offset).take (P.cellsOf f0.type))=some y0∧DataW.trod enc P W base sp held n f1.type ((cs.drop f1.offset).take (P.cellsOf f1.type))=some y1:=by
 obtain⟨xs,n,_,rfl,hl,hlen,hf⟩:=DataW.trod_struct ht h
 match xs,hlen with
 | [y0,y1],_=>exact⟨y0,y1,n,hl,by simpa using hf 0 f0 rfl,by simpa using hf 1 f1 rfl⟩
theorem qvq{base:Nat}{f0 f1 f2 f3:Field}{fuel:Nat}(ht:P.underlying t=some (.struct #[f0,f1,f2,f3]))(h:DataW.trod enc P W base sp held fuel t cs=some x):
  ∃y0 y1 y2 y3 n,cs.length=P.cellsOf t∧DataW.trod enc P W base sp held n f0.type ((cs.drop f0.offset).take (P.cellsOf f0.type))=some y0∧DataW.trod enc P W base sp held n f1.type ((cs.drop f1.offset).take (P.cellsOf f1.type))=some y1∧
   DataW.trod enc P W base sp held n f2.type ((cs.drop f2.offset).take (P.cellsOf f2.type))=some y2∧DataW.trod enc P W base sp held n f3.type ((cs.drop f3.offset).take (P.cellsOf f3.type))=some y3:=by
 obtain⟨xs,n,_,rfl,hl,hlen,hf⟩:=DataW.trod_struct ht h
 match xs,hlen with
 | [y0,y1,y2,y3],_=>exact⟨y0,y1,y2,y3,n,hl,by simpa using hf 0 f0 rfl,by simpa using hf 1 f1 rfl,by simpa using hf 2 f2 rfl,by simpa using hf 3 f3 rfl⟩
variable{y:DataW H×List MemPlace}{n:Nat}
theorem qxc(h:DataW.trod enc Tryz.prog W 0 sp held n 121 cs=some y):∃e:S11,cs=e.vs∧e.Ok:=by
 obtain⟨y0,y1,y2,y3,m,hl,t0,t1,t2,t3⟩:=qvq Tryz.underlying121 h
 have hl4:cs.length=4:=hl.trans kQ
 match cs,hl4 with
 | [a,b,c,d],_=>
  obtain⟨p,hp, -,wp⟩:=DataW.trod_int Tryz.underlying5 t0
  obtain⟨q,hq, -,wq⟩:=DataW.trod_int Tryz.underlying5 t1
  obtain⟨r,hr, -,wr⟩:=DataW.trod_int Tryz.underlying77 t2
  obtain⟨s,hs, -,ws⟩:=DataW.trod_int Tryz.underlying77 t3
  have hp':(([a,b,c,d]:List Value).drop 0).take (Tryz.prog.cellsOf 5)=[.int .u8 p]:=hp
  have hq':(([a,b,c,d]:List Value).drop 1).take (Tryz.prog.cellsOf 5)=[.int .u8 q]:=hq
  have hr':(([a,b,c,d]:List Value).drop 2).take (Tryz.prog.cellsOf 77)=[.int .u16 r]:=hr
  have hs':(([a,b,c,d]:List Value).drop 3).take (Tryz.prog.cellsOf 77)=[.int .u16 s]:=hs
  rw[show Tryz.prog.cellsOf 5=1 by kernel_rfl]at hp' hq'
  rw[show Tryz.prog.cellsOf 77=1 by kernel_rfl]at hr' hs'
  simp at hp' hq' hr' hs'
  have vp:0≤p∧p≤255:=by simpa[Lit.wf,IntKind.min,IntKind.max,IntKind.bits,IntKind.signed]using wp
  have vq:0≤q∧q≤255:=by simpa[Lit.wf,IntKind.min,IntKind.max,IntKind.bits,IntKind.signed]using wq
  have vr:0≤r∧r≤65535:=by simpa[Lit.wf,IntKind.min,IntKind.max,IntKind.bits,IntKind.signed]using wr
  have vs:0≤s∧s≤65535:=by simpa[Lit.wf,IntKind.min,IntKind.max,IntKind.bits,IntKind.signed]using ws
  refine⟨⟨p.toNat,q.toNat,r.toNat,s.toNat⟩,?_,⟨by show p.toNat<_;omega,by show q.toNat<_;omega,by show r.toNat<_;omega,by show s.toNat<_;omega⟩⟩
  show _=[Value.int .u8 (p.toNat:Int),.int .u8 (q.toNat:Int),.int .u16 (r.toNat:Int),.int .u16 (s.toNat:Int)]
  rw[hp',hq',hr',hs',Int.toNat_of_nonneg vp.1,Int.toNat_of_nonneg vq.1,Int.toNat_of_nonneg vr.1,Int.toNat_of_nonneg vs.1]
structure C11.Pre (x:C11) (W:World):Prop where
 ok:∀y∈x.L,y.Ok
 rd:Rd W x.a (zc6 S11.vs x.L)
theorem qwy(h:DataW.trod enc Tryz.prog W 0 (fun _=>true) true n 68 cs=some y):
  ∃(a:Option Addr) (L:List S11) (cp:Nat),cs=[.slice a L.length cp]∧Rd W a (zc6 S11.vs L)∧∀e∈L,e.Ok:=by
 have hc:∃(a:Option Addr) (k cp:Nat),cs=(Value.slice a k cp).cells.toList:=by
  rcases Go.Deep.open_slice Tryz.underlying68 h with ⟨hcs,_⟩ |⟨a,len,cap,m,n,D,Pl,hcs, -⟩
  ·exact⟨none,0,0,hcs⟩
  ·exact⟨some a,len,cap,hcs⟩
 obtain⟨a,k,cp,rfl⟩:=hc
 obtain⟨L,rfl, -,h2,h3⟩:=qwk (⟨0,0,0,0⟩:S11) dQ S11.sz Tryz.underlying68 kQ (fun _ _ _=>qxc) h
 exact⟨a,L,cp,by simp[Value.cells],h2,h3⟩
theorem qxa(h:DataW.trod enc Tryz.prog W 0 (fun _=>true) true n 70 cs=some y):∃e:C11,cs=e.vs∧e.Pre W:=by
 obtain⟨y0,y1,m,hl,t0,t1⟩:=qvg Tryz.underlying70 h
 have hl2:cs.length=2:=hl.trans kQ
 match cs,hl2 with
 | [a,b],_=>
  obtain⟨ad,L,cp,hs,hr,hok⟩:=qwy t0
  obtain⟨v,hv, -⟩:=DataW.trod_bool Tryz.underlying4 t1
  have hs':(([a,b]:List Value).drop 0).take (Tryz.prog.cellsOf 68)=[.slice ad L.length cp]:=hs
  have hv':(([a,b]:List Value).drop 1).take (Tryz.prog.cellsOf 4)=[.bool v]:=hv
  rw[show Tryz.prog.cellsOf 68=1 by kernel_rfl]at hs'
  rw[show Tryz.prog.cellsOf 4=1 by kernel_rfl]at hv'
  simp at hs' hv'
  refine⟨⟨L,v,ad,cp⟩,?_,⟨hok,hr⟩⟩
  show _=[Value.slice ad L.length cp,.bool v]
  rw[hs',hv']
variable{a0:Option Addr}{d:DataW H}{ps:List MemPlace}
theorem qxj{len0 cap0:Nat}(h:DataW.Trod enc Tryz.prog W 0 (fun _=>true) true 62 (.slice a0 len0 cap0) d ps):∃L:List C11,L.length=len0∧len0≤9223372036854775807∧Rd W a0 (zc6 C11.vs L)∧∀e∈L,e.Pre W:=by
 obtain⟨fuel,hf⟩:=h
 exact qwk (⟨[],false,none,0⟩:C11) dQ C11.sz Tryz.underlying62 kQ (fun _ _ _=>qxa) hf
theorem qv2{a:Addr}{v:Value}(h:W.cell? a=some v):a.block<W.heap.size:=by
 unfold World.cell? at h
 rcases gG a.block W.heap.size with hl|hl
 ·exact hl
 ·rw[dR hl]at h
  cases h
theorem C11.Pre.is(hT:zo8 W∧qbc W){x:C11}(h:x.Pre W):x.Ok (qwz W (za4 [ctI,tzI])):=by
 refine C11.of_old h.ok h.rd fun b off he hL=>?_
 obtain⟨b',off',he',hrow⟩:=qu0 h.rd (iN.2 hL)
 rw[he]at he'
 cases he'
 exact⟨qv2 (hrow 0 _ rfl),qut hT (hrow 0 _ rfl) (hrow 2 _ rfl) (fun n h=>by cases h) (fun n h=>by cases h)⟩
variable{a:Option Addr}
theorem qw3(hT:zo8 W∧qbc W){L:List C11}(hr:Rd W a (zc6 C11.vs L)):∀b off,a=some ⟨b,off,none⟩→L≠[]→b<W.heap.size∧¬za4 [ctI,tzI] b:=by
 intro b off he hL
 obtain⟨b',off',he',hrow⟩:=qet hr (iN.2 hL)
 rw[he]at he'
 cases he'
 exact⟨qv2 (hrow 0 _ rfl),qut hT (hrow 0 _ rfl) (hrow 0 _ rfl) (fun n h=>by cases h) (fun n h=>by cases h)⟩
abbrev qxh(W:World):List Eng.Item:=[ctI,tzI,qwz W (za4 [ctI,tzI])]
theorem qwr(hT:zo8 W∧qbc W):∀it∈qxh W,zbq it W:=by
 intro it hm
 rcases hm with _|⟨_,_|⟨_,_|⟨_,hm⟩⟩⟩
 ·exact qdc hT _ (.head _)
 ·exact qdc hT _ (.tail _ (.head _))
 ·exact⟨fun _ _ _=>rfl,(inferInstance:Stab (qwz W (za4 [ctI,tzI]))).st,fun k hk=>hk.1⟩
 ·cases hm
theorem qv3(W:World):(qxh W).Pairwise Eng.Item.Apart:=by
 have h:=zzl
 refine(bL (l₁:=[ctI,tzI]) (l₂:=[qwz W (za4 [ctI,tzI])])).2 ⟨h,eB _ _,fun x hx y hy k h1 h2=>?_⟩
 rcases hy with _|⟨_,hy⟩
 ·exact h2.2 ⟨x,hx,h1⟩
 ·cases hy
theorem qw1{W':World}(hT:zo8 W∧qbc W)(h:Its (za4 (qxh W)) W (qxh W) W'):Below W.heap.size W W':=by
 refine⟨h.fr.os,h.fr.tape,h.fr.output,h.fr.size,fun k hk=>?_⟩
 by_cases h1:k=1
 ·rw[h1,hT.1.obj]
  exact((h.item ctI (.head _)).1:zo8 W').obj
 by_cases h2:k=0
 ·rw[h2,hT.2.obj]
  exact((h.item tzI (.tail _ (.head _))).1:qbc W').obj
 ·refine(h.item (qwz W (za4 [ctI,tzI])) (.tail _ (.tail _ (.head _)))).1 k hk ?_
  rintro⟨it,hm,hf⟩
  rcases hm with _|⟨_,_|⟨_,hm⟩⟩
  ·exact h1 hf
  ·exact h2 hf
  ·cases hm
theorem qw4{w:World}(hT:zo8 W∧qbc W){xs:List Value}(h:Rd W a xs)(hI:(qwz W (za4 [ctI,tzI])).prop w)(hC:ctI.prop w)(hZ:tzI.prop w):Rd w a xs:=by
 have hC:zo8 w:=hC
 have hZ:qbc w:=hZ
 rcases h with h|⟨b,off,ha,hr⟩
 ·exact .inl h
 ·refine .inr ⟨b,off,ha,fun j v hv=>?_⟩
  have h3:=hr j v hv
  have h4:=qv2 h3
  unfold World.cell? at h3⊢
  rw[show w.heap[b]? =W.heap[b]? from ?_]
  ·exact h3
  ·by_cases h1:b=1
   ·rw[h1,hT.1.obj,hC.obj]
   by_cases h2:b=0
   ·rw[h2,hT.2.obj,hZ.obj]
   ·refine hI b h4 ?_
    rintro⟨it,hm,hf⟩
    rcases hm with _|⟨_,_|⟨_,hm⟩⟩
    ·exact h1 hf
    ·exact h2 hf
    ·cases hm
theorem qvx:∀L:List UInt8,zc6 (fun c:UInt8=>[Value.int .u8 (c.toNat:Int)]) L=zae L
 | []=>rfl
 |c::L=>congrArg (Value.int .u8 (c.toNat:Int):: ·) (qvx L)
theorem qxn{len0 cap0:Nat}(h:DataW.Trod enc Tryz.prog W 0 (fun _=>true) true 63 (.slice a0 len0 cap0) d ps):∃L:List UInt8,L.length=len0∧len0≤9223372036854775807∧Rd W a0 (zae L)∧∀e∈L,True:=by
 obtain⟨fuel,hf⟩:=h
 obtain⟨L,h1,h2,h3,h4⟩:=qwk (vs:=fun c:UInt8=>[.int .u8 (c.toNat:Int)]) (Ok:=fun _=>True) (0:UInt8) dQ (fun _=>rfl) Tryz.underlying63 kQ (fun cs y n hy=>by
  obtain⟨p,hp, -,wp⟩:=DataW.trod_int Tryz.underlying5 hy
  have vp:0≤p∧p≤255:=by simpa[Lit.wf,IntKind.min,IntKind.max,IntKind.bits,IntKind.signed]using wp
  exact⟨UInt8.ofNat p.toNat,by rw[hp,UInt8.toNat_ofNat',bC oQ,Int.toNat_of_nonneg vp.1],trivial⟩) hf
 refine⟨L,h1,h2,?_,h4⟩
 rwa[qvx]at h3
end Go.Proofs.YthafakdplhdfjaaGreatDoor
namespace Go.Proofs.YthafakdplhdfjaaGreatDoor
open Go.RowKit Go.Eng Go.Eng.Bm Go.Eng.Tr
variable{c:Fc}{g:Sg}{s:Pg}{r:List Rt}
theorem Fok.vok(h:Fok c g s)(hv:FoV c.N g r)(h1:g.W 1=zbu (r.map zbj)):Vok { c with V:=zd9 c.V s.C } r:=by
 have h0:Tok (frC c [] false 0 0) g s:=h
 have e:∀i,i<c.n→(zd9 c.V s.C).getD i []=ze5 c.V s.C i:=fun i hi=>zx6 (by have:=h0.st.len;exact Nat.lt_of_lt_of_eq hi this.symm)
 exact⟨g,fun i a b=>(e i b).trans (h0.W i a b),by show zy6 c.n ((zd9 c.V s.C).getD 0 []) g.S;rw[e 0 h0.n1];exact h0.S,h0.hi,hv,h1⟩
structure CmK (c:Fc) (g:Sg) (R:List Nat) (x:Nat×Fc×Pg):Prop where
 keep:qsc c x.2.1
 is:(x.1=0∧(∃g',Fok x.2.1 g' x.2.2∧g'.S=g.S∧(∀i,i≠1→g'.W i=g.W i)∧g'.W 1=zbu R)∧x.2.2.C=[])∨
  (x.1=4∧x.2.2.dead=true∧x.2.2.b=c.pb∧Off x.2.1.d.D c.n c.secs c.note x.2.1.V x.2.1.B∧(x.2.1.V=c.V∨∃g' s',Fok c g' s'∧g'.S=g.S∧(∀i,i≠1→g'.W i=g.W i)∧g'.W 1=zbu R∧x.2.1.V=zd9 c.V s'.C))
variable{busy:Bool}{err:Nat}
theorem qus(h:Fok c g s)(h1N:1<c.N)(hroom:(514*c.N+496)/497≤c.secs)(hB:c.B+700<9223372036854775808){R R0:List Nat}(hl:R.length=8)(hR:∀a∈R,a<65536)(hl0:R0.length=8)(hW:g.W 1=zbu R0):
  Cw Tryz.prog 54 #[.pointer (some ⟨c.b,0,none⟩)] [foI c R busy err s,ctI] (fun x:Nat×Fc×Pg=>.int .i64 (x.1:Nat)) (CmK c g R) (fun x=>[foI x.2.1 R busy err x.2.2,ctI]):=by
 intro w hw ha
 have h0:Tok (frC c [] false 0 0) g s:=h
 have hb:s.b=c.pb:=h0.b
 have hpg:pageB s c.d.D 1=g.W 1:=h0.pg (aY _) h1N
 have h':=h0.page (i:=1) h1N
 have hsn:s.n=c.n:=h0.st.hn
 have hb1:(zb1 s c.d.D 1).b=c.pb:=h'.b
 have hn1:(zb1 s c.d.D 1).n=c.n:=h'.st.hn
 have hn2:c.n≤1024:=h0.n2
 have h1n:1<c.n:=aW h1N h0.N2
 refine za2 [_] _ Tryz.func54 rfl rfl hw ha ?_
 simp only[zaa]
 refine zg8 (m':=foL c R busy err s++[ctI]) (fun w h=>zk7 h) ?_
 unfold foL
 simp only[aD,aH]
 refine goA ?_
 rw[←hb]
 refine zay [1,2,0,3,4] rfl rfl ?_
 refine lCu [pgI s c.d,dkI c.d] rfl (zdp s c.d) (fun w1 hw1 hh1 ha1=>zhi s c.d h0.ok h0.lives h0.wait h0.st.dead h0.st.ok 1 oQ w1 hh1 ha1) fun⟨b,_⟩=>?_
 rw[hpg,hW]
 dsimp only
 refine goA ?_
 refine zcy (m':=foI c R busy err (zb1 s c.d.D 1)::[rdI b (zbu R0),ctI]) (fun w' hw'=>zhe (m:=[rdI b (zbu R0),ctI]) (hw'.pick [3,1,2,4,0,5] rfl rfl)) ?_
 refine zdy rfl rfl kQ rfl (fun w1 hw1=>zpq hl hR w1 (zbq.of (hw1.item _ (.head _)) (zad _))) fun x hx=>?_
 simp only[aD,aH]
 refine zch (fun w hw=>(zas (hw.item (own 5 1 x 512 (zae (zbu R))) (.head _)).1).1) fun f1=>?_
 rw[f1]
 refine goA ?_
 refine lPu rfl (fun w1 hw1=>zfp (some ⟨b,0,none⟩) (slA x) 512 512 512 (slC x) (zbu R0) (zbu R) (zem hl0) (zem hl) w1 (qch (hw1.item (rdI b (zbu R0)) mm).1) (za8 (hw1.item (own 5 1 x 512 (zae (zbu R))) mm).1)) ?_
 obtain⟨bb,hbb⟩:∃z,decide (zbu R0=zbu R)=z:=⟨_,rfl⟩
 rw[hbb]
 refine goA ?_
 refine zq3 (w0:=w) (F:=za4 [foI c R busy err s,ctI]) (α:=Pg) (fun _=>[(0,.pointer (some ⟨c.b,0,none⟩)),(4,.int .i64 0)]) (fun s2=>∃g',Fok c g' s2∧g'.S=g.S∧(∀i,i≠1→g'.W i=g.W i)∧g'.W 1=zbu R) (fun s2=>[foI c R busy err s2,ctI]) ?_ fun s2 ⟨g2,k1,k2,k3,k4⟩=>?_
 ·cases bb with
  |true=>
   have e:=of_decide_eq_true hbb
   refine goA ?_
   exact zep (zb1 s c.d.D 1) ⟨rfl,rfl,trivial⟩ ⟨g,Tok.fok (R:=[]) (busy:=false) (err:=0) (i:=0) h',rfl,fun _ _=>rfl,hW.trans e⟩ (fun w' hw'=>hw'.pick [1,3] rfl rfl)
  |false=>
   refine goA ?_
   refine zcy (m':=foL c R busy err (zb1 s c.d.D 1)++[own 5 1 x 512 (zae (zbu R)),ctI]) (fun w h=>zk7 (h.pick [1,0,3] rfl rfl)) ?_
   unfold foL
   simp only[aD,aH]
   refine goA ?_
   rw[←hb1]
   refine zay [1,4,0,2,3,5] rfl rfl ?_
   refine lCu [pgI (zb1 s c.d.D 1) c.d] rfl (zbl _ _) (fun w1 hw1 hh1 ha1=>zqf (zb1 s c.d.D 1) c.d 1 (zbu R) (zem hl) (slA x) (slC x) h'.st.dead oQ w1 hh1 (za8 (hw1.item (own 5 1 x 512 (zae (zbu R))) mm).1) (fun b off e=>zbx hw1 (.head _) ⟨b,off,none⟩ e)) fun⟨_,_⟩=>?_
   have hcc:¬((1:Int)<1∨((zb1 s c.d.D 1).n:Int)≤1):=oQ
   rw[if_neg hcc,if_neg hcc,show(1:Int).toNat=1 from rfl]
   simp only[aD,aH]
   refine goA ?_
   refine zep { zb1 s c.d.D 1 with C:=zeb (zb1 s c.d.D 1).C 1 (zbu R) } ⟨rfl,rfl,trivial⟩ ⟨_,Tok.fok (R:=[]) (busy:=false) (err:=0) (i:=0) (h'.save (aY _) h1N (zem hl)),rfl,fun i hi=>?_,show wr g.W 1 (zbu R) 1=zbu R from ze6 _ _ _⟩ (fun w' hw'=>zhe (m:=[ctI]) (hw'.pick [2,0,3,4,5] rfl rfl))
   show wr g.W 1 (zbu R) i=g.W i
   unfold wr
   rw[if_neg hi]
 ·have k0:Tok (frC c [] false 0 0) g2 s2:=k1
  have hb2:s2.b=c.pb:=k0.b
  refine zg8 (m':=foL c R busy err s2++[ctI]) (fun w h=>zk7 h) ?_
  unfold foL
  simp only[aD,aH]
  refine goA ?_
  rw[←hb2]
  by_cases hC:s2.C=[]
  ·refine lPu rfl (fun w1 hw1=>zvq s2 c.d k0.st.dead hC w1 (zbq.of (hw1.item (pgI s2 c.d) mm) (zbv _ _))) ?_
   refine goA ?_
   refine zbr (m':=foI c R busy err s2::[ctI]) (fun w' hw'=>zhe (m:=[ctI]) hw') ?_
   exact zbd (0,c,s2) rfl rfl rfl ⟨⟨rfl,rfl,rfl,rfl,rfl,rfl,rfl,fM _ _⟩,.inl ⟨rfl,⟨g2,k1,k2,k3,k4⟩,hC⟩⟩ (.refl _) (zh1 _ _ _ _ _)
  ·refine zay [1,2,4,0,3] rfl rfl ?_
   refine lCu [pgI s2 c.d,dkI c.d,ctI] rfl (zdq s2 c.d) (fun w1 hw1 hh1 ha1=>zl7 s2 c.d c.n c.secs c.note c.V s2.C c.B k0.st hB hC w1 hh1 ha1) fun⟨⟨e,d',s3⟩,hx⟩=>?_
   obtain⟨x1,x2,hx⟩:=hx
   have hnd:=k1.need hroom
   simp only at x1 x2 hx⊢
   rcases hx with ⟨-,h1, -⟩ |⟨-,rfl,hlv,hst⟩ |⟨-,rfl, -,hdd,ho⟩
   ·omega
   ·obtain⟨k5,k6⟩:=k1.over x2 hst
    refine goA ?_
    refine zbr (m':=foI { c with d:=d',V:=zd9 c.V s2.C,B:=c.B+601 } R busy err s3::[ctI]) (fun w' hw'=>zhe (m:=[ctI]) (hw'.pick [3,0,1,4,2] rfl rfl)) ?_
    exact zbd (0,{ c with d:=d',V:=zd9 c.V s2.C,B:=c.B+601 },s3) rfl rfl rfl ⟨⟨rfl,rfl,rfl,rfl,rfl,rfl,x1,aY _⟩,.inl ⟨rfl,⟨g2,k5,k2,k3,k4⟩,k6⟩⟩ (.refl _) (zh1 _ _ _ _ _)
   ·obtain⟨V',ho',hV'⟩:∃V',Off d'.D c.n c.secs c.note V' (c.B+601)∧(V'=c.V∨V'=zd9 c.V s2.C):=by
     rcases ho with h|h
     ·exact⟨_,h,.inl rfl⟩
     ·exact⟨_,h,.inr rfl⟩
    refine goA ?_
    refine zbr (m':=foI { c with d:=d',V:=V',B:=c.B+601 } R busy err s3::[ctI]) (fun w' hw'=>zhe (m:=[ctI]) (hw'.pick [3,0,1,4,2] rfl rfl)) ?_
    exact zbd (4,{ c with d:=d',V:=V',B:=c.B+601 },s3) rfl rfl rfl ⟨⟨rfl,rfl,rfl,rfl,rfl,rfl,x1,aY _⟩,.inr ⟨rfl,hdd,x2.trans hb2,ho',hV'.imp id fun e=>⟨g2,s2,k1,k2,k3,k4,e⟩⟩⟩ (.refl _) (zh1 _ _ _ _ _)
structure qxk (c:Fc) (r:List Rt):Prop where
 N1:1<c.N
 room:(514*c.N+496)/497≤c.secs
 base:Vok c r
structure qv8 (c:Fc) (r0 r:List Rt) (s:Pg):Prop where
 st:qxk c r0
 now:∃g,Fok c g s∧FoV c.N g r∧g.W 1=zbu (r0.map zbj)
theorem Vok.sw{c':Fc}(h:Vok c r)(eV:c'.V=c.V)(eN:c'.N=c.N)(en:c'.n=c.n):Vok c' r:=by
 unfold Vok at h⊢
 rw[eV,eN,en]
 exact h
structure qwu (c:Fc) (r0 r:List Rt):Prop where
 off:Off c.d.D c.n c.secs c.note c.V c.B
 N1:1<c.N
 room:(514*c.N+496)/497≤c.secs
 vok:Vok c r0∨Vok c r
structure DoR where
 e:Nat
 dead:Bool
 c:Fc
 r:List Rt
 s:Pg
structure DoK (c:Fc) (r0 r:List Rt) (k:Nat) (y:DoR):Prop where
 keep:qsc c y.c
 is:(y.dead=false∧y.e=k∧y.r=(if k=0 then r else r0)∧qv8 y.c y.r y.r y.s)∨(y.dead=true∧y.e=4∧k=0∧qwu y.c r0 r)
def doI(dead:Bool)(c:Fc)(R:List Nat)(err:Nat)(s:Pg):Eng.Item:=if dead then zef [dkI c.d,tzI]else foI c R false err s
theorem qu2(dead:Bool)(c:Fc)(R:List Nat)(err:Nat)(s:Pg):(doI dead c R err s).Stable none':=by
 cases dead
 ·exact zad _
 ·exact zad _
instance(dead:Bool)(c:Fc)(R:List Nat)(err:Nat)(s:Pg):Stab (doI dead c R err s):=⟨qu2 _ _ _ _ _⟩
theorem qxb(c:Fc)(R:List Nat)(busy:Bool)(err:Nat):(frA c R busy err)[0]? =some (.pointer (some ⟨c.pb,0,none⟩)):=rfl
theorem qwo(hd:s.dead=true)(i:Int):qe3 s i≠0:=by
 unfold qe3
 rw[hd]
 split
 ·decide
 ·decide
theorem qvi(s:Pg)(d:Dk)(i:Nat)(hk:qe3 s i≠0)(w:World)(h:zbq (pgI s d) w):Pu Tryz.prog 88 #[.pointer (some ⟨s.b,0,none⟩),.int .i64 (i:Int)] w (.tuple #[.slice none 0 0,.int .i64 (qe3 s i:Nat)]):=by
 refine zbn [_,_] Tryz.func88 rfl rfl ?_
 simp only[zaa,Nat.reduceAdd]
 refine goA ?_
 refine lPu rfl (fun w1 hw1=>zp1 s d i w1 (h.keep hw1)) ?_
 generalize qe3 s i=k at hk
 refine goA ?_
 exact zie rfl rfl rfl rfl
theorem qw9(c:Fc)(s:Pg)(hb:s.b=c.pb)(hd:s.dead=true){R:List Nat}:Cw Tryz.prog 56 #[.pointer (some ⟨c.b,0,none⟩)] [foI c R busy err s] (fun k:Nat=>.int .i64 (k:Nat)) (fun _=>True) (fun _=>[foI c R busy err s]):=by
 refine qnp [_] Tryz.func56 rfl fun w0=>?_
 simp only[zaa,Nat.reduceAdd]
 refine goA ?_
 refine l_w rfl (qpg (c:=c) (R:=R) (s:=s) (v:=.pointer (some ⟨c.pb,0,none⟩)) rfl mm rfl rfl) ?_
 refine goA ?_
 rw[←hb]
 have hk:=qwo hd ((1:Nat):Int)
 refine lPu rfl (fun w1 hw1=>qvi s c.d 1 hk w1 ((hw1.item (foI c R busy err s) mm).1.1 _ (.tail _ (.head _)))) ?_
 generalize qe3 s ((1:Nat):Int)=k at hk
 refine goA ?_
 exact xC k trivial
theorem qv1{r0:List Rt}(h:qv8 c r0 r0 s)(hB:c.B+700<9223372036854775808){X:Type}{fd:FuncId}{cs:List Value}(hb:za7 Tryz.prog fd=true)(D:List Eng.Item)(D':X→List Eng.Item)(hsD:∀it∈D,it.Stable none')(hsD':∀x,∀it∈D' x,it.Stable none')(ex er:X→Nat)(rx:X→List Rt)(sx:X→Pg)(φ:X→Prop)(hφ:∀x,φ x→qv8 c r0 (rx x) (sx x))
  (hdo:∀w1,(∀it∈foI c (r0.map zbj) true 0 s::D,zbq it w1)→(foI c (r0.map zbj) true 0 s::D).Pairwise Eng.Item.Apart→Ct Tryz.prog fd cs.toArray w1 (za4 (foI c (r0.map zbj) true 0 s::D)) (fun x:X=>.int .i64 (ex x:Nat)) φ (fun x=>foI c ((rx x).map zbj) true (er x) (sx x)::D' x)):
  Cw Tryz.prog 18 #[.pointer (some ⟨c.b,0,none⟩),.func (.func fd) #[] cs.toArray] (foI c (r0.map zbj) false err s::ctI::D) (fun x:X×DoR=>.int .i64 (x.2.e:Nat)) (fun x=>φ x.1∧DoK c r0 (rx x.1) (eeF (er x.1) (ex x.1)) x.2) (fun x=>doI x.2.dead x.2.c (x.2.r.map zbj) (er x.1) x.2.s::ctI::D' x.1):=by
 intro w hw hap
 obtain⟨g,k1,k2,k3⟩:=h.now
 have hl:(r0.map zbj).length=8:=by rw[aE];exact k2.len
 refine za2 [_,_] _ Tryz.func18 rfl rfl hw hap ?_
 simp only[zaa,Nat.reduceAdd]
 refine goA ?_
 refine l_w rfl (zwf (v':=.bool false) (ov fun _ _ _ _ _=>rfl) rfl) ?_
 refine goA ?_
 refine l_w rfl (qpg (c:=c) (R:=r0.map zbj) (s:=s) rfl (.head _) (zl2 hl false err).1 rfl) ?_
 refine goA ?_
 refine zcy (m':=foL c (r0.map zbj) false err s++(ctI::D)) (fun w h=>zk7 h) ?_
 unfold foL
 simp only[aD,aH]
 refine goA ?_
 refine za1 rfl (qb8 hl rfl rfl rfl rfl) fun _=>?_
 refine goA ?_
 refine za1 rfl (qhe (e':=0) hl rfl rfl rfl rfl) fun _=>?_
 refine goA ?_
 refine zcy (m':=(foI c (r0.map zbj) true 0 s::D)++[ctI]) (fun w hw=>(zhe (m:=ctI::D) hw).perm (.cons _ (eD _ _).symm)) ?_
 have hst:∀it∈foI c (r0.map zbj) true 0 s::D,it.Stable none':=fun it hm=>by
  rcases aK.1 hm with rfl|hm
  ·exact zad _
  ·exact hsD it hm
 refine zeh rfl (zx1 (pre:=foI c (r0.map zbj) true 0 s::D) (fs:=[]) (cs:=cs) rfl hb rfl rfl rfl hst (fun w1 hw1 hh1 ha1=>hdo w1 hh1 ha1)) fun⟨x,hx⟩=>?_
 obtain⟨g2,j1,j2,j3⟩:=(hφ x hx).now
 have hl':((rx x).map zbj).length=8:=by rw[aE];exact j2.len
 have j0:Tok (frC c [] false 0 0) g2 (sx x):=j1
 have hb2:(sx x).b=c.pb:=j0.b
 have hlt:∀a∈(rx x).map zbj,a<65536:=fun a ha=>by
  have h5:a<1024:=aW (FoV.roots j2 a ha).2 (bZ j0.N2 j0.n2)
  omega
 refine zcy (m':=foL c ((rx x).map zbj) true (er x) (sx x)++(ctI::D' x)) (fun w hw=>zk7 (hw.perm (.cons _ (eD _ _)))) ?_
 unfold foL
 simp only[aD,aH]
 refine goA ?_
 refine za1 rfl (qb8 hl' rfl rfl rfl rfl) fun _=>?_
 refine goA ?_
 refine l_w rfl (qrw rfl (.head _) (zl2 hl' false (er x)).2 rfl) ?_
 refine goA ?_
 have hfin:∀z:X×DoR,∀it∈doI z.2.dead z.2.c (z.2.r.map zbj) (er z.1) z.2.s::ctI::D' z.1,it.Stable none':=fun z it hm=>by
  rcases aK.1 hm with rfl|hm
  ·exact qu2 _ _ _ _ _
  ·rcases aK.1 hm with rfl|hm
   ·exact zcb _
   ·exact hsD' z.1 it hm
 obtain⟨ee,hee⟩:∃z,eeF (er x) (ex x)=z:=⟨_,rfl⟩
 refine zq3 (w0:=w) (F:=za4 (foI c (r0.map zbj) false err s::ctI::D)) (α:=Unit) (fun _=>[(0,.pointer (some ⟨c.b,0,none⟩)),(5,.int .i64 (ee:Nat))]) (fun _=>True) (fun _=>foC c ((rx x).map zbj) false (er x)::pgI (sx x) c.d::dkI c.d::tzI::ctI::D' x) ?_ fun _ _=>?_
 ·by_cases h0:er x=0
  ·rw[show ee=ex x by rw[←hee];exact if_pos h0,h0]
   refine goA ?_
   exact zep () ⟨rfl,rfl,trivial⟩ trivial (fun w' hw'=>hw')
  ·rw[show ee=er x by rw[←hee];exact if_neg h0]
   refine goA ?_
   refine l_w rfl (qrw rfl (.head _) (zl2 hl' false (er x)).2 rfl) ?_
   refine goA ?_
   exact zep () ⟨rfl,rfl,trivial⟩ trivial (fun w' hw'=>hw')
 ·by_cases h0:ee=0
  ·subst h0
   refine goA ?_
   refine zcy (m':=[foI c ((rx x).map zbj) false (er x) (sx x),ctI]++D' x) (fun w hw=>zhe (m:=ctI::D' x) hw) ?_
   refine lCu [foI c ((rx x).map zbj) false (er x) (sx x),ctI] rfl (zh1 _ _ _ _ _) (fun w1 hw1 hh1 ha1=>qus j1 h.st.N1 h.st.room hB hl' hlt hl j3 w1 hh1 ha1) fun⟨⟨e,c',s'⟩,af⟩=>?_
   obtain⟨kp,is⟩:=af
   simp only at kp is
   simp only[aD,aH]
   rcases is with ⟨rfl,⟨g3,b1,b2,b3,b4⟩,b5⟩ |⟨rfl,b1,b2,b3,b4⟩
   ·refine goA ?_
    have hV:=FoV.same j2 b2 b3
    have hR:qv8 c' (rx x) (rx x) s':=⟨⟨by rw[kp.N];exact h.st.N1,by rw[kp.N,kp.secs];exact h.st.room,b1.keeps b5 (by rw[kp.N];exact hV) b4⟩,g3,b1,by rw[kp.N];exact hV,b4⟩
    exact zbd (x,⟨0,false,c',rx x,s'⟩) rfl rfl rfl ⟨hx,kp,.inl ⟨rfl,by rw[hee],by rw[hee];rfl,hR⟩⟩ (.refl _) (hfin (x,⟨0,false,c',rx x,s'⟩))
   ·have hG:qwu c' r0 (rx x):=⟨by rw[kp.n,kp.secs,kp.note];exact b3,by rw[kp.N];exact h.st.N1,by rw[kp.N,kp.secs];exact h.st.room,b4.imp (fun e=>h.st.base.sw e kp.N kp.n) fun⟨g',s2,e1,e2,e3,e4,e5⟩=>(e1.vok (FoV.same j2 e2 e3) e4).sw e5 kp.N kp.n⟩
    refine zcy (m':=foL c' ((rx x).map zbj) false (er x) s'++(ctI::D' x)) (fun w hw=>zk7 hw) ?_
    unfold foL
    simp only[aD,aH]
    refine goA ?_
    rw[←kp.b]
    refine l_w rfl (qrw rfl mm (qxb c' ((rx x).map zbj) false (er x)) rfl) ?_
    refine goA ?_
    rw[kp.pb,←b2]
    refine zgb (zcg _ _ _) ?_
    refine lCu [pgI s' c'.d] rfl (zbl _ _) (fun w1 hw1 hh1 ha1=>zk2 s' c'.d w1 hh1) fun⟨_,_⟩=>?_
    simp only[aD,aH]
    refine zgb (zcg _ _ _) ?_
    refine zcy (m':=foI c' ((rx x).map zbj) false (er x) { s' with C:=[] }::(ctI::D' x)) (fun w hw=>zhe hw) ?_
    refine goA ?_
    refine lCu ([foI c' ((rx x).map zbj) false (er x) { s' with C:=[] }]) rfl (zb3 _ _ _ _ _) (fun w1 hw1 hh1 ha1=>qw9 c' { s' with C:=[] } (b2.trans kp.pb.symm) b1 w1 hh1 ha1) fun⟨k,_⟩=>?_
    simp only[aD,aH]
    refine goA ?_
    refine zbr (m':=doI true c' (r0.map zbj) (er x) s'::ctI::D' x) (fun w hw=>?_) ?_
    ·refine Hp.close1 (L:=[dkI c'.d,tzI]) (by simp[zgz,dkI,zad]) ?_
     exact(zk7 hw).sub (.cons _ (.cons _ (.refl _)))
    ·exact zbd (x,⟨4,true,c',r0,s'⟩) rfl rfl rfl ⟨hx,kp,.inr ⟨rfl,rfl,hee,hG⟩⟩ (.refl _) (hfin (x,⟨4,true,c',r0,s'⟩))
  ·obtain⟨g0,c1,c2,c3⟩:=Fok.back j1 h.st.base
   have c0:Tok (frC c [] false 0 0) g0 { sx x with C:=[] }:=c1
   refine goA ?_
   rw[←hb2]
   refine zgb (zcg _ _ _) ?_
   refine lCu [pgI (sx x) c.d] rfl (zbl _ _) (fun w1 hw1 hh1 ha1=>zk2 (sx x) c.d w1 hh1) fun⟨_,_⟩=>?_
   simp only[aD,aH]
   refine zgb (zcg _ _ _) ?_
   refine goA ?_
   refine zcy (m':=qny c (frT c.pb 0 ((rx x).map zbj)) false (er x) { sx x with C:=[] }++(ctI::D' x)) (fun w hw=>hw) ?_
   refine lCu (qny c (frT c.pb 0 ((rx x).map zbj)) false (er x) { sx x with C:=[] }) rfl (zpp _ _ _ _ _) (fun w1 hw1 hh1 ha1=>zpo c1 h.st.N1 (by rw[zhr,hl']) hl (fun a ha=>⟨(FoV.roots c2 a ha).1,aW (FoV.roots c2 a ha).2 c0.N2⟩) c3 w1 hh1 ha1) fun⟨s',hs'⟩=>?_
   have hs':Fok c g0 s':=hs'
   simp only[aD,aH]
   refine goA ?_
   exact zbd (x,⟨ee,false,c,r0,s'⟩) rfl rfl rfl ⟨hx,⟨rfl,rfl,rfl,rfl,rfl,rfl,rfl,fM _ _⟩,.inl ⟨rfl,hee.symm,by rw[hee,if_neg h0],h.st,g0,hs',c2,c3⟩⟩ (.refl _) (hfin (x,⟨ee,false,c,r0,s'⟩))
end Go.Proofs.YthafakdplhdfjaaGreatDoor
