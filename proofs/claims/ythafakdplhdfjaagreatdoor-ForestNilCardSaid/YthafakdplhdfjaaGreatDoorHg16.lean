/- Parts: count; law 11; forest; package tree. No condition. -/
import Derived.Test.YthafakdplhdfjaaGreatDoorHg15
import Derived.Test.YthafakdplhdfjaaGreatDoorHg13
set_option maxRecDepth 100000
set_option maxHeartbeats 40000000
namespace Go.Proofs.YthafakdplhdfjaaGreatDoor
open Go.RowKit Go.Eng Go.Eng.Bm Go.Eng.Tr
end Go.Proofs.YthafakdplhdfjaaGreatDoor
namespace Go.Eng
open Go.RowKit
end Go.Eng
namespace Go.Proofs.YthafakdplhdfjaaGreatDoor
open Go.RowKit Go.Eng Go.Eng.Bm Go.Eng.Tr
structure Few (n K k:Nat):Prop where
 le:n≤1024
 lo:K≤5*2^k
 rm:(4*(K/5)+32)/3+k+4<n
 dp:k<16
end Go.Proofs.YthafakdplhdfjaaGreatDoor
namespace Go.Eng
open Go.RowKit
variable{P:Program}{Q:Exit→Act→World→Prop}{N:Fm}{l:zav}{ops:Array Oper}{w0:World}{F:Nat→Prop}{S:World→Prop}{listed:Array Bool}{α:Type}
theorem qu9{m:List Item}{t n:Nat}(L:α→zav)(φ:α→Prop)(M:α→List Item)(k:∀x,φ x→HX Q .normal N (L x) (Hp w0 F (M x)))
  (h:(∀x l' m' r,φ x→Has l' (L x)→Fnds (M x) m' r→HX Q .normal N l' (Hp w0 F m'))→HD P ops Q S t N n listed l (Hp w0 F m)):HD P ops Q S t N n listed l (Hp w0 F m):=
 h fun x _ _ _ hx hl hs=>qty (L x) (M x) hl (fun _ h=>hs.hp h) (k x hx)
theorem qnv:za4 []=none':=funext fun k=>propext ⟨fun⟨_,h,_⟩=>(nomatch h),fun h=>False.elim h⟩
theorem cw0{f:FuncId}{us:Array Value}{val:α→Value}{φ:α→Prop}{its:α→List Item}(h:∀w,Ct P f us w none' val φ its):Cw P f us [] val φ its:=fun w _ _=>by rw[qnv];exact h w
theorem dLa{m r:List Item}{ty:TypeId}{pos:String}{after:Array Edge}{t:Nat}{T:TypeId}{x y:Operand}{b:Nat}{cs:Array Value}(cs':Array Value){E:TypeId}(k:HX Q .normal N l (Hp w0 F (pt b (.cells cs' E (0,0))::r)))
  (hi0:nth ops.toList t=some ⟨none,.store T x y,ty,pos,after,none⟩:=by rfl) (hx:evO l x=some (.pointer (some ⟨b,0,none⟩)):=by rfl) (hy:evO l y=some (.agg cs'):=by rfl) (hf:Fnd (pt b (.cells cs E (0,0))) m r:=by exact qt5) (hT:(P.info? T).map (·.size)=some cs'.size:=by rfl) (h1:zb7 cs'.toList=true:=by rfl) (h2:cs'.size=cs.size:=by rfl)
  (hr0:Region.ready .any ops listed=[t]:=by kernel_rfl) (hr1:Region.ready .any ops (listed.setIfInBounds t true)=[]:=by kernel_rfl) (hok:(zez (.store T x y)&&zec l (.store T x y))=true:=by rfl):HD P ops Q S t N 1 listed l (Hp w0 F m):=
 zet ⟨hr0,hr1⟩ hi0 rfl (zah hf.perm (zaf hok hx hy hT h1 h2)) fun _=>k
end Go.Eng
namespace Go.Proofs.YthafakdplhdfjaaGreatDoor
open Go.RowKit Go.Eng Go.Eng.Bm Go.Eng.Tr
structure Rm (r:List Rt) (M A:List Mp):Prop where
 l8:M.length=8
 rel:∀(i:Nat) (x:Rt),r[i]? =some x→∃o,M[i]? =some (o,zdb x)
 arc:∀p∈M,p∈A
theorem Rm.set{r:List Rt}{M A A':List Mp}(h:Rm r M A){i:Nat}{x:Rt}{o:Om}(hA:(o,zdb x)∈A')(hs:A⊆A'):Rm (r.set i x) (M.set i (o,zdb x)) A':=by
 refine⟨by rw[bE,h.l8],fun j y hy=>?_,fun p hp=>?_⟩
 ·by_cases e:i=j
  ·subst e
   have hl:i<r.length:=by rw[←bE (i:=i) (a:=x)];exact(aF.1 hy).1
   rw[dP hl]at hy
   obtain⟨o0,h0⟩:=h.rel i r[i] (aB hl)
   cases hy
   exact⟨o,dP (aF.1 h0).1⟩
  ·rw[fF e]at hy⊢
   exact h.rel j y hy
 ·rcases cF hp with hp|rfl
  ·exact hs (h.arc p hp)
  ·exact hA
abbrev stF(xb db fb:Nat)(M:List Mp):Eng.Item:=pt xb (.cells (.pointer (some ⟨db,0,none⟩):: .pointer (some ⟨fb,0,none⟩)::zc6 dmE M).toArray 41 (0,0))
variable{L:List S11}{i:Nat}
theorem qu0{w:World}{a:Option Addr}(h:Rd w a (zc6 S11.vs L))(hi:i<L.length):∃b off,a=some ⟨b,off,none⟩∧w.rangeAt b (off+i*4) (L[i]'hi).vs:=by
 obtain⟨b,off,rfl,hrow⟩:=h.at_ (by intro h;have:=congrArg List.length h;rw[zdx S11.sz]at this;simp at this;omega)
 exact⟨b,off,rfl,Rd.row S11.sz hrow hi⟩
theorem qnq{n:Nat}(h:n=120):Few n 250 6:=by subst h;exact⟨dQ,dQ,dQ,dQ⟩
structure Cg where
 i:Nat
 r:List Rt
 s:Pg
 M:List Mp
 A:List Mp
structure Stp (c:Fc) (W1:Bys) (A0:List Mp) (n:Nat) (y:Cg):Prop where
 now:∃g,Fok c g y.s∧FoV c.N g y.r∧g.W 1=W1
 rm:Rm y.r y.M y.A
 arc:A0⊆y.A
 tot:zq9 y.r≤n
def qqh(es:List E)(x:S11):List E:=es.set x.ti (if x.d=0 then zfy (es.getD x.ti []) x.key else zfx (es.getD x.ti []) x.key x.val)
abbrev esM(M:List Mp):List E:=M.map (·.2)
theorem qnb{M:List Mp}{es:List E}(he:esM M=(L.take i).foldl qqh es)(hi:i<L.length){x:S11}(hx:L[i]'hi=x){o o':Om}{e e':E}(hM:M[x.ti]? =some (o,e))(h':(if x.d=0 then zfy e x.key else zfx e x.key x.val)=e'):esM (M.set x.ti (o',e'))=(L.take (i+1)).foldl qqh es:=by
 rw[cX,aB hi,hx]
 show _=(L.take i++[x]).foldl qqh es
 rw[kH,←he]
 show _=qqh (esM M) x
 unfold qqh esM
 rw[gM,aE,aO,hM]
 exact congrArg _ h'.symm
theorem qee{c:Fc}(hN:c.N=120){W1:Bys}{A0:List Mp}{n0:Nat}(L:List S11)(hok:∀x∈L,x.Ok)(hn:n0+L.length≤240)(a:Option Addr)(cp:Nat)(xb:Nat){y0:Cg}(h0:Stp c W1 A0 n0 y0){err:Nat}(w:World)(hr:Rd w a (zc6 S11.vs L))(hap:∀b off,a=some ⟨b,off,none⟩→L≠[]→¬za4 [foI c (y0.r.map zbj) true err y0.s,arM y0.A,stF xb c.d.b c.b y0.M] b)
  (hw:∀it∈[foI c (y0.r.map zbj) true err y0.s,arM y0.A,stF xb c.d.b c.b y0.M],zbq it w) (ha:[foI c (y0.r.map zbj) true err y0.s,arM y0.A,stF xb c.d.b c.b y0.M].Pairwise Eng.Item.Apart):
  Ct Tryz.prog 62 #[.pointer (some ⟨xb,0,none⟩),.slice a L.length cp] w (za4 [foI c (y0.r.map zbj) true err y0.s,arM y0.A,stF xb c.d.b c.b y0.M]) (fun y:Cg=>.tuple #[mfV y.M,.bool true]) (fun y=>Stp c W1 A0 (n0+L.length) y∧esM y.M=L.foldl qqh (esM y0.M))
   (fun y=>[foI c (y.r.map zbj) true err y.s,arM y.A,stF xb c.d.b c.b y0.M]):=by
 have h8:=h0.rm.l8
 refine za2 [_,_] _ Tryz.func62 rfl rfl hw ha ?_
 simp only[zaa,Nat.reduceAdd]
 refine goA ?_
 refine zam rfl rfl fun b4 hb4=>?_
 refine goA ?_
 refine l_w rfl (zgp (xs:=zc6 dmE y0.M) (c:=(zc6 dmE y0.M).toArray) rfl (by rw[zce h8];rfl) (fun w' hw'=>by
  have:=zbf (hw'.get (b:=xb) (o:=.cells (.pointer (some ⟨c.d.b,0,none⟩):: .pointer (some ⟨c.b,0,none⟩)::zc6 dmE y0.M).toArray 41 (0,0)) mm)
  exact fun j v hv=>by have:=this (2+j) v (by rw[fT];exact hv);rwa[aH]at this) rfl) ?_
 refine goA ?_
 refine zam rfl rfl fun b6 hb6=>?_
 refine goA ?_
 refine lSa (cs':=(zc6 dmE y0.M).toArray) (hT:=by rw[aI,zce h8];rfl) (h1:=zc8 _) (h2:=by rw[aI,zce h8];rfl) ?_
 refine goA ?_
 refine que (fun y:Cg=>[(0,.pointer (some ⟨xb,0,none⟩)),(1,.slice a L.length cp),(4,.pointer (some ⟨b4,0,none⟩)),(6,.pointer (some ⟨b6,0,none⟩)),(7,.int .i64 (y.i:Nat))]) (fun y=>y.i≤L.length∧Stp c W1 A0 (n0+y.i) y∧esM y.M=(L.take y.i).foldl qqh (esM y0.M))
  (fun y=>[foI c (y.r.map zbj) true err y.s,arM y.A,stF xb c.d.b c.b y0.M,pt b6 (.cells (zc6 dmE y.M).toArray 39 (0,0)),pt b4 (.cells (Array.replicate 16 (.slice none 0 0)) 39 (0,0))]) (fun y=>L.length - y.i) { y0 with i:=0 } ⟨bA _,⟨h0.now,h0.rm,h0.arc,h0.tot⟩,rfl⟩ fun⟨i,r,s,M,A⟩ ⟨hi,hst,hes⟩=>?_
 dsimp only at hi hst hes⊢
 have hM8:=hst.rm.l8
 dsimp only at hM8
 by_cases hil:i<L.length
 ·obtain⟨b,off,rfl,hri⟩:=qu0 hr hil
  have hF:=hap b off rfl (fun h=>by subst h;exact absurd hil (fP _))
  have ho:=hok _ (aU hil)
  generalize hLt:L[i]=t at hri ho
  have h8i:t.ti<8:=dZ _ dQ
  refine goA ?_
  refine l_w rfl (zgp (xs:=t.vs) (c:= #[.int .u8 t.d,.int .u8 t.t,.int .u16 t.k,.int .u16 t.v]) rfl rfl (fun w' hw'=>za5 hri hF hw') rfl) ?_
  refine zam rfl rfl fun b8 hb8=>?_
  refine goB ?_
  obtain⟨g,k1,k2,k3⟩:=hst.now
  dsimp only at k1 k2 k3
  have hlr:(r.map zbj).length=8:=by rw[aC];exact k2.len
  obtain⟨x,hx⟩:∃x,r[t.ti]? =some x:=⟨_,aB (by rw[k2.len];exact h8i)⟩
  have har:(r.map zbj)[t.ti]? =some (zbj x):=by rw[aO,hx];rfl
  obtain⟨om,hom⟩:=hst.rm.rel _ x hx
  have hee:=(k2.ok _ x hx).2.2
  have hf:=qnq hN
  have htot:=hst.tot
  have hxl:=qmt hx
  dsimp only at hom htot
  by_cases hd:t.d=0
  ·obtain⟨x',g',e1,e2,e3,e4⟩:=k2.del oQ hf.le oQ hf.lo hf.rm hf.dp hx t.key
   refine goA ?_
   refine ziv [stF xb _ _ y0.M,pt b8 _] 99 ?_
   refine goP ?_
   refine dC0 6 (fun w _=>zj2 t ho w) fun _ _=>?_
   refine dC 7 (fun w hw _=>zui k1 hlr h8i har t.key (zgk _ _) e1 w hw) fun s' hs'=>?_
   refine goQ ?_
   refine ziv [pt b8 _,pt b6 _] 99 ?_
   refine dVP rfl rfl (zcw (cs:=(zc6 dmE M).toArray) rfl (by rw[aI,zce hM8];rfl) mm) ?_
   refine goP ?_
   have hdel:=qtr hom hM8 (hst.rm.arc _ (bO hom)) hee t.key oQ
   refine qu9 (α:=Om×List Mp×Nat) (fun z=>[(0,.pointer (some ⟨xb,0,none⟩)),(1,.slice (some ⟨b,off,none⟩) L.length cp),(4,.pointer (some ⟨b4,0,none⟩)),(6,.pointer (some ⟨b6,0,none⟩)),(7,.int .i64 (i:Nat)),(10,.bool (zi6 (zdb x) t.key).isSome),(11,.int .i64 0),(12,.pointer (some ⟨z.2.2,0,none⟩)),(13,.bool (zi6 (zdb x) t.key).isSome)]) (fun z=>(z.1,zfy (zdb x) t.key)∈z.2.1∧A⊆z.2.1)
    (fun z=>[foI c ((r.map zbj).set t.ti (zbj x')) true err s',arM z.2.1,stF xb c.d.b c.b y0.M,pt b6 (.cells (zc6 dmE M).toArray 39 (0,0)),pt b4 (.cells (Array.replicate 16 (.slice none 0 0)) 39 (0,0)),pt z.2.2 (.cells (zc6 dmE (M.set t.ti (z.1,zfy (zdb x) t.key))).toArray 39 (0,0))]) (fun⟨o',A',b12⟩ hA'=>?_) (fun hk=>?_)
   ·dsimp only at hA'⊢
    have hM8':(M.set t.ti (o',zfy (zdb x) t.key)).length=8:=by rw[bE,hM8]
    refine goA ?_
    refine l_w rfl (zcw (cs:=(zc6 dmE (M.set t.ti (o',zfy (zdb x) t.key))).toArray) rfl (by rw[aI,zce hM8'];rfl) mm) ?_
    refine lSa (cs':=(zc6 dmE (M.set t.ti (o',zfy (zdb x) t.key))).toArray) (hT:=by rw[aI,zce hM8'];rfl) (h1:=zc8 _) (h2:=by rw[aI,aI,zce hM8',zce hM8]) ?_
    refine goA ?_
    generalize (zi6 (zdb x) t.key).isSome=q
    refine l_w rfl (ov (v:=.bool false) fun _ _ _ _ _=>by cases q<;>rfl) ?_
    refine goA ?_
    rw[←gM]
    have ht:=qpb hx x'
    have hp:(zfy (zdb x) t.key).length≤(zdb x).length:=gG _ _
    rw[←e2]at hp
    exact xR ⟨i+1,r.set t.ti x',s',M.set t.ti (o',zfy (zdb x) t.key),A'⟩ ⟨hil,⟨⟨g',hs',e3,e4.trans k3⟩,e2▸hst.rm.set (x:=x') (by rw[e2];exact hA'.1) hA'.2,fun p hp=>hA'.2 (hst.arc hp),by dsimp only;omega⟩,qnb hes hil hLt hom (if_pos hd)⟩ (by dsimp only;omega)
   ·refine qwa 3 8 (cw0 fun w=>zj2 t ho w) (fun _ _=>?_) (fun b12 hb12=>?_)
    ·refine qwa 4 8 hdel (fun⟨o',A'⟩ hA'=>?_) (fun b12 hb12=>?_)
     ·dsimp only at hA'⊢
      have hM8':(M.set t.ti (o',zfy (zdb x) t.key)).length=8:=by rw[bE,hM8]
      refine goP ?_
      refine dAl 8 fun b12 hb12=>?_
      refine dSa 9 (cs':=(zc6 dmE (M.set t.ti (o',zfy (zdb x) t.key))).toArray) (hT:=by rw[aI,zce hM8'];rfl) (h1:=zc8 _) (h2:=by rw[aI,zce hM8'];rfl) ?_
      refine goP ?_
      refine zdn kQ ?_
      exact hk (o',A',b12) _ _ _ hA' (by repeat first|exact trivial|refine⟨rfl,?_⟩) qt4
     ·refine dC 4 hdel fun⟨o',A'⟩ hA'=>?_
      dsimp only at hA'⊢
      have hM8':(M.set t.ti (o',zfy (zdb x) t.key)).length=8:=by rw[bE,hM8]
      refine goP ?_
      refine dSa 9 (cs':=(zc6 dmE (M.set t.ti (o',zfy (zdb x) t.key))).toArray) (hT:=by rw[aI,zce hM8'];rfl) (h1:=zc8 _) (h2:=by rw[aI,zce hM8'];rfl) ?_
      refine goP ?_
      refine zdn kQ ?_
      exact hk (o',A',b12) _ _ _ hA' (by repeat first|exact trivial|refine⟨rfl,?_⟩) qt4
    ·refine dC 3 (cw0 fun w=>zj2 t ho w) fun _ _=>?_
     refine dC 4 hdel fun⟨o',A'⟩ hA'=>?_
     dsimp only at hA'⊢
     have hM8':(M.set t.ti (o',zfy (zdb x) t.key)).length=8:=by rw[bE,hM8]
     refine goP ?_
     refine dSa 9 (cs':=(zc6 dmE (M.set t.ti (o',zfy (zdb x) t.key))).toArray) (hT:=by rw[aI,zce hM8'];rfl) (h1:=zc8 _) (h2:=by rw[aI,zce hM8'];rfl) ?_
     refine goP ?_
     refine zdn kQ ?_
     exact hk (o',A',b12) _ _ _ hA' (by repeat first|exact trivial|refine⟨rfl,?_⟩) qt4
  ·obtain⟨x',g',e1,e2,e3,e4⟩:=k2.put hf.le oQ hf.lo hf.rm hf.dp hx t.key t.val (zgk _ _) (zgk _ _)
   refine goA ?_
   refine ziv [pt b8 _,pt b6 _] 7 ?_
   refine dVP rfl rfl (zcw (cs:=(zc6 dmE M).toArray) rfl (by rw[aI,zce hM8];rfl) mm) ?_
   refine goP ?_
   refine dC0 3 (fun w _=>zj2 t ho w) fun _ _=>?_
   refine dC0 5 (fun w _=>ztx t ho w) fun _ _=>?_
   refine dC 6 (qtv hom hM8 (hst.rm.arc _ (bO hom)) hee t.key t.val oQ) fun⟨o',A'⟩ hA'=>?_
   dsimp only at hA'⊢
   have hM8':(M.set t.ti (o',zfx (zdb x) t.key t.val)).length=8:=by rw[bE,hM8]
   refine dLa (zc6 dmE (M.set t.ti (o',zfx (zdb x) t.key t.val))).toArray (hT:=by rw[aI,zce hM8'];rfl) (h1:=zc8 _) (h2:=by rw[aI,aI,zce hM8',zce hM8]) ?_
   refine goA ?_
   refine ziv [stF xb _ _ y0.M,pt b8 _] 99 ?_
   refine goP ?_
   refine dC0 6 (fun w _=>zj2 t ho w) fun _ _=>?_
   refine dC0 8 (fun w _=>ztx t ho w) fun _ _=>?_
   refine dC 9 (fun w hw _=>qdj k1 hlr h8i har t.key t.val (zgk _ _) (zgk _ _) e1 w hw) fun s' hs'=>?_
   refine goQ ?_
   rw[←gM]
   have ht:=qpb hx x'
   have hp:=zvs (e:=zdb x) (k:=t.key) (v:=t.val)
   rw[←e2]at hp
   exact xR ⟨i+1,r.set t.ti x',s',M.set t.ti (o',zfx (zdb x) t.key t.val),A'⟩ ⟨hil,⟨⟨g',hs',e3,e4.trans k3⟩,e2▸hst.rm.set (x:=x') (by rw[e2,hA'];exact .head _) (by rw[hA'];exact fun _ h=>.tail _ h),fun p hp=>hA'▸ .tail _ (hst.arc hp),by dsimp only;omega⟩,qnb hes hil hLt hom (if_neg hd)⟩ (by dsimp only;omega)
 ·obtain rfl:i=L.length:=oQ
  refine goA ?_
  refine l_w rfl (zcw (cs:=(zc6 dmE M).toArray) rfl (by rw[aI,zce hM8];rfl) mm) ?_
  refine lSa (cs':=(zc6 dmE M).toArray) (hT:=by rw[aI,zce hM8];rfl) (h1:=zc8 _) (h2:=by rw[aI,zce hM8];rfl) ?_
  refine goA ?_
  exact xC2 ⟨L.length,r,s,M,A⟩ ⟨hst,by rw[hes,gU]⟩ (hf:=rfl) (h1:=⟨_,rfl,zaq (by rw[aI,zce hM8];rfl) mm⟩)
end Go.Proofs.YthafakdplhdfjaaGreatDoor
namespace Go.Eng
open Go.RowKit
variable{P:Program}{l:zav}{w0:World}{F:Nat→Prop}{α:Type}{val:α→Value}{φ:α→Prop}{its:α→List Item}
theorem lCw{Q:Exit→Act→World→Prop}{N:Fm}{ops:Array Oper}{rest:List Oper}{m r:List Item}{ty:TypeId}{pos:String}{after:Array Edge}{g:Option (Nat×Bool)}{d:Nat}{f:FuncId}{xs:List Operand}{tys:Array TypeId}{us:Array Value}{vs:List Value}{pre:List Item}
  (hc:∀w,Hp w0 F m w→(∀it∈pre,zbq it w)→pre.Pairwise Item.Apart→Ct P f us w (za4 pre) val φ its) (k:∀x,φ x→HL P ops Q N rest ((d,val x)::l) (Hp w0 F (apI (its x) r)))
  (hx:evs l xs=some vs:=by rfl) (hu:vs.toArray=us:=by rfl) (hf:Fnds pre m r:=by exact qt4) [hst:StabL pre] (hg:okG ops l g=true:=by rfl) (hok:zee N l (.call ⟨.value (.func f),xs.toArray,tys⟩) d=true:=by rfl) (hb:za7 P f=true:=by kernel_rfl):
  HL P ops Q N (⟨some d,.call ⟨.value (.func f),xs.toArray,tys⟩,ty,pos,after,g⟩::rest) l (Hp w0 F m):=
 zcy (m':=pre++r) (fun _ hw=>by rw[zf9];exact hw.perm hf.perm) (zeh hg (zfb hok hb hx hst.st fun w hw hh ha=>by rw[hu];exact hc w (by rw[zf9]at hw;exact hw.perm hf.perm.symm) hh ha) fun x=>by rw[zf9];exact k x.1 x.2)
theorem xC3{m r:List Item}{n:Nat}{fn:Func}{rv rq rp:ResultVar}{u t s:Value}(x:α)(hφ:φ x)(hf:fn.results= #[rv,rq,rp]:=by rfl)(h1:zhu P l (Hp w0 F m) rv u:=by exact rfl)(h2:zhu P l (Hp w0 F m) rq t:=by exact rfl)(h3:zhu P l (Hp w0 F m) rp s:=by exact rfl)(e: .tuple #[u,t,s]=val x:=by rfl)
  (hs:Fnds (its x) m r:=by exact qt4) [hst:StabL (its x)]:HX (bodyPost P fn (zjn w0 F val φ its)) .ret ⟨n,[],none⟩ l (Hp w0 F m):=
 zbr (m':=its x++r) (fun _ hw=>by rw[zf9];exact hw.perm hs.perm) (qa6 x hf (znd (fun _ hw=>by rw[zf9]at hw;exact hw.perm hs.perm.symm) h1) (znd (fun _ hw=>by rw[zf9]at hw;exact hw.perm hs.perm.symm) h2) (znd (fun _ hw=>by rw[zf9]at hw;exact hw.perm hs.perm.symm) h3) e hφ (fB _ _) hst.st)
theorem qbm{w:World}{L m r:List Item}{it:Item}(hs:Fnds (apI L [it]) m r)(hw:Hp w0 F m w){b:Nat}(hb:it.foot b):¬za4 L b:=by
 have h1:=hw.perm hs.perm
 rw[←zf9,←zf9]at h1
 rintro⟨x,hx,hk⟩
 exact(bR.1 (bR.1 h1.apart).1).2.2 x hx it (.head _) b hk hb
end Go.Eng
namespace Go.Proofs.YthafakdplhdfjaaGreatDoor
open Go.RowKit Go.Eng Go.Eng.Bm Go.Eng.Tr
structure C11 where
 L:List S11
 fl:Bool
 a:Option Addr
 cp:Nat
def C11.vs(x:C11):List Value:=[.slice x.a x.L.length x.cp,.bool x.fl]
structure C11.Ok (x:C11) (I:Eng.Item):Prop where
 ok:∀y∈x.L,y.Ok
 rd:∀w,I.prop w→Rd w x.a (zc6 S11.vs x.L)
 old:∀b off,x.a=some ⟨b,off,none⟩→x.L≠[]→I.foot b
abbrev dcI(I:Eng.Item)(b2 b3 b7 b8 xb db fb:Nat)(x:C11)(M0:List Mp)(y:Cg):List Eng.Item:=[arM y.A,stF xb db fb M0,pt b2 (.cells #[.pointer (some ⟨xb,0,none⟩)] 24 (0,0)),pt b3 (.cells #[.slice x.a x.L.length x.cp,.bool x.fl] 70 (0,0)),pt b7 (.cells (zc6 dmE y.M).toArray 39 (0,0)),pt b8 (.cells #[.bool true] 4 (0,0)),I]
variable{c:Fc}{I:Eng.Item}
theorem zrn(hN:c.N=120){W1:Bys}{n0:Nat}[Stab I](x:C11)(hx:x.Ok I)(hn:n0+x.L.length≤240)(b2 b3 b7 b8 xb:Nat){y0:Cg}(h0:Stp c W1 y0.A n0 y0):
  Cw Tryz.prog 61 #[.pointer (some ⟨b2,0,none⟩),.pointer (some ⟨b3,0,none⟩),.pointer (some ⟨b7,0,none⟩),.pointer (some ⟨b8,0,none⟩)] (foI c (y0.r.map zbj) true 0 y0.s::dcI I b2 b3 b7 b8 xb c.d.b c.b x y0.M y0)
   (fun _:Cg=>.int .i64 (if x.fl then 5 else 0:Nat)) (fun y=>Stp c W1 y0.A (n0+x.L.length) y∧esM y.M=x.L.foldl qqh (esM y0.M)) (fun y=>foI c (y.r.map zbj) true 0 y.s::dcI I b2 b3 b7 b8 xb c.d.b c.b x y0.M y):=by
 have h8:=h0.rm.l8
 refine qnp [_,_,_,_] Tryz.func61 rfl fun w0=>?_
 simp only[zaa]
 refine goA ?_
 refine lCw (fun w1 hw1 hh ha=>qee hN (A0:=y0.A) (n0:=n0) x.L hx.ok hn x.a x.cp xb h0 w1 (hx.rd w1 (hw1.item I mm).1) (fun b off e hne=>qbm (it:=I) qt4 hw1 (hx.old b off e hne)) hh ha) fun y ⟨hy,hye⟩=>?_
 have hy8:=hy.rm.l8
 refine goA ?_
 refine lSa (cs':=(zc6 dmE y.M).toArray) (hT:=by rw[aI,zce hy8];rfl) (h1:=zc8 _) (h2:=by rw[aI,aI,zce hy8,zce h8]) ?_
 refine goB ?_
 obtain⟨xL,fl,xa,xc⟩:=x
 dsimp only at hy hye⊢
 cases fl with
 |true=>
  refine goB ?_
  exact xC y ⟨hy,hye⟩
 |false=>
  refine goB ?_
  exact xC y ⟨hy,hye⟩
structure qe9 (c:Fc) (r:List Rt) (s:Pg) (M A:List Mp) (n:Nat):Prop where
 rdy:Rdy c r r s
 N:c.N=120
 rm:Rm r M A
 tot:zq9 r≤n
theorem eeZ(z:Nat):eeF 0 z=z:=if_pos rfl
variable{r:List Rt}{s:Pg}{M A:List Mp}{n xb err:Nat}
theorem zt2(h:qe9 c r s M A n)(hB:c.B+700<9223372036854775808)[Stab I](x:C11)(hx:x.Ok I)(hn:n+x.L.length≤240):
  Cw Tryz.prog 23 #[.pointer (some ⟨xb,0,none⟩),.agg x.vs.toArray] [foI c (r.map zbj) false err s,ctI,arM A,stF xb c.d.b c.b M,I]
   (fun y:Cg×Fc×Pg=>.tuple #[.int .i64 (if x.fl then 5 else 0:Nat),mfV y.1.M,.bool true])
   (fun y=>qe9 y.2.1 (if x.fl then r else y.1.r) y.2.2 (if x.fl then M else y.1.M) y.1.A (n+x.L.length)∧qsc c y.2.1∧Rm y.1.r y.1.M y.1.A∧esM y.1.M=x.L.foldl qqh (esM M))
   (fun y=>[foI y.2.1 ((if x.fl then r else y.1.r).map zbj) false 0 y.2.2,ctI,arM y.1.A,stF xb c.d.b c.b (if x.fl then M else y.1.M),I]):=by
 have h8:=h.rm.l8
 obtain⟨g,k1,k2,k3⟩:=h.rdy.now
 have h0:Stp c (zbu (r.map zbj)) A n ⟨0,r,s,M,A⟩:=⟨⟨g,k1,k2,k3⟩,h.rm,fun _ h=>h,h.tot⟩
 refine qnp [_,_] Tryz.func23 rfl fun w0=>?_
 simp only[zaa]
 refine goA ?_
 refine zc9 rfl rfl rfl fun b2 hb2=>?_
 refine zbp rfl rfl fun b3 hb3=>?_
 refine goA ?_
 refine zam rfl rfl fun b5 hb5=>?_
 refine goA ?_
 refine l_w rfl (zgp (xs:=zc6 dmE M) (c:=(zc6 dmE M).toArray) rfl (by rw[zce h8];rfl) (fun w' hw'=>by
  have:=zbf (hw'.get (b:=xb) (o:=.cells (.pointer (some ⟨c.d.b,0,none⟩):: .pointer (some ⟨c.b,0,none⟩)::zc6 dmE M).toArray 41 (0,0)) mm)
  exact fun j v hv=>by have:=this (2+j) v (by rw[fT];exact hv);rwa[aH]at this) rfl) ?_
 refine goA ?_
 refine zam rfl rfl fun b7 hb7=>?_
 refine zdg rfl rfl rfl fun b8 hb8=>?_
 refine lSa (cs':=(zc6 dmE M).toArray) (hT:=by rw[aI,zce h8];rfl) (h1:=zc8 _) (h2:=by rw[aI,zce h8];rfl) ?_
 refine goB ?_
 refine l_w rfl (zhw rfl) ?_
 refine goA ?_
 have hph:∀y:Cg,Stp c (zbu (r.map zbj)) A (n+x.L.length) y∧esM y.M=x.L.foldl qqh (esM M)→Rdy c r y.r y.s:=fun y ⟨hy,_⟩=>by
  obtain⟨g',e1,e2,e3⟩:=hy.now
  exact⟨h.rdy.st,g',e1,e2,e3⟩
 refine lC (zpn h.rdy hB (X:=Cg) (fd:=61) (cs:=[.pointer (some ⟨b2,0,none⟩),.pointer (some ⟨b3,0,none⟩),.pointer (some ⟨b7,0,none⟩),.pointer (some ⟨b8,0,none⟩)]) kQ (dcI I b2 b3 b7 b8 xb c.d.b c.b x M ⟨0,r,s,M,A⟩) (fun y=>dcI I b2 b3 b7 b8 xb c.d.b c.b x M y) (inferInstance:StabL (dcI I b2 b3 b7 b8 xb c.d.b c.b x M ⟨0,r,s,M,A⟩)).st (fun y=>(inferInstance:StabL (dcI I b2 b3 b7 b8 xb c.d.b c.b x M y)).st) (fun _=>if x.fl then 5 else 0) (fun _=>0) (fun y=>y.r) (fun y=>y.s) _ hph (fun w2 hh2 ha2=>zrn (y0:=⟨0,r,s,M,A⟩) h.N x hx hn b2 b3 b7 b8 xb h0 w2 hh2 ha2)) fun⟨y,c',s'⟩ ⟨⟨hy,hye⟩,hk,hr⟩=>?_
 simp only[eeZ]at hy hye hk hr⊢
 have hy8:=hy.rm.l8
 obtain⟨xL,fl,xa,xc⟩:=x
 unfold dcI
 dsimp only at hy hye hk hr⊢
 cases fl with
 |true=>
  simp only[if_true,show((5:Nat)=0)=False from dQ,if_false]at hy hk hr⊢
  refine goA ?_
  refine ziv [pt b7 _,pt b8 _,pt b3 _] 99 ?_
  refine goP ?_
  refine dVP rfl rfl (zcw (cs:=(zc6 dmE y.M).toArray) rfl (by rw[aI,zce hy8];rfl) mm) ?_
  refine goP ?_
  refine dSa 13 (cs':=(zc6 dmE y.M).toArray) (hT:=by rw[aI,zce hy8];rfl) (h1:=zc8 _) (h2:=by rw[aI,zce hy8];rfl) ?_
  refine goQ ?_
  exact xC3 (y,c',s') ⟨⟨hr,hk.N.trans h.N,⟨h.rm.l8,h.rm.rel,fun p hp=>hy.arc (h.rm.arc p hp)⟩,by have:=h.tot;show zq9 r≤_;omega⟩,hk,hy.rm,hye⟩ (hf:=rfl) (h2:=⟨_,rfl,zaq (by rw[aI,zce hy8];rfl) mm⟩)
 |false=>
  simp only[if_true,if_false,bV]at hy hk hr⊢
  refine goA ?_
  refine l_w rfl (zcw (cs:=(zc6 dmE y.M).toArray) rfl (by rw[aI,zce hy8];rfl) mm) ?_
  refine goA ?_
  refine lSR (off:=2) (cs:=.pointer (some ⟨c.d.b,0,none⟩):: .pointer (some ⟨c.b,0,none⟩)::zc6 dmE M) (V:=zc6 dmE y.M) (by rw[zce hy8,aW,aW,zce h8];omega) (zc8 _) (hT:=by rw[zce hy8];rfl) ?_
  rw[show∀a b:Value,put (a::b::zc6 dmE M) 2 (zc6 dmE y.M)=a::b::zc6 dmE y.M from fun a b=>by unfold put;rw[zce hy8,fH (by rw[aW,aW,zce h8];omega)];simp]
  refine goA ?_
  refine ziv [pt b7 _,pt b8 _,pt b3 _] 99 ?_
  refine goP ?_
  refine dVP rfl rfl (zcw (cs:=(zc6 dmE y.M).toArray) rfl (by rw[aI,zce hy8];rfl) mm) ?_
  refine goP ?_
  refine dSa 13 (cs':=(zc6 dmE y.M).toArray) (hT:=by rw[aI,zce hy8];rfl) (h1:=zc8 _) (h2:=by rw[aI,zce hy8];rfl) ?_
  refine goQ ?_
  exact xC3 (y,c',s') ⟨⟨hr,hk.N.trans h.N,hy.rm,hy.tot⟩,hk,hy.rm,hye⟩ (hf:=rfl) (h2:=⟨_,rfl,zaq (by rw[aI,zce hy8];rfl) mm⟩)
abbrev smF(b7 b6 b3 b5:Nat)(M A:List Mp)(t i:Nat):List Eng.Item:=[pt b7 (.cells #[.bool true] 4 (0,0)),pt b6 (.cells #[.int .i64 (i:Nat)] 3 (0,0)),pt b3 (.cells (zc6 dmE M).toArray 39 (0,0)),pt b5 (.cells #[.int .i64 (t:Nat)] 3 (0,0)),arM A]
variable{t:Nat}
theorem qdr{p:Mp}(hM:M[t]? =some p){j:Nat}{v:Value}(hv:(dmE p)[j]? =some v):(zc6 dmE M).toArray[t*2+j]? =some v:=by
 obtain⟨hi,rfl⟩:=aF.1 hM
 have hj:j<2:=(aF.1 hv).1
 have:=qck zoz hi hj
 simpa using this.trans hv
variable{i:Nat}
theorem zyd(b7 b6 b3 b5:Nat){o:Om}{e:E}(hM:M[t]? =some (o,e))(h8:M.length=8)(hA:(o,e)∈A)(hb:e.length≤1000000){y:K×K}(hy:e[i]? =some y):
  Cw Tryz.prog 64 #[kV y.1,kV y.2,.pointer (some ⟨b7,0,none⟩),.pointer (some ⟨b6,0,none⟩),.pointer (some ⟨b3,0,none⟩),.pointer (some ⟨b5,0,none⟩)] (smF b7 b6 b3 b5 M A t i) (fun x:Bool×Nat=>.bool x.1) (fun x=>x=(true,i+1)) (fun x=>smF b7 b6 b3 b5 M A t x.2):=by
 obtain⟨hlt, -⟩:=aF.1 hy
 obtain⟨ht, -⟩:=aF.1 hM
 obtain⟨A1,A2,rfl⟩:=List.append_of_mem hA
 obtain⟨o1,o2⟩:=o
 refine qnp [.string (kB y.1),.string (kB y.2),_,_,_,_] Tryz.func64 rfl fun w0=>?_
 simp only[zaa]
 refine zg8 (fun _ h=>zza (p:=((o1,o2),e)) qt5 h) ?_
 refine zhm (fun w hw=>And.intro (zdj (hw.item (own 9 1 o1 e.length (e.map fun y=>kV y.1)) mm).1 oQ) (zdj (hw.item (own 9 1 o2 e.length (e.map fun y=>kV y.2)) mm).1 oQ)) fun⟨⟨kb,kc,e1⟩,⟨vb,vc,e2⟩⟩=>?_
 subst e1
 subst e2
 have c1:=qdr hM (j:=0) (v:=.slice (some ⟨kb,0,none⟩) e.length kc) rfl
 have c2:=qdr hM (j:=1) (v:=.slice (some ⟨vb,0,none⟩) e.length vc) rfl
 refine goA ?_
 refine ziv [pt b6 _,pt b3 _,pt b5 _,own 9 1 (some (kb,kc)) e.length (e.map fun y=>kV y.1),own 9 1 (some (vb,vc)) e.length (e.map fun y=>kV y.2)] 99 ?_
 refine dV 0 ?_
 refine goP ?_
 refine dVP rfl rfl (zc5 rfl rfl mm (by rw[aH];exact c1)) ?_
 refine goP ?_
 rw[decide_eq_true (show((i:Nat):Int)<((e.length:Nat):Int) by omega)]
 refine goP ?_
 refine dVP rfl rfl (zc5 rfl rfl mm (by rw[aH];exact c1)) ?_
 refine goP ?_
 refine dVP rfl rfl (zrc (v:=.string (kB y.1)) rfl rfl mm (by rw[aO,aH,hy];rfl)) ?_
 refine goP ?_
 rw[show seq (kB y.1) (kB y.1)=true by simp[seq]]
 refine goP ?_
 refine dVP rfl rfl (zc5 rfl rfl mm (by rw[aH];exact c2)) ?_
 refine goP ?_
 refine dVP rfl rfl (zrc (v:=.string (kB y.2)) rfl rfl mm (by rw[aO,aH,hy];rfl)) ?_
 refine goP ?_
 rw[show seq (kB y.2) (kB y.2)=true by simp[seq]]
 refine goP ?_
 refine dS1 32 ?_
 refine goQ ?_
 refine zbr (fun _ h=>zwt (A1:=A1) (A2:=A2) (p:=((some (kb,kc),some (vb,vc)),e)) qt4 h) ?_
 exact xC (true,i+1) rfl
variable{g:Sg}{x:Rt}
theorem qts(h:FoV n g r)(hN:n≤1024){k m:Nat}(hk:zq9 r≤m)(hK:m≤5*2^k)(hn:(4*(m/5)+32)/3+k+4<n)(h16:k<16)(hx:r[i]? =some x)(f:K):qnd (fSh i) n g f (zbj x:Nat) (geE (zdb x) f):=by
 have hi:i<8:=by rw[←h.len];exact(aF.1 hx).1
 have q2:=(h.room hk hK hn h16 hx).2
 obtain⟨hr,hrep, -⟩:=h.ok i x hx
 have hlow:=h.low hx
 have hs:=znw hi
 match x,hr,hrep,hlow,q2 with
 |none,_,_,_,_=>exact .inl ⟨rfl,rfl⟩
 |some ⟨hh,t⟩,hr,hrep,hlow,q2=>
  have hr:TOk (fSh i) t:=hr
  have hlow:∀x∈pgs t,1≤x∧x<n:=hlow
  refine .inr ⟨pg t,rfl,?_,?_⟩
  ·have:=(hlow (pg t) (zcj t)).1
   omega
  ·show qp4 (fSh i) n g f 16 (pg t) (geE (ents t) f)
   rw[←qfa t f hr.ord]
   exact ql5 hs.kw hN t hr.ord hr.wd hr.below hr.le hr.two (fun h'=>by show 2≤(fSh i).fan/2;have:=hs.h4;omega) hrep hlow 16 q2
theorem qv4(e:E):geE e []=e:=by
 unfold geE
 exact cW.2 fun q _=>by
  have:¬kl q.1 []:=fun h=>by obtain⟨a,b⟩:=q;cases a<;>cases h
  simpa using this
theorem qwg(hN:c.N=120)(hv:FoV c.N g r)(ht:zq9 r≤250)(hx:r[t]? =some x):qnd (fSh t) c.N g [] (zbj x:Nat) (zdb x):=by
 have hf:=qnq hN
 have:=qts hv hf.le ht hf.lo hf.rm hf.dp hx []
 rwa[qv4]at this
theorem qbr(hN:c.N=120)(hk:Fok c g s)(hv:FoV c.N g r)(hm:Rm r M A)(ht:zq9 r≤250){M0:List Mp}:
  Cw Tryz.prog 26 #[.pointer (some ⟨xb,0,none⟩),mfV M] [foI c (r.map zbj) false err s,arM A,stF xb c.d.b c.b M0] (fun _:Pg=>.bool true) (fun s'=>Fok c g s') (fun s'=>[foI c (r.map zbj) false err s',arM A,stF xb c.d.b c.b M0]):=by
 have h8:=hm.l8
 refine qnp [_,_] Tryz.func26 rfl fun w0=>?_
 simp only[zaa]
 refine goA ?_
 refine zbp rfl rfl fun b3 hb3=>?_
 refine goA ?_
 refine zdg rfl rfl rfl fun b5 hb5=>?_
 refine lS (v:=.int .i64 ((0:Nat):Int)) ?_
 refine goA ?_
 refine que (fun y:Nat×Nat×Pg=>[(0,.pointer (some ⟨xb,0,none⟩)),(3,.pointer (some ⟨b3,0,none⟩)),(5,.pointer (some ⟨y.2.1,0,none⟩))]) (fun y=>y.1≤8∧Fok c g y.2.2) (fun y=>[foI c (r.map zbj) false err y.2.2,arM A,stF xb c.d.b c.b M0,pt b3 (.cells (zc6 dmE M).toArray 39 (0,0)),pt y.2.1 (.cells #[.int .i64 (y.1:Nat)] 3 (0,0))]) (fun y=>8 - y.1) (0,b5,s) ⟨bA _,hk⟩ fun⟨t,q5,s1⟩ ⟨h1,h2⟩=>?_
 dsimp only at h1 h2⊢
 by_cases h9:t<8
 ·obtain⟨x,hx⟩:∃x,r[t]? =some x:=⟨_,aB (by rw[hv.len];exact h9)⟩
  obtain⟨o,ho⟩:=hm.rel t x hx
  have hxl:=qmt hx
  have har:(r.map zbj)[t]? =some (zbj x):=by rw[aO,hx];rfl
  refine goA ?_
  refine zdg rfl rfl rfl fun b6 hb6=>?_
  refine lS (v:=.int .i64 ((0:Nat):Int)) ?_
  refine goA ?_
  refine zdg rfl rfl rfl fun b7 hb7=>?_
  refine goB ?_
  refine ziv [stF xb _ _ M0] 99 ?_
  refine goP ?_
  refine qtg rfl rfl rfl rfl kQ (fun _ h=>Fnds.hp qt4 h) (zhw rfl) ?_
  refine dV 4 ?_
  refine dC 6 (zzr h2 h9 har (qwg hN hv ht hx) (σ:=Nat) (fun i=>smF b7 b6 b3 q5 M A t i) (fun k i=>i=k.length) (fun _=>False) 0 (fd:=64) (cs:=[.pointer (some ⟨b7,0,none⟩),.pointer (some ⟨b6,0,none⟩),.pointer (some ⟨b3,0,none⟩),.pointer (some ⟨q5,0,none⟩)]) kQ (fun i=>(inferInstance:StabL (smF b7 b6 b3 q5 M A t i)).st) rfl (fun k y st hp hI w2 hh2 ha2=>?_)) fun⟨s2,i2⟩ ⟨hs2,hi2⟩=>?_
  ·subst hI
   obtain⟨t2,ht2⟩:=hp
   exact(zyd b7 b6 b3 q5 ho hm.l8 (hm.arc _ (bO ho)) oQ (i:=k.length) (y:=y) (by rw[←ht2];simp) w2 hh2 ha2).map fun z hz=>⟨z,rfl,.inl ⟨by rw[hz],by rw[hz];simp⟩,rfl⟩
  ·obtain rfl:i2=(zdb x).length:=hi2.resolve_right fun h=>h
   refine goQ ?_
   refine zhm (fun w hw=>(zas ((hw.item (arM A) mm).1.1 (own 9 1 o.1 (zdb x).length ((zdb x).map fun y=>kV y.1)) (bW.2 ⟨_,hm.arc _ (bO ho),.head _⟩)).1).1) fun f1=>?_
   have c1:=qdr ho (j:=0) (v:=.slice (slA o.1) (zdb x).length (slC o.1)) (by rw[←f1];rfl)
   refine ziv [pt b7 _,pt b6 _,pt b3 _,pt q5 _] 99 ?_
   refine goP ?_
   refine dVP rfl rfl (zc5 rfl rfl mm (by rw[aH];exact c1)) ?_
   refine goP ?_
   rw[bne_self_eq_false]
   refine goQ ?_
   refine zdg rfl rfl rfl fun q6 hq6=>?_
   refine goB ?_
   exact xR (t+1,q6,s2) ⟨h9,hs2⟩ (by dsimp only;omega)
 ·obtain rfl:t=8:=oQ
  refine goA ?_
  exact xC s1 h2
theorem zou(S:Nat→Bool):∀n,cnt S n=((List.range n).filter S).length
 |0=>rfl
 |n+1=>by
  rw[cnt,zou S n,List.range_succ,gX,aA]
  cases h:S n<;>simp[h]
theorem qso(hn:0<n){S:Nat→Bool}{L:List Nat}(h:Acc n S L):cnt S n=1+L.length:=by
 rw[zou]
 have n1:((List.range n).filter S).Nodup:=dL jT List.nodup_range
 have n2:(0::L).Nodup:=cP.2 ⟨fun h0=>by have:=(h.low 0 h0).1;omega,h.nodup⟩
 have e:∀x,x∈(List.range n).filter S↔x∈0::L:=fun x=>by
  rw[dO,dU,aK]
  refine⟨fun⟨h1,h2⟩=>(h.is x h1).1 h2,fun h1=>?_⟩
  have hx:x<n:=by
   rcases h1 with rfl|h1
   ·exact hn
   ·exact(h.low x h1).2
  exact⟨hx,(h.is x hx).2 h1⟩
 have l1:=zve n1 fun x hx=>(e x).1 hx
 have l2:=zve n2 fun x hx=>(e x).2 hx
 rw[aW]at l1 l2
 omega
def qum(r:List Rt)(i:Nat):Nat:=2+((r.take i).map fun x=>(zjb x).length).sum
theorem qud(h:r[i]? =some x):qum r (i+1)=qum r i+(zjb x).length:=by
 unfold qum
 rw[cX,h]
 simp
 omega
theorem quc(l:List Nat)(i:Nat):(l.take i).sum≤l.sum:=by
 conv=>rhs;rw[←bF i l,List.sum_append]
 omega
theorem qvs(r:List Rt)(i:Nat):qum r i≤2+(r.map fun x=>(zjb x).length).sum:=by
 unfold qum
 rw[eK]
 have:=quc (r.map fun x=>(zjb x).length) i
 omega
theorem qu3(h:r.length=8):qum r 8=2+(r.map fun x=>(zjb x).length).sum:=by
 unfold qum
 rw[bH oQ]
theorem qwh(hk:Fok c g s)(hv:FoV c.N g r):cnt g.S 1024=2+(r.map fun x=>(zjb x).length).sum:=by
 have h0:Tok (frC c [] false 0 0) g s:=hk
 have hc:zrl c.N g.S:=fun j hj=>by
  rcases iA j c.n with h|h
  ·exact h0.hi j hj h
  ·exact h0.S.2.1 j h
 have h1:c.N≤1024:=cI h0.N2 h0.n2
 have h2:0<c.N:=h0.N1
 rw[show(1024:Nat)=c.N+(1024 - c.N) by omega,zw1 hc,qso h2 hv.acc,aW,List.length_flatMap]
 omega
def zy9(r:List Rt)(i:Nat):List Value:=(r.take i).map (fun x=>.int .i64 ((zdb x).length:Nat))++List.replicate (8 - i) (.int .i64 0)
theorem zuu(h8:r.length=8)(hi:i≤8):(zy9 r i).length=8:=by
 unfold zy9
 rw[aA,aC,aM,cD]
 omega
theorem qua(h:r[i]? =some x)(hi:i<8):(zy9 r i).set i (.int .i64 ((zdb x).length:Nat))=zy9 r (i+1):=by
 obtain⟨hl, -⟩:=aF.1 h
 unfold zy9
 rw[cX,h,cC,aD,List.set_append_right _ _ (by rw[aC,aM];omega),aC,aM,dB oQ,kT,show 8 - i=(8 - (i+1))+1 by omega,List.replicate_succ]
 rfl
theorem qt8(h8:r.length=8):zy9 r 8=r.map fun x=>.int .i64 ((zdb x).length:Nat):=by
 unfold zy9
 rw[bH oQ]
 simp
theorem qt9(r:List Rt)(i:Nat):zb7 (zy9 r i)=true:=by
 refine zba.2 fun v hv=>?_
 rcases aS.1 hv with h|h
 ·obtain⟨x, -,rfl⟩:=aR.1 h
  rfl
 ·rw[fA h]
  rfl
variable{R:List Nat}{busy:Bool}
theorem qcl(h:Fok c g s):
  Cw Tryz.prog 66 #[.pointer (some ⟨c.pb,0,none⟩)] [foI c R busy err s] (fun _:Pg=>.int .i64 (cnt g.S 1024:Nat)) (fun s'=>Fok c g s') (fun s'=>[foI c R busy err s']):=fun w hw ha=>by
 have k:Tok (frC c [] false 0 0) g s:=h
 have h':=k.page (i:=0) (by have:=k.N1;omega)
 obtain⟨d,b,pb,N,n,secs,note,V,B⟩:=c
 obtain rfl:=k.b
 have h1:=(zk7 (m:=[]) (Hp.begin hw ha _ fun _ h=>h)).pick (m':=[pgI s d,dkI d,foC ⟨d,b,s.b,N,n,secs,note,V,B⟩ R busy err,tzI]) [1,2,0,3] rfl rfl
 have hc:=zu4 s d k.ok k.lives k.wait k.st.dead k.st.ok (by rw[k.st.hn];exact cI k.N1 k.N2) g.S k.hS (by rw[k.st.hn];exact k.S.2.1) k.S.2.2 w (fun it hm=>by
  rcases hm with _|⟨_,_|⟨_,hm⟩⟩
  ·exact zbq.of (h1.item (pgI s d) (.head _)) (zbl s d _ (.head _))
  ·exact zbq.of (h1.item (dkI d) (.tail _ (.head _))) (zgv s d _ (.tail _ (.head _)))
  ·cases hm) (bR.1 (show([pgI s d,dkI d]++[foC ⟨d,b,s.b,N,n,secs,note,V,B⟩ R busy err,tzI]).Pairwise Eng.Item.Apart from h1.apart)).1
 have h2:=hc.calls
 unfold Ct
 refine h2.mono ?_
 rintro e w' ⟨x,he,hx,hi⟩
 have h3:=Hp.call (m:=[pgI s d,dkI d]) h1 hi fun k _ ⟨it,hm,hk⟩=>⟨it,hm,hk⟩
 exact⟨zb1 s d.D 0,he,h',Hp.its (m:=[foI ⟨d,b,s.b,N,n,secs,note,V,B⟩ R busy err (zb1 s d.D 0)]) (zhe (m:=[]) (h3.pick [2,0,1,3] rfl rfl)) (.refl _) (zb3 _ _ _ _ _)⟩
theorem zua(h:Fok c g s){a:Nat}(hi:i<8)(ha:R[i]? =some a){k p:Nat}(hl:zls (fSh i) c.N g (a:Nat)= .ok (k,p))(hk:k≤1000000000)(hp:p≤1000000000):
  Cw Tryz.prog 65 #[.pointer (some ⟨c.b,1+i*4,none⟩)] [foI c R busy err s] (fun _:Pg=>.tuple #[.int .i64 (k:Int),.int .i64 (p:Int),.int .i64 0]) (fun s'=>Fok c g s') (fun s'=>[foI c R busy err s']):=fun w hw _=>by
 rw[zik ha]at hw⊢
 rw[←qj5 (c:=c) (busy:=busy) (err:=err) ha]
 exact(qry (h.tok R busy err hi) _ hl hk hp w hw).map fun y hy=>⟨y,rfl,Tok.fok hy,by rw[zik ha]⟩
theorem zxb(hN:c.N=120)(hk:Fok c g s)(hv:FoV c.N g r)(ht:zq9 r≤250):
  Cw Tryz.prog 27 #[.pointer (some ⟨c.b,0,none⟩)] [foI c (r.map zbj) busy err s] (fun _:Pg=>.tuple #[.agg (zy9 r 8).toArray,.int .i64 0]) (fun s'=>Fok c g s') (fun s'=>[foI c (r.map zbj) busy err s']):=by
 have h8:=hv.len
 have hcn:=qwh hk hv
 have hf:=qnq hN
 have hlen:=hv.acc.nodup
 refine qnp [_] Tryz.func27 rfl fun w0=>?_
 simp only[zaa]
 refine goA ?_
 refine zam rfl rfl fun b2 hb2=>?_
 refine goA ?_
 refine zam rfl rfl fun b4 hb4=>?_
 refine goA ?_
 refine que (fun y:Nat×Pg=>[(0,.pointer (some ⟨c.b,0,none⟩)),(2,.pointer (some ⟨b2,0,none⟩)),(4,.pointer (some ⟨b4,0,none⟩)),(5,.int .i64 (qum r y.1:Nat)),(13,.int .i64 (y.1:Nat))]) (fun y=>y.1≤8∧Fok c g y.2) (fun y=>[foI c (r.map zbj) busy err y.2,pt b2 (.cells (Array.replicate 8 (.int .i64 0)) 73 (0,0)),pt b4 (.cells (zy9 r y.1).toArray 73 (0,0))]) (fun y=>8 - y.1) (0,s) ⟨bA _,hk⟩ fun⟨i,s1⟩ ⟨hi,hs1⟩=>?_
 dsimp only at hi hs1⊢
 by_cases h9:i<8
 ·obtain⟨x,hx⟩:∃x,r[i]? =some x:=⟨_,aB oQ⟩
  have har:(r.map zbj)[i]? =some (zbj x):=by rw[aO,hx];rfl
  have hxl:=qmt hx
  have hpl:=qud hx
  have hps:=qvs r (i+1)
  have hcl:=qfo g.S 1024
  refine goA ?_
  refine lC (zua hs1 h9 har (hv.check hf.le ht hf.lo hf.rm hf.dp hx) oQ oQ) fun s2 hs2=>?_
  refine goA ?_
  refine lS (cs2:=(zy9 r (i+1)).toArray) (hi:=by rw[aI,zuu h8 oQ];omega) (hn:=by rw[aH,dE,qua hx h9]) ?_
  refine goA ?_
  exact xR (i+1,s2) ⟨h9,hs2⟩ (by dsimp only;omega) (hl:=⟨rfl,rfl,rfl,by rw[hpl];rfl,rfl,trivial⟩)
 ·obtain rfl:i=8:=oQ
  have e:=qu3 h8
  refine goA ?_
  refine l_w rfl (qpg (c:=c) (R:=r.map zbj) (s:=s1) (v:=.pointer (some ⟨c.pb,0,none⟩)) rfl mm rfl rfl) ?_
  refine goA ?_
  refine lC (qcl hs1) fun s2 hs2=>?_
  rw[hcn,e]
  refine goB ?_
  have ho:=zuu h8 (aY 8)
  refine l_w rfl (zcw (cs:=(zy9 r 8).toArray) rfl (by rw[aI,ho];rfl) mm) ?_
  refine lSa (cs':=(zy9 r 8).toArray) (hT:=by rw[aI,ho];rfl) (h1:=qt9 _ _) (h2:=by rw[aI,ho];rfl) ?_
  refine goA ?_
  exact xC2 s2 hs2 (hf:=rfl) (h1:=⟨_,rfl,zaq (by rw[aI,ho];rfl) mm⟩)
theorem zt5(hl:R.length=8)(v:Value):
  Cw Tryz.prog 71 #[.pointer (some ⟨c.b,0,none⟩),.int .i64 ((0:Nat):Int),v] [foI c R false err s] (fun _:Unit=>.int .i64 2) (fun _=>True) (fun _=>[foI c R false err s]):=by
 refine qnp [_,_,_] Tryz.func71 rfl fun w0=>?_
 simp only[zaa]
 refine goA ?_
 refine lPu rfl (fun w1 hw1=>zk9 (i:=0) dQ c.b w1) ?_
 refine goA ?_
 refine l_w rfl (qpg (c:=c) (R:=R) (s:=s) rfl mm (zl2 hl false err).1 rfl) ?_
 refine goA ?_
 exact xC () trivial
theorem qn2(hl:R.length=8)(k v:ByteArray):
  Cw Tryz.prog 40 #[.pointer (some ⟨c.b,0,none⟩),.int .i64 ((0:Nat):Int),.string k,.string v] [foI c R false err s] (fun _:Unit=>.int .i64 2) (fun _=>True) (fun _=>[foI c R false err s]):=by
 refine qnp [_,_,_,_] Tryz.func40 rfl fun w0=>?_
 simp only[zaa]
 refine goA ?_
 refine zc9 rfl rfl rfl fun b6 hb6=>?_
 refine zc9 rfl rfl rfl fun b7 hb7=>?_
 refine goA ?_
 refine l_w rfl (zhw rfl) ?_
 refine goA ?_
 refine lC (zt5 hl _) fun _ _=>?_
 refine goA ?_
 exact xC () trivial
theorem zxn:Cw Tryz.prog 42 #[.pointer (some ⟨c.b,0,none⟩)] [foI c R busy err s] (fun _:Unit=>.pointer (some ⟨c.pb,0,none⟩)) (fun _=>True) (fun _=>[foI c R busy err s]):=by
 refine qnp [_] Tryz.func42 rfl fun w0=>?_
 simp only[zaa]
 refine goA ?_
 refine l_w rfl (qpg (c:=c) (R:=R) (s:=s) (v:=.pointer (some ⟨c.pb,0,none⟩)) rfl mm rfl rfl) ?_
 refine goA ?_
 exact xC () trivial
theorem qar(h:Fok c g s)(w:World)(hh:zbq (foI c R busy err s) w):Pu Tryz.prog 57 #[.pointer (some ⟨c.pb,0,none⟩)] w (.string ⟨c.note.toArray⟩):=by
 have k:Tok (frC c [] false 0 0) g s:=h
 have h2:=zxt s c.d w (hh.1.1 _ (.tail _ (.head _)))
 obtain⟨TS,h3⟩:=k.st.st
 rw[k.b,h3.hnote]at h2
 exact h2
def qv5:List Mp:=List.replicate 8 ((none,none),[])
def qvz:List Mp:=[((none,none),[])]
variable{w0:World}{F:Nat→Prop}{m:List Eng.Item}
theorem quw{w:World}(h:Hp w0 F m w):Hp w0 F (arM qvz::m) w:=Hp.close1 (zg3 qvz) (zps 9 1 (zps 9 1 h))
theorem qvh(xb db fb:Nat):fsC xb db fb=stF xb db fb qv5:=rfl
theorem qu8(h:Beg c s):qe9 c r8 s qv5 qvz 0:=
 ⟨h.rdy,h.N,⟨rfl,fun i x hx=>by
  obtain rfl:x=none:=fA (bO hx)
  have hi:i<8:=(aF.1 hx).1
  exact⟨(none,none),by unfold qv5;rw[iU,if_pos hi];rfl⟩,fun p hp=>by rw[fA hp];exact .head _⟩,dQ⟩
theorem ql3{L:List S11}{q cp:Nat}{fl:Bool}{e:TypeId}(hL:∀y∈L,y.Ok):C11.Ok ⟨L,fl,some ⟨q,0,none⟩,cp⟩ (own e 4 (some (q,n)) n (zc6 S11.vs L)):=
 ⟨hL,fun _ h=>za8 h,fun b off h _=>by cases h;exact⟨n,rfl⟩⟩
theorem qu6(d t k v:Nat):S11.Ok ⟨d,t,k,v⟩↔d<256∧t<256∧k<65536∧v<65536:=⟨fun h=>⟨h.d,h.t,h.k,h.v⟩,fun h=>⟨h.1,h.2.1,h.2.2.1,h.2.2.2⟩⟩
theorem qe9.to{s':Pg}(h:qe9 c r s M A n)(h1:FoV c.N g r)(h2:g.W 1=zbu (r.map zbj))(h3:Fok c g s'):qe9 c r s' M A n:=⟨⟨h.rdy.st,g,h3,h1,h2⟩,h.N,h.rm,h.tot⟩
theorem qu1(h:qe9 c r s M A n)(hn:n≤250):
  Cw Tryz.prog 26 #[.pointer (some ⟨xb,0,none⟩),mfV M] [foI c (r.map zbj) false err s,arM A,stF xb c.d.b c.b M] (fun _:Pg=>.bool true) (fun s'=>qe9 c r s' M A n) (fun s'=>[foI c (r.map zbj) false err s',arM A,stF xb c.d.b c.b M]):=fun w hw ha=>by
 obtain⟨g,k1,k2,k3⟩:=h.rdy.now
 exact(qbr h.N k1 k2 h.rm (cI h.tot hn) w hw ha).map fun y hy=>⟨y,rfl,h.to k2 k3 hy,rfl⟩
theorem qru(h:qe9 c r s M A n)(hn:n≤250):
  Cw Tryz.prog 27 #[.pointer (some ⟨c.b,0,none⟩)] [foI c (r.map zbj) false err s] (fun _:Pg=>.tuple #[.agg (zy9 r 8).toArray,.int .i64 0]) (fun s'=>qe9 c r s' M A n) (fun s'=>[foI c (r.map zbj) false err s']):=fun w hw ha=>by
 obtain⟨g,k1,k2,k3⟩:=h.rdy.now
 exact(zxb h.N k1 k2 (cI h.tot hn) w hw ha).map fun y hy=>⟨y,rfl,h.to k2 k3 hy,rfl⟩
structure Chg where
 r:List Rt
 M:List Mp
 A:List Mp
 c:Fc
 s:Pg
 T:List Mp
structure qvy (c:Fc) (M:List Mp) (n:Nat) (x:C11) (y:Chg):Prop where
 fm:qe9 y.c y.r y.s y.M y.A (n+x.L.length)
 b:y.c.b=c.b
 db:y.c.d.b=c.d.b
 B:y.c.B≤c.B+601
 note:y.c.note=c.note
 es:esM y.M=if x.fl then esM M else x.L.foldl qqh (esM M)
 T8:y.T.length=8
theorem zrs(h:qe9 c r s M A n)(hB:c.B+700<9223372036854775808)[Stab I](x:C11)(hx:x.Ok I)(hn:n+x.L.length≤240):
  Cw Tryz.prog 23 #[.pointer (some ⟨xb,0,none⟩),.agg x.vs.toArray] [foI c (r.map zbj) false err s,ctI,arM A,stF xb c.d.b c.b M,I]
   (fun y:Chg=>.tuple #[.int .i64 (if x.fl then 5 else 0:Nat),mfV y.T,.bool true]) (fun y=>qvy c M n x y)
   (fun y=>[foI y.c (y.r.map zbj) false 0 y.s,ctI,arM y.A,stF xb y.c.d.b y.c.b y.M,I]):=fun w hw ha=>
 (zt2 h hB x hx hn w hw ha).map fun y ⟨h1,k,h2,h3⟩=>⟨⟨if x.fl then r else y.1.r,if x.fl then M else y.1.M,y.1.A,y.2.1,y.2.2,y.1.M⟩,rfl,⟨h1,k.b,k.db,k.B,k.note,by dsimp only;split<;>first|rfl|exact h3,h2.l8⟩,by rw[k.b,k.db]⟩
theorem qvn(h:qe9 c r s M A n)(hi:i<8):(zy9 r 8)[i]? =some (.int .i64 (((esM M).getD i []).length:Nat)):=by
 obtain⟨g,k1,k2,k3⟩:=h.rdy.now
 have h8:=k2.len
 obtain⟨x,hx⟩:∃x,r[i]? =some x:=⟨_,aB oQ⟩
 obtain⟨o,ho⟩:=h.rm.rel i x hx
 rw[qt8 h8,aO,hx,aE,aO,ho]
 rfl
theorem qvo(h:qe9 c r s M A n):zy9 r 8=((esM M).map (·.length)).map fun k=>.int .i64 (k:Nat):=by
 obtain⟨g,k1,k2,k3⟩:=h.rdy.now
 have h8:=k2.len
 have hM:=h.rm.l8
 refine gL fun i=>?_
 by_cases hi:i<8
 ·rw[qvn h hi,dJ,aO,aE]
  obtain⟨e,he⟩:∃e,(esM M)[i]? =some e:=⟨_,aB (by rw[aC,hM];exact hi)⟩
  rw[he]
  rfl
 ·rw[dG (by rw[zuu h8 (aY 8)];omega),dG (by rw[aC,aC,aC,hM];omega)]
variable{l:zav}{ty:TypeId}{x:Operand}
theorem qv7{db fb:Nat}(h8:M.length=8)(hx:evO l x=some (.pointer (some ⟨xb,2,none⟩)))(hm:stF xb db fb M∈m):OV Tryz.prog (.load 39 x) ty l (Hp w0 F m) (mfV M):=
 zgp (xs:=zc6 dmE M) (c:=(zc6 dmE M).toArray) hx (by rw[zce h8];rfl) (fun w' hw'=>by
  have:=zbf (hw'.get (b:=xb) (o:=.cells (.pointer (some ⟨db,0,none⟩):: .pointer (some ⟨fb,0,none⟩)::zc6 dmE M).toArray 41 (0,0)) hm)
  exact fun j v hv=>by have:=this (2+j) v (by rw[fT];exact hv);rwa[aH]at this) rfl
theorem qvt{H:World→Prop}{sh:Sh}(hx:evO l x=some (shV sh)):OV Tryz.prog (.field 79 x 1) ty l H (.int .i64 (sh.vw:Int)):=ov fun _ _ _ _ _=>by
 simp only[execOp,zar hx]
 rfl
theorem qf8:Cw Tryz.prog 21 #[] [ctI,tzI] (fun _:Unit=>.bool true) (fun _=>True) (fun _=>[ctI,tzI]):=by
 refine qnp [] Tryz.func21 rfl fun w0=>?_
 simp only[zaa]
 refine goA ?_
 refine lC zlx fun⟨xb,c,s⟩ hB=>?_
 have h0:=qu8 hB
 have hBB:=hB.B
 dsimp only at h0 hBB⊢
 rw[qvh]
 refine zcy (fun _ h=>quw h) ?_
 refine goB ?_
 refine za1 rfl (za3 (L:=[(0,4,.agg (S11.vs ⟨1,0,1,2⟩).toArray),(4,4,.agg (S11.vs ⟨1,6,1,3⟩).toArray)]) rfl rfl rfl rfl rfl rfl) fun⟨q1,_⟩=>?_
 refine goB ?_
 refine lC (zrs h0 oQ (I:=own 121 4 (some (q1,2)) 2 (zc6 S11.vs [⟨1,0,1,2⟩,⟨1,6,1,3⟩])) ⟨[⟨1,0,1,2⟩,⟨1,6,1,3⟩],false,some ⟨q1,0,none⟩,2⟩ (ql3 (by simp[qu6])) (show 0+2≤240 by decide)) fun⟨r1,M1,A1,c1,s1,T1⟩ h1=>?_
 dsimp only
 obtain⟨f1,g1, -,u1,n1,e1,t1⟩:=h1
 dsimp only at f1 g1 u1 n1 e1 t1
 simp only[bV,if_false]at e1⊢
 refine goB ?_
 refine zam rfl rfl fun b4 hb4=>?_
 refine goB ?_
 refine lSa (cs':=(zc6 dmE T1).toArray) (hT:=by rw[aI,zce t1];rfl) (h1:=zc8 _) (h2:=by rw[aI,zce t1];rfl) ?_
 refine goB ?_
 refine za1 rfl (za3 (L:=[(0,4,.agg (S11.vs ⟨1,0,1,9⟩).toArray),(4,4,.agg (S11.vs ⟨0,6,1,0⟩).toArray)]) rfl rfl rfl rfl rfl rfl) fun⟨q2,_⟩=>?_
 refine goB ?_
 refine lC (zrs f1 oQ (I:=own 121 4 (some (q2,2)) 2 (zc6 S11.vs [⟨1,0,1,9⟩,⟨0,6,1,0⟩])) ⟨[⟨1,0,1,9⟩,⟨0,6,1,0⟩],true,some ⟨q2,0,none⟩,2⟩ (ql3 (by simp[qu6])) (show 0+2+2≤240 by decide)) fun⟨r2,M2,A2,c2,s2,T2⟩ h2=>?_
 dsimp only
 obtain⟨f2,g2, -,u2,n2,e2,t2⟩:=h2
 dsimp only at f2 g2 u2 n2 e2 t2
 simp only[if_true]at e2⊢
 refine goB ?_
 refine zam rfl rfl fun b7 hb7=>?_
 refine goB ?_
 refine lSa (cs':=(zc6 dmE T2).toArray) (hT:=by rw[aI,zce t2];rfl) (h1:=zc8 _) (h2:=by rw[aI,zce t2];rfl) ?_
 refine goB ?_
 refine lC (qru f2 dQ) fun s3 f3=>?_
 have hl:(esM M2).map (·.length)=[1,0,0,0,0,0,1,0]:=by rw[e2,e1];decide+kernel
 rw[qvo f2,hl]
 refine goB ?_
 refine zam rfl rfl fun b9 hb9=>?_
 refine goB ?_
 refine l_w rfl (qv7 f2.rm.l8 rfl mm) ?_
 refine goB ?_
 refine lC (qu1 f3 dQ) fun s4 f4=>?_
 obtain⟨g4,k1,k2,k3⟩:=f4.rdy.now
 refine goB ?_
 refine lC (qn2 (c:=c2) (R:=r2.map zbj) (s:=s4) (err:=0) (by rw[aC];exact k2.len) ⟨#[]⟩ ⟨#[]⟩) fun _ _=>?_
 refine goB ?_
 refine lC (zxn (c:=c2) (R:=r2.map zbj) (busy:=false) (err:=0) (s:=s4)) fun _ _=>?_
 refine goA ?_
 refine lPu rfl (fun w1 hw1=>qar k1 w1 (zbq.of (hw1.item (foI c2 (r2.map zbj) false 0 s4) mm) (zad _))) ?_
 rw[n2,n1,hB.note]
 refine goA ?_
 rw[show seq ⟨zvf.toArray⟩ ⟨#[110,111,116,101]⟩=true by unfold seq;decide+kernel]
 refine goA ?_
 refine lPu rfl (fun w1 hw1=>zxa (i:=5) dQ w1) ?_
 refine l_w rfl (qvt rfl) ?_
 refine goA ?_
 refine qtx ?_
 exact xC () trivial
theorem quu(w:World):Pu Tryz.prog 109 #[.pointer none] w (.tuple #[.pointer none,.slice none 0 0,.int .i64 1]):=by
 refine zbn [_] Tryz.func109 rfl rfl ?_
 simp only[zaa]
 refine goA ?_
 exact qr9 rfl rfl rfl rfl fun _ hw=>⟨rfl,hw.fr⟩
theorem qus(w:World):Pu Tryz.prog 74 #[.pointer none] w (.tuple #[.pointer none,.int .i64 1]):=by
 refine zbn [_] Tryz.func74 rfl rfl ?_
 simp only[zaa]
 refine goA ?_
 refine lPu rfl (fun w1 hw1=>quu w1) ?_
 refine goA ?_
 exact zie rfl rfl rfl rfl
theorem qvg(w:World):Pu Tryz.prog 37 #[.pointer none] w (.tuple #[.pointer none,.int .i64 1]):=by
 refine zbn [_] Tryz.func37 rfl rfl ?_
 simp only[zaa]
 refine goA ?_
 refine lPu rfl (fun w1 hw1=>qus w1) ?_
 refine goA ?_
 exact zie rfl rfl rfl rfl
theorem qv1(i:Int)(v:Value)(w:World):Pu Tryz.prog 31 #[.pointer none,.int .i64 i,v] w (.tuple #[.string ByteArray.empty,.bool false,.int .i64 1]):=by
 refine zbn [_,_,_] Tryz.func31 rfl rfl ?_
 simp only[zaa,Nat.reduceAdd]
 refine goA ?_
 refine lPu rfl (fun w1 hw1=>zlv i w1) ?_
 refine goA ?_
 exact qv8 rfl rfl rfl rfl rfl
theorem qve(i:Int)(v u:Value):Cw Tryz.prog 33 #[.pointer none,.int .i64 i,v,u] [] (fun _:Unit=>.tuple #[.string ByteArray.empty,.string ByteArray.empty,.bool false,.int .i64 1]) (fun _=>True) (fun _=>[]):=by
 refine qnp [_,_,_,_] Tryz.func33 rfl fun w0=>?_
 simp only[zaa,Nat.reduceAdd]
 refine goA ?_
 refine lPu rfl (fun w1 hw1=>zlv i w1) ?_
 refine goA ?_
 exact qvu () rfl rfl rfl rfl rfl rfl trivial (aL _) (fun _ h=>nomatch h)
theorem zxc(i:Int)(v:Value)(w:World):Pu Tryz.prog 71 #[.pointer none,.int .i64 i,v] w (.int .i64 1):=by
 refine zbn [_,_,_] Tryz.func71 rfl rfl ?_
 simp only[zaa,Nat.reduceAdd]
 refine goA ?_
 refine lPu rfl (fun w1 hw1=>zlv i w1) ?_
 refine goA ?_
 exact zdk rfl rfl rfl
theorem qv3(i:Int)(k v:ByteArray):Cw Tryz.prog 40 #[.pointer none,.int .i64 i,.string k,.string v] [] (fun _:Unit=>.int .i64 1) (fun _=>True) (fun _=>[]):=by
 refine qnp [_,_,_,_] Tryz.func40 rfl fun w0=>?_
 simp only[zaa,Nat.reduceAdd]
 refine goA ?_
 refine zc9 rfl rfl rfl fun b6 hb6=>?_
 refine zc9 rfl rfl rfl fun b7 hb7=>?_
 refine goA ?_
 refine l_w rfl (zhw rfl) ?_
 refine goA ?_
 refine lPu rfl (fun w1 hw1=>zxc i _ w1) ?_
 refine goA ?_
 exact xC () trivial
theorem qv0(i:Int)(k:ByteArray):Cw Tryz.prog 36 #[.pointer none,.int .i64 i,.string k] [] (fun _:Unit=>.tuple #[.bool false,.int .i64 1]) (fun _=>True) (fun _=>[]):=by
 refine qnp [_,_,_] Tryz.func36 rfl fun w0=>?_
 simp only[zaa,Nat.reduceAdd]
 refine goA ?_
 refine zc9 rfl rfl rfl fun b5 hb5=>?_
 refine zdg rfl rfl rfl fun b6 hb6=>?_
 refine goA ?_
 refine l_w rfl (zhw rfl) ?_
 refine goA ?_
 refine lPu rfl (fun w1 hw1=>zxc i _ w1) ?_
 refine goB ?_
 exact xC2 () trivial
theorem qur:Cw Tryz.prog 27 #[.pointer none] [] (fun _:Unit=>.tuple #[.agg (Array.replicate 8 (.int .i64 0)),.int .i64 1]) (fun _=>True) (fun _=>[]):=by
 refine qnp [_] Tryz.func27 rfl fun w0=>?_
 simp only[zaa,Nat.reduceAdd]
 refine goA ?_
 refine zam rfl rfl fun b2 hb2=>?_
 refine goA ?_
 refine zam rfl rfl fun b4 hb4=>?_
 refine goB ?_
 exact xC2 () trivial
theorem qvd(i:Int)(v:Value)(w:World):Pu Tryz.prog 41 #[.pointer none,.int .i64 i,v] w (.int .i64 1):=by
 refine zbn [_,_,_] Tryz.func41 rfl rfl ?_
 simp only[zaa,Nat.reduceAdd]
 refine goA ?_
 refine lPu rfl (fun w1 hw1=>zlv i w1) ?_
 refine goA ?_
 exact zdk rfl rfl rfl
theorem qwi(v:Value)(w:World):Pu Tryz.prog 18 #[.pointer none,v] w (.int .i64 1):=by
 refine zbn [_,_] Tryz.func18 rfl rfl ?_
 simp only[zaa,Nat.reduceAdd]
 refine goA ?_
 exact zdk rfl rfl rfl
theorem qvc(a:Addr)(w:World):Pu Tryz.prog 18 #[.pointer (some a),.nilFunc] w (.int .i64 1):=by
 refine zbn [_,_] Tryz.func18 rfl rfl ?_
 simp only[zaa,Nat.reduceAdd]
 refine goA ?_
 refine l_w rfl (zwf (v':=.bool true) (ov fun _ _ _ _ _=>rfl) rfl) ?_
 refine goA ?_
 exact zdk rfl rfl rfl
theorem qut(w:World):Pu Tryz.prog 42 #[.pointer none] w (.pointer none):=by
 refine zbn [_] Tryz.func42 rfl rfl ?_
 simp only[zaa]
 refine goA ?_
 exact zdk rfl rfl rfl
theorem quq(hl:R.length=8)(f:FuncId)(cs:Array Value):Cw Tryz.prog 18 #[.pointer (some ⟨c.b,0,none⟩),.func (.func f) #[] cs] [foI c R true err s] (fun _:Unit=>.int .i64 2) (fun _=>True) (fun _=>[foI c R true err s]):=by
 refine qnp [_,_] Tryz.func18 rfl fun w0=>?_
 simp only[zaa]
 refine goA ?_
 refine l_w rfl (zwf (v':=.bool false) (ov fun _ _ _ _ _=>rfl) rfl) ?_
 refine goA ?_
 refine l_w rfl (qpg (c:=c) (R:=R) (s:=s) rfl (.head _) (zl2 hl true err).1 rfl) ?_
 refine goA ?_
 exact xC () trivial
instance(xb db fb:Nat):Stab (fsC xb db fb):=⟨zab _ _ _⟩
abbrev quj(b19 xb db fb:Nat):List Eng.Item:=[pt b19 (.cells #[.pointer (some ⟨xb,0,none⟩)] 24 (0,0)),fsC xb db fb]
theorem qv2(hl:R.length=8)(b19 xb:Nat):Cw Tryz.prog 38 #[.pointer (some ⟨b19,0,none⟩)] (foI c R true 0 s::quj b19 xb c.d.b c.b) (fun _:Unit=>.int .i64 ((2:Nat):Int)) (fun _=>True) (fun _=>foI c R true 0 s::quj b19 xb c.d.b c.b):=by
 refine qnp [_] Tryz.func38 rfl fun w0=>?_
 simp only[zaa]
 unfold quj fsC fsA
 refine goA ?_
 refine lC (quq (c:=c) (R:=R) (err:=0) (s:=s) hl _ _) fun _ _=>?_
 refine goA ?_
 exact xC () trivial
theorem qvf(tree:Int)(key:ByteArray):Cw Tryz.prog 8 #[.int .i64 tree,.string key] [ctI,tzI] (fun _:Unit=>.bool true) (fun _=>True) (fun _=>[ctI,tzI]):=by
 refine qnp [_,_] Tryz.func8 rfl fun w0=>?_
 simp only[zaa]
 refine goA ?_
 by_cases h1:100<key.size
 ·refine goA ?_
  refine lC qf8 fun _ _=>?_
  refine goB ?_
  exact xC () trivial
 ·refine goA ?_
  refine lPu rfl (fun w1 hw1=>qv1 tree (.string key) w1) ?_
  refine goA ?_
  refine lC (qv0 tree key) fun _ _=>?_
  refine goA ?_
  refine lC (qve tree (.string key) (.bool true)) fun _ _=>?_
  refine goA ?_
  refine lC qur fun _ _=>?_
  refine goA ?_
  refine zam rfl rfl fun b15 hb15=>?_
  refine lSa (cs':=Array.replicate 8 (.int .i64 0)) ?_
  refine goA ?_
  refine lPu rfl (fun w1 hw1=>qvg w1) ?_
  refine goA ?_
  refine lC zlx fun⟨xb,c,s⟩ hB=>?_
  have hBB:=hB.B
  have hR:=hB.rdy
  dsimp only at hBB hR⊢
  refine goA ?_
  refine zdg rfl rfl rfl fun b19 hb19=>?_
  refine lS ?_
  refine goA ?_
  refine l_w rfl (zhw rfl) ?_
  refine goA ?_
  refine lC (zpn hR oQ (err:=0) (X:=Unit) (fd:=38) (cs:=[.pointer (some ⟨b19,0,none⟩)]) kQ (quj b19 xb c.d.b c.b) (fun _=>quj b19 xb c.d.b c.b) (inferInstance:StabL (quj b19 xb c.d.b c.b)).st (fun _=>(inferInstance:StabL (quj b19 xb c.d.b c.b)).st) (fun _=>2) (fun _=>0) (fun _=>r8) (fun _=>s) (fun _=>True) (fun _ _=>hR) (fun w2 hh2 ha2=>qv2 rfl b19 xb w2 hh2 ha2)) fun⟨_,c',s'⟩ ⟨_,hk,hr⟩=>?_
  simp only[eeZ,ite_self]
  unfold quj fsC fsA
  refine goA ?_
  refine lC (qv3 tree key key) fun _ _=>?_
  refine goA ?_
  refine lPu rfl (fun w1 hw1=>qvd tree .nilFunc w1) ?_
  refine goA ?_
  refine lPu rfl (fun w1 hw1=>qwi .nilFunc w1) ?_
  refine goA ?_
  refine lPu rfl (fun w1 hw1=>qvc _ w1) ?_
  refine goA ?_
  refine lPu rfl (fun w1 hw1=>qut w1) ?_
  refine goA ?_
  refine qs3 ?_
  refine lC qf8 fun _ _=>?_
  refine goB ?_
  exact xC () trivial
end Go.Proofs.YthafakdplhdfjaaGreatDoor
