/- Parts: Delete; Put and Delete at the root; Delete at the root; Check; forest; Keys are compared; Predicates over rows; node; strings. No condition. -/
import Derived.Test.YthafakdplhdfjaaGreatDoorHh04
import Derived.Test.YthafakdplhdfjaaGreatDoorHh02
import Derived.Test.YthafakdplhdfjaaGreatDoorHh01
import Derived.Test.YthafakdplhdfjaaGreatDoorProg
import Derived.Lib.FrozenHead
import Derived.Lib.MakeNoZero
import Derived.Lib.UnsafeStr
set_option maxRecDepth 100000
set_option maxHeartbeats 40000000
namespace Go.Eng.Tr
open Go.Proofs.YthafakdplhdfjaaGreatDoor
theorem qby{h:Nat}(p:Nat)(kids:List (T h)){i:Nat}(hi:i<kids.length)(c:T h)(L:List Nat):(p::(kids.set i c).flatMap pgs++L).Perm (pgs c++(p::((kids.take i).flatMap pgs++(kids.drop (i+1)).flatMap pgs)++L)):=by
 have e2:(kids.set i c).flatMap pgs=(kids.take i).flatMap pgs++(pgs c++(kids.drop (i+1)).flatMap pgs):=by
  conv=>lhs;rw[zob (kids.set i c) (j:=i) (by rw[bM];exact hi)]
  rw[bE,aY,dH,eJ oQ,dI oQ]
 rw[e2,aC,aC]
 refine List.Perm.trans (.cons _ ?_) bH.symm
 simp only[aF]
 exact bR _ _ _
theorem kid_perm'{h:Nat}(p:Nat)(kids:List (T h)){i:Nat}(hi:i<kids.length)(L:List Nat):(p::kids.flatMap pgs++L).Perm (pgs kids[i]++(p::((kids.take i).flatMap pgs++(kids.drop (i+1)).flatMap pgs)++L)):=by
 have:=qby p kids hi kids[i] L
 rwa[gC]at this
theorem qjv{es:E}(hO:Es es)(k:K)(hf:fd (keys es) k=true):lNd ((keys es).eraseIdx (lb (keys es) k)) ((List.map (fun q:K×K=>q.2) es).eraseIdx (lb (keys es) k))=lNd (List.map (fun q:K×K=>q.1) (zfy es k)) (List.map (fun q:K×K=>q.2) (zfy es k)):=by
 obtain⟨w,a1,a2,a3,a4⟩:=(zyf (e:=es) (k:=k) hO).1 hf
 rw[a4]
 have er:∀{β:Type} (f:K×K→β) (l:E) (i:Nat),(l.eraseIdx i).map f=(l.map f).eraseIdx i:=fun f l i=>by
  induction l generalizing i with
  |nil=>rfl
  |cons x l ih=>
   cases i with
   |zero=>rfl
   |succ i=>simp only[iU,bD,ih]
 rw[er,er]
 rfl
structure qsh (N:Nat) (g:Sg) {h:Nat} (t:T h) (r:T h×Bool×(Nat→Bool)) (o:Except Nat ((Nd×Bool)×Sg)) (g':Sg):Prop where
 is:o= .ok ((zaj r.1,r.2.1),g')
 no:r.2.1=false→g'=g
 kids:qbb g'.W r.1
 S:g'.S=r.2.2
 frame:∀x,x<N→(x∉pgs t∨x=pg t)→g.S x=true→g'.W x=g.W x
theorem zqm{s:Sh}(hs:zwi s){N:Nat}(hn:0<N)(hN:N≤1024)(k:K):∀{h:Nat} (t:T h) (d:Nat) (g:Sg) (L:List Nat),h<d→Ord t→Wd s t→Below s t→sz t≤mx s h→(1≤h→2≤sz t)→Rep g.W t→Acc N g.S (pgs t++L)→
  ∃g',qsh N g t (zdc s N t k g.S) (zd8 s N k d g (pg t:Nat)) g'
 |0,(p,es),d+1,g,L,_,hO,hW,hB,hm,h2k,hrep,hA=>by
  have hO:Es es:=hO
  obtain⟨hp1,hp2⟩:=hA.low p (.head _)
  have hmay:zf8 s (zaj (zb0 p es)):=zcu (zb0 p es) hO hW hm (fun h=>oQ) fun x hx=>by rw[aK.1 hx];exact⟨hp1,aV hp2 hN⟩
  have hload:zfs s N g (p:Nat)= .ok (zaj (zb0 p es)):=zfl (t:=zb0 p es) hs.kw hrep hmay hp1 hp2
  have hr:zdc s N (zb0 p es) k g.S=if fd (keys es) k then(zb0 p (zfy es k),true,g.S)else(zb0 p es,false,g.S):=rfl
  have hF:zd8 s N k (d+1) g (p:Nat)=if fd (keys es) k then .ok ((lNd ((keys es).eraseIdx (lb (keys es) k)) ((List.map (fun q:K×K=>q.2) es).eraseIdx (lb (keys es) k)),true),g)else .ok ((zaj (zb0 p es),false),g):=by
   rw[zd8,hload]
   rfl
  show∃g',qsh N g (zb0 p es) (zdc s N (zb0 p es) k g.S) (zd8 s N k (d+1) g (p:Nat)) g'
  rw[hr,hF]
  cases hf:fd (keys es) k with
  |false=>exact⟨g,rfl,fun _=>rfl,trivial,rfl,fun _ _ _ _=>rfl⟩
  |true=>exact⟨g,by rw[if_pos rfl,qjv hO k hf];rfl,fun h=>(nomatch h),trivial,rfl,fun _ _ _ _=>rfl⟩
 |h+1,(p,ks,kids),d+1,g,L,hd,hO,hW,hB,hm,h2k,hrep,hA=>by
  have hA:Acc N g.S (p::kids.flatMap pgs++L):=hA
  obtain⟨hp1,hp2⟩:=hA.low p (.head _)
  have h2k':2≤kids.length:=h2k (eZ _)
  have hfan:=hs.fan
  obtain⟨o1,o2,o3⟩:Ks ks∧Sep ks (kids.map ents)∧∀x∈kids,Ord x:=hO
  obtain⟨w1,w2⟩:(∀k∈ks,k.length=s.kw)∧∀x∈kids,Wd s x:=hW
  have hB':∀x∈kids,mx s h/2≤sz x∧sz x≤mx s h∧Below s x:=hB
  have hrep':∀x∈kids,Rep g.W x:=hrep.2
  have hl:=o2.len
  rw[aD]at hl
  have hi:dn ks k<kids.length:=by have:=zoh ks k;omega
  have hc:kids[dn ks k]? =some kids[dn ks k]:=aB hi
  have hcm:=aS hi
  have hh:=hs.h2 h
  have hnd:=hA.nodup
  obtain⟨nd1,nd2⟩:=cP.1 (show(p::(kids.flatMap pgs++L)).Nodup from hnd)
  have nd3:=(cM.1 nd2).1
  have hin:∀x∈kids,∀y∈pgs x,y∈kids.flatMap pgs:=fun x hx y hy=>cE.2 ⟨x,hx,hy⟩
  have hmay:zf8 s (zaj (zau p ks kids)):=zcu (zau p ks kids) ⟨o1,o2,o3⟩ ⟨w1,w2⟩ hm h2k fun x hx=>by
   have:=hA.low x (aN _ hx)
   exact⟨this.1,oQ⟩
  have hload:zfs s N g (p:Nat)= .ok (zaj (zau p ks kids)):=zfl (t:=zau p ks kids) hs.kw hrep hmay hp1 hp2
  have h2c:1≤h→2≤sz kids[dn ks k]:=fun h1=>by
   have:=(hB' _ hcm).1
   cases h with
   |zero=>omega
   |succ h=>have e:mx s (h+1)=s.fan:=rfl;omega
  have hAc:=hA.perm (kid_perm' p kids hi L)
  obtain⟨g1,hg1⟩:=zqm hs hn hN k kids[dn ks k] d g _ oQ (o3 _ hcm) (w2 _ hcm) (hB' _ hcm).2.2 (hB' _ hcm).2.1 h2c (hrep' _ hcm) hAc
  have hrok:=zmb s N hn hs.h2 oQ k kids[dn ks k] g.S (o3 _ hcm) (w2 _ hcm) (hB' _ hcm).2.2 (hB' _ hcm).2.1 h2c
  have hrem:zdc s N (zau p ks kids) k g.S=match zdc s N kids[dn ks k] k g.S with
   |(_,false,S')=>(zau p ks kids,false,S')
   |(c',true,S')=>if sz c'<mx s h/2 then((zht s N S' p ks (kids.set (dn ks k) c') (dn ks k)).1,true,(zht s N S' p ks (kids.set (dn ks k) c') (dn ks k)).2)
    else(zau p ks (kids.set (dn ks k) c'),true,S'):=by
   simp only[zdc,zau,hc]
   rfl
  have hkd:(zaj (zau p ks kids)).kids.getD (dn ks k) 0=pg kids[dn ks k]:=by
   show(kids.map pg).getD (dn ks k) 0=_
   rw[aH,aP,hc];rfl
  have hF:zd8 s N k (d+1) g (p:Nat)=(do
    let (r,g1)←zd8 s N k d g (pg kids[dn ks k]:Nat)
    if r.2 then do
     let g2←zb8 s N g1 (pg kids[dn ks k]) r.1
     if zqj s r.1 then do
      let (n',g3)←zhg s N g2 (zaj (zau p ks kids)) (dn ks k)
      return ((n',true),g3)
     else return ((zaj (zau p ks kids),true),g2)
    else return ((zaj (zau p ks kids),false),g1)):=by
   rw[zd8,hload,←hkd]
   rfl
  show∃g',qsh N g (zau p ks kids) (zdc s N (zau p ks kids) k g.S) (zd8 s N k (d+1) g (p:Nat)) g'
  rw[hrem,hF,hg1.is]
  obtain⟨⟨c',is,S'⟩,hr⟩:∃r,zdc s N kids[dn ks k] k g.S=r:=⟨_,rfl⟩
  rw[hr]at hg1 hrok⊢
  cases is with
  |false=>
   obtain⟨-,hS⟩:=hrok.no rfl
   have hg:=hg1.no rfl
   refine⟨g,by rw[hg];rfl,fun _=>rfl,hrep.2,?_,fun _ _ _ _=>rfl⟩
   exact hS.symm
  |true=>
   obtain⟨y1,y2,y3,y4,y5,y6,y7,y8⟩:=hrok.yes rfl
   simp only at y1 y2 y3 y4 y5 y6 y7 y8
   have hg1S:g1.S=S':=hg1.S
   have hg1k:qbb g1.W c':=hg1.kids
   have hA1c:=y8 _ hAc
   have hA1:Acc N S' (p::(kids.set (dn ks k) c').flatMap pgs++L):=hA1c.perm (qby p kids hi c' L).symm
   have hnd1:=hA1.nodup
   obtain⟨md1,md2⟩:=cP.1 (show(p::((kids.set (dn ks k) c').flatMap pgs++L)).Nodup from hnd1)
   obtain⟨md3,md4,md5⟩:=cM.1 md2
   have h2c':1≤h→2≤sz c':=fun h1=>by
    have:=(hB' _ hcm).1
    cases h with
    |zero=>omega
    |succ h=>have e:mx s (h+1)=s.fan:=rfl;omega
   have hcs:=hB' _ hcm
   have hlowc:∀x∈pgs c',1≤x∧x<1024:=fun x hx=>by
    have:=hA1c.low x (aN _ hx)
    exact⟨this.1,oQ⟩
   have hmayc:zf8 s (zaj c'):=zcu c' y3 y4 oQ h2c' hlowc
   obtain⟨q1,q2⟩:=hA1c.low (pg c') (aN _ (zcj c'))
   rw[y1]at q1 q2
   have hsave:zb8 s N g1 (pg kids[dn ks k]) (zaj c')= .ok { g1 with W:=wr g1.W (pg kids[dn ks k]) (zcl (zaj c')) }:=zcv hmayc q1 q2
   have hcnd:(pgs c').Nodup:=(cM.1 hA1c.nodup).1
   have hrc:Rep (wr g1.W (pg kids[dn ks k]) (zcl (zaj c'))) c':=by
    refine Rep.mk' ?_ (hg1k.frame (fun y _ hne=>zbe _ _ (by rw[←y1];exact hne)) hcnd)
    rw[y1]
    exact ze6 _ _ _
   have hother:∀x∈kids.set (dn ks k) c',Rep (wr g1.W (pg kids[dn ks k]) (zcl (zaj c'))) x:=fun x hx=>by
    obtain⟨j,hj,rfl⟩:=bJ hx
    rw[bM]at hj
    rw[iE]
    split
    ·exact hrc
    ·rename_i hne
     refine(hrep' _ (aS hj)).frame fun y hy=>?_
     have hyin:=hin _ (aS hj) y hy
     have hyA:y∈p::kids.flatMap pgs++L:=.tail _ (aN _ hyin)
     have hyd:=zw5 nd3 hj hi (fun e=>hne e.symm) y hy
     have hyl:=hA.low y hyA
     rw[zbe _ _ (fun e=>hyd (by rw[e];exact zcj _))]
     exact hg1.frame y hyl.2 (.inl hyd) ((hA.is y hyl.2).2 (.inr hyA))
   have hfr:∀x,x<N→(x∉pgs (zau p ks kids)∨x=p)→g.S x=true→wr g1.W (pg kids[dn ks k]) (zcl (zaj c')) x=g.W x:=fun x hx hxp hxS=>by
    have hnc:x∉pgs kids[dn ks k]:=fun h=>by
     have h1:=hin _ hcm x h
     rcases hxp with hxp|rfl
     ·exact hxp (.tail _ h1)
     ·exact nd1 (aN _ h1)
    rw[zbe _ _ (fun e=>hnc (by rw[e];exact zcj _))]
    exact hg1.frame x hx (.inl hnc) hxS
   have hnode:zaj (zau p ks kids)=zaj (zau p ks (kids.set (dn ks k) c')):=by
    show iNd ks (kids.map pg)=iNd ks ((kids.set (dn ks k) c').map pg)
    rw[zm1 kids hi c' y1]
   have hred:(do
    let (r,g1)←(Except.ok ((zaj c',true),g1):Except Nat ((Nd×Bool)×Sg))
    if r.2 then do
     let g2←zb8 s N g1 (pg kids[dn ks k]) r.1
     if zqj s r.1 then do
      let (n',g3)←zhg s N g2 (zaj (zau p ks kids)) (dn ks k)
      return ((n',true),g3)
     else return ((zaj (zau p ks kids),true),g2)
    else return ((zaj (zau p ks kids),false),g1))=(if sz c'<mx s h/2 then(do
      let (n',g3)←zhg s N { g1 with W:=wr g1.W (pg kids[dn ks k]) (zcl (zaj c')) } (zaj (zau p ks (kids.set (dn ks k) c'))) (dn ks k)
      return ((n',true),g3))
     else .ok ((zaj (zau p ks (kids.set (dn ks k) c')),true),{ g1 with W:=wr g1.W (pg kids[dn ks k]) (zcl (zaj c')) })):=by
    show(do
     let g2←zb8 s N g1 (pg kids[dn ks k]) (zaj c')
     if zqj s (zaj c')then do
      let (n',g3)←zhg s N g2 (zaj (zau p ks kids)) (dn ks k)
      return ((n',true),g3)
     else return ((zaj (zau p ks kids),true),g2))=_
    rw[hsave,hnode]
    show(if zqj s (zaj c')then do
      let (n',g3)←zhg s N { g1 with W:=wr g1.W (pg kids[dn ks k]) (zcl (zaj c')) } (zaj (zau p ks (kids.set (dn ks k) c'))) (dn ks k)
      return ((n',true),g3)
     else return ((zaj (zau p ks (kids.set (dn ks k) c')),true),{ g1 with W:=wr g1.W (pg kids[dn ks k]) (zcl (zaj c')) }))=_
    rw[qhv]
    by_cases hw:sz c'<mx s h/2
    ·rw[decide_eq_true hw,if_pos rfl,if_pos hw]
    ·rw[decide_eq_false hw,if_neg bP,if_neg hw];rfl
   rw[hred]
   by_cases hpoor:sz c'<mx s h/2
   ·rw[if_pos hpoor]
    simp only[if_pos hpoor]
    obtain⟨kids',hk'⟩:∃l,kids.set (dn ks k) c'=l:=⟨_,rfl⟩
    have hlen':kids'.length=kids.length:=by rw[←hk',bM]
    have hj:dn ks k - 1+1<kids'.length:=oQ
    have hjk:dn ks k - 1<ks.length:=oQ
    have e1:=qmr kids' hj
    have e2:=zob ks hjk
    have hat:kids'[dn ks k]'oQ=c':=by subst hk';rw[dH]
    have hothr:∀m (hm:m<kids'.length),m≠dn ks k→kids'[m]=kids[m]'oQ:=fun m hm hne=>by subst hk';rw[List.getElem_set_ne (Ne.symm hne)]
    have hall:∀m (hm:m<kids'.length),Ord kids'[m]∧Wd s kids'[m]∧Below s kids'[m]∧sz kids'[m]≤mx s h∧(1≤h→2≤sz kids'[m]):=fun m hm=>by
     by_cases hmi:m=dn ks k
     ·subst hmi
      rw[hat]
      exact⟨y3,y4,y5,oQ,h2c'⟩
     ·rw[hothr m hm hmi]
      have hmm:=aS (by omega:m<kids.length)
      have hbm:=hB' _ hmm
      exact⟨o3 _ hmm,w2 _ hmm,hbm.2.2,hbm.2.1,fun h1=>by
       have:=hbm.1
       cases h with
       |zero=>omega
       |succ h=>have e:mx s (h+1)=s.fan:=rfl;omega⟩
    have hszs:∀m (hm:m<kids'.length),m≠dn ks k→mx s h/2≤sz kids'[m]∧sz kids'[m]≤mx s h:=fun m hm hne=>by
     rw[hothr m hm hne]
     have:=hB' _ (aS (by omega:m<kids.length))
     exact⟨this.1,this.2.1⟩
    have hab:sz kids'[dn ks k - 1]+sz kids'[dn ks k - 1+1]≤mx s h+mx s h/2:=by
     rcases fA (dn ks k)with h0|h0
     ·have a1:kids'[dn ks k - 1]'oQ=c':=by rw[←hat];congr 1;omega
      have a2:=hszs (dn ks k - 1+1) hj oQ
      rw[a1];omega
     ·have a1:kids'[dn ks k - 1+1]'oQ=c':=by rw[←hat];congr 1;omega
      have a2:=hszs (dn ks k - 1) oQ oQ
      rw[a1];omega
    have hbd:=o2.bd o1 (i:=dn ks k) (by rw[aD];exact hi)
    rw[cS]at hbd
    have hbp:Bd ks (dn ks k) (ents c'):=hbd.sub fun q hq=>by rw[y2]at hq;exact zt8 hq
    have hsep:Sep ks (kids'.map ents):=by rw[←hk',map_set'];exact o2.set o1 _ hbp
    obtain⟨p1,p2⟩:=hsep.part o1
    have la:zfo (ents kids'[dn ks k - 1]) ks[dn ks k - 1]:=by
     have:=p1 (dn ks k - 1) (dn ks k - 1) hjk (by rw[aD];omega) (bA _)
     rwa[cS]at this
    have gb:zg1 (ents kids'[dn ks k - 1+1]) ks[dn ks k - 1]:=by
     have:=p2 (dn ks k - 1) (dn ks k - 1+1) hjk (by rw[aD];omega) (eT _)
     rwa[cS]at this
    rw[hk']at hother hA1 md1 md2 md3 md5⊢
    have ha':=hall (dn ks k - 1) oQ
    have hb':=hall (dn ks k - 1+1) hj
    have hrow:∀x∈kids'.flatMap pgs,1≤x∧x<N∧S' x=true:=fun x hx=>by
     have hxA:x∈p::kids'.flatMap pgs++L:=.tail _ (aN _ hx)
     have:=hA1.low x hxA
     exact⟨this.1,this.2,(hA1.is x this.2).2 (.inr hxA)⟩
    obtain⟨g3,m1,m2,m3,m4⟩:=qdx hs hN (p:=p) (P:=ks.take (dn ks k - 1)) (R:=ks.drop (dn ks k - 1+1)) (q0:=ks[dn ks k - 1]) (X:=kids'.take (dn ks k - 1)) (Y:=kids'.drop (dn ks k - 1+2)) (a:=kids'[dn ks k - 1]) (b:=kids'[dn ks k - 1+1]) (by rw[aM,aM];omega) { g1 with W:=wr g1.W (pg kids[dn ks k]) (zcl (zaj c')) } ha'.1 hb'.1 ha'.2.1 hb'.2.1 (w1 _ (aS hjk)) ha'.2.2.1 hb'.2.2.1 la gb ha'.2.2.2.1 hb'.2.2.2.1 ha'.2.2.2.2 hb'.2.2.2.2 hab (by rw[←e1];exact hother) (by rw[←e1];exact md3) (by rw[←e1];show∀x∈kids'.flatMap pgs,1≤x∧x<N∧g1.S x=true;rw[hg1S];exact hrow) (by show g1.S 0=true;rw[hg1S];exact(hA1.is 0 hn).2 (.inl rfl)) (dn ks k) (by rw[aM];omega)
    rw[←e1,←e2]at m1 m2 m3
    rw[←e1]at m4
    have m1':zhg s N { g1 with W:=wr g1.W (pg kids[dn ks k]) (zcl (zaj c')) } (zaj (zau p ks kids')) (dn ks k)= .ok (zaj (zht s N S' p ks kids' (dn ks k)).1,g3):=by
     rw[show zht s N S' p ks kids' (dn ks k)=zht s N g1.S p ks kids' (dn ks k) by rw[hg1S]];exact m1
    have m2':qbb g3.W (zht s N S' p ks kids' (dn ks k)).1:=by rw[←hg1S];exact m2
    have m3':g3.S=(zht s N S' p ks kids' (dn ks k)).2:=by rw[←hg1S];exact m3
    rw[m1']
    refine⟨g3,rfl,fun h=>(nomatch h),m2',m3',fun x hx hxp hxS=>?_⟩
    have hx1:x=0∨x=p∨x∈L:=by
     rcases(hA.is x hx).1 hxS with h|h
     ·exact .inl h
     ·rcases aI.1 (show x∈p::(kids.flatMap pgs++L)from h)with h|h
      ·exact .inr (.inl h)
      ·rcases aR.1 h with h|h
       ·rcases hxp with hxp|hxp
        ·exact absurd (List.Mem.tail _ h) hxp
        ·exact .inr (.inl hxp)
       ·exact .inr (.inr h)
    have hS1x:S' x=true:=(hA1.is x hx).2 (hx1.imp id fun h=>by
     rcases h with rfl|h
     ·exact .head _
     ·exact .tail _ (aT _ h))
    have hxn:x∉kids'.flatMap pgs:=fun hxk=>by
     rcases hx1 with rfl|rfl|h
     ·have:=(hrow 0 hxk).1;omega
     ·exact md1 (aN _ hxk)
     ·exact md5 x hxk x h rfl
    rw[m4 x hx hxn (by show g1.S x=true;rw[hg1S];exact hS1x)]
    exact hfr x hx hxp hxS
   ·rw[if_neg hpoor]
    simp only[if_neg hpoor]
    exact⟨_,rfl,fun h=>(nomatch h),hother,hg1S,hfr⟩
def qew(W:Nat→Bys):Rt→Prop
 |none=>True
 |some ⟨_,t⟩=>Rep W t
noncomputable section
def zoj(s:Sh)(N:Nat)(key val:K)(g:Sg)(root:Int):Except Nat (Int×Sg):=
 if root=0 then do
  let (q,g1)←zh8 N g
  let g2←zb8 s N g1 q (lNd [key] [val])
  return ((q:Int),g2)
 else do
  let (gr,g1)←putF s N key val 16 g root
  if gr.2=0 then return (root,g1)
  else do
   let (q,g2)←zh8 N g1
   let g3←zb8 s N g2 q (iNd [gr.1] [root.toNat,gr.2])
   return ((q:Int),g3)
def zrp(s:Sh)(N:Nat)(key:K)(g:Sg)(root:Int):Except Nat ((Int×Bool)×Sg):=
 if root=0 then return ((0,false),g)
 else do
  let (r,g1)←zd8 s N key 16 g root
  if r.2=false then return ((root,false),g1)
  else if r.1.leaf=true∧r.1.keys.length=0 then do
   let g2←zf0 N g1 root.toNat
   return ((0,true),g2)
  else if r.1.leaf=false∧r.1.kids.length=1 then do
   let g2←zf0 N g1 root.toNat
   return (((r.1.kids.getD 0 0:Nat),true),g2)
  else do
   let g2←zb8 s N g1 root.toNat r.1
   return ((root,true),g2)
def qdg(s:Sh)(N:Nat)(g:Sg)(key:K):Nat→Int→Except Nat Nd
 |0,_=>.error 12
 |d+1,at_=>do
  let n←zfs s N g at_
  if n.leaf then return n else qdg s N g key d (n.kids.getD (dn n.keys key) 0:Nat)
def zua(s:Sh)(N:Nat)(g:Sg)(key:K)(root:Int):Except Nat (Option K):=
 if root=0 then return none
 else do
  let n←qdg s N g key 16 root
  return if fd n.keys key then n.vals[lb n.keys key]? else none
end
variable{s:Sh}{N:Nat}
theorem qk9(hs:zwi s)(hN:N≤1024)(k v:K)(hk:k.length=s.kw)(hv:v.length=s.vw)(r:Rt)(g:Sg)(L:List Nat)(hr:qex s r)(hrep:qew g.W r)(hA:Acc N g.S (zjb r++L))(hroom:(zjb r++L).length+zhs r+3<N)(hh:zhs r<16):
  ∃g',zoj s N k v g (zbj r:Nat)= .ok ((zbj (qe4 s N k v g.S r).1:Nat),g')∧qew g'.W (qe4 s N k v g.S r).1∧g'.S=(qe4 s N k v g.S r).2∧∀x∈L,g'.W x=g.W x:=by
 match r with
 |none=>
  have hA:Acc N g.S L:=hA
  have hroom:L.length+0+3<N:=hroom
  obtain⟨f1,f2,f3,f4,f5⟩:=hA.free oQ
  have hmay:zf8 s (lNd [k] [v]):=zcu (h:=0) (zb0 (nw N g.S) [(k,v)]) (eO _ _) (fun q hq=>by rw[aK.1 hq];exact⟨hk,hv⟩) (by show 1≤s.cap;have:=hs.cap;omega) (fun h=>oQ) fun x hx=>by rw[aK.1 hx];exact⟨f4,aV f2 hN⟩
  refine⟨⟨wr (wr g.W (nw N g.S) (List.replicate 512 0)) (nw N g.S) (zcl (lNd [k] [v])),us g.S (nw N g.S) true⟩,?_,ze6 _ _ _,rfl,fun x hx=>?_⟩
  ·show zoj s N k v g ((0:Nat):Int)=_
   unfold zoj zh8
   rw[if_pos (show((0:Nat):Int)=0 from rfl),if_pos ⟨_,f2,f1⟩]
   show(do
    let g2←zb8 s N _ (nw N g.S) (lNd [k] [v])
    return (((nw N g.S:Nat):Int),g2))=_
   rw[zcv hmay f4 f2]
   rfl
  ·have hne:x≠nw N g.S:=fun e=>f5 (by rw[←e];exact hx)
   show wr _ _ _ x=_
   rw[zbe _ _ hne,zbe _ _ hne]
 |some ⟨h,t⟩=>
  have hr:TOk s t:=hr
  have hrep:Rep g.W t:=hrep
  have hA:Acc N g.S (pgs t++L):=hA
  have hroom:(pgs t++L).length+h+3<N:=hroom
  have hh:h<16:=hh
  obtain⟨nd1,nd2,nd3⟩:=cM.1 hA.nodup
  obtain⟨g1,hg1⟩:=qcf hs hN k v hk hv t 16 g (pgs t++L) hh hr.ord hr.wd hr.below hr.le hr.two hrep nd1 (fun x hx=>aN _ hx) hA oQ
  obtain⟨N1,f1,f2,f3⟩:=qcg s N k v t g.S (fun _=>trivial)
  obtain⟨hok, -⟩:=zta s N hs.h2 k v hk hv t g.S hr.ord hr.wd hr.below hr.le
  have hA1:=f3 (pgs t++L) oQ hA
  obtain⟨hp1,hp2⟩:=hA.low (pg t) (aN _ (zcj t))
  have hne0:¬((pg t:Nat):Int)=0:=oQ
  have hput:qe4 s N k v g.S (some ⟨h,t⟩)=match zok s N t k v g.S with
   |(t',none,S')=>(some ⟨h,t'⟩,S')
   |(t',some (q,d),S')=>(some ⟨h+1,zau (nw N S') [q] [t',d]⟩,us S' (nw N S') true):=rfl
  have hF:zoj s N k v g ((pg t:Nat):Int)=(do
    let (gr,g1)←putF s N k v 16 g (pg t:Nat)
    if gr.2=0 then return (((pg t:Nat):Int),g1)
    else do
     let (q,g2)←zh8 N g1
     let g3←zb8 s N g2 q (iNd [gr.1] [((pg t:Nat):Int).toNat,gr.2])
     return ((q:Int),g3)):=by
   unfold zoj
   rw[if_neg hne0]
  show∃g',zoj s N k v g ((pg t:Nat):Int)= .ok ((zbj (qe4 s N k v g.S (some ⟨h,t⟩)).1:Nat),g')∧qew g'.W (qe4 s N k v g.S (some ⟨h,t⟩)).1∧g'.S=(qe4 s N k v g.S (some ⟨h,t⟩)).2∧∀x∈L,g'.W x=g.W x
  rw[hput,hF,cA]
  obtain⟨⟨t',go,S'⟩,hq⟩:∃r,zok s N t k v g.S=r:=⟨_,rfl⟩
  rw[hq]at hg1 hok f2 hA1⊢
  have hpt:pg t'=pg t:=hok.page
  have hfrL:∀x∈L,g1.W x=g.W x:=fun x hx=>by
   have hxA:x∈pgs t++L:=aT _ hx
   have:=hA.low x hxA
   exact hg1.frame x this.2 (fun h=>nd3 x h x hx rfl) ((hA.is x this.2).2 (.inr hxA))
  cases go with
  |none=>
   rw[hg1.none rfl]
   exact⟨g1,by show Except.ok (((pg t:Nat):Int),g1)= .ok (((pg t':Nat):Int),g1);rw[hpt],hg1.rep,hg1.S,hfrL⟩
  |some go=>
   obtain⟨q,d⟩:=go
   obtain⟨ho,hrd,hd1⟩:=hg1.some q d rfl
   obtain⟨e1,e2,e3,e4,e5,e6,e7,e8,e9,e10,e11,e12,e13,e14⟩:=hok.some q d rfl
   simp only at e1 e2 e3 e4 e5 e6 e7 e8 e9 e10 e11 e12 e13 e14
   have f2:(pgs t'++pgs d).Perm (N1++pgs t):=f2
   have hg1S:g1.S=S':=hg1.S
   have hA1:Acc N g1.S (N1++(pgs t++L)):=by rw[hg1S];exact hA1
   obtain⟨r1,r2,r3,r4,r5⟩:=hA1.free (by rw[aA];omega)
   rw[ho]
   have hin:∀x∈pgs t'++pgs d,x∈N1++(pgs t++L):=fun x hx=>by
    rw[←aF]
    exact aN _ (f2.mem_iff.1 hx)
   have hneq:∀x∈pgs t'++pgs d,x≠nw N g1.S:=fun x hx e=>r5 (by rw[←e];exact hin x hx)
   have hmay:zf8 s (iNd [q] [pg t,pg d]):=by
    have:=zcu (zau (nw N g1.S) [q] [t',d]) (s:=s) ⟨eO _ _,⟨e7,fun e he=>(aK.1 he)▸e8,trivial⟩,fun x hx=>by
     rcases aI.1 hx with rfl|hx
     ·exact e2
     ·exact(aK.1 hx)▸e3⟩ ⟨fun x hx=>(aK.1 hx)▸e6,fun x hx=>by
     rcases aI.1 hx with rfl|hx
     ·exact e4
     ·exact(aK.1 hx)▸e5⟩ (by show 2≤s.fan;have:=hs.fan;omega) (fun _=>by show 2≤2;decide) fun x hx=>by
      rcases aI.1 hx with rfl|hx
      ·exact⟨r4,aV r2 hN⟩
      ·have hx:x∈[t',d].flatMap pgs:=hx
       simp only[aY,jH,aU]at hx
       have:=hA1.low x (hin x hx)
       exact⟨this.1,aV this.2 hN⟩
    have e:zaj (zau (nw N g1.S) [q] [t',d])=iNd [q] [pg t,pg d]:=by
     show iNd [q] [pg t',pg d]=_
     rw[hpt]
    rw[←e];exact this
   have hne:¬(pg d=0):=oQ
   refine⟨⟨wr (wr g1.W (nw N g1.S) (List.replicate 512 0)) (nw N g1.S) (zcl (iNd [q] [pg t,pg d])),us g1.S (nw N g1.S) true⟩,?_,⟨?_,fun x hx=>?_⟩,?_,fun x hx=>?_⟩
   ·show(if pg d=0 then _ else(do
     let (q',g2)←zh8 N g1
     let g3←zb8 s N g2 q' (iNd [q] [pg t,pg d])
     return ((q':Int),g3)))=_
    rw[if_neg hne]
    unfold zh8
    rw[if_pos ⟨_,r2,r1⟩]
    show(do
     let g3←zb8 s N _ (nw N g1.S) (iNd [q] [pg t,pg d])
     return (((nw N g1.S:Nat):Int),g3))=_
    rw[zcv hmay r4 r2]
    show Except.ok (((nw N g1.S:Nat):Int),_)= .ok (((nw N S':Nat):Int),_)
    rw[hg1S]
   ·show wr _ _ _ (nw N S')=_
    rw[←hg1S,ze6]
    show _=zcl (iNd [q] [pg t',pg d])
    rw[hpt]
   ·have hx:x∈[t',d]:=hx
    have hrx:Rep g1.W x:=by
     rcases aI.1 hx with rfl|hx
     ·exact hg1.rep
     ·exact(aK.1 hx)▸hrd
    refine hrx.frame fun y hy=>?_
    have hy':y∈pgs t'++pgs d:=by
     rcases aI.1 hx with rfl|hx
     ·exact aN _ hy
     ·have:=aK.1 hx;subst this;exact aT _ hy
    show wr _ _ _ y=g1.W y
    rw[zbe _ _ (hneq y hy'),zbe _ _ (hneq y hy')]
   ·show us g1.S (nw N g1.S) true=us S' (nw N S') true
    rw[hg1S]
   ·have hxn:x≠nw N g1.S:=fun e=>r5 (by rw[←e];exact aT _ (aT _ hx))
    show wr _ _ _ x=_
    rw[zbe _ _ hxn,zbe _ _ hxn]
    exact hfrL x hx
theorem qju(hs:zwi s)(hn:0<N)(hN:N≤1024)(k:K)(r:Rt)(g:Sg)(L:List Nat)(hr:qex s r)(hrep:qew g.W r)(hA:Acc N g.S (zjb r++L))(hh:zhs r<16):
  ∃g',zrp s N k g (zbj r:Nat)= .ok (((zbj (zy5 s N k g.S r).1:Nat),(zy5 s N k g.S r).2.1),g')∧qew g'.W (zy5 s N k g.S r).1∧g'.S=(zy5 s N k g.S r).2.2∧∀x∈L,g'.W x=g.W x:=by
 match r with
 |none=>exact⟨g,rfl,trivial,rfl,fun _ _=>rfl⟩
 |some ⟨h,t⟩=>
  have hr:TOk s t:=hr
  have hrep:Rep g.W t:=hrep
  have hA:Acc N g.S (pgs t++L):=hA
  have hh:h<16:=hh
  obtain⟨nd1,nd2,nd3⟩:=cM.1 hA.nodup
  obtain⟨g1,hg1⟩:=zqm hs hn hN k t 16 g L hh hr.ord hr.wd hr.below hr.le hr.two hrep hA
  have hrok:=zmb s N hn hs.h2 (by have:=hs.fan;omega) k t g.S hr.ord hr.wd hr.below hr.le hr.two
  obtain⟨hp1,hp2⟩:=hA.low (pg t) (aN _ (zcj t))
  have hne0:¬((pg t:Nat):Int)=0:=oQ
  have hdel:zy5 s N k g.S (some ⟨h,t⟩)=match zdc s N t k g.S with
   |(_,false,S')=>(some ⟨h,t⟩,false,S')
   |(t',true,S')=>match zf4 t' with
    |some r=>(r,true,us S' (pg t) false)
    |none=>(some ⟨h,t'⟩,true,S'):=rfl
  have hF:zrp s N k g ((pg t:Nat):Int)=(do
    let (r,g1)←zd8 s N k 16 g (pg t:Nat)
    if r.2=false then return ((((pg t:Nat):Int),false),g1)
    else if r.1.leaf=true∧r.1.keys.length=0 then do
     let g2←zf0 N g1 ((pg t:Nat):Int).toNat
     return ((0,true),g2)
    else if r.1.leaf=false∧r.1.kids.length=1 then do
     let g2←zf0 N g1 ((pg t:Nat):Int).toNat
     return (((r.1.kids.getD 0 0:Nat),true),g2)
    else do
     let g2←zb8 s N g1 ((pg t:Nat):Int).toNat r.1
     return ((((pg t:Nat):Int),true),g2)):=by
   unfold zrp
   rw[if_neg hne0]
  show∃g',zrp s N k g ((pg t:Nat):Int)= .ok (((zbj (zy5 s N k g.S (some ⟨h,t⟩)).1:Nat),(zy5 s N k g.S (some ⟨h,t⟩)).2.1),g')∧qew g'.W (zy5 s N k g.S (some ⟨h,t⟩)).1∧g'.S=(zy5 s N k g.S (some ⟨h,t⟩)).2.2∧∀x∈L,g'.W x=g.W x
  rw[hdel,hF,hg1.is,cA]
  have hfrL:∀x∈L,g1.W x=g.W x:=fun x hx=>by
   have hxA:x∈pgs t++L:=aT _ hx
   have:=hA.low x hxA
   exact hg1.frame x this.2 (.inl (fun h=>nd3 x h x hx rfl)) ((hA.is x this.2).2 (.inr hxA))
  obtain⟨⟨t',is,S'⟩,hq⟩:∃r,zdc s N t k g.S=r:=⟨_,rfl⟩
  rw[hq]at hg1 hrok⊢
  cases is with
  |false=>
   obtain⟨-,hS⟩:=hrok.no rfl
   have hg:=hg1.no rfl
   subst hg
   exact⟨g1,rfl,hrep,hS.symm,fun _ _=>rfl⟩
  |true=>
   obtain⟨y1,y2,y3,y4,y5,y6,y7,y8⟩:=hrok.yes rfl
   simp only at y1 y2 y3 y4 y5 y6 y7 y8
   have hA1:=y8 L hA
   have hg1S:g1.S=S':=hg1.S
   have hg1k:qbb g1.W t':=hg1.kids
   have hptS:g1.S (pg t)=true:=by
    rw[hg1S]
    exact(hA1.is (pg t) hp2).2 (.inr (aN _ (by rw[←y1];exact zcj t')))
   have hdrop:zf0 N g1 (pg t)= .ok { g1 with S:=us g1.S (pg t) false }:=by
    unfold zf0
    rw[if_pos ⟨hp1,hp2,hptS⟩]
   have hsave:zf4 t'=none→zf8 s (zaj t'):=fun hsh=>zcu t' y3 y4 (cI y6 hr.le) (fun h1=>by
    cases h with
    |zero=>omega
    |succ h=>
     obtain⟨p',ks',kids'⟩:=t'
     match kids',hsh,y7 with
     | [],_,y7=>have:=hr.two (eZ _);have y7:sz t≤0+1:=y7;omega
     | [x],hsh,_=>cases hsh
     |x::z::l,_,_=>show 2≤(x::z::l).length;simp) fun x hx=>by
    have:=hA1.low x (aN _ hx)
    exact⟨this.1,aV this.2 hN⟩
   have hstep:((do
    let (r,g1)←(Except.ok ((zaj t',true),g1):Except Nat ((Nd×Bool)×Sg))
    if r.2=false then return ((((pg t:Nat):Int),false),g1)
    else if r.1.leaf=true∧r.1.keys.length=0 then do
     let g2←zf0 N g1 (pg t)
     return ((0,true),g2)
    else if r.1.leaf=false∧r.1.kids.length=1 then do
     let g2←zf0 N g1 (pg t)
     return (((r.1.kids.getD 0 0:Nat),true),g2)
    else do
     let g2←zb8 s N g1 (pg t) r.1
     return ((((pg t:Nat):Int),true),g2)):Except Nat ((Int×Bool)×Sg))=(if (zaj t').leaf=true∧(zaj t').keys.length=0 then .ok (((0:Int),true),{ g1 with S:=us g1.S (pg t) false })
    else if (zaj t').leaf=false∧(zaj t').kids.length=1 then .ok ((((zaj t').kids.getD 0 0:Nat),true),{ g1 with S:=us g1.S (pg t) false })
    else do
     let g2←zb8 s N g1 (pg t) (zaj t')
     return ((((pg t:Nat):Int),true),g2)):=by
    show((if (zaj t').leaf=true∧(zaj t').keys.length=0 then do
     let g2←zf0 N g1 (pg t)
     return ((0,true),g2)
    else if (zaj t').leaf=false∧(zaj t').kids.length=1 then do
     let g2←zf0 N g1 (pg t)
     return ((((zaj t').kids.getD 0 0:Nat),true),g2)
    else do
     let g2←zb8 s N g1 (pg t) (zaj t')
     return ((((pg t:Nat):Int),true),g2)):Except Nat ((Int×Bool)×Sg))=_
    rw[hdrop]
    rfl
   rw[hstep]
   cases h with
   |zero=>
    obtain⟨p',es'⟩:=t'
    by_cases h0:es'.length=0
    ·have e0:es'=[]:=bN h0
     subst e0
     have hsh:zf4 (h:=0) (p',[])=some none:=rfl
     simp only[hsh]
     refine⟨{ g1 with S:=us g1.S (pg t) false },?_,trivial,by show us g1.S (pg t) false=us S' (pg t) false;rw[hg1S],hfrL⟩
     rw[if_pos ⟨rfl,rfl⟩]
     rfl
    ·have hsh:zf4 (h:=0) (p',es')=none:=if_neg h0
     have hm:=hsave hsh
     simp only[hsh]
     have hc1:¬((zaj (h:=0) (p',es')).leaf=true∧(zaj (h:=0) (p',es')).keys.length=0):=fun h=>by
      have:=h.2
      have e:(zaj (h:=0) (p',es')).keys.length=es'.length:=aD _
      omega
     have hc2:¬((zaj (h:=0) (p',es')).leaf=false∧(zaj (h:=0) (p',es')).kids.length=1):=fun h=>by cases h.1
     rw[if_neg hc1,if_neg hc2,zcv hm hp1 hp2]
     have yp:p'=pg t:=y1
     subst yp
     refine⟨{ g1 with W:=wr g1.W (pg t) (zcl (zaj (h:=0) (pg t,es'))) },rfl,ze6 _ _ _,hg1S,fun x hx=>?_⟩
     ·show wr _ _ _ x=_
      rw[zbe _ _ (fun e=>nd3 (pg t) (zcj t) x hx e.symm)]
      exact hfrL x hx
   |succ h=>
    obtain⟨p',ks',kids'⟩:=t'
    have h2k:=hr.two (eZ _)
    have y7:sz t≤kids'.length+1:=y7
    have yp:p'=pg t:=y1
    subst yp
    have hg1k:∀x∈kids',Rep g1.W x:=hg1k
    have hc1:¬((zaj (h:=h+1) (pg t,ks',kids')).leaf=true∧(zaj (h:=h+1) (pg t,ks',kids')).keys.length=0):=fun h=>by cases h.1
    rw[if_neg hc1]
    match kids',y7,hsave,hg1k,hA1 with
    | [],y7,_,_,_=>have y7:sz t≤0+1:=y7;omega
    | [x],y7,hsave,hg1k,hA1=>
     have hsh:zf4 (h:=h+1) (pg t,ks',[x])=some (some ⟨h,x⟩):=rfl
     simp only[hsh]
     rw[if_pos ⟨rfl,rfl⟩]
     exact⟨{ g1 with S:=us g1.S (pg t) false },rfl,hg1k x (.head _),by show us g1.S (pg t) false=us S' (pg t) false;rw[hg1S],hfrL⟩
    |x::z::l,y7,hsave,hg1k,hA1=>
     have hsh:zf4 (h:=h+1) (pg t,ks',x::z::l)=none:=rfl
     have hm:=hsave hsh
     simp only[hsh]
     have hc2:¬((zaj (h:=h+1) (pg t,ks',x::z::l)).leaf=false∧(zaj (h:=h+1) (pg t,ks',x::z::l)).kids.length=1):=fun h=>by
      have:=h.2
      have e:(zaj (h:=_+1) (pg t,ks',x::z::l)).kids.length=(x::z::l).length:=aD _
      rw[e]at this
      simp at this
     rw[if_neg hc2,zcv hm hp1 hp2]
     have hA1:Acc N S' ((pg t::(x::z::l).flatMap pgs)++L):=hA1
     obtain⟨m1, -⟩:=cP.1 (show(pg t::((x::z::l).flatMap pgs++L)).Nodup from hA1.nodup)
     refine⟨{ g1 with W:=wr g1.W (pg t) (zcl (zaj (h:=h+1) (pg t,ks',x::z::l))) },rfl,⟨ze6 _ _ _,fun w hw=>?_⟩,hg1S,fun w hw=>?_⟩
     ·have hw:w∈x::z::l:=hw
      refine(hg1k w hw).frame fun y hy=>zbe _ _ (fun e=>m1 ?_)
      rw[←e]
      exact aN _ (cE.2 ⟨w,hw,hy⟩)
     ·show wr _ _ _ w=_
      rw[zbe _ _ (fun e=>nd3 (pg t) (zcj t) w hw e.symm)]
      exact hfrL w hw
theorem zxc{s:Sh}(hs:zwi s){N:Nat}(hN:N≤1024)(k:K)(g:Sg):∀{h:Nat} (t:T h) (d:Nat),h<d→Ord t→Wd s t→Below s t→sz t≤mx s h→(1≤h→2≤sz t)→Rep g.W t→(∀x∈pgs t,1≤x∧x<N)→∃es,qdg s N g k d (pg t:Nat)= .ok (lNd (keys es) (List.map (fun q:K×K=>q.2) es))∧es=zjx t k
 |0,(p,es),d+1,_,hO,hW,hB,hm,_,hrep,hp=>by
  obtain⟨hp1,hp2⟩:=hp p (.head _)
  have hmay:zf8 s (zaj (zb0 p es)):=zcu (zb0 p es) hO hW hm (fun h=>oQ) fun x hx=>by rw[aK.1 hx];exact⟨hp1,aV hp2 hN⟩
  have hload:zfs s N g (p:Nat)= .ok (zaj (zb0 p es)):=zfl (t:=zb0 p es) hs.kw hrep hmay hp1 hp2
  refine⟨es,?_,rfl⟩
  show qdg s N g k (d+1) (p:Nat)=_
  rw[qdg,hload]
  rfl
 |h+1,(p,ks,kids),d+1,hd,hO,hW,hB,hm,h2k,hrep,hp=>by
  obtain⟨hp1,hp2⟩:=hp p (.head _)
  have hfan:=hs.fan
  have hB':∀x∈kids,mx s h/2≤sz x∧sz x≤mx s h∧Below s x:=hB
  have hl:(kids.map ents).length=ks.length+1:=hO.2.1.len
  rw[aD]at hl
  have hi:dn ks k<kids.length:=by have:=zoh ks k;omega
  have hc:kids[dn ks k]? =some kids[dn ks k]:=aB hi
  have hcm:=aS hi
  have hmay:zf8 s (zaj (zau p ks kids)):=zcu (zau p ks kids) hO hW hm h2k fun x hx=>⟨(hp x hx).1,aV (hp x hx).2 hN⟩
  have hload:zfs s N g (p:Nat)= .ok (zaj (zau p ks kids)):=zfl (t:=zau p ks kids) hs.kw hrep hmay hp1 hp2
  have hh:=hs.h2 h
  obtain⟨es,e1,e2⟩:=zxc hs hN k g kids[dn ks k] d oQ (hO.2.2 _ hcm) (hW.2 _ hcm) (hB' _ hcm).2.2 (hB' _ hcm).2.1 (fun h1=>by
   have:=(hB' _ hcm).1
   cases h with
   |zero=>omega
   |succ h=>have e:mx s (h+1)=s.fan:=rfl;omega) (hrep.2 _ hcm) fun x hx=>hp x (.tail _ (cE.2 ⟨_,hcm,hx⟩))
  have hkd:(zaj (zau p ks kids)).kids.getD (dn ks k) 0=pg kids[dn ks k]:=by
   show(kids.map pg).getD (dn ks k) 0=_
   rw[aH,aP,hc];rfl
  refine⟨es,?_,?_⟩
  ·show qdg s N g k (d+1) (p:Nat)=_
   rw[qdg,hload]
   show qdg s N g k d ((zaj (zau p ks kids)).kids.getD (dn ks k) 0:Nat)=_
   rw[hkd]
   exact e1
  ·rw[e2]
   show _=zjx (zau p ks kids) k
   simp only[zjx,zau,hc]
theorem qn2(hs:zwi s)(hN:N≤1024)(k:K)(r:Rt)(g:Sg)(hr:qex s r)(hrep:qew g.W r)(hp:∀x∈zjb r,1≤x∧x<N)(hh:zhs r<16):zua s N g k (zbj r:Nat)= .ok (zi6 (zdb r) k):=by
 match r with
 |none=>rfl
 |some ⟨h,t⟩=>
  have hr:TOk s t:=hr
  obtain⟨es,e1,e2⟩:=zxc hs hN k g t 16 hh hr.ord hr.wd hr.below hr.le hr.two hrep hp
  obtain⟨l1,l2⟩:=zu5 t k hr.ord
  rw[←e2]at l1 l2
  have hne0:¬((pg t:Nat):Int)=0:=by have:=(hp (pg t) (zcj t)).1;omega
  show zua s N g k ((pg t:Nat):Int)= .ok (zi6 (ents t) k)
  unfold zua
  rw[if_neg hne0,e1,←l2]
  show Except.ok (if fd (keys es) k then(List.map (fun q:K×K=>q.2) es)[lb (keys es) k]? else none)=_
  have hrow:=zyf (e:=es) (k:=k) l1
  cases hf:fd (keys es) k with
  |true=>
   obtain⟨v,a1,a2, -, -⟩:=hrow.1 hf
   rw[if_pos rfl,aP,a1,a2];rfl
  |false=>
   obtain⟨a1, -, -⟩:=hrow.2 hf
   rw[if_neg bP,a1]
noncomputable section
end
end Go.Eng.Tr
namespace Go.Eng.Tr
theorem qrs(s:Sh)(h4:4≤s.fan/2)(h0:1≤s.cap/2):∀{h:Nat} (t:T h),Below s t→(1≤h→2≤sz t)→2^h≤lv t
 |0,_,_,_=>bA _
 |h+1,(p,ks,kids),hB,hz=>by
  have hB:∀x∈kids,mx s h/2≤sz x∧sz x≤mx s h∧Below s x:=hB
  have hz:2≤kids.length:=hz (eZ _)
  show 2^(h+1)≤(kids.map lv).sum
  have:=ztl kids (fun _=>0) lv (2^h) fun x hx=>by
   have:=qrs s h4 h0 x (hB x hx).2.2 (fun h1=>by
    have:=(hB x hx).1
    cases h with
    |zero=>omega
    |succ h=>have e:mx s (h+1)=s.fan:=rfl;omega)
   omega
  have h5:2^h*2≤2^h*kids.length:=gJ _ hz
  rw[gT]
  omega
variable{k:Nat}
theorem zsl{s:Sh}(hs:zwi s)(h5:5≤s.cap/2){r:Rt}(hr:qex s r)(he:(zdb r).length≤5*2^k):zhs r≤k∧3*(zjb r).length≤4*((zdb r).length/5)+4:=by
 obtain⟨f1, -, -⟩:=qhr hs r hr
 have f2:3*(zjb r).length≤4*((zdb r).length/5)+4:=by
  have:=Nat.div_le_div_left h5 dQ (a:=(zdb r).length)
  split at f1<;>omega
 refine⟨?_,f2⟩
 match r,hr,he with
 |none,_,_=>exact aZ _
 |some ⟨0,t⟩,_,_=>exact aZ _
 |some ⟨h+1,t⟩,hr,he=>
  have hr:TOk s t:=hr
  have he:(ents t).length≤5*2^k:=he
  have f3:=zdt s t hr.below (fun h=>oQ)
  have f4:=qrs s hs.h4 oQ t hr.below hr.two
  show h+1≤k
  refine gE fun hn=>?_
  have f5:2^(k+1)≤2^(h+1):=dX dQ oQ
  have f6:5*lv t≤s.cap/2*lv t:=fC _ h5
  have f7:0<2^k:=Nat.two_pow_pos k
  rw[gT]at f5
  omega
def fSh(i:Nat):Sh:=[(⟨32,4⟩:Sh),⟨32,6⟩,⟨4,4⟩,⟨17,33⟩,⟨1,1⟩,⟨32,5⟩,⟨33,4⟩,⟨2,5⟩].getD i ⟨1,1⟩
theorem zjq:∀i,i<8→1≤(fSh i).kw∧(fSh i).kw≤64∧(fSh i).vw≤64∧2≤(fSh i).cap∧8≤(fSh i).fan∧5≤(fSh i).cap/2:=dQ
variable{i:Nat}
theorem znw(h:i<8):zwi (fSh i):=⟨(zjq i h).1,(zjq i h).2.2.2.1,(zjq i h).2.2.2.2.1⟩
structure FoV (n:Nat) (g:Sg) (r:List Rt):Prop where
 len:r.length=8
 ok:∀i x,r[i]? =some x→qex (fSh i) x∧qew g.W x∧Es (zdb x)
 acc:Acc n g.S (1::r.flatMap zjb)
def zq9(r:List Rt):Nat:=(r.map fun x=>(zdb x).length).sum
def zne(r:List Rt)(i:Nat):List Nat:=1::((r.take i).flatMap zjb++(r.drop (i+1)).flatMap zjb)
variable{α:Type}{r:List α}{x:α}
theorem zqv(h:r[i]? =some x)(y:α):r.set i y=r.take i++y::r.drop (i+1):=by
 obtain⟨hi,rfl⟩:=aJ.1 h
 rw[iW,if_pos hi]
theorem zt1(h:r[i]? =some x):r=r.take i++x::r.drop (i+1):=by
 have:=zqv h x
 rwa[show r.set i x=r by obtain⟨hi,rfl⟩:=aJ.1 h;exact gC hi]at this
theorem zw6(A B:List Rt)(y:Rt):(1::(A++y::B).flatMap zjb).Perm (zjb y++(1::(A.flatMap zjb++B.flatMap zjb))):=by
 rw[bE,aY]
 refine List.Perm.trans ?_ bH.symm
 refine .cons _ ?_
 rw[←aF,←aF]
 exact dR.append_right _
variable{r:List Rt}{x:Rt}
theorem qht(h:r[i]? =some x):(1::r.flatMap zjb).Perm (zjb x++zne r i):=by
 have e:=zt1 h
 have:=zw6 (r.take i) (r.drop (i+1)) x
 rwa[←e]at this
theorem qk5(h:r[i]? =some x)(y:Rt):(1::(r.set i y).flatMap zjb).Perm (zjb y++zne r i):=by
 rw[zqv h y]
 exact zw6 _ _ y
theorem qmt(h:r[i]? =some x):(zdb x).length≤zq9 r:=by
 unfold zq9
 rw[zt1 h,bV,bD,List.sum_append,gH]
 omega
theorem qpb(h:r[i]? =some x)(y:Rt):zq9 (r.set i y)+(zdb x).length=zq9 r+(zdb y).length:=by
 have e:=zt1 h
 unfold zq9
 rw[zqv h y]
 conv=>rhs;rw[e]
 simp only[bV,bD,List.sum_append,gH]
 omega
theorem qbo:∀(r:List Rt) (i:Nat),(∀j x,r[j]? =some x→qex (fSh (i+j)) x)→i+r.length≤8→3*(r.flatMap zjb).length≤4*(zq9 r/5)+4*r.length
 | [],_,_,_=>aZ _
 |x::r,i,h,hl=>by
  rw[aW]at hl
  have h1:=(zsl (znw (i:=i) oQ) (zjq i oQ).2.2.2.2.2 (h 0 x rfl) (k:=(zdb x).length) (by
   have:(zdb x).length<2^(zdb x).length:=Nat.lt_two_pow_self
   omega)).2
  have h2:=qbo r (i+1) (fun j y hy=>by have:=h (j+1) y (by rw[fU];exact hy);rwa[show i+(j+1)=i+1+j by omega]at this) oQ
  have h3:zq9 (x::r)=(zdb x).length+zq9 r:=by unfold zq9;rw[bD,gH]
  rw[aY,aA,aW,h3]
  omega
variable{g:Sg}
theorem FoV.room{n:Nat}(h:FoV n g r){K:Nat}(hk:zq9 r≤K)(hK:K≤5*2^k)(hn:(4*(K/5)+32)/3+k+4<n)(h16:k<16)(hx:r[i]? =some x):
  (zjb x++zne r i).length+zhs x+3<n∧zhs x<16:=by
 have hi:i<8:=by rw[←h.len];exact(aJ.1 hx).1
 have f1:=qbo r 0 (fun j y hy=>by rw[aL];exact(h.ok j y hy).1) (by rw[h.len];decide)
 have f2:=(zsl (znw hi) (zjq i hi).2.2.2.2.2 (h.ok i x hx).1 (k:=k) (cI (qmt hx) (cI hk hK))).1
 have f3:=(qht hx).length_eq
 rw[aW]at f3
 have f4:zq9 r/5≤K/5:=Nat.div_le_div_right hk
 rw[h.len]at f1
 exact⟨oQ,oQ⟩
theorem FoV.acc_at{n:Nat}(h:FoV n g r)(hx:r[i]? =some x):Acc n g.S (zjb x++zne r i):=h.acc.perm (qht hx)
theorem FoV.low{n:Nat}{g:Sg}{r:List Rt}(h:FoV n g r){i:Nat}{x:Rt}(hx:r[i]? =some x):∀y∈zjb x,1≤y∧y<n:=fun y hy=>(h.acc_at hx).low y (aN _ hy)
theorem qew.frame{W W':Nat→List UInt8}:∀{r:Rt},qew W r→(∀x∈zjb r,W' x=W x)→qew W' r
 |none,_,_=>trivial
 |some ⟨_,_⟩,h,he=>Rep.frame h he
theorem qox{j:Nat}{y:Rt}(hy:r[j]? =some y)(hij:j≠i):∀x∈zjb y,x∈zne r i:=fun x hx=>by
 unfold zne
 refine jL _ ?_
 rw[aR,cE,cE]
 rcases iR hij with h|h
 ·exact .inl ⟨y,cB (i:=j) (by rw[jY,if_pos h];exact hy),hx⟩
 ·exact .inr ⟨y,cB (i:=j - (i+1)) (by rw[eA,show i+1+(j - (i+1))=j by omega];exact hy),hx⟩
theorem FoV.turn{n:Nat}{g':Sg}(h:FoV n g r){x':Rt}(hx:r[i]? =some x)(h1:qex (fSh i) x')(h2:qew g'.W x')(h3:Es (zdb x'))(h4:Acc n g'.S (zjb x'++zne r i))(h5:∀y∈zne r i,g'.W y=g.W y):FoV n g' (r.set i x'):=by
 refine⟨by rw[bM];exact h.len,fun j y hy=>?_,h4.perm (qk5 hx x').symm⟩
 have hi:=(aJ.1 hx).1
 by_cases e:j=i
 ·subst e
  rw[eB hi]at hy
  cases hy
  exact⟨h1,h2,h3⟩
 ·rw[fR (fun h=>e h.symm)]at hy
  obtain⟨k1,k2,k3⟩:=h.ok j y hy
  exact⟨k1,k2.frame fun z hz=>h5 z (qox hy e z hz),k3⟩
theorem qci(r:List Rt)(i:Nat):1∈zne r i:=.head _
theorem FoV.put{n:Nat}(h:FoV n g r)(hN:n≤1024){K:Nat}(hk:zq9 r≤K)(hK:K≤5*2^k)(hn:(4*(K/5)+32)/3+k+4<n)(h16:k<16)(hx:r[i]? =some x)(key val:List UInt8)(hkl:key.length=(fSh i).kw)(hvl:val.length=(fSh i).vw):
  ∃x' g',zoj (fSh i) n key val g (zbj x:Nat)= .ok ((zbj x':Nat),g')∧zdb x'=zfx (zdb x) key val∧FoV n g' (r.set i x')∧g'.W 1=g.W 1:=by
 have hi:i<8:=by rw[←h.len];exact(aJ.1 hx).1
 obtain⟨q1,q2⟩:=h.room hk hK hn h16 hx
 obtain⟨k1,k2,k3⟩:=h.ok i x hx
 obtain⟨g',a1,a2,a3,a4⟩:=qk9 (znw hi) hN key val hkl hvl x g (zne r i) k1 k2 (h.acc_at hx) q1 q2
 obtain⟨b1,b2,b3⟩:=qou (znw hi) n key val hkl hvl x g.S (zne r i) k1 (h.acc_at hx) q1
 rw[←a3]at b3
 exact⟨_,g',a1,b2,h.turn hx b1 a2 (by rw[b2];exact zvr k3) b3 a4,a4 1 (qci r i)⟩
theorem FoV.del{n:Nat}(h:FoV n g r)(hn0:0<n)(hN:n≤1024){K:Nat}(hk:zq9 r≤K)(hK:K≤5*2^k)(hn:(4*(K/5)+32)/3+k+4<n)(h16:k<16)(hx:r[i]? =some x)(key:List UInt8):
  ∃x' g',zrp (fSh i) n key g (zbj x:Nat)= .ok (((zbj x':Nat),(zi6 (zdb x) key).isSome),g')∧zdb x'=zfy (zdb x) key∧FoV n g' (r.set i x')∧g'.W 1=g.W 1:=by
 have hi:i<8:=by rw[←h.len];exact(aJ.1 hx).1
 obtain⟨-,q2⟩:=h.room hk hK hn h16 hx
 obtain⟨k1,k2,k3⟩:=h.ok i x hx
 obtain⟨g',a1,a2,a3,a4⟩:=qju (znw hi) hn0 hN key x g (zne r i) k1 k2 (h.acc_at hx) q2
 obtain⟨b1,b0,b2,b3⟩:=qnr (znw hi) n hn0 key x g.S (zne r i) k1 (h.acc_at hx)
 rw[←a3]at b3
 have hb:(zy5 (fSh i) n key g.S x).2.1=(zi6 (zdb x) key).isSome:=by rw[eD,b0,qbq]
 rw[hb]at a1
 exact⟨_,g',a1,b2,h.turn hx b1 a2 (by rw[b2];exact zzn k3) b3 a4,a4 1 (qci r i)⟩
theorem FoV.get{n:Nat}(h:FoV n g r)(hN:n≤1024){K:Nat}(hk:zq9 r≤K)(hK:K≤5*2^k)(hn:(4*(K/5)+32)/3+k+4<n)(h16:k<16)(hx:r[i]? =some x)(key:List UInt8):zua (fSh i) n g key (zbj x:Nat)= .ok (zi6 (zdb x) key):=by
 have hi:i<8:=by rw[←h.len];exact(aJ.1 hx).1
 obtain⟨k1,k2, -⟩:=h.ok i x hx
 exact qn2 (znw hi) hN key x g k1 k2 (h.low hx) (h.room hk hK hn h16 hx).2
end Go.Eng.Tr
namespace Go.Proofs.YthafakdplhdfjaaGreatDoor
open Go.RowKit Go.Eng Go.Eng.Tr
def kB(k:K):ByteArray:=⟨k.toArray⟩
def kV(k:K):Value:=.string (kB k)
theorem zjt(k:K):(kB k).toList=k:=by rw[ByteArray.toList_eq];simp[kB]
theorem qqy{a b:K}:kB a=kB b↔a=b:=⟨fun h=>by rw[←zjt a,h,zjt],fun h=>by rw[h]⟩
theorem qmh(a b:K):seq (kB a) (kB b)=decide (a=b):=by rw[eD,qat,decide_eq_true_iff,qqy]
theorem qgw(a b:K):Op.bytesLess a b=decide (kl a b):=by rw[eD,decide_eq_true_iff];exact Iff.rfl
theorem qg7(a:ByteArray)(w:World):Pu Tryz.prog 224 #[.string a] w (.bool false):=by
 refine zbn [_] Tryz.func224 rfl rfl ?_
 simp only[zaa]
 (repeat refine s_ ?_)
 exact zdk rfl rfl (by simp[seq])
theorem qd0(a:ByteArray)(w:World):Pu Tryz.prog 198 #[.string a] w (.bool false):=by
 refine zbn [_] Tryz.func198 rfl rfl ?_
 simp only[zaa]
 (repeat refine s_ ?_)
 exact zdk rfl rfl (by simp[seq])
theorem qds(a b:K)(w:World):Pu Tryz.prog 197 #[kV a,kV b] w (.bool (decide (kl a b))):=by
 refine zbn [_,_] Tryz.func197 rfl rfl ?_
 unfold kV
 simp only[zaa,Nat.reduceAdd]
 (repeat refine s_ ?_)
 refine lPu rfl (fun w1 hw1=>qg7 _ w1) ?_
 (repeat refine s_ ?_)
 exact zdk rfl rfl (by rw[zjt,zjt,qgw])
theorem zyj(a:Option Addr)(ns:List K)(c:Nat)(hs:Ks ns)(hL:ns.length≤1000000)(k:K)(w:World)(hr:Rd w a (ns.map kV)):
  Pu Tryz.prog 153 #[.slice a ns.length c,kV k] w (.tuple #[.int .i64 (lb ns k:Nat),.bool (fd ns k)]):=by
 refine zbn [_,_] Tryz.func153 rfl rfl ?_
 simp only[zaa,Nat.reduceAdd]
 (repeat refine s_ ?_)
 refine zc0 (α:=Nat×Nat) (fun y=>[(0,.slice a ns.length c),(1,kV k),(6,.int .i64 ns.length),(7,.int .i64 y.1),(8,.int .i64 y.2)])
  (fun y=>y.1≤y.2∧y.2≤ns.length∧(∀j (h:j<ns.length),j<y.1→kl ns[j] k)∧∀j (h:j<ns.length),y.2≤j→¬kl ns[j] k) (fun _=>[]) (fun y=>y.2 - y.1) (0,ns.length) ⟨rfl,rfl,rfl,rfl,rfl,trivial⟩ ⟨aZ _,bA _,fun k _ h=>absurd h (fN _),fun k h h'=>by simp only at h';omega⟩ (fun _ h=>h) fun⟨i,j⟩ ⟨h1,h2,h3,h4⟩=>?_
 simp only at h1 h2 h3 h4⊢
 by_cases hij:i<j
 ·obtain⟨b',off,rfl,hr'⟩:=hr.at_ (by intro h;have:=congrArg List.length h;rw[aD,dS]at this;omega)
  obtain⟨q,hq⟩:∃q,(i+j)/2^1=q:=⟨_,rfl⟩
  have hql:q<ns.length:=oQ
  obtain⟨kq,hkq⟩:∃x,ns[q]=x:=⟨_,rfl⟩
  have hget:(ns.map kV)[q]? =some (kV kq):=by rw[aP,aB hql,hkq];rfl
  (repeat refine s_ ?_)
  refine l_w rfl (qrt rfl rfl rfl oQ) ?_
  (repeat refine s_ ?_)
  refine l_w rfl (qrt rfl rfl rfl oQ) ?_
  rw[hq]
  (repeat refine s_ ?_)
  refine l_w rfl (za0 rfl rfl (fun w' hw'=>za5 hr' (fun h=>h) hw' q (kV kq) hget)) ?_
  (repeat refine s_ ?_)
  refine lPu rfl (fun w1 hw1=>qds _ _ w1) ?_
  (repeat refine s_ ?_)
  subst hkq
  refine qp3 rfl rfl (fun hl=>?_) (fun hl=>?_)
  ·(repeat refine s_ ?_)
   refine zaw (q+1,j) ⟨rfl,rfl,rfl,rfl,rfl,trivial⟩ ⟨by simp only;omega,h2,fun e he heq=>?_,h4⟩ (fun _ h=>h) (by simp only;omega)
   simp only at heq
   by_cases e':e=q
   ·subst e';exact hl
   ·exact zb9 (cD.1 hs e q he hql oQ) hl
  ·(repeat refine s_ ?_)
   refine zaw (i,q) ⟨rfl,rfl,rfl,rfl,rfl,trivial⟩ ⟨by simp only;omega,by simp only;omega,h3,fun e he heq=>?_⟩ (fun _ h=>h) (by simp only;omega)
   simp only at heq
   by_cases e':e=q
   ·subst e';exact hl
   ·exact fun h=>hl (zb9 (cD.1 hs q e hql he oQ) h)
 ·obtain rfl:i=j:=oQ
  have hlb:lb ns k=i:=qq6 oQ h3 (fun h=>h4 i h (bA _))
  rw[hlb]
  by_cases hi:i<ns.length
  ·obtain⟨b',off,rfl,hr'⟩:=hr.at_ (by intro h;have:=congrArg List.length h;rw[aD,dS]at this;omega)
   have hfd:fd ns k=decide (ns[i]=k):=by unfold fd;rw[hlb,aB hi];simp
   rw[hfd]
   obtain⟨kq,hkq⟩:∃x,ns[i]=x:=⟨_,rfl⟩
   have hget:(ns.map kV)[i]? =some (kV kq):=by rw[aP,aB hi,hkq];rfl
   rw[hkq]
   (repeat refine s_ ?_)
   refine l_w rfl (za0 rfl rfl (fun w' hw'=>za5 hr' (fun h=>h) hw' i (kV kq) hget)) ?_
   (repeat refine s_ ?_)
   unfold kV
   refine l_w rfl (qpf rfl rfl) ?_
   rw[qmh]
   by_cases he:kq=k
   ·rw[decide_eq_true he]
    (repeat refine s_ ?_)
    exact zie rfl rfl rfl rfl
   ·rw[decide_eq_false he]
    (repeat refine s_ ?_)
    refine l_w rfl (za0 rfl rfl (fun w' hw'=>za5 hr' (fun h=>h) hw' i (kV kq) hget)) ?_
    (repeat refine s_ ?_)
    refine lPu rfl (fun w1 hw1=>qd0 _ w1) ?_
    (repeat refine s_ ?_)
    exact zie rfl rfl rfl rfl
  ·have hf:fd ns k=false:=by
    unfold fd;rw[hlb,dP oQ];rfl
   rw[hf]
   (repeat refine s_ ?_)
   exact zie rfl rfl rfl rfl
theorem zkh{w w1 w2:World}(h:Fr none' w w1)(g:Fr none' w1 w2):Fr none' w w2:=⟨g.os.trans h.os,g.tape.trans h.tape,g.output.trans h.output,cI h.size g.size,fun k hk hF=>(g.block k (aV hk h.size) hF).trans (h.block k hk hF)⟩
def iV(k:Nat):Value:=.int .i64 (k:Nat)
variable{α:Type}
def qpy(g:FuncId)(cs:List Value)(enc:α→Value)(l:List α)(p:α→Bool)(w:World):Prop:=za7 Tryz.prog g=true∧∀x∈l,∀w',Fr none' w w'→Pu Tryz.prog g ([enc x]++cs).toArray w' (.bool (p x))
theorem qbd(l:List α)(p:α→Bool)(i:Nat)(hi:i<l.length)(h:∀j (hj:j<l.length),j<i→p l[j]=false)(hp:p l[i]=true):l.any p=true:=List.any_eq_true.2 ⟨_,aS hi,hp⟩
theorem zxh(a:Option Addr)(ns:List K)(c:Nat)(g:FuncId)(cs:List Value)(p:K→Bool)(hL:ns.length≤1000000)(w:World)(hr:Rd w a (ns.map kV))(hg:qpy g cs kV ns p w):
  Ct Tryz.prog 270 #[.slice a ns.length c,.func (.func g) #[] cs.toArray] w none' (fun i:Int=>.int .i64 i) (fun i=>decide (0≤i)=ns.any p∧ -1≤i∧i≤1000000) (fun _=>[]):=by
 refine zes [_,_] Tryz.func270 rfl rfl ?_
 simp only[zaa,Nat.reduceAdd]
 (repeat refine s_ ?_)
 refine zc0 (α:=Nat) (fun i=>[(0,.slice a ns.length c),(1,.func (.func g) #[] cs.toArray),(7,.int .i64 ns.length),(8,.int .i64 i)]) (fun i=>i≤ns.length∧∀j (h:j<ns.length),j<i→p ns[j]=false) (fun _=>[]) (fun i=>ns.length - i) 0 ⟨rfl,rfl,rfl,rfl,trivial⟩ ⟨aZ _,fun j _ h=>absurd h (fN _)⟩ (fun _ h=>h) fun i ⟨h1,h2⟩=>?_
 by_cases hi:i<ns.length
 ·obtain⟨b',off,rfl,hr'⟩:=hr.at_ (by intro h;have:=congrArg List.length h;rw[aD,dS]at this;omega)
  obtain⟨kq,hkq⟩:∃x,ns[i]=x:=⟨_,rfl⟩
  have hget:(ns.map kV)[i]? =some (kV kq):=by rw[aP,aB hi,hkq];rfl
  (repeat refine s_ ?_)
  refine l_w rfl (za0 rfl rfl (fun w' hw'=>za5 hr' (fun h=>h) hw' i (kV kq) hget)) ?_
  (repeat refine s_ ?_)
  refine zeh rfl (zm6 (fs:=[]) rfl hg.1 rfl rfl rfl fun w1 hw1=>hg.2 kq (hkq▸aS hi) w1 hw1.fr) fun _=>?_
  (repeat refine s_ ?_)
  refine qp3 rfl rfl (fun hl=>?_) (fun hl=>?_)
  ·(repeat refine s_ ?_)
   exact zbd (i:Int) rfl rfl rfl ⟨by rw[qbd ns p i hi h2 (hkq▸hl)];exact decide_eq_true oQ,oQ,oQ⟩ (aG _) (fun _ h=>nomatch h)
  ·(repeat refine s_ ?_)
   refine zaw (i+1) ⟨rfl,rfl,rfl,rfl,trivial⟩ ⟨hi,fun j hj hji=>?_⟩ (fun _ h=>h) oQ
   by_cases e:j=i
   ·subst e;rw[hkq];simpa using hl
   ·exact h2 j hj oQ
 ·(repeat refine s_ ?_)
  refine zbd (-1:Int) rfl rfl rfl ⟨?_,oQ,oQ⟩ (aG _) (fun _ h=>nomatch h)
  rw[decide_eq_false oQ]
  refine(List.any_eq_false.2 fun x hx=>?_).symm
  obtain⟨j,hj,rfl⟩:=bJ hx
  rw[h2 j hj oQ]
  exact bP
theorem zpi(a:Option Addr)(ns:List K)(c:Nat)(g:FuncId)(cs:List Value)(p:K→Bool)(hL:ns.length≤1000000)(w:World)(hr:Rd w a (ns.map kV))(hg:qpy g cs kV ns p w):
  Pu Tryz.prog 261 #[.slice a ns.length c,.func (.func g) #[] cs.toArray] w (.bool (ns.any p)):=by
 refine zbn [_,_] Tryz.func261 rfl rfl ?_
 simp only[zaa,Nat.reduceAdd]
 (repeat refine s_ ?_)
 refine zdy rfl rfl kQ rfl (fun w1 hw1=>zxh a ns c g cs p hL w1 (hr.keep hw1) ⟨hg.1,fun x hx w' hf=>hg.2 x hx w' (zkh hw1.fr hf)⟩) fun x hx=>?_
 obtain⟨e1,e2,e3⟩:=hx
 (repeat refine s_ ?_)
 exact zdk rfl rfl (by rw[e1])
theorem zug(k:K)(g:FuncId)(cs:List Value)(b:Nat)(v:Bool)(w:World)(hb:za7 Tryz.prog g=true)(hc:w.cell? ⟨b,0,none⟩=some (.func (.func g) #[] cs.toArray))(hg:∀w',Fr none' w w'→Pu Tryz.prog g ([kV k]++cs).toArray w' (.bool v)):
  Pu Tryz.prog 262 #[kV k,.pointer (some ⟨b,0,none⟩)] w (.bool (!v)):=by
 refine zbn [_,_] Tryz.func262 rfl rfl ?_
 simp only[zaa,Nat.reduceAdd]
 (repeat refine s_ ?_)
 refine l_w rfl (ze3 rfl rfl (fun h=>h) hc) ?_
 (repeat refine s_ ?_)
 refine zeh rfl (zm6 (fs:=[]) rfl hb rfl rfl rfl fun w1 hw1=>hg w1 hw1.fr) fun _=>?_
 (repeat refine s_ ?_)
 exact zdk rfl rfl rfl
theorem zw4(a:Option Addr)(ns:List K)(c:Nat)(g:FuncId)(cs:List Value)(p:K→Bool)(hL:ns.length≤1000000)(w:World)(hr:Rd w a (ns.map kV))(hg:qpy g cs kV ns p w):
  Pu Tryz.prog 243 #[.slice a ns.length c,.func (.func g) #[] cs.toArray] w (.bool (ns.all p)):=by
 refine zbn [_,_] Tryz.func243 rfl rfl ?_
 simp only[zaa,Nat.reduceAdd]
 (repeat refine s_ ?_)
 refine zc9 rfl rfl rfl fun b1 _=>?_
 (repeat refine s_ ?_)
 refine l_w rfl (zhw rfl) ?_
 (repeat refine s_ ?_)
 refine lPu rfl (fun w1 hw1=>zpi a ns c 262 [.pointer (some ⟨b1,0,none⟩)] (fun x=> !p x) hL w1 (hr.keep hw1) ⟨kQ,fun x hx w' hf=>zug x g cs b1 (p x) w' hg.1 (((Hp.start w1 none').keep hf).old (fun h=>h) (zd4 (hw1.get (.head _)) rfl)) fun w'' hf'=>hg.2 x hx w'' (zkh hw1.fr (zkh hf hf'))⟩) ?_
 (repeat refine s_ ?_)
 exact zdk rfl rfl (by rw[List.not_any_eq_all_not];simp)
theorem zxg(a:Option Addr)(ns:List Nat)(c:Nat)(g:FuncId)(cs:List Value)(p:Nat→Bool)(hL:ns.length≤1000000)(w:World)(hr:Rd w a (ns.map iV))(hg:qpy g cs iV ns p w):
  Ct Tryz.prog 263 #[.slice a ns.length c,.func (.func g) #[] cs.toArray] w none' (fun i:Int=>.int .i64 i) (fun i=>decide (0≤i)=ns.any p∧ -1≤i∧i≤1000000) (fun _=>[]):=by
 refine zes [_,_] Tryz.func263 rfl rfl ?_
 simp only[zaa,Nat.reduceAdd]
 (repeat refine s_ ?_)
 refine zc0 (α:=Nat) (fun i=>[(0,.slice a ns.length c),(1,.func (.func g) #[] cs.toArray),(7,.int .i64 ns.length),(8,.int .i64 i)]) (fun i=>i≤ns.length∧∀j (h:j<ns.length),j<i→p ns[j]=false) (fun _=>[]) (fun i=>ns.length - i) 0 ⟨rfl,rfl,rfl,rfl,trivial⟩ ⟨aZ _,fun j _ h=>absurd h (fN _)⟩ (fun _ h=>h) fun i ⟨h1,h2⟩=>?_
 by_cases hi:i<ns.length
 ·obtain⟨b',off,rfl,hr'⟩:=hr.at_ (by intro h;have:=congrArg List.length h;rw[aD,dS]at this;omega)
  obtain⟨kq,hkq⟩:∃x,ns[i]=x:=⟨_,rfl⟩
  have hget:(ns.map iV)[i]? =some (iV kq):=by rw[aP,aB hi,hkq];rfl
  (repeat refine s_ ?_)
  refine l_w rfl (za0 rfl rfl (fun w' hw'=>za5 hr' (fun h=>h) hw' i (iV kq) hget)) ?_
  (repeat refine s_ ?_)
  refine zeh rfl (zm6 (fs:=[]) rfl hg.1 rfl rfl rfl fun w1 hw1=>hg.2 kq (hkq▸aS hi) w1 hw1.fr) fun _=>?_
  (repeat refine s_ ?_)
  refine qp3 rfl rfl (fun hl=>?_) (fun hl=>?_)
  ·(repeat refine s_ ?_)
   exact zbd (i:Int) rfl rfl rfl ⟨by rw[qbd ns p i hi h2 (hkq▸hl)];exact decide_eq_true oQ,oQ,oQ⟩ (aG _) (fun _ h=>nomatch h)
  ·(repeat refine s_ ?_)
   refine zaw (i+1) ⟨rfl,rfl,rfl,rfl,trivial⟩ ⟨hi,fun j hj hji=>?_⟩ (fun _ h=>h) oQ
   by_cases e:j=i
   ·subst e;rw[hkq];simpa using hl
   ·exact h2 j hj oQ
 ·(repeat refine s_ ?_)
  refine zbd (-1:Int) rfl rfl rfl ⟨?_,oQ,oQ⟩ (aG _) (fun _ h=>nomatch h)
  rw[decide_eq_false oQ]
  refine(List.any_eq_false.2 fun x hx=>?_).symm
  obtain⟨j,hj,rfl⟩:=bJ hx
  rw[h2 j hj oQ]
  exact bP
theorem zph(a:Option Addr)(ns:List Nat)(c:Nat)(g:FuncId)(cs:List Value)(p:Nat→Bool)(hL:ns.length≤1000000)(w:World)(hr:Rd w a (ns.map iV))(hg:qpy g cs iV ns p w):
  Pu Tryz.prog 245 #[.slice a ns.length c,.func (.func g) #[] cs.toArray] w (.bool (ns.any p)):=by
 refine zbn [_,_] Tryz.func245 rfl rfl ?_
 simp only[zaa,Nat.reduceAdd]
 (repeat refine s_ ?_)
 refine zdy rfl rfl kQ rfl (fun w1 hw1=>zxg a ns c g cs p hL w1 (hr.keep hw1) ⟨hg.1,fun x hx w' hf=>hg.2 x hx w' (zkh hw1.fr hf)⟩) fun x hx=>?_
 obtain⟨e1,e2,e3⟩:=hx
 (repeat refine s_ ?_)
 exact zdk rfl rfl (by rw[e1])
theorem zuf(k:Nat)(g:FuncId)(cs:List Value)(b:Nat)(v:Bool)(w:World)(hb:za7 Tryz.prog g=true)(hc:w.cell? ⟨b,0,none⟩=some (.func (.func g) #[] cs.toArray))(hg:∀w',Fr none' w w'→Pu Tryz.prog g ([iV k]++cs).toArray w' (.bool v)):
  Pu Tryz.prog 246 #[iV k,.pointer (some ⟨b,0,none⟩)] w (.bool (!v)):=by
 refine zbn [_,_] Tryz.func246 rfl rfl ?_
 simp only[zaa,Nat.reduceAdd]
 (repeat refine s_ ?_)
 refine l_w rfl (ze3 rfl rfl (fun h=>h) hc) ?_
 (repeat refine s_ ?_)
 refine zeh rfl (zm6 (fs:=[]) rfl hb rfl rfl rfl fun w1 hw1=>hg w1 hw1.fr) fun _=>?_
 (repeat refine s_ ?_)
 exact zdk rfl rfl rfl
theorem zw3(a:Option Addr)(ns:List Nat)(c:Nat)(g:FuncId)(cs:List Value)(p:Nat→Bool)(hL:ns.length≤1000000)(w:World)(hr:Rd w a (ns.map iV))(hg:qpy g cs iV ns p w):
  Pu Tryz.prog 228 #[.slice a ns.length c,.func (.func g) #[] cs.toArray] w (.bool (ns.all p)):=by
 refine zbn [_,_] Tryz.func228 rfl rfl ?_
 simp only[zaa,Nat.reduceAdd]
 (repeat refine s_ ?_)
 refine zc9 rfl rfl rfl fun b1 _=>?_
 (repeat refine s_ ?_)
 refine l_w rfl (zhw rfl) ?_
 (repeat refine s_ ?_)
 refine lPu rfl (fun w1 hw1=>zph a ns c 246 [.pointer (some ⟨b1,0,none⟩)] (fun x=> !p x) hL w1 (hr.keep hw1) ⟨kQ,fun x hx w' hf=>zuf x g cs b1 (p x) w' hg.1 (((Hp.start w1 none').keep hf).old (fun h=>h) (zd4 (hw1.get (.head _)) rfl)) fun w'' hf'=>hg.2 x hx w'' (zkh hw1.fr (zkh hf hf'))⟩) ?_
 (repeat refine s_ ?_)
 exact zdk rfl rfl (by rw[List.not_any_eq_all_not];simp)
theorem qa2(k:K)(n:Int)(b:Nat)(w:World)(hc:w.cell? ⟨b,0,none⟩=some (.int .i64 n))(hk:k.length≤1000000):
  Pu Tryz.prog 244 #[kV k,.pointer (some ⟨b,0,none⟩)] w (.bool (decide ((k.length:Int)=n))):=by
 refine zbn [_,_] Tryz.func244 rfl rfl ?_
 unfold kV
 simp only[zaa,Nat.reduceAdd]
 (repeat refine s_ ?_)
 refine l_w rfl (ze3 rfl rfl (fun h=>h) hc) ?_
 (repeat refine s_ ?_)
 refine zdk rfl rfl ?_
 rw[show(kB k).size=k.length from bC]
 exact congrArg Value.bool (by rw[eD];simp)
theorem zp5(a:Option Addr)(ns:List K)(c:Nat)(n:Int)(hL:ns.length≤1000000)(hk:∀k∈ns,k.length≤1000000)(w:World)(hr:Rd w a (ns.map kV)):
  Pu Tryz.prog 227 #[.slice a ns.length c,.int .i64 n] w (.bool (ns.all fun k=>decide ((k.length:Int)=n))):=by
 refine zbn [_,_] Tryz.func227 rfl rfl ?_
 simp only[zaa,Nat.reduceAdd]
 (repeat refine s_ ?_)
 refine zc9 rfl rfl rfl fun b1 _=>?_
 (repeat refine s_ ?_)
 refine l_w rfl (zhw rfl) ?_
 (repeat refine s_ ?_)
 refine lPu rfl (fun w1 hw1=>zw4 a ns c 244 [.pointer (some ⟨b1,0,none⟩)] (fun k=>decide ((k.length:Int)=n)) hL w1 (hr.keep hw1) ⟨kQ,fun x hx w' hf=>qa2 x n b1 w' (((Hp.start w1 none').keep hf).old (fun h=>h) (zd4 (hw1.get (.head _)) rfl)) (hk x hx)⟩) ?_
 (repeat refine s_ ?_)
 exact zdk rfl rfl rfl
theorem qdw(k:Nat)(w:World):Pu Tryz.prog 229 #[iV k] w (.bool (decide (1≤k∧k<1024))):=by
 refine zbn [_] Tryz.func229 rfl rfl ?_
 unfold iV
 simp only[zaa]
 by_cases h1:1≤(k:Int)
 ·(repeat refine s_ ?_)
  refine zdk rfl rfl (congrArg Value.bool ?_)
  rw[eD,decide_eq_true_iff,decide_eq_true_iff]
  omega
 ·(repeat refine s_ ?_)
  refine zdk rfl rfl (congrArg Value.bool ?_)
  rw[decide_eq_false oQ]
structure ShB (s:Sh):Prop where
 k1:1≤s.kw
 k2:s.kw≤64
 v2:s.vw≤64
def shI(k v:Int):Value:=.agg #[.int .i64 k,.int .i64 v]
def shV(s:Sh):Value:=shI s.kw s.vw
structure Pl where
 k:Option Addr×Nat
 v:Option Addr×Nat
 d:Option Addr×Nat
def ndV(n:Nd)(a:Pl):Value:=.agg #[.bool n.leaf,.slice a.k.1 n.keys.length a.k.2,.slice a.v.1 n.vals.length a.v.2,.slice a.d.1 n.kids.length a.d.2]
structure NdR (w:World) (n:Nd) (a:Pl):Prop where
 k:Rd w a.k.1 (n.keys.map kV)
 v:Rd w a.v.1 (n.vals.map kV)
 d:Rd w a.d.1 (n.kids.map iV)
structure NdB (n:Nd):Prop where
 k:n.keys.length≤100000
 v:n.vals.length≤100000
 d:n.kids.length≤100000
 kl:∀k∈n.keys,k.length≤1000000
 vl:∀k∈n.vals,k.length≤1000000
theorem qd2(k v:Int)(w:World):Pu Tryz.prog 146 #[shI k v] w (.bool (decide (1≤k∧k≤64∧0≤v∧v≤64))):=by
 refine zbn [_] Tryz.func146 rfl rfl ?_
 unfold shI
 simp only[zaa]
 refine goA ?_
 refine zbp rfl rfl fun b1 hb1=>?_
 by_cases h1:1≤k
 ·by_cases h2:k≤64
  ·by_cases h3:0≤v
   ·refine goA ?_
    exact zdk rfl rfl (congrArg Value.bool (by rw[eD,decide_eq_true_iff,decide_eq_true_iff];omega))
   ·refine goA ?_
    exact zdk rfl rfl (congrArg Value.bool (by rw[decide_eq_false oQ]))
  ·refine goA ?_
   exact zdk rfl rfl (congrArg Value.bool (by rw[decide_eq_false oQ]))
 ·refine goA ?_
  exact zdk rfl rfl (congrArg Value.bool (by rw[decide_eq_false oQ]))
variable{s:Sh}
theorem zh4(hs:ShB s)(w:World):Pu Tryz.prog 146 #[shV s] w (.bool true):=by
 have h:=qd2 s.kw s.vw w
 rw[decide_eq_true ⟨by have:=hs.k1;omega,by have:=hs.k2;omega,oQ,by have:=hs.v2;omega⟩]at h
 exact h
theorem zjl(hs:ShB s)(w:World):Pu Tryz.prog 195 #[shV s] w (.int .i64 s.cap):=by
 have h1:=hs.k1
 have h2:=hs.k2
 have h3:=hs.v2
 refine zbn [_] Tryz.func195 rfl rfl ?_
 unfold shV shI
 simp only[zaa]
 refine goA ?_
 refine zbp rfl rfl fun b1 hb1=>?_
 refine goA ?_
 refine lPu rfl (fun w1 hw1=>zh4 hs w1) ?_
 refine goA ?_
 exact zdk rfl rfl rfl
theorem zhz(hs:ShB s)(w:World):Pu Tryz.prog 196 #[shV s] w (.int .i64 s.fan):=by
 have h1:=hs.k1
 have h2:=hs.k2
 have h3:=hs.v2
 refine zbn [_] Tryz.func196 rfl rfl ?_
 unfold shV shI
 simp only[zaa]
 refine goA ?_
 refine zbp rfl rfl fun b1 hb1=>?_
 refine goA ?_
 refine lPu rfl (fun w1 hw1=>zh4 hs w1) ?_
 refine goA ?_
 exact zdk rfl rfl rfl
theorem zsi(n:Nd)(a:Pl)(hs:Ks n.keys)(hb:n.keys.length≤1000000)(k:K)(w:World)(hr:Rd w a.k.1 (n.keys.map kV)):Pu Tryz.prog 104 #[ndV n a,kV k] w (.tuple #[.int .i64 (lb n.keys k:Nat),.bool (fd n.keys k)]):=by
 refine zbn [_,_] Tryz.func104 rfl rfl ?_
 unfold ndV
 simp only[zaa,Nat.reduceAdd]
 refine goA ?_
 refine zbp rfl rfl fun b1 hb1=>?_
 refine goA ?_
 refine lPu rfl (fun w1 hw1=>zyj a.k.1 n.keys a.k.2 hs hb k w1 (hr.keep hw1)) ?_
 refine goA ?_
 exact zie rfl rfl rfl rfl
theorem qde(n:Nd)(a:Pl)(hs:Ks n.keys)(hb:n.keys.length≤1000000)(k:K)(w:World)(hr:Rd w a.k.1 (n.keys.map kV)):Pu Tryz.prog 152 #[ndV n a,kV k] w (.int .i64 (dn n.keys k:Nat)):=by
 have hl:=qkn n.keys k
 refine zbn [_,_] Tryz.func152 rfl rfl ?_
 unfold dn
 unfold ndV
 simp only[zaa,Nat.reduceAdd]
 refine goA ?_
 refine zbp rfl rfl fun b1 hb1=>?_
 refine goA ?_
 refine lPu rfl (fun w1 hw1=>zsi n a hs hb k w1 (hr.keep hw1)) ?_
 refine goA ?_
 cases fd n.keys k with
 |true=>
  refine goA ?_
  exact zdk rfl rfl rfl
 |false=>
  refine goA ?_
  exact zdk rfl rfl rfl
theorem qmi:∀{l:List K},(∀j (h:j+1<l.length),kl l[j] l[j+1])→Ks l
 | [],_=>.nil
 | [a],_=>eO _ _
 |a::b::l,h=>by
  have h1:kl a b:=h 0 sQ
  have h2:Ks (b::l):=qmi fun j hj=>h (j+1) (by simpa using hj)
  refine bI.2 ⟨fun x hx=>?_,h2⟩
  rcases aI.1 hx with rfl|hx
  ·exact h1
  ·exact zb9 h1 ((bI.1 h2).1 x hx)
open Classical in
theorem qdv(hs:ShB s)(n:Nd)(a:Pl)(hb:NdB n)(w:World)(hr:NdR w n a):Pu Tryz.prog 201 #[shV s,ndV n a] w (.bool (decide (zf8 s n))):=by
 have h1:=hs.k1
 have h2:=hs.k2
 have h3:=hs.v2
 have hbk:=hb.k
 have hbv:=hb.v
 have hbd:=hb.d
 refine zbn [_,_] Tryz.func201 rfl rfl ?_
 obtain⟨⟨ka,kc⟩,⟨va,vc⟩,⟨da,dc⟩⟩:=a
 obtain⟨rk,rv,rd⟩:=hr
 simp only at rk rv rd
 have hcap:=zjl hs
 have hfan:=zhz hs
 unfold shV shI at hcap hfan⊢
 unfold ndV
 obtain⟨lf,hlf⟩:∃x,n.leaf=x:=⟨_,rfl⟩
 obtain⟨nk,hnk⟩:∃x,n.keys.length=x:=⟨_,rfl⟩
 obtain⟨nv,hnv⟩:∃x,n.vals.length=x:=⟨_,rfl⟩
 obtain⟨nd,hnd⟩:∃x,n.kids.length=x:=⟨_,rfl⟩
 rw[hlf,hnk,hnv,hnd]
 rw[hnk]at hbk
 rw[hnv]at hbv
 rw[hnd]at hbd
 simp only[zaa,Nat.reduceAdd]
 refine goA ?_
 refine zbp rfl rfl fun b1 hb1=>?_
 refine goA ?_
 refine zbp rfl rfl fun b2 hb2=>?_
 refine goA ?_
 refine zc0 (α:=Nat) (fun i=>[(2,.pointer (some ⟨b1,0,none⟩)),(3,.pointer (some ⟨b2,0,none⟩)),(4,.bool false),(5,.int .i64 i)]) (fun i=>1≤i∧(i≤nk∨i=1)∧∀j (h:j+1<n.keys.length),j+1<i→kl n.keys[j] n.keys[j+1]) (fun _=>_) (fun i=>nk+1 - i) 1 ⟨rfl,rfl,rfl,rfl,trivial⟩ ⟨bA _,.inr rfl,fun j _ h=>absurd h oQ⟩ (fun _ h=>h) fun i ⟨i1,i2,i3⟩=>?_
 by_cases hi:i<nk
 ·obtain⟨b',off,rfl,hr'⟩:=rk.at_ (by intro h;have:=congrArg List.length h;rw[aD,dS]at this;omega)
  obtain⟨j,rfl⟩:∃j,i=j+1:=⟨i - 1,oQ⟩
  have hj1:j+1<n.keys.length:=oQ
  obtain⟨kp,hkp⟩:∃x,n.keys[j]=x:=⟨_,rfl⟩
  obtain⟨kq,hkq⟩:∃x,n.keys[j+1]=x:=⟨_,rfl⟩
  have g1:(n.keys.map kV)[j]? =some (kV kp):=by rw[aP,aB (Nat.lt_of_succ_lt hj1),hkp];rfl
  have g2:(n.keys.map kV)[j+1]? =some (kV kq):=by rw[aP,aB hj1,hkq];rfl
  refine goA ?_
  refine ziw kQ ?_
  refine goE ?_
  refine goV rfl rfl (za0 rfl rfl (fun w' hw'=>za5 hr' (fun h=>h) hw' (j+1 - 1) (kV kp) g1)) ?_
  refine goE ?_
  refine goV rfl rfl (za0 rfl rfl (fun w' hw'=>za5 hr' (fun h=>h) hw' (j+1) (kV kq) g2)) ?_
  unfold kV
  refine goX ?_
  rw[zjt,zjt,qgw]
  refine qp3 rfl rfl (fun hl=>?_) (fun hl=>?_)
  ·have hnl:¬kl kp kq:=hl
   refine goA ?_
   refine zdk rfl rfl (congrArg Value.bool (decide_eq_false fun hm=>hnl ?_).symm)
   have:=cD.1 hm.sorted j (j+1) oQ oQ (eT j)
   rw[hkp,hkq]at this
   exact this
  ·have hnl:kl kp kq:=Classical.not_not.1 hl
   refine goA ?_
   refine zaw (j+2) ⟨rfl,rfl,rfl,rfl,trivial⟩ ⟨oQ,oQ,fun e he hej=>?_⟩ (fun _ h=>h) oQ
   by_cases e':e=j
   ·subst e';rw[hkp,hkq];exact hnl
   ·exact i3 e he oQ
 ·have hks:Ks n.keys:=qmi fun j hj=>i3 j hj oQ
  refine goA ?_
  obtain⟨wk,hwk⟩:∃x,(n.keys.all fun k=>decide ((k.length:Int)=s.kw))=x:=⟨_,rfl⟩
  refine lPu rfl (fun w1 hw1=>(by have:=zp5 ka n.keys kc s.kw oQ hb.kl w1 (rk.keep hw1);rw[hnk,hwk]at this;exact this)) ?_
  cases wk with
  |false=>
   refine goA ?_
   refine zdk rfl rfl (congrArg Value.bool (decide_eq_false fun hm=>?_).symm)
   have:(n.keys.all fun k=>decide ((k.length:Int)=s.kw))=true:=eG.2 fun k hk=>decide_eq_true (by have:=hm.wide k hk;omega)
   rw[hwk]at this
   cases this
  |true=>
   have hwk:∀k∈n.keys,k.length=s.kw:=fun k hk=>by
    have:=of_decide_eq_true (eG.1 hwk k hk)
    omega
   refine goA ?_
   cases lf with
   |true=>
    obtain⟨wv,hwv⟩:∃x,(n.vals.all fun k=>decide ((k.length:Int)=s.vw))=x:=⟨_,rfl⟩
    have hiff:zf8 s n↔nd=0∧nk=nv∧wv=true∧nk≤s.cap:=by
     refine⟨fun hm=>?_,fun⟨e1,e2,e3,e4⟩=>⟨hks,hwk,fun _=>⟨bN oQ,oQ,fun v hv=>?_,oQ⟩,fun h=>by rw[hlf]at h;cases h⟩⟩
     ·obtain⟨f1,f2,f3,f4⟩:=hm.leaf hlf
      rw[f1]at hnd
      exact⟨hnd.symm,oQ,by rw[←hwv];exact eG.2 fun k hk=>decide_eq_true (by have:=f3 k hk;omega),oQ⟩
     ·rw[←hwv]at e3
      have:=of_decide_eq_true (eG.1 e3 v hv)
      omega
    have hw2:∀w',Fr none' w w'→Pu Tryz.prog 227 #[.slice va nv vc,.int .i64 s.vw] w' (.bool wv):=fun w' hw'=>by
     have:=zp5 va n.vals vc s.vw oQ hb.vl w' (rv.fr hw')
     rw[hnv,hwv]at this
     exact this
    by_cases c1:nd=0
    ·by_cases c2:nk=nv
     ·refine goA ?_
      refine ziw kQ ?_
      refine goE ?_
      refine dPu 18 rfl rfl (fun w1 hw1=>hw2 w1 hw1.fr) ?_
      cases wv with
      |true=>
       refine goE ?_
       refine dPu 25 rfl rfl (fun w1 hw1=>hcap w1) ?_
       refine goX ?_
       exact zdk rfl rfl (congrArg Value.bool (by rw[eD,decide_eq_true_iff,decide_eq_true_iff,hiff];exact⟨fun h=>⟨c1,c2,rfl,oQ⟩,fun h=>oQ⟩))
      |false=>
       refine goX ?_
       exact zdk rfl rfl (congrArg Value.bool (decide_eq_false fun hm=>by have:=(hiff.1 hm).2.2.1;cases this).symm)
     ·refine goA ?_
      refine goY ?_
      refine goA ?_
      exact zdk rfl rfl (congrArg Value.bool (decide_eq_false fun hm=>by have:=hiff.1 hm;omega).symm)
    ·refine goA ?_
     refine goY ?_
     refine goA ?_
     exact zdk rfl rfl (congrArg Value.bool (decide_eq_false fun hm=>by have:=hiff.1 hm;omega).symm)
   |false=>
    obtain⟨wd,hwd⟩:∃x,(n.kids.all fun k=>decide (1≤k∧k<1024))=x:=⟨_,rfl⟩
    have hiff:zf8 s n↔wd=true∧nv=0∧nd=nk+1∧1≤nk∧nd≤s.fan:=by
     refine⟨fun hm=>?_,fun⟨e1,e2,e3,e4,e5⟩=>⟨hks,hwk,fun h=>by(rw[hlf]at h;cases h),fun _=>⟨fun k hk=>?_,bN oQ,oQ,oQ,oQ⟩⟩⟩
     ·obtain⟨f1,f2,f3,f4,f5⟩:=hm.inner hlf
      rw[f2]at hnv
      exact⟨by rw[←hwd];exact eG.2 fun k hk=>decide_eq_true (f1 k hk),hnv.symm,oQ,oQ,oQ⟩
     ·rw[←hwd]at e1
      exact of_decide_eq_true (eG.1 e1 k hk)
    have hw2:∀w',Fr none' w w'→Pu Tryz.prog 228 #[.slice da nd dc,.func (.func 229) #[] #[]] w' (.bool wd):=fun w' hw'=>by
     have:=zw3 da n.kids dc 229 [] (fun k=>decide (1≤k∧k<1024)) oQ w' (rd.fr hw') ⟨kQ,fun x _ w'' _=>qdw x w''⟩
     rw[hnd,hwd]at this
     exact this
    refine goA ?_
    refine lPu rfl (fun w1 hw1=>hw2 w1 hw1.fr) ?_
    cases wd with
    |false=>
     refine goA ?_
     refine goY ?_
     refine goA ?_
     exact zdk rfl rfl (congrArg Value.bool (decide_eq_false fun hm=>by have:=(hiff.1 hm).1;cases this).symm)
    |true=>
     by_cases c1:nv=0
     ·by_cases c2:nd=nk+1
      ·by_cases c3:1≤nk
       ·refine goA ?_
        refine ziw kQ ?_
        refine goE ?_
        refine dPu 28 rfl rfl (fun w1 hw1=>hfan w1) ?_
        refine goX ?_
        exact zdk rfl rfl (congrArg Value.bool (by rw[eD,decide_eq_true_iff,decide_eq_true_iff,hiff];exact⟨fun h=>⟨rfl,c1,c2,c3,oQ⟩,fun h=>oQ⟩))
       ·refine goA ?_
        refine goY ?_
        refine goA ?_
        exact zdk rfl rfl (congrArg Value.bool (decide_eq_false fun hm=>by have:=hiff.1 hm;omega).symm)
      ·refine goA ?_
       refine goY ?_
       refine goA ?_
       exact zdk rfl rfl (congrArg Value.bool (decide_eq_false fun hm=>by have:=hiff.1 hm;omega).symm)
     ·refine goA ?_
      refine goY ?_
      refine goA ?_
      exact zdk rfl rfl (congrArg Value.bool (decide_eq_false fun hm=>by have:=hiff.1 hm;omega).symm)
end Go.Proofs.YthafakdplhdfjaaGreatDoor
namespace Go.Eng
open Go.RowKit Go.Lib
variable{P:Program}{Q:Exit→Act→World→Prop}{N:Fm}{l:zav}{ops:Array Oper}{rest:List Oper}{w0:World}{F:Nat→Prop}{m:List Item}{pos:String}{after:Array Edge}{g:Option (Nat×Bool)}{d:Nat}
def zrz(e:TypeId)(o:Option (Nat×Nat))(n:Nat)(xs:List Value):Item:=
 ⟨fun k=>∃c,o=some (k,c),fun w=>w.ownsRowF 0 e 1 (slV o n) n xs⟩
theorem zbh(ro:Nat→Prop)(e:TypeId)(o:Option (Nat×Nat))(n:Nat)(xs:List Value):(zrz e o n xs).Stable ro:=by
 intro w w' h ⟨h1,h2⟩
 refine⟨h1,?_⟩
 rcases h2 with h2|⟨b,cap,cur,fz,hv,hb,hg,h3⟩
 ·exact .inl h2
 ·refine .inr ⟨b,cap,cur,fz,hv,hb,?_,h3⟩
  match o,hv with
  |none,hv=>cases hv
  |some (k,c),hv=>
   cases hv
   rw[h b (.inr ⟨_,rfl⟩)];exact hg
variable{w:World}{e:TypeId}{o:Option (Nat×Nat)}{n:Nat}{xs:List Value}
theorem zoy(h:(own e 1 o n xs).prop w):(zrz e o n xs).prop w:=World.ownsRowF_of (zvn h)
theorem zvm(h:(zrz e o n xs).prop w):xs.length=n:=by have:=h.1;simpa using this
theorem zot{w':World}{o':Option (Nat×Nat)}(hp:(zrz e o' n xs).prop w')(hf:Fr (fun k=>∃c,o=some (k,c)) w w')(hn:∀b c,o'=some (b,c)→w.heap.size≤b∨∃c',o=some (b,c')):Its (fun k=>∃c,o=some (k,c)) w [zrz e o' n xs] w':=by
 refine⟨hf,fun it hm=>?_,.cons (fun _ h=>nomatch h) .nil⟩
 rw[aK]at hm
 subst hm
 refine⟨hp,zbh _ _ _ _ _,fun k ⟨c,hk⟩=>⟨?_,fun hlt=>?_⟩⟩
 ·subst hk
  rcases hp.2 with ⟨h, -⟩ |⟨b,cap,cur,fz,hv, -,hg, -⟩
  ·cases h
  ·cases hv
   exact(bO.1 hg).1
 ·rcases hn k c hk with h|h
  ·omega
  ·exact h
theorem qjl{t u ty':TypeId}{i:TypeInfo}(ht:P.underlying t=some (.slice e))(hu:P.underlying u=some .string)(hi:P.info? e=some i)(hz:i.zero=some (.int .u8 0))(hs1:i.size=1)(hby:i.bytes=1)(hown:(zrz e o n xs).prop w)(s:ByteArray)(h63:n+s.size≤140737488355328):
  ∃o' w',(Builtin.append_ #[t,u] ty' #[slV o n,.string s]).run P w= .ok (slV o' (n+s.size)) w'∧Its (fun k=>∃c,o=some (k,c)) w [zrz e o' (n+s.size) (xs++strCells s)] w':=by
 match o,hown with
 |none,hown=>
  obtain rfl:n=0:=by
   rcases hown.2 with ⟨-,h⟩ |⟨b,cap,cur,fz,hv, -⟩
   ·exact h
   ·cases hv
  have hx0:xs=[]:=bN (zvm hown)
  subst hx0
  obtain⟨o',w',hr,hits⟩:=qfc (P:=P) (ty':=ty') ht hu hi hz hs1 hby (o:=none) (n:=0) (xs:=[]) (w:=w) ⟨rfl,rfl⟩ s h63
  refine⟨o',w',hr,zot (zoy (hits.item _ (.head _)).1) hits.fr fun b c hb=>?_⟩
  have h:=(hits.item _ (.head _)).2.2 b ⟨c,hb⟩
  rcases iH b w.heap.size with hl|hl
  ·obtain⟨c',h'⟩:=h.2 hl
   cases h'
  ·exact .inl hl
 |some (b,cap),hown=>
  have hxl:=zvm hown
  rcases hown.2 with ⟨h, -⟩ |⟨b2,cap2,cur,fz,hv, -,h4,hfz,h2,h3,h5,h6⟩
  ·cases h
  cases hv
  rw[bL]at h5 h6 hfz
  have hlen:(xs++strCells s).length=(n+s.size)*1:=by rw[aA,hxl,strCells_length,bL]
  have hmx:n+s.size≤maxLen:=by unfold maxLen;omega
  by_cases hroom:n+s.size≤cap
  ·have hr:=Lib.run_append_room_stringF (P:=P) w t u ty' e i ht hu hi hs1 b n cap cur fz h4 hfz s hroom oQ
   refine⟨some (b,cap),_,hr,zot ⟨hlen,.inr ⟨b,cap,_,fz,rfl,aZ _,setRow_heap w b cur _ e _ h4,oQ,hroom,h3,?_,?_⟩⟩ (zk8 rfl rfl rfl sQ fun j _ hj=>setRow_other w b j _ (fun e=>hj ⟨cap,by rw[e]⟩)) (fun b' c' h=>.inr ⟨c',h⟩)⟩
   ·simp only[bC,aA,aM,aX,fW,strCells_length]
    omega
   ·rw[h6,←hlen]
    exact gK
  ·have hr:=run_append_grow_string (P:=P) w t u ty' e i (.int .u8 0) ht hu hi hz ⟨b,0,none⟩ n cap xs (by rw[hs1];simpa using hxl) (hown.cells (g:=b) rfl) s oQ oQ (by rw[hby];exact growslice_fits oQ oQ)
   have hge:=grownCap_ge w (n+s.size) cap e
   refine⟨some (w.heap.size,grownCap w (n+s.size) cap e),_,hr,zot ⟨hlen,.inr ⟨w.heap.size,_,_,(0,0),rfl,aZ _,heap_alloc_new w.drew _,aZ _,hge,grownCap_le_maxLen w (n+s.size) cap e hmx,?_,?_⟩⟩ (zk8 rfl rfl rfl sQ fun j hj _=>Below.heap_alloc w.drew _ j hj) (fun b c' h=>.inl (by cases h;exact bA _))⟩
   ·have hz1:(Value.int IntKind.u8 0).cells.size=1:=rfl
    simp only[kE,bC,size_zeroCells,hz1,hxl,strCells_length]
    omega
   ·simp only[iJ,aF]
    rw[←aF,←hlen]
    exact gK
variable{s:ByteArray}
theorem qhc{T U T':TypeId}{x y:Operand}(hok:zee N l (.call ⟨.builtin .append, #[x,y], #[T,U]⟩) d=true)(hx:evO l x=some (slV o n))(hy:evO l y=some (.string s))
  (hT:zmi P T=some e) (hU:P.underlying U=some .string) (he:qjq P e=true) (hn:n+s.size≤140737488355328):
  HO P ⟨some d,.call ⟨.builtin .append, #[x,y], #[T,U]⟩,T',pos,after,g⟩ Q N l (Hp w0 F (zrz e o n xs::m)) (α:=Option (Nat×Nat)) (fun o'=>(d,slV o' (n+s.size))::l) (fun o'=>Hp w0 F (zrz e o' (n+s.size) (xs++zae s.data.toList)::m)):=
 zh6 (val:=fun o'=>slV o' (n+s.size)) hok (fun w hw=>by
  obtain⟨i,h1,h2,h3,h4⟩:=zsb he
  obtain⟨o',w',hr,hits⟩:=qjl (P:=P) (ty':=T') (zbs hT) hU h1 h2 h3 h4 (hw.item (zrz e o n xs) (.head _)).1 s hn
  rw[zq0]at hits
  refine⟨o',w',?_,Hp.call (m:=[zrz e o n xs]) hw hits (fun k' _ hk=>⟨zrz e o n xs,by simp,hk⟩)⟩
  simp only[execOp,resolve,invoke,builtin]
  simp[zar hx,zar hy,hr])
theorem zzv{b:Nat}{cur:Array Value}{fz:Nat×Nat}(h:w.heap[b]? =some (.cells cur e fz))(h2:fz.2≤n):∃fz',(w.freeze ⟨b,0,none⟩ n).heap[b]? =some (.cells cur e fz')∧fz'.2≤n:=by
 unfold World.freeze
 split
 ·exact⟨fz,h,h2⟩
 ·obtain⟨lo,hi⟩:=fz
  refine⟨if lo==hi then(0,0+n)else(min lo 0,max hi (0+n)),?_,?_⟩
  ·simp only[eV,h,if_true,bX]
  ·split
   ·simp
   ·simp only at h2⊢
    omega
theorem qoo{pt' it' T':TypeId}{x y:Operand}{b c:Nat}{k:Int}[h:NatOf k n](hok:zee N l (.call ⟨.builtin .unsafeString, #[x,y], #[pt',it']⟩) d=true)(hx:evO l x=some (.pointer (some ⟨b,0,none⟩)))(hy:evO l y=some (.int .i64 k))(hT:qmo P pt'=some e)(hc:P.cellsOf e=1)(h0:0<n)(hn:n=s.size):
  HO P ⟨some d,.call ⟨.builtin .unsafeString, #[x,y], #[pt',it']⟩,T',pos,after,g⟩ Q N l (Hp w0 F (zrz e (some (b,c)) n (zae s.data.toList)::m)) (α:=Unit) (fun _=>(d,.string s)::l) (fun _=>Hp w0 F (zrz e (some (b,c)) n (zae s.data.toList)::m)):=by
 obtain rfl:=h.eq
 exact zh6 (val:=fun _=>.string s) hok (fun w hw=>by
  have hp:=(hw.item (zrz e (some (b,c)) n (zae s.data.toList)) (.head _)).1
  have hlen:=zvm hp
  rcases hp.2 with ⟨h, -⟩ |⟨b2,cap2,cur,fz,hv, -,h3,hfz,h2,h4,h5,h6⟩
  ·cases h
  cases hv
  rw[bL]at h5 h6 hfz
  have hsh:w.shape? b=some (e,cur.size):=by simp[World.shape?,h3]
  have hsl:s.data.toList.length=n:=by rw[zo9];exact hn.symm
  have hr:=Lib.run_unsafeString_row (P:=P) w pt' it' T' e (zh9 hT).1 hc b cur.size hsh s.data.toList (by intro h;rw[h]at hsl;simp at hsl;omega) oQ (by unfold maxLen at h4;omega) (fun j x hx=>by
   exact hp.cells (g:=b) rfl j _ (by simp[zae,hx]))
  obtain⟨fz',hf1,hf2⟩:=zzv h3 hfz
  refine⟨(),w.freeze ⟨b,0,none⟩ n,?_,?_⟩
  ·simp only[execOp,resolve,invoke,builtin]
   rw[hsl]at hr
   simp[zar hx,zar hy,hr]
  ·obtain⟨f1,f2,f3⟩:=zzu (w:=w) (b:=b) (n:=n)
   refine Hp.call (m:=[zrz e (some (b,c)) n (zae s.data.toList)]) hw (zot (o:=some (b,c)) ⟨by rw[bL];exact hlen,.inr ⟨b,c,cur,fz',rfl,aZ _,hf1,by rw[bL];exact hf2,h2,h4,by rw[bL];exact h5,by rw[bL];exact h6⟩⟩ ⟨f1,f2,f3,iG zzw.symm,fun k _ hk=>zw9 fun e=>hk ⟨c,by rw[e]⟩⟩ (fun b' c' h=>.inr ⟨c',h⟩)) (fun k' _ hk=>⟨_,.head _,hk⟩))
end Go.Eng
namespace Go.Proofs.YthafakdplhdfjaaGreatDoor
open Go.RowKit Go.Eng
abbrev zof(b:Nat)(p:Option Addr)(o:Option (Nat×Nat))(n:Nat):Eng.Item:=pt b (.cells #[.pointer p,slV o n] 273 (0,0))
theorem zjm(b:Nat)(p:Option Addr)(o:Option (Nat×Nat))(n:Nat)(hp:p=none∨p=some ⟨b,0,none⟩)(w:World)(hw:zbq (zof b p o n) w):
  Ct Tryz.prog 222 #[.pointer (some ⟨b,0,none⟩)] w (za4 [zof b p o n]) (fun _:Unit=>.tuple #[]) (fun _=>True) (fun _=>[zof b (some ⟨b,0,none⟩) o n]):=by
 unfold zof at*
 refine za2 [_] [_] Tryz.func222 rfl rfl (by simpa using hw) (.cons (fun _ h=>by cases h) .nil) ?_
 simp only[zaa]
 refine goA ?_
 rcases hp with rfl|rfl
 ·refine goA ?_
  refine l_w rfl (qps rfl rfl rfl rfl (.head _) sQ) ?_
  refine goA ?_
  refine l_w rfl (qs7 Tryz.func239 kQ kQ kQ kQ rfl (fun w=>Lib.run_noEscape w _)) ?_
  refine goA ?_
  refine l_w rfl (qpm rfl rfl rfl rfl (.head _) kQ) ?_
  refine goA ?_
  refine za1 rfl (zai rfl rfl rfl rfl rfl rfl sQ) fun _=>?_
  refine goA ?_
  exact zk0 () rfl rfl trivial (.refl _) (by simp[zab])
 ·refine goA ?_
  exact zk0 () rfl rfl trivial (.refl _) (by simp[zab])
theorem zzy(b:Nat)(n:Nat)(hn:n≤140737488355328)(w:World)(hw:zbq (zof b (some ⟨b,0,none⟩) none 0) w):
  Ct Tryz.prog 223 #[.pointer (some ⟨b,0,none⟩),.int .i64 n] w (za4 [zof b (some ⟨b,0,none⟩) none 0]) (fun _:Nat×Nat=>.tuple #[]) (fun _=>True) (fun o=>[zof b (some ⟨b,0,none⟩) (some o) 0,own 5 1 (some o) 0 []]):=by
 refine za2 [_,_] [_] Tryz.func223 rfl rfl (by simpa using hw) (.cons (fun _ h=>by cases h) .nil) ?_
 simp only[zaa,Nat.reduceAdd]
 unfold zof
 refine goA ?_
 refine ziw kQ ?_
 refine goE ?_
 refine zat 8 ⟨kQ,dQ⟩ rfl rfl (qsz (t:=63) (e:=5) rfl Tryz.func240 kQ kQ kQ kQ kQ rfl rfl oQ) (fun _ _ h=>goH h) fun⟨⟨b2,cs⟩,h2,h3⟩=>?_
 refine goX ?_
 refine za1 rfl (ziq (cs:=[]) (cur:=cs.toList) rfl rfl rfl rfl rfl sQ (fun _ _=>.inl rfl) (fun _=>rfl) sQ rfl) fun _=>?_
 rw[qov]
 refine goA ?_
 refine za1 rfl (zah (zcg _ _ _) (zai rfl rfl rfl rfl rfl rfl sQ)) fun _=>?_
 refine goA ?_
 refine zbr (fun w hw=>((hw.perm (zcg _ _ _)).ownOf (n:=0) (c:=cs.size) (sz:=1) (aZ _) h3 sQ).perm (zcg _ _ _)) ?_
 rw[kP,iZ]
 exact zk0 (b2,cs.size) rfl rfl trivial (.refl _) (by simp[zab,zac])
theorem qdn(b:Nat)(n:Nat)(h0:0<n)(hn:n≤140737488355328)(w:World)(hw:zbq (zof b none none 0) w):
  Ct Tryz.prog 190 #[.pointer (some ⟨b,0,none⟩),.int .i64 n] w (za4 [zof b none none 0]) (fun _:Nat×Nat=>.tuple #[]) (fun _=>True) (fun o=>[zof b (some ⟨b,0,none⟩) (some o) 0,own 5 1 (some o) 0 []]):=by
 refine za2 [_,_] [_] Tryz.func190 rfl rfl (by simpa using hw) (.cons (fun _ h=>by cases h) .nil) ?_
 simp only[zaa,Nat.reduceAdd]
 unfold zof
 refine goA ?_
 refine lCu [zof b none none 0] rfl (by first|(simp[zab,zac,mp_stable];done) |(intro it hm;(iterate 6 (all_goals try (rcases hm with _|⟨_,hm⟩)))<;>first|exact zad _|exact zab _ _ _|exact zac _ _ _ _ _ _)) (fun w1 hw1 hh1 ha1=>zjm b _ none 0 (.inl rfl) w1 (hh1 _ (.head _))) fun⟨x,hx⟩=>?_
 unfold zof
 refine goA ?_
 refine goY ?_
 refine goA ?_
 refine lCu [zof b (some ⟨b,0,none⟩) none 0] rfl (by first|(simp[zab,zac,mp_stable];done) |(intro it hm;(iterate 6 (all_goals try (rcases hm with _|⟨_,hm⟩)))<;>first|exact zad _|exact zab _ _ _|exact zac _ _ _ _ _ _)) (fun w1 hw1 hh1 ha1=>zzy b n hn w1 (hh1 _ (.head _))) fun⟨x,hx⟩=>?_
 refine goA ?_
 exact zk0 x rfl rfl trivial (.refl _) (by simp[zab,zac])
abbrev blS(b:Nat)(p:Option Addr)(o:Option (Nat×Nat))(s:Bys):List Eng.Item:=[zof b p o s.length,zrz 5 o s.length (zae s)]
theorem zjk(b:Nat)(p:Option Addr)(hp:p=none∨p=some ⟨b,0,none⟩)(o:Option (Nat×Nat))(t s:Bys)(hn:t.length+s.length≤140737488355328):
  Cw Tryz.prog 191 #[.pointer (some ⟨b,0,none⟩),.string ⟨s.toArray⟩] (blS b p o t) (fun _:Option (Nat×Nat)=>.tuple #[.int .i64 s.length,.nilIface]) (fun _=>True) (fun o'=>blS b (some ⟨b,0,none⟩) o' (t++s)):=by
 intro w hw ha
 refine za2 [_,_] _ Tryz.func191 rfl rfl hw ha ?_
 simp only[zaa,Nat.reduceAdd]
 have hsl:=bal s
 unfold blS zof
 refine goA ?_
 refine lCu [zof b p o t.length] rfl (by first|(simp[zab,zac,mp_stable];done) |(intro it hm;(iterate 6 (all_goals try (rcases hm with _|⟨_,hm⟩)))<;>first|exact zad _|exact zab _ _ _|exact zac _ _ _ _ _ _)) (fun w1 hw1 hh1 ha1=>zjm b p o t.length hp w1 (hh1 _ (.head _))) fun⟨x,hx⟩=>?_
 unfold zof
 refine goA ?_
 refine za1 rfl (zah (zcg _ _ _) (qhc rfl rfl rfl rfl rfl rfl (by rw[hsl];exact hn))) fun o'=>?_
 refine goA ?_
 refine za1 rfl (zah (zcg _ _ _) (zai rfl rfl rfl rfl (zct _ _) (zc3 _ _) sQ)) fun _=>?_
 refine goA ?_
 have e1:t.length+(⟨s.toArray⟩:ByteArray).size=(t++s).length:=by rw[hsl,aA]
 have e2:zae t++zae (⟨s.toArray⟩:ByteArray).data.toList=zae (t++s):=by rw[zke]
 rw[e1,e2]
 exact zc1 o' rfl rfl rfl (by rw[hsl]) trivial (.refl _) (by simp[zab,zbh])
theorem qho{w:World}{e:TypeId}{o:Option (Nat×Nat)}{s:Bys}(h:(zrz e o s.length (zae s)).prop w)(h0:s≠[]):∃b c,o=some (b,c)∧s.length≤c:=by
 rcases h.2 with ⟨h1,h2⟩ |⟨b,c,cur,fz,hv, -, -, -,h2, -⟩
 ·exact absurd (bN h2) h0
 ·match o,hv with
  |none,hv=>cases hv
  |some (b',c'),hv=>cases hv;exact⟨_,_,rfl,h2⟩
theorem zii(b:Nat)(p:Option Addr)(o:Option (Nat×Nat))(s:Bys)(h0:s≠[]):
  Cw Tryz.prog 193 #[.pointer (some ⟨b,0,none⟩)] (blS b p o s) (fun _:Unit=>.string ⟨s.toArray⟩) (fun _=>True) (fun _=>blS b p o s):=by
 intro w hw ha
 obtain⟨ob,oc,rfl,hoc⟩:=qho (hw _ (.tail _ (.head _))).1 h0
 refine za2 [_] _ Tryz.func193 rfl rfl hw ha ?_
 simp only[zaa]
 have hsl:=bal s
 have hlp:0<s.length:=by cases s with|nil=>exact absurd rfl h0|cons a l=>simp
 unfold blS zof
 refine goA ?_
 refine ztn (zcg _ _ _) (qo3 kQ ?_)
 refine goE ?_
 refine zat 4 ⟨kQ,dQ⟩ rfl rfl (zx2 rfl (qtb rfl oQ)) (fun _ _ h=>goH h) fun _=>?_
 refine goE ?_
 refine zat 10 ⟨kQ,dQ⟩ rfl rfl (qoo (s:=⟨s.toArray⟩) rfl rfl rfl rfl kQ hlp hsl.symm) (fun _ _ h=>goH h) fun _=>?_
 refine goX ?_
 refine zgf [1,0] rfl rfl ?_
 exact zbd () rfl rfl rfl trivial (.refl _) (by simp[zab,zbh])
theorem zkd(b:Nat)(p:Option Addr)(o:Option (Nat×Nat))(s:Bys)(w:World)(hw:∀it∈blS b p o s,zbq it w):
  Pu Tryz.prog 192 #[.pointer (some ⟨b,0,none⟩)] w (.int .i64 s.length):=by
 refine zbn [_] Tryz.func192 rfl rfl ?_
 simp only[zaa]
 have hvv:∃a c,slV o s.length= .slice a s.length c:=by
  rcases(hw _ (.tail _ (.head _))).1.2 with ⟨h1,h2⟩ |⟨b,c,cur,fz,hv, -⟩
  ·rw[h1,h2];exact⟨_,_,rfl⟩
  ·exact⟨_,_,hv⟩
 obtain⟨va,vc,hv⟩:=hvv
 refine goA ?_
 refine l_w rfl (za0 (v:=slV o s.length) rfl rfl (fun w' hw'=>zd4 (i:=1) (((hw _ (.head _)).keep hw').1) rfl)) ?_
 rw[hv]
 refine goA ?_
 exact zdk rfl rfl rfl
theorem zwn(b:Nat)(p:Option Addr)(o:Option (Nat×Nat))(s:Bys):
  Cw Tryz.prog 205 #[.pointer (some ⟨b,0,none⟩)] (blS b p o s) (fun _:Unit=>.tuple #[]) (fun _=>True) (fun _=>blS b none none []):=by
 intro w hw ha
 refine za2 [_] _ Tryz.func205 rfl rfl hw ha ?_
 simp only[zaa]
 unfold blS zof
 refine goA ?_
 refine za1 rfl (zai rfl rfl rfl rfl rfl rfl sQ) fun _=>?_
 refine goA ?_
 refine za1 rfl (zai rfl rfl rfl rfl rfl rfl sQ) fun _=>?_
 refine goA ?_
 refine zbr (m':=blS b none none []) (fun w' hw'=>?_) (zk0 () rfl rfl trivial (.refl _) (by simp[zab,zbh]))
 have h1:Hp w _ [zof b none none ([]:Bys).length] w':=hw'.sub (.cons_cons _ (.cons _ (.refl _)))
 have h2:Hp w _ [own 5 1 none 0 [],zof b none none ([]:Bys).length] w':=zd1 _ _ h1
 have h3:Hp w _ [zrz 5 none 0 [],zof b none none ([]:Bys).length] w':=h2.imp (fun k h=>h) (fun h=>zoy h) (zbh _ _ _ _ _)
 exact h3.perm (zcg _ _ _)
end Go.Proofs.YthafakdplhdfjaaGreatDoor
