/- Parts: Nodes of trees; What the tree's functions do with pages; Put; Delete; Put and Delete at the root; Delete at the root. No condition. -/
import Derived.Test.YthafakdplhdfjaaGreatDoorHf03
set_option maxRecDepth 100000
namespace Go.Eng.Tr
open Go.Proofs.YthafakdplhdfjaaGreatDoor
structure Nd where
 leaf:Bool
 keys:List K
 vals:List K
 kids:List Nat
structure zf8 (s:Sh) (n:Nd):Prop where
 sorted:Ks n.keys
 wide:∀k∈n.keys,k.length=s.kw
 leaf:n.leaf=true→n.kids=[]∧n.keys.length=n.vals.length∧(∀v∈n.vals,v.length=s.vw)∧n.keys.length≤s.cap
 inner:n.leaf=false→(∀k∈n.kids,1≤k∧k<1024)∧n.vals=[]∧n.kids.length=n.keys.length+1∧1≤n.keys.length∧n.kids.length≤s.fan
def qe0(n:Nd):Bys:=if n.leaf then(n.keys.zip n.vals).flatMap fun p=>p.1++p.2 else n.keys.flatMap id
def zog(n:Nd):Bys:=beN 1 (if n.leaf then 1 else 2)++(beN 1 0++(beN 2 n.keys.length++(n.kids.flatMap (beN 2)++qe0 n)))
def zcl(n:Nd):Bys:=zog n++List.replicate (512 - (zog n).length) 0
variable{α:Type}
theorem zkg(l:List α)(f:α→Bys)(c:Nat)(h:∀x∈l,(f x).length=c):(l.flatMap f).length=l.length*c:=by
 induction l with
 |nil=>simp
 |cons x l ih=>rw[aV,aA,h x (.head _),ih fun y hy=>h y (.tail _ hy),aW,Nat.succ_mul];omega
variable{s:Sh}{n:Nd}
theorem qbh(h:zf8 s n):(zog n).length=if n.leaf then 4+n.keys.length*(s.kw+s.vw)else 4+n.kids.length*2+n.keys.length*s.kw:=by
 unfold zog qe0
 simp only[aA,zal]
 rw[zkg n.kids (beN 2) 2 fun x _=>zal 2 x]
 cases hl:n.leaf with
 |true=>
  obtain⟨h1,h2,h3,h4⟩:=h.leaf hl
  rw[if_pos rfl,if_pos rfl,h1,zkg _ _ (s.kw+s.vw) fun p hp=>by
   obtain⟨q1,q2⟩:=iR hp
   rw[aA,h.wide _ q1,h3 _ q2],jX,←h2,lB]
  simp;omega
 |false=>
  rw[if_neg bK,if_neg bK,zkg n.keys id s.kw fun k hk=>h.wide k hk]
  omega
theorem zzg(hs:1≤s.kw)(h:zf8 s n):(zog n).length≤512:=by
 rw[qbh h]
 cases hl:n.leaf with
 |true=>
  obtain⟨-, -, -,h4⟩:=h.leaf hl
  rw[if_pos rfl]
  have:n.keys.length*(s.kw+s.vw)≤s.cap*(s.kw+s.vw):=fH _ h4
  have h5:s.cap*(s.kw+s.vw)≤508:=Nat.div_mul_le_self 508 (s.kw+s.vw)
  omega
 |false=>
  obtain⟨-, -,h3,h4,h5⟩:=h.inner hl
  rw[if_neg bK]
  have h6:s.fan*(s.kw+2)≤508+s.kw:=Nat.div_mul_le_self (508+s.kw) (s.kw+2)
  have h7:n.kids.length*(s.kw+2)≤s.fan*(s.kw+2):=fH _ h5
  have h8:n.kids.length*(s.kw+2)=n.kids.length*s.kw+n.kids.length*2:=fP _ _ _
  have h9:n.kids.length*s.kw=n.keys.length*s.kw+s.kw:=by rw[h3,Nat.succ_mul]
  omega
theorem zxv(hs:1≤s.kw)(h:zf8 s n):(zcl n).length=512:=by
 have:=zzg hs h
 unfold zcl
 rw[aA,cD]
 omega
def kidsF:Nat→Opn→List Nat×Opn
 |0,st=>([],st)
 |m+1,st=>if st.2 then([],st)else((opN 2 st).1::(kidsF m (opN 2 st).2).1,(kidsF m (opN 2 st).2).2)
def qe2(s:Sh)(leaf:Bool)(st:Opn):K×K×Opn:=((opT s.kw st).1,if leaf then(opT s.vw (opT s.kw st).2).1 else[],if leaf then(opT s.vw (opT s.kw st).2).2 else(opT s.kw st).2)
def zer(s:Sh)(leaf:Bool):Nat→Opn→List K×List K×Opn
 |0,st=>([],[],st)
 |m+1,st=>if st.2 then([],[],st)else
  ((qe2 s leaf st).1::(zer s leaf m (qe2 s leaf st).2.2).1,if leaf then(qe2 s leaf st).2.1::(zer s leaf m (qe2 s leaf st).2.2).2.1 else[],(zer s leaf m (qe2 s leaf st).2.2).2.2)
def hdF(b:Bys):Bool×Nat×Opn:=(decide ((opN 1 (b,false)).1=1),(opN 2 (opN 1 (opN 1 (b,false)).2).2).1,(opN 2 (opN 1 (opN 1 (b,false)).2).2).2)
def zn5(s:Sh)(b:Bys):Nd×Opn:=
 let kf:=if (hdF b).1 then([],(hdF b).2.2)else kidsF ((hdF b).2.1+1) (hdF b).2.2
 (⟨(hdF b).1,(zer s (hdF b).1 (hdF b).2.1 kf.2).1,(zer s (hdF b).1 (hdF b).2.1 kf.2).2.1,kf.1⟩,(zer s (hdF b).1 (hdF b).2.1 kf.2).2.2)
theorem qgv:∀(l:List Nat) (r:Bys),(∀k∈l,k<65536)→kidsF l.length (l.flatMap (beN 2)++r,false)=(l,(r,false))
 | [],_,_=>rfl
 |k::l,r,h=>by
  have e:opN 2 ((k::l).flatMap (beN 2)++r,false)=(k,(l.flatMap (beN 2)++r,false)):=by
   rw[aV,aG]
   exact zgc (h k (.head _)) _
  rw[aW,kidsF,if_neg bK,e,qgv l r fun x hx=>h x (.tail _ hx)]
theorem zxm(s:Sh):∀(l:E) (r:Bys),(∀p∈l,p.1.length=s.kw∧p.2.length=s.vw)→zer s true l.length (l.flatMap (fun p=>p.1++p.2)++r,false)=(l.map (·.1),l.map (·.2),(r,false))
 | [],_,_=>rfl
 |p::l,r,h=>by
  obtain⟨h1,h2⟩:=h p (.head _)
  have e:qe2 s true ((p::l).flatMap (fun p=>p.1++p.2)++r,false)=(p.1,p.2,(l.flatMap (fun p=>p.1++p.2)++r,false)):=by
   unfold qe2
   rw[aV,aG,aG,←h1,zqb,←h2,zqb]
   rfl
  rw[aW,zer,if_neg bK,e,zxm s l r fun x hx=>h x (.tail _ hx)]
  rfl
theorem zsr(s:Sh):∀(l:List K) (r:Bys),(∀k∈l,k.length=s.kw)→zer s false l.length (l.flatMap id++r,false)=(l,[],(r,false))
 | [],_,_=>rfl
 |k::l,r,h=>by
  have h1:=h k (.head _)
  have e:qe2 s false ((k::l).flatMap id++r,false)=(k,[],(l.flatMap id++r,false)):=by
   unfold qe2
   rw[aV,aG,←h1]
   have:=zqb k (l.flatMap id++r)
   simp only[id_eq]
   rw[this]
   rfl
  rw[aW,zer,if_neg bK,e,zsr s l r fun x hx=>h x (.tail _ hx)]
  rfl
theorem ql2{a b:List K}(h:a.length=b.length):(a.zip b).map (·.1)=a∧(a.zip b).map (·.2)=b:=by
 refine⟨?_,?_⟩
 ·have:=List.map_fst_zip (l₁:=a) (l₂:=b) oQ
  exact this
 ·have:=List.map_snd_zip (l₁:=a) (l₂:=b) oQ
  exact this
theorem qk4(hs:1≤s.kw)(h:zf8 s n):zn5 s (zcl n)=(n,(List.replicate (512 - (zog n).length) 0,false)):=by
 have hle:=zzg hs h
 have hlen:=qbh h
 generalize hz:List.replicate (512 - (zog n).length) (0:UInt8)=z
 have hkl:n.keys.length<65536:=by
  cases hl:n.leaf with
  |true=>
   rw[hl,if_pos rfl]at hlen
   have:n.keys.length*1≤n.keys.length*(s.kw+s.vw):=fN _ oQ
   omega
  |false=>
   rw[hl,if_neg bK]at hlen
   have:n.keys.length*1≤n.keys.length*s.kw:=fN _ hs
   omega
 have e1:opN 1 (zcl n,false)=(if n.leaf then 1 else 2,(beN 1 0++(beN 2 n.keys.length++(n.kids.flatMap (beN 2)++(qe0 n++z))),false)):=by
  unfold zcl
  rw[hz]
  unfold zog
  simp only[aG]
  exact zgc (by split<;>decide) _
 have e2:opN 1 (beN 1 0++(beN 2 n.keys.length++(n.kids.flatMap (beN 2)++(qe0 n++z))),false)=(0,(beN 2 n.keys.length++(n.kids.flatMap (beN 2)++(qe0 n++z)),false)):=zgc dQ _
 have e3:opN 2 (beN 2 n.keys.length++(n.kids.flatMap (beN 2)++(qe0 n++z)),false)=(n.keys.length,(n.kids.flatMap (beN 2)++(qe0 n++z),false)):=zgc oQ _
 have eh:hdF (zcl n)=(n.leaf,n.keys.length,(n.kids.flatMap (beN 2)++(qe0 n++z),false)):=by
  unfold hdF
  rw[e1]
  simp only
  rw[e2]
  simp only
  rw[e3]
  cases n.leaf<;>rfl
 unfold zn5
 rw[eh]
 obtain⟨leaf,keys,vals,kids⟩:=n
 simp only at*
 cases leaf with
 |true=>
  obtain⟨h1,h2,h3,h4⟩:=h.leaf rfl
  simp only at h1 h2 h3 h4
  subst h1
  obtain⟨z1,z2⟩:=ql2 h2
  have:=zxm s (keys.zip vals) z fun p hp=>by
   obtain⟨q1,q2⟩:=iR hp
   exact⟨h.wide _ q1,h3 _ q2⟩
  rw[jX,←h2,lB,z1,z2]at this
  simp only[if_true,jM,aJ,qe0]
  rw[this]
 |false=>
  obtain⟨h1,h2,h3,h4,h5⟩:=h.inner rfl
  simp only at h1 h2 h3 h4 h5
  subst h2
  have k1:=qgv kids (keys.flatMap id++z) fun k hk=>by have:=(h1 k hk).2;omega
  rw[h3]at k1
  have k2:=zsr s keys z fun k hk=>h.wide k hk
  simp only[bT,if_false,qe0]
  rw[k1]
  simp only
  rw[k2]
noncomputable def zq5(s:Sh)(b:Bys):Option Nd:=by
 classical exact if (zn5 s b).2.2=false∧zf8 s (zn5 s b).1∧zcl (zn5 s b).1=b then some (zn5 s b).1 else none
theorem qin(hs:1≤s.kw)(h:zf8 s n):zq5 s (zcl n)=some n:=by
 unfold zq5
 rw[qk4 hs h,if_pos ⟨rfl,h,rfl⟩]
theorem qo7{b:Bys}(h:zq5 s b=some n):zf8 s n∧zcl n=b:=by
 unfold zq5 at h
 split at h
 ·rename_i hc
  cases h
  exact hc.2
 ·cases h
structure Sg where
 W:Nat→Bys
 S:Nat→Bool
def wr(W:Nat→Bys)(i:Nat)(b:Bys):Nat→Bys:=fun j=>if j=i then b else W j
noncomputable section
open Classical
def zfs(s:Sh)(N:Nat)(g:Sg)(at_:Int):Except Nat Nd:=if 1≤at_∧at_<N then(match zq5 s (g.W at_.toNat)with|some n=>.ok n|none=>.error 12)else .error 12
def zb8(s:Sh)(N:Nat)(g:Sg)(at_:Nat)(n:Nd):Except Nat Sg:=if zf8 s n then(if 1≤at_∧at_<N then .ok { g with W:=wr g.W at_ (zcl n) } else .error 2)else .error 12
def zh8(N:Nat)(g:Sg):Except Nat (Nat×Sg):=if∃i,i<N∧g.S i=false then .ok (nw N g.S,⟨wr g.W (nw N g.S) (List.replicate 512 0),us g.S (nw N g.S) true⟩)else .error 5
def zf0(N:Nat)(g:Sg)(at_:Nat):Except Nat Sg:=if 1≤at_∧at_<N∧g.S at_=true then .ok { g with S:=us g.S at_ false } else .error 2
def lNd(keys vals:List K):Nd:=⟨true,keys,vals,[]⟩
def iNd(keys:List K)(kids:List Nat):Nd:=⟨false,keys,[],kids⟩
def qbn(s:Sh)(n:Nd):Bool:=if n.leaf then decide (n.keys.length≤s.cap)else decide (n.kids.length≤s.fan)
def zcc(s:Sh)(N:Nat)(g:Sg)(at_:Nat)(n:Nd):Except Nat ((K×Nat)×Sg):=
 if qbn s n then do
  let g1←zb8 s N g at_ n
  return (([],0),g1)
 else do
  let (q,g1)←zh8 N g
  if n.leaf then do
   let g2←zb8 s N g1 q (lNd (n.keys.drop (n.keys.length/2)) (n.vals.drop (n.keys.length/2)))
   let g3←zb8 s N g2 at_ (lNd (n.keys.take (n.keys.length/2)) (n.vals.take (n.keys.length/2)))
   return (((n.keys.drop (n.keys.length/2)).headD [],q),g3)
  else do
   let g2←zb8 s N g1 q (iNd (n.keys.drop (n.kids.length/2)) (n.kids.drop (n.kids.length/2)))
   let g3←zb8 s N g2 at_ (iNd (n.keys.take (n.kids.length/2 - 1)) (n.kids.take (n.kids.length/2)))
   return ((n.keys.getD (n.kids.length/2 - 1) [],q),g3)
end
def zaj:{h:Nat}→T h→Nd
 |0,t=>lNd (t.2.map (·.1)) (t.2.map (·.2))
 |_+1,t=>iNd t.2.1 (t.2.2.map pg)
def Rep(W:Nat→Bys):{h:Nat}→T h→Prop
 |0,t=>W t.1=zcl (zaj (h:=0) t)
 |h+1,t=>W t.1=zcl (zaj (h:=h+1) t)∧∀x∈t.2.2,Rep W x
variable{W:Nat→Bys}
theorem Rep.at_:∀{h:Nat} {t:T h},Rep W t→W (pg t)=zcl (zaj t)
 |0,_,h=>h
 |_+1,_,h=>h.1
theorem Rep.frame{W W':Nat→Bys}:∀{h:Nat} {t:T h},Rep W t→(∀x∈pgs t,W' x=W x)→Rep W' t
 |0,t,hr,hf=>(hf t.1 (.head _)).trans hr
 |h+1,t,hr,hf=>⟨(hf t.1 (.head _)).trans hr.1,fun x hx=>(hr.2 x hx).frame fun y hy=>hf y (.tail _ (bS.2 ⟨x,hx,hy⟩))⟩
theorem zcu:∀{h:Nat} (t:T h),Ord t→Wd s t→sz t≤mx s h→(1≤h→2≤sz t)→(∀x∈pgs t,1≤x∧x<1024)→zf8 s (zaj t)
 |0,(p,es),hO,hW,hm,_,_=>by
  refine⟨hO,fun k hk=>?_,fun _=>⟨rfl,by simp[zaj,lNd],fun v hv=>?_,?_⟩,fun h=>(nomatch h)⟩
  ·obtain⟨q,hq,rfl⟩:=aS.1 hk
   exact(hW q hq).1
  ·obtain⟨q,hq,rfl⟩:=aS.1 hv
   exact(hW q hq).2
  ·show(es.map (·.1)).length≤s.cap
   rw[aD];exact hm
 |h+1,(p,ks,kids),hO,hW,hm,h2,hp=>by
  have hl:=hO.2.1.len
  have h2:2≤kids.length:=h2 (eY _)
  have hl:(kids.map ents).length=ks.length+1:=hl
  rw[aD]at hl
  refine⟨hO.1,hW.1,fun h=>(nomatch h),fun _=>⟨fun k hk=>?_,rfl,?_,?_,?_⟩⟩
  ·obtain⟨x,hx,rfl⟩:=aS.1 hk
   exact hp _ (.tail _ (bS.2 ⟨x,hx,zcj x⟩))
  ·show(kids.map pg).length=ks.length+1
   rw[aD];exact hl
  ·show 1≤ks.length;omega
  ·show(kids.map pg).length≤s.fan
   rw[aD];exact hm
variable{N h:Nat}{g:Sg}
theorem zfl(hs:1≤s.kw){t:T h}(hr:Rep g.W t)(hm:zf8 s (zaj t))(h1:1≤pg t)(h2:pg t<N):zfs s N g (pg t:Nat)= .ok (zaj t):=by
 unfold zfs
 rw[if_pos ⟨oQ,oQ⟩,cB,hr.at_,qin hs hm]
theorem zcv{at_:Nat}(hm:zf8 s n)(h1:1≤at_)(h2:at_<N):zb8 s N g at_ n= .ok { g with W:=wr g.W at_ (zcl n) }:=by
 unfold zb8
 rw[if_pos hm,if_pos ⟨h1,h2⟩]
theorem ze6(W:Nat→Bys)(i:Nat)(b:Bys):wr W i b i=b:=if_pos rfl
theorem zbe(W:Nat→Bys){i j:Nat}(b:Bys)(h:j≠i):wr W i b j=W j:=if_neg h
structure zlr (N:Nat) (g:Sg) {h:Nat} (L:List Nat) (r:Res h) (o:Except Nat ((K×Nat)×Sg)) (g':Sg):Prop where
 none:r.2.1=none→o= .ok (([],0),g')
 some:∀q d,r.2.1=some (q,d)→o= .ok ((q,pg d),g')∧Rep g'.W d∧1≤pg d
 rep:Rep g'.W r.1
 S:g'.S=r.2.2
 frame:∀x,x<N→x∉L→g.S x=true→g'.W x=g.W x
theorem zlm(hs:zwi s)(hN:N≤1024):∀{h:Nat} (t:T h) (g:Sg),Ord t→Wd s t→Below s t→sz t≤mx s h+mx s h/2→(1≤h→2≤sz t)→(∀x∈pgs t,1≤x∧x<N∧g.S x=true)→(pgs t).Nodup→(∃i,i<N∧g.S i=false)→g.S 0=true→(match h,t with|0,_=>True|_+1,t=>∀x∈t.2.2,Rep g.W x)→
  ∃g',zlr N g (pgs t) (zca s N g.S t) (zcc s N g (pg t) (zaj t)) g'
 |0,(p,es),g,hO,hW,hB,hm,_,hp,hnd,hfree,h0,_=>by
  obtain⟨hp1,hp2,hp3⟩:=hp p (.head _)
  change∃g',zlr N g [p] (zca s N g.S (zb0 p es)) (zcc s N g p (lNd (List.map (fun q:K×K=>q.1) es) (List.map (fun q:K×K=>q.2) es))) g'
  rw[znl]
  have hlen:(es.map (·.1)).length=es.length:=aD _
  have mk:∀l:E,Es l→(∀q∈l,q∈es)→l.length≤s.cap→zf8 s (lNd (l.map (·.1)) (l.map (·.2))):=fun l h1 h2 h3=>
   zcu (h:=0) (zb0 p l) h1 (fun q hq=>hW q (h2 q hq)) h3 (fun h=>oQ) (fun x hx=>by
    have e:x=p:=aN.1 hx
    rw[e];exact⟨hp1,oQ⟩)
  by_cases hc:es.length≤s.cap
  ·rw[if_pos hc]
   have hf:qbn s (lNd (es.map (·.1)) (es.map (·.2)))=true:=by
    unfold qbn lNd
    rw[if_pos rfl,hlen]
    exact decide_eq_true hc
   refine⟨⟨wr g.W p (zcl (lNd (es.map (·.1)) (es.map (·.2)))),g.S⟩,⟨fun _=>?_,fun q d h=>(nomatch h),?_,rfl,fun x _ hx _=>?_⟩⟩
   ·unfold zcc
    rw[if_pos hf,zcv (mk es hO (fun q hq=>hq) hc) hp1 hp2]
    rfl
   ·exact ze6 _ _ _
   ·exact zbe _ _ (fun e=>hx (by rw[e];exact gF))
  ·rw[if_neg hc]
   obtain⟨f1,f2,f3⟩:=zjr hfree
   have hm:es.length≤s.cap+s.cap/2:=hm
   have hcap:=hs.cap
   obtain⟨l1,l2⟩:=zus (a:=es.length) (m:=s.cap) oQ
   obtain⟨l3,l4⟩:=zur hm oQ
   have hq1:1≤nw N g.S:=by
    rcases fE (nw N g.S)with h|h
    ·rw[h,h0]at f1;cases f1
    ·exact h
   have hqp:nw N g.S≠p:=fun e=>by rw[e,hp3]at f1;cases f1
   have hf:qbn s (lNd (es.map (·.1)) (es.map (·.2)))=false:=by
    unfold qbn lNd
    rw[if_pos rfl,hlen]
    exact decide_eq_false hc
   have m1:=mk (es.drop (es.length/2)) (Es.drop (e:=es) hO _) (fun q hq=>cE hq) (by rw[aX];omega)
   have m2:=mk (es.take (es.length/2)) (Es.take (e:=es) hO _) (fun q hq=>bY hq) (by rw[aM];omega)
   refine⟨⟨wr (wr (wr g.W (nw N g.S) (List.replicate 512 0)) (nw N g.S) (zcl (zaj (zb0 p (es.drop (es.length/2)))))) p (zcl (zaj (zb0 p (es.take (es.length/2))))),us g.S (nw N g.S) true⟩,⟨fun h=>(nomatch h),fun q d hqd=>?_,?_,rfl,fun x _ hx hxS=>?_⟩⟩
   ·obtain⟨rfl,rfl⟩:=jU (cR hqd)
    refine⟨?_,?_,hq1⟩
    ·unfold zcc
     rw[if_neg (by rw[hf];decide)]
     unfold zh8
     rw[if_pos hfree]
     show(do
      let g2←zb8 s N _ (nw N g.S) (lNd ((List.map (fun q:K×K=>q.1) es).drop ((List.map (fun q:K×K=>q.1) es).length/2)) ((List.map (fun q:K×K=>q.2) es).drop ((List.map (fun q:K×K=>q.1) es).length/2)))
      let g3←zb8 s N g2 p (lNd ((List.map (fun q:K×K=>q.1) es).take ((List.map (fun q:K×K=>q.1) es).length/2)) ((List.map (fun q:K×K=>q.2) es).take ((List.map (fun q:K×K=>q.1) es).length/2)))
      return ((((List.map (fun q:K×K=>q.1) es).drop ((List.map (fun q:K×K=>q.1) es).length/2)).headD [],nw N g.S),g3))=_
     rw[hlen,←eL,←eL,←eM,←eM,zcv m1 hq1 f2]
     show(do
      let g3←zb8 s N _ p _
      return (_,g3))=_
     rw[zcv m2 hp1 hp2]
     rfl
    ·show wr _ _ _ (nw N g.S)=_
     rw[zbe _ _ hqp,ze6]
     rfl
   ·exact ze6 _ _ _
   ·show wr _ _ _ x=g.W x
    have hxq:x≠nw N g.S:=fun e=>by rw[e,f1]at hxS;cases hxS
    rw[zbe _ _ (fun e=>hx (by rw[e];exact gF)),zbe _ _ hxq,zbe _ _ hxq]
 |h+1,(p,ks,kids),g,hO,hW,hB,hm,h2k,hp,hnd,hfree,h0,hrep=>by
  obtain⟨hp1,hp2,hp3⟩:=hp p (.head _)
  have hrep:∀x∈kids,Rep g.W x:=hrep
  have h2k:2≤kids.length:=h2k (eY _)
  have hm:kids.length≤s.fan+s.fan/2:=hm
  obtain⟨nd1,nd2⟩:=cP.1 (show(p::kids.flatMap pgs).Nodup from hnd)
  have hkp:∀x∈kids,∀y∈pgs x,y≠p∧1≤y∧y<N∧g.S y=true:=fun x hx y hy=>by
   have hm:=bS.2 ⟨x,hx,hy⟩
   exact⟨fun e=>nd1 (e▸hm),hp y (.tail _ hm)⟩
  have hl:=hO.2.1.len
  have hl:(kids.map ents).length=ks.length+1:=hl
  rw[aD]at hl
  change∃g',zlr N g (pgs (zau p ks kids)) (zca s N g.S (zau p ks kids)) (zcc s N g p (iNd ks (kids.map pg))) g'
  rw[znm]
  have hlen:(kids.map pg).length=kids.length:=aD _
  by_cases hc:kids.length≤s.fan
  ·rw[if_pos hc]
   have hf:qbn s (iNd ks (kids.map pg))=true:=by
    unfold qbn iNd
    rw[if_neg bK,hlen]
    exact decide_eq_true hc
   have hmay:zf8 s (zaj (zau p ks kids)):=zcu (zau p ks kids) hO hW hc (fun _=>h2k) fun x hx=>⟨(hp x hx).1,by have:=(hp x hx).2.1;omega⟩
   refine⟨⟨wr g.W p (zcl (iNd ks (kids.map pg))),g.S⟩,⟨fun _=>?_,fun q d h=>(nomatch h),⟨ze6 _ _ _,fun x hx=>(hrep x hx).frame fun y hy=>zbe _ _ (hkp x hx y hy).1⟩,rfl,fun x _ hx _=>?_⟩⟩
   ·unfold zcc
    rw[if_pos hf,zcv (show zf8 s (iNd ks (kids.map pg))from hmay) hp1 hp2]
    rfl
   ·exact zbe _ _ (fun e=>hx (by rw[e];exact gF))
  ·rw[if_neg hc]
   obtain⟨f1,f2,f3⟩:=zjr hfree
   have hfan:=hs.fan
   obtain⟨l1,l2⟩:=zus (a:=kids.length) (m:=s.fan) oQ
   obtain⟨l3,l4⟩:=zur hm oQ
   have hq1:1≤nw N g.S:=by
    rcases fE (nw N g.S)with h|h
    ·rw[h,h0]at f1;cases f1
    ·exact h
   have hqn:∀y,g.S y=true→y≠nw N g.S:=fun y hy e=>by rw[e,f1]at hy;cases hy
   have hf:qbn s (iNd ks (kids.map pg))=false:=by
    unfold qbn iNd
    rw[if_neg bK,hlen]
    exact decide_eq_false hc
   obtain⟨c1,c2⟩:=hO.2.1.cut hO.1 (m:=kids.length/2) oQ (by show kids.length/2<(kids.map ents).length;rw[aD];omega)
   have c1:Sep (ks.take (kids.length/2 - 1)) ((kids.map ents).take (kids.length/2)):=c1
   have c2:Sep (ks.drop (kids.length/2)) ((kids.map ents).drop (kids.length/2)):=c2
   rw[←eM]at c1
   rw[←eL]at c2
   have m1:zf8 s (zaj (zau p (ks.drop (kids.length/2)) (kids.drop (kids.length/2)))):=zcu (zau p _ _) ⟨dM (fJ _ _) hO.1,c2,fun x hx=>hO.2.2 x (cE hx)⟩ ⟨fun k hk=>hW.1 k (cE hk),fun x hx=>hW.2 x (cE hx)⟩ (by show(kids.drop (kids.length/2)).length≤s.fan;rw[aX];omega) (fun _=>by show 2≤(kids.drop (kids.length/2)).length;rw[aX];omega) fun x hx=>by
    rcases aL.1 hx with rfl|hx
    ·exact⟨hp1,oQ⟩
    ·obtain⟨z,hz,hx⟩:=bS.1 hx
     have:=hkp z (cE hz) x hx
     exact⟨this.2.1,oQ⟩
   have m2:zf8 s (zaj (zau p (ks.take (kids.length/2 - 1)) (kids.take (kids.length/2)))):=zcu (zau p _ _) ⟨dM (fL _ _) hO.1,c1,fun x hx=>hO.2.2 x (bY hx)⟩ ⟨fun k hk=>hW.1 k (bY hk),fun x hx=>hW.2 x (bY hx)⟩ (by show(kids.take (kids.length/2)).length≤s.fan;rw[aM];omega) (fun _=>by show 2≤(kids.take (kids.length/2)).length;rw[aM];omega) fun x hx=>by
    rcases aL.1 hx with rfl|hx
    ·exact⟨hp1,oQ⟩
    ·obtain⟨z,hz,hx⟩:=bS.1 hx
     have:=hkp z (bY hz) x hx
     exact⟨this.2.1,oQ⟩
   have hkid:∀x∈kids,∀b0 b1 b2:Bys,Rep (wr (wr (wr g.W (nw N g.S) b0) (nw N g.S) b1) p b2) x:=fun x hx b0 b1 b2=>(hrep x hx).frame fun y hy=>by
    have:=hkp x hx y hy
    rw[zbe _ _ this.1,zbe _ _ (hqn y this.2.2.2),zbe _ _ (hqn y this.2.2.2)]
   refine⟨⟨wr (wr (wr g.W (nw N g.S) (List.replicate 512 0)) (nw N g.S) (zcl (iNd (ks.drop (kids.length/2)) ((kids.drop (kids.length/2)).map pg)))) p (zcl (iNd (ks.take (kids.length/2 - 1)) ((kids.take (kids.length/2)).map pg))),us g.S (nw N g.S) true⟩,⟨fun h=>(nomatch h),fun q d hqd=>?_,⟨ze6 _ _ _,fun x hx=>hkid x (bY hx) _ _ _⟩,rfl,fun x _ hx hxS=>?_⟩⟩
   ·obtain⟨rfl,rfl⟩:=jU (cR hqd)
    refine⟨?_,⟨?_,fun x hx=>hkid x (cE hx) _ _ _⟩,hq1⟩
    ·unfold zcc
     rw[if_neg (by rw[hf];decide)]
     unfold zh8
     rw[if_pos hfree]
     show(do
      let g2←zb8 s N _ (nw N g.S) (iNd (ks.drop ((kids.map pg).length/2)) ((kids.map pg).drop ((kids.map pg).length/2)))
      let g3←zb8 s N g2 p (iNd (ks.take ((kids.map pg).length/2 - 1)) ((kids.map pg).take ((kids.map pg).length/2)))
      return ((ks.getD ((kids.map pg).length/2 - 1) [],nw N g.S),g3))=_
     rw[hlen,←eL,←eM,zcv (show zf8 s (iNd (ks.drop (kids.length/2)) ((kids.drop (kids.length/2)).map pg))from m1) hq1 f2]
     show(do
      let g3←zb8 s N _ p _
      return (_,g3))=_
     rw[zcv (show zf8 s (iNd (ks.take (kids.length/2 - 1)) ((kids.take (kids.length/2)).map pg))from m2) hp1 hp2]
     rfl
    ·show wr _ _ _ (nw N g.S)=_
     rw[zbe _ _ (hqn p hp3).symm,ze6]
     rfl
   ·show wr _ _ _ x=g.W x
    have hxq:x≠nw N g.S:=hqn x hxS
    rw[zbe _ _ (fun e=>hx (by rw[e];exact gF)),zbe _ _ hxq,zbe _ _ hxq]
def qap(n:Nd)(key val:K):Nd:=if fd n.keys key then lNd n.keys (n.vals.set (lb n.keys key) val)else lNd (ins n.keys (lb n.keys key) key) (ins n.vals (lb n.keys key) val)
noncomputable section
def putF(s:Sh)(N:Nat)(key val:K):Nat→Sg→Int→Except Nat ((K×Nat)×Sg)
 |0,_,_=>.error 12
 |d+1,g,at_=>do
  let n←zfs s N g at_
  if n.leaf then zcc s N g at_.toNat (qap n key val)
  else do
   let (gr,g1)←putF s N key val d g (n.kids.getD (dn n.keys key) 0:Nat)
   if gr.2=0 then return (gr,g1)
   else zcc s N g1 at_.toNat (iNd (ins n.keys (dn n.keys key) gr.1) (ins n.kids (dn n.keys key+1) gr.2))
end
theorem qco(l:List α)(i:Nat)(x:α)(h:l[i]? =some x):l.set i x=l:=by
 obtain⟨h1,h2⟩:=aC.1 h
 rw[←h2];exact jJ h1
variable{es:E}
theorem qlb(hO:Es es)(p:Nat)(k v:K):qap (zaj (zb0 p es)) k v=zaj (zb0 p (zfx es k v)):=by
 have hr:=zyf (e:=es) (k:=k) hO
 show(if fd (keys es) k then lNd (keys es) ((List.map (fun q:K×K=>q.2) es).set (lb (keys es) k) v)else lNd (ins (keys es) (lb (keys es) k) k) (ins (List.map (fun q:K×K=>q.2) es) (lb (keys es) k) v))=lNd (List.map (fun q:K×K=>q.1) (zfx es k v)) (List.map (fun q:K×K=>q.2) (zfx es k v))
 cases hf:fd (keys es) k with
 |true=>
  obtain⟨w,a1, -,a3, -⟩:=hr.1 hf
  rw[if_pos rfl,a3,gO,gO]
  congr 1
  exact(qco (keys es) _ _ (by
   show(List.map (fun q:K×K=>q.1) es)[lb (keys es) k]? =some k
   rw[aO,a1];rfl)).symm
 |false=>
  obtain⟨-,a2, -⟩:=hr.2 hf
  rw[if_neg bK,a2,zp0,zp0]
  rfl
theorem zw5{kids:List (T h)}(hn:(kids.flatMap pgs).Nodup){i j:Nat}(hi:i<kids.length)(hj:j<kids.length)(hij:i≠j):∀y∈pgs kids[i],y∉pgs kids[j]:=by
 induction kids generalizing i j with
 |nil=>exact absurd hi (fQ _)
 |cons x l ih=>
  rw[aV,cN]at hn
  obtain⟨n1,n2,n3⟩:=hn
  intro y hy hy'
  cases i with
  |zero=>
   cases j with
   |zero=>exact hij rfl
   |succ j=>exact n3 y hy y (bS.2 ⟨_,aT (by simpa using hj),hy'⟩) rfl
  |succ i=>
   cases j with
   |zero=>exact n3 y hy' y (bS.2 ⟨_,aT (by simpa using hi),hy⟩) rfl
   |succ j=>exact ih n2 (by simpa using hi) (by simpa using hj) oQ y hy hy'
theorem qkg(h2:∀h,2≤mx s h){p:Nat}{ks:List K}{kids:List (T h)}(hO:Ord (zau p ks kids))(hW:Wd s (zau p ks kids))(hB:Below s (zau p ks kids)){k v:K}(hi:dn ks k<kids.length){c' d:T h}{q:K}{r:Res h}(hr:zk1 s kids[dn ks k] (zfx (ents kids[dn ks k]) k v) r)(h1:r.1=c')(h3:r.2.1=some (q,d)):
  Ord (zau p (ins ks (dn ks k) q) (ins (kids.set (dn ks k) c') (dn ks k+1) d))∧Wd s (zau p (ins ks (dn ks k) q) (ins (kids.set (dn ks k) c') (dn ks k+1) d))∧Below s (zau p (ins ks (dn ks k) q) (ins (kids.set (dn ks k) c') (dn ks k+1) d)):=by
 subst h1
 obtain⟨o1,o2,o3⟩:Ks ks∧Sep ks (kids.map ents)∧∀x∈kids,Ord x:=hO
 obtain⟨w1,w2⟩:(∀k∈ks,k.length=s.kw)∧∀x∈kids,Wd s x:=hW
 have hB:∀x∈kids,mx s h/2≤sz x∧sz x≤mx s h∧Below s x:=hB
 have hbd:=o2.bd o1 (i:=dn ks k) (by rw[aD];exact hi)
 rw[cS]at hbd
 have hbp:=qqf o1 (v:=v) hbd
 obtain⟨n1,n2,n3,n4,n5,n6,n7,n8,n9,n10,n11,n12,n13,n14⟩:=hr.some q d h3
 have hh:=h2 h
 have ne1:=zjp s h2 r.1 n13 oQ
 have ne2:=zjp s h2 d n14 oQ
 obtain⟨x1,hx1⟩:=dD _ ne1
 obtain⟨x2,hx2⟩:=dD _ ne2
 have b1:Bd ks (dn ks k) (ents r.1):=hbp.sub fun p hp=>by rw[←n1];exact aP _ hp
 have b2:Bd ks (dn ks k) (ents d):=hbp.sub fun p hp=>by rw[←n1];exact aU _ hp
 obtain⟨i1,i2⟩:=o2.ins o1 (i:=dn ks k) (by rw[aD];exact hi) b1 b2 n7 n8 (fun j hj hij=>zd5 (b1.2 j hj hij x1 hx1) (n7 x1 hx1)) fun j hj hij=>zd5 (n8 x2 hx2) (b2.1 j hj hij x2 hx2)
 refine⟨⟨i1,?_,fun x hx=>?_⟩,⟨fun x hx=>?_,fun x hx=>?_⟩,fun x hx=>?_⟩
 ·show Sep _ ((ins (kids.set (dn ks k) r.1) (dn ks k+1) d).map ents)
  rw[zp0,map_set']
  exact i2
 ·rcases zf2 hx with rfl|hx
  ·exact n3
  ·rcases cF hx with hx|rfl
   ·exact o3 x hx
   ·exact n2
 ·rcases zf2 hx with rfl|hx
  ·exact n6
  ·exact w1 x hx
 ·rcases zf2 hx with rfl|hx
  ·exact n5
  ·rcases cF hx with hx|rfl
   ·exact w2 x hx
   ·exact n4
 ·rcases zf2 hx with rfl|hx
  ·exact⟨n11,n12,n14⟩
  ·rcases cF hx with hx|rfl
   ·exact hB x hx
   ·exact⟨n9,n10,n13⟩
theorem zm1(kids:List (T h)){i:Nat}(hi:i<kids.length)(c':T h)(he:pg c'=pg kids[i]):(kids.set i c').map pg=kids.map pg:=by
 rw[map_set',he]
 exact qco _ _ _ (by rw[aO,aB hi];rfl)
theorem qcf{s:Sh}(hs:zwi s){N:Nat}(hN:N≤1024)(k v:K)(hk:k.length=s.kw)(hv:v.length=s.vw):∀{h:Nat} (t:T h) (d:Nat) (g:Sg) (L:List Nat),h<d→Ord t→Wd s t→Below s t→sz t≤mx s h→(1≤h→2≤sz t)→Rep g.W t→(pgs t).Nodup→(∀x∈pgs t,x∈L)→Acc N g.S L→L.length+h+2<N→
  ∃g',zlr N g (pgs t) (zok s N t k v g.S) (putF s N k v d g (pg t:Nat)) g'
 |0,(p,es),d+1,g,L,_,hO,hW,hB,hm,h2k,hrep,hnd,hsub,hA,hroom=>by
  have hO:Es es:=hO
  have hcap:=hs.cap
  have hm:es.length≤s.cap:=hm
  have hpL:p∈L:=hsub p (.head _)
  obtain⟨hp1,hp2⟩:=hA.low p hpL
  have h0:g.S 0=true:=(hA.is 0 oQ).2 (.inl rfl)
  have hpS:g.S p=true:=(hA.is p hp2).2 (.inr hpL)
  have hmay:zf8 s (zaj (zb0 p es)):=zcu (zb0 p es) hO hW hm (fun h=>oQ) fun x hx=>by rw[aN.1 hx];exact⟨hp1,aY hp2 hN⟩
  have hload:zfs s N g (p:Nat)= .ok (zaj (zb0 p es)):=zfl (t:=zb0 p es) hs.kw hrep hmay hp1 hp2
  have hl:=zvs es k v
  obtain⟨f1,f2,f3,f4,f5⟩:=hA.free oQ
  obtain⟨g',hg⟩:=zlm hs hN (zb0 p (zfx es k v)) g (zvr (e:=es) hO) (fun q hq=>by
   rcases zkm hq with rfl|hq
   ·exact⟨hk,hv⟩
   ·exact hW q hq) trivial (by show(zfx es k v).length≤s.cap+s.cap/2;omega) (fun h=>oQ) (fun x hx=>by rw[aN.1 hx];exact⟨hp1,hp2,hpS⟩) (eB _ _) ⟨_,f2,f1⟩ h0 trivial
  refine⟨g',?_⟩
  have e:putF s N k v (d+1) g (p:Nat)=zcc s N g p (zaj (zb0 p (zfx es k v))):=by
   rw[putF,hload]
   show(if (zaj (zb0 p es)).leaf=true then zcc s N g ((p:Nat):Int).toNat (qap (zaj (zb0 p es)) k v)else(do
    let (gr,g1)←putF s N k v d g ((zaj (zb0 p es)).kids.getD (dn (zaj (zb0 p es)).keys k) 0:Nat)
    if gr.2=0 then return (gr,g1)
    else zcc s N g1 ((p:Nat):Int).toNat (iNd (ins (zaj (zb0 p es)).keys (dn (zaj (zb0 p es)).keys k) gr.1) (ins (zaj (zb0 p es)).kids (dn (zaj (zb0 p es)).keys k+1) gr.2))))=_
   rw[if_pos (show(zaj (zb0 p es)).leaf=true from rfl),qlb hO,cB]
  show zlr N g [p] (zca s N g.S (zb0 p (zfx es k v))) (putF s N k v (d+1) g (p:Nat)) g'
  rw[e]
  exact hg
 |h+1,(p,ks,kids),d+1,g,L,hd,hO,hW,hB,hm,h2k,hrep,hnd,hsub,hA,hroom=>by
  have hpL:p∈L:=hsub p (.head _)
  obtain⟨hp1,hp2⟩:=hA.low p hpL
  have h0:g.S 0=true:=(hA.is 0 oQ).2 (.inl rfl)
  have hpS:g.S p=true:=(hA.is p hp2).2 (.inr hpL)
  have h2k':2≤kids.length:=h2k (eY _)
  have hm':kids.length≤s.fan:=hm
  have hfan:=hs.fan
  obtain⟨nd1,nd2⟩:=cP.1 (show(p::kids.flatMap pgs).Nodup from hnd)
  have hl:(kids.map ents).length=ks.length+1:=hO.2.1.len
  rw[aD]at hl
  have hi:dn ks k<kids.length:=by have:=zoh ks k;omega
  have hc:kids[dn ks k]? =some kids[dn ks k]:=aB hi
  have hcm:=aT hi
  have hB':∀x∈kids,mx s h/2≤sz x∧sz x≤mx s h∧Below s x:=hB
  have hrep':∀x∈kids,Rep g.W x:=hrep.2
  have hin:∀x∈kids,∀y∈pgs x,y∈kids.flatMap pgs:=fun x hx y hy=>bS.2 ⟨x,hx,hy⟩
  have hmay:zf8 s (zaj (zau p ks kids)):=zcu (zau p ks kids) hO hW hm h2k fun x hx=>by
   have:=hA.low x (hsub x hx)
   exact⟨this.1,oQ⟩
  have hload:zfs s N g (p:Nat)= .ok (zaj (zau p ks kids)):=zfl (t:=zau p ks kids) hs.kw hrep hmay hp1 hp2
  have hcnd:(pgs kids[dn ks k]).Nodup:=by
   have:=nd2
   rw[zob kids hi,bB,aV,cN]at this
   exact(cN.1 this.2.1).1
  obtain⟨g1,hg1⟩:=qcf hs hN k v hk hv kids[dn ks k] d g L oQ (hO.2.2 _ hcm) (hW.2 _ hcm) (hB' _ hcm).2.2 (hB' _ hcm).2.1 (fun h1=>by
   have:=(hB' _ hcm).1
   cases h with
   |zero=>omega
   |succ h=>have e:mx s (h+1)=s.fan:=rfl;omega) (hrep' _ hcm) hcnd (fun x hx=>hsub x (.tail _ (hin _ hcm x hx))) hA oQ
  obtain⟨hok, -⟩:=zta s N hs.h2 k v hk hv kids[dn ks k] g.S (hO.2.2 _ hcm) (hW.2 _ hcm) (hB' _ hcm).2.2 (hB' _ hcm).2.1
  obtain⟨N1,f1,p1,a1⟩:=qcg s N k v kids[dn ks k] g.S (fun _=>trivial)
  have hA1:=a1 L oQ hA
  have hput:zok s N (zau p ks kids) k v g.S=match zok s N kids[dn ks k] k v g.S with
   |(c',none,S')=>(zau p ks (kids.set (dn ks k) c'),none,S')
   |(c',some (q,d),S')=>zca s N S' (zau p (ins ks (dn ks k) q) (ins (kids.set (dn ks k) c') (dn ks k+1) d)):=by
   simp only[zok,zau,hc]
   rfl
  have hkd:(zaj (zau p ks kids)).kids.getD (dn ks k) 0=pg kids[dn ks k]:=by
   show(kids.map pg).getD (dn ks k) 0=_
   rw[aE,aO,hc];rfl
  have hF:putF s N k v (d+1) g (p:Nat)=(do
    let (gr,g1)←putF s N k v d g (pg kids[dn ks k]:Nat)
    if gr.2=0 then return (gr,g1)
    else zcc s N g1 p (iNd (ins ks (dn ks k) gr.1) (ins (kids.map pg) (dn ks k+1) gr.2))):=by
   rw[putF,hload,←hkd]
   rfl
  show∃g',zlr N g (pgs (zau p ks kids)) (zok s N (zau p ks kids) k v g.S) (putF s N k v (d+1) g (p:Nat)) g'
  rw[hput,hF]
  obtain⟨⟨c',go,S'⟩,hr⟩:∃r,zok s N kids[dn ks k] k v g.S=r:=⟨_,rfl⟩
  rw[hr]at hg1 hok p1 hA1⊢
  have hpc:pg c'=pg kids[dn ks k]:=hok.page
  have hg1S:g1.S=S':=hg1.S
  have hg1r:Rep g1.W c':=hg1.rep
  -- the other children lie as they lay
  have hother:∀x∈kids.set (dn ks k) c',Rep g1.W x:=fun x hx=>by
   obtain⟨j,hj,rfl⟩:=bL hx
   rw[bE]at hj
   rw[gW]
   split
   ·exact hg1r
   ·rename_i hne
    refine(hrep' _ (aT hj)).frame fun y hy=>?_
    have hyL:=hsub y (.tail _ (hin _ (aT hj) y hy))
    exact hg1.frame y (hA.low y hyL).2 (zw5 nd2 hj hi (fun e=>hne e.symm) y hy) ((hA.is y (hA.low y hyL).2).2 (.inr hyL))
  have hfr:∀x,x<N→x∉pgs (zau p ks kids)→g.S x=true→g1.W x=g.W x:=fun x hx hxp hxS=>hg1.frame x hx (fun h=>hxp (.tail _ (hin _ hcm x h))) hxS
  cases go with
  |none=>
   have ho:=hg1.none rfl
   rw[ho]
   refine⟨g1,fun _=>rfl,fun q d h=>(nomatch h),⟨?_,hother⟩,hg1S,hfr⟩
   show g1.W p=zcl (iNd ks ((kids.set (dn ks k) c').map pg))
   rw[zm1 kids hi c' hpc,hg1.frame p hp2 (fun h=>nd1 (hin _ hcm p h)) hpS]
   exact hrep.1
  |some go=>
   obtain⟨q,dd⟩:=go
   obtain⟨ho,hrd,hd1⟩:=hg1.some q dd rfl
   rw[ho]
   have hne:¬(pg dd=0):=oQ
   show∃g',zlr N g (pgs (zau p ks kids)) _ (if pg dd=0 then _ else zcc s N g1 p (iNd (ins ks (dn ks k) q) (ins (kids.map pg) (dn ks k+1) (pg dd)))) g'
   rw[if_neg hne]
   obtain⟨i1,i2,i3⟩:=qkg hs.h2 (p:=p) hO hW hB (k:=k) (v:=v) hi hok rfl rfl
   have p1:(pgs c'++pgs dd).Perm (N1++pgs kids[dn ks k]):=p1
   have hperm:(pgs (zau p (ins ks (dn ks k) q) (ins (kids.set (dn ks k) c') (dn ks k+1) dd))).Perm (N1++pgs (zau p ks kids)):=by
    show(p::(ins (kids.set (dn ks k) c') (dn ks k+1) dd).flatMap pgs).Perm (N1++p::kids.flatMap pgs)
    refine(List.Perm.cons _ ?_).trans bM.symm
    refine(zl1 _ _ _).trans ?_
    have e1:kids.flatMap pgs=(kids.take (dn ks k)).flatMap pgs++(pgs kids[dn ks k]++(kids.drop (dn ks k+1)).flatMap pgs):=by
     conv=>lhs;rw[zob kids hi]
     rw[bB,aV]
    have e2:(kids.set (dn ks k) c').flatMap pgs=(kids.take (dn ks k)).flatMap pgs++(pgs c'++(kids.drop (dn ks k+1)).flatMap pgs):=by
     conv=>lhs;rw[zob (kids.set (dn ks k) c') (j:=dn ks k) (by rw[bE];exact hi)]
     rw[bB,aV,dN,eP oQ,dO oQ]
    rw[e1,e2]
    have hp2:(pgs dd++pgs c').Perm (N1++pgs kids[dn ks k]):=cW.trans p1
    generalize (kids.take (dn ks k)).flatMap pgs=A
    generalize (kids.drop (dn ks k+1)).flatMap pgs=B
    refine(bV _ _ _).trans ?_
    refine List.Perm.trans ?_ (bV _ _ _)
    refine cU _ ?_
    rw[←aG,←aG]
    exact cM _ hp2
   have hA1:Acc N g1.S (N1++L):=by rw[hg1S];exact hA1
   have hN1:=cN.1 hA1.nodup
   have hin2:∀x∈pgs (zau p (ins ks (dn ks k) q) (ins (kids.set (dn ks k) c') (dn ks k+1) dd)),x∈N1++L:=fun x hx=>by
    rcases aR.1 (hperm.mem_iff.1 hx)with h|h
    ·exact aP _ h
    ·exact aU _ (hsub x h)
   have hnd2:(pgs (zau p (ins ks (dn ks k) q) (ins (kids.set (dn ks k) c') (dn ks k+1) dd))).Nodup:=hperm.nodup_iff.2 (cN.2 ⟨hN1.1,hnd,fun a ha b hb=>hN1.2.2 a ha b (hsub b hb)⟩)
   obtain⟨r1,r2,r3,r4,r5⟩:=hA1.free (by rw[aA];omega)
   obtain⟨g2,hg2⟩:=zlm hs hN (zau p (ins ks (dn ks k) q) (ins (kids.set (dn ks k) c') (dn ks k+1) dd)) g1 i1 i2 i3 (by
    show(ins (kids.set (dn ks k) c') (dn ks k+1) dd).length≤s.fan+s.fan/2
    rw[zf1,bE];omega) (fun _=>by
    show 2≤(ins (kids.set (dn ks k) c') (dn ks k+1) dd).length
    rw[zf1,bE];omega) (fun x hx=>by
    have:=hA1.low x (hin2 x hx)
    exact⟨this.1,this.2,(hA1.is x this.2).2 (.inr (hin2 x hx))⟩) hnd2 ⟨_,r2,r1⟩ ((hA1.is 0 oQ).2 (.inl rfl)) (fun x hx=>by
    rcases zf2 hx with rfl|hx
    ·exact hrd
    ·exact hother x hx)
   have hnode:zaj (zau p (ins ks (dn ks k) q) (ins (kids.set (dn ks k) c') (dn ks k+1) dd))=iNd (ins ks (dn ks k) q) (ins (kids.map pg) (dn ks k+1) (pg dd)):=by
    show iNd (ins ks (dn ks k) q) ((ins (kids.set (dn ks k) c') (dn ks k+1) dd).map pg)=_
    rw[zp0,zm1 kids hi c' hpc]
   rw[hnode]at hg2
   refine⟨g2,?_⟩
   have hg2:zlr N g1 (pgs (zau p (ins ks (dn ks k) q) (ins (kids.set (dn ks k) c') (dn ks k+1) dd))) (zca s N S' (zau p (ins ks (dn ks k) q) (ins (kids.set (dn ks k) c') (dn ks k+1) dd))) (zcc s N g1 p (iNd (ins ks (dn ks k) q) (ins (kids.map pg) (dn ks k+1) (pg dd)))) g2:=by rw[←hg1S];exact hg2
   refine⟨hg2.none,hg2.some,hg2.rep,hg2.S,fun x hx hxp hxS=>?_⟩
   have hxL:x=0∨x∈L:=(hA.is x hx).1 hxS
   rw[hg2.frame x hx (fun h=>?_) ((hA1.is x hx).2 (hxL.imp id fun h=>aU _ h)),hfr x hx hxp hxS]
   rcases aR.1 (hperm.mem_iff.1 h)with h|h
   ·rcases hxL with rfl|hxL
    ·have:=(hA1.low 0 (aP _ h)).1
     omega
    ·exact hN1.2.2 x h x hxL rfl
   ·exact hxp h
def zqj(s:Sh)(n:Nd):Bool:=if n.leaf then decide (n.keys.length<s.cap/2)else decide (n.kids.length<s.fan/2)
def zcq(a b:Nd)(key:K):Nd:=if a.leaf then lNd (a.keys++b.keys) (a.vals++b.vals)else iNd (a.keys++key::b.keys) (a.kids++b.kids)
def zv7(s:Sh)(n:Nd):Bool:=(n.leaf&&decide (s.cap<n.keys.length))||decide (s.fan<n.kids.length)
noncomputable section
def zhg(s:Sh)(N:Nat)(g:Sg)(n:Nd)(i:Nat):Except Nat (Nd×Sg):=do
 let x←zfs s N g (n.kids.getD (i - 1) 0:Nat)
 let y←zfs s N g (n.kids.getD (i - 1+1) 0:Nat)
 if x.leaf≠y.leaf then .error 12
 else if zv7 s (zcq x y (n.keys.getD (i - 1) []))then do
  let g1←zf0 N g (n.kids.getD (i - 1+1) 0)
  let (gr,g2)←zcc s N g1 (n.kids.getD (i - 1) 0) (zcq x y (n.keys.getD (i - 1) []))
  return (iNd (n.keys.set (i - 1) gr.1) (n.kids.set (i - 1+1) gr.2),g2)
 else do
  let g1←zf0 N g (n.kids.getD (i - 1+1) 0)
  let g2←zb8 s N g1 (n.kids.getD (i - 1) 0) (zcq x y (n.keys.getD (i - 1) []))
  return (iNd (n.keys.eraseIdx (i - 1)) (n.kids.eraseIdx (i - 1+1)),g2)
def zd8(s:Sh)(N:Nat)(key:K):Nat→Sg→Int→Except Nat ((Nd×Bool)×Sg)
 |0,_,_=>.error 12
 |d+1,g,at_=>do
  let n←zfs s N g at_
  if n.leaf then
   if fd n.keys key then return ((lNd (n.keys.eraseIdx (lb n.keys key)) (n.vals.eraseIdx (lb n.keys key)),true),g)
   else return ((n,false),g)
  else do
   let (r,g1)←zd8 s N key d g (n.kids.getD (dn n.keys key) 0:Nat)
   if r.2 then do
    let g2←zb8 s N g1 (n.kids.getD (dn n.keys key) 0) r.1
    if zqj s r.1 then do
     let (n',g3)←zhg s N g2 n (dn n.keys key)
     return ((n',true),g3)
    else return ((n,true),g2)
   else return ((n,false),g1)
end
def qbb(W:Nat→Bys):{h:Nat}→T h→Prop
 |0,_=>True
 |_+1,t=>∀x∈t.2.2,Rep W x
theorem Rep.kids:∀{h:Nat} {t:T h},Rep W t→qbb W t
 |0,_,_=>trivial
 |_+1,_,h=>h.2
theorem Rep.mk':∀{h:Nat} {t:T h},W (pg t)=zcl (zaj t)→qbb W t→Rep W t
 |0,_,h,_=>h
 |_+1,_,h,k=>⟨h,k⟩
theorem qbb.frame{W W':Nat→Bys}:∀{h:Nat} {t:T h},qbb W t→(∀x∈pgs t,x≠pg t→W' x=W x)→(pgs t).Nodup→qbb W' t
 |0,_,_,_,_=>trivial
 |h+1,(p,ks,kids),hr,hf,hn=>fun x hx=>by
  obtain⟨n1, -⟩:=cP.1 (show(p::kids.flatMap pgs).Nodup from hn)
  have hr:∀x∈kids,Rep W x:=hr
  refine(hr x hx).frame fun y hy=>?_
  have hm:=bS.2 ⟨x,hx,hy⟩
  exact hf y (.tail _ hm) (fun e=>n1 (by rw[←show y=p from e];exact hm))
theorem zxw:∀{h:Nat} (t:T h),(zaj t).leaf=decide (h=0)
 |0,_=>rfl
 |_+1,_=>rfl
theorem zz5:∀{h:Nat} (a b:T h) (q:K),zcq (zaj a) (zaj b) q=zaj (zc2 a b q)
 |0,(_,ea),(_,eb),_=>by
  show lNd (List.map (fun q:K×K=>q.1) ea++List.map (fun q:K×K=>q.1) eb) (List.map (fun q:K×K=>q.2) ea++List.map (fun q:K×K=>q.2) eb)=lNd (List.map (fun q:K×K=>q.1) (ea++eb)) (List.map (fun q:K×K=>q.2) (ea++eb))
  rw[cC,cC]
 |_+1,(_,ka,xa),(_,kb,xb),q=>by
  show iNd (ka++q::kb) (xa.map pg++xb.map pg)=iNd (ka++q::kb) ((xa++xb).map pg)
  rw[cC]
theorem qi0(s:Sh):∀{h:Nat} (t:T h),zv7 s (zaj t)=decide (mx s h<sz t)
 |0,(_,es)=>by
  show(true&&decide (s.cap<(List.map (fun q:K×K=>q.1) es).length)||decide (s.fan<0))=decide (s.cap<es.length)
  rw[aD,gC,decide_eq_false (fQ _),Bool.or_false]
 |_+1,(_,ks,kids)=>by
  show(false&&_||decide (s.fan<(kids.map pg).length))=decide (s.fan<kids.length)
  rw[aD,eH,gS]
theorem qhv(s:Sh):∀{h:Nat} (t:T h),zqj s (zaj t)=decide (sz t<mx s h/2)
 |0,(_,es)=>by
  show decide ((List.map (fun q:K×K=>q.1) es).length<s.cap/2)=decide (es.length<s.cap/2)
  rw[aD]
 |_+1,(_,ks,kids)=>by
  show decide ((kids.map pg).length<s.fan/2)=decide (kids.length<s.fan/2)
  rw[aD]
theorem qgq:∀{h:Nat} (a b:T h) (q:K),qbb W a→qbb W b→qbb W (zc2 a b q)
 |0,_,_,_,_,_=>trivial
 |_+1,(_,_,_),(_,_,_),_,ha,hb=>fun x hx=>(aR.1 hx).elim (ha x) (hb x)
theorem qdq:∀{h:Nat} (t:T h),qbb W t→(match h,t with|0,_=>True|_+1,t=>∀x∈t.2.2,Rep W x)
 |0,_,_=>trivial
 |_+1,_,h=>h
theorem qf6(X:List Nat)(a:Nat)(Y:List Nat):(X++a::Y).getD X.length 0=a:=by
 rw[aE,zwm];rfl
theorem qdl(X:List Nat)(a b:Nat)(Y:List Nat):(X++a::b::Y).getD (X.length+1) 0=b:=by
 rw[aE,zt0];rfl
variable{q0:K}
theorem qoi(s:Sh)(n:Nat)(S:Nat→Bool)(p:Nat){P R:List K}{X Y:List (T h)}{a b:T h}(hl:X.length=P.length)(i:Nat)(hi:i - 1=X.length):zht s n S p (P++q0::R) (X++a::b::Y) i=
   if mx s h<sz a+sz b then
    match zca s n (us S (pg b) false) (zc2 a b q0)with
    |(l,some (q,d),S')=>(zau p (P++q::R) (X++l::d::Y),S')
    |(_,none,S')=>(zau p (P++q0::R) (X++a::b::Y),S')
   else(zau p (P++R) (X++zc2 a b q0::Y),us S (pg b) false):=by
 have e1:∀l,(X++a::b::Y).set X.length l=X++l::b::Y:=fun l=>znk X a l (b::Y)
 have e2:∀l d,(X++l::b::Y).set (X.length+1) d=X++l::d::Y:=fun l d=>zo0 X l b d Y
 have e3:∀q,(P++q0::R).set X.length q=P++q::R:=fun q=>by rw[hl];exact znk P q0 q R
 have e4:(P++q0::R).eraseIdx X.length=P++R:=by rw[hl];exact qbk P q0 R
 have e5:(P++q0::R).getD X.length []=q0:=by rw[hl];exact zuo P q0 R
 have e6:∀l,(X++l::b::Y).eraseIdx (X.length+1)=X++l::Y:=fun l=>zue X l b Y
 unfold zht
 rw[hi,zwm,zt0]
 simp only[e1,e2,e3,e4,e5,e6,zg5]
 rfl
theorem qen(s:Sh)(n:Nat):∀{h:Nat} (t:T h) (S:Nat→Bool),(zca s n S t).2.1=none→sz t≤mx s h
 |0,(tp,te),S,hn=>by
  change (zca s n S (zb0 tp te)).2.1=none at hn
  rw[znl]at hn
  split at hn
  ·rename_i hc;exact hc
  ·cases hn
 |h+1,(tp,tk,tc),S,hn=>by
  change (zca s n S (zau tp tk tc)).2.1=none at hn
  rw[znm]at hn
  split at hn
  ·rename_i hc;exact hc
  ·cases hn
theorem qdx(hs:zwi s)(hN:N≤1024){p:Nat}{P R:List K}{X Y:List (T h)}{a b:T h}(hl:X.length=P.length)(g:Sg)(oa:Ord a)(ob:Ord b)(wa:Wd s a)(wb:Wd s b)(hq:q0.length=s.kw)(ba:Below s a)(bb:Below s b)(la:zfo (ents a) q0)(gb:zg1 (ents b) q0)
  (sa:sz a≤mx s h) (sb:sz b≤mx s h) (ta:1≤h→2≤sz a) (tb:1≤h→2≤sz b) (hab:sz a+sz b≤mx s h+mx s h/2) (hr:∀x∈X++a::b::Y,Rep g.W x) (hnd:((X++a::b::Y).flatMap pgs).Nodup) (hp:∀x∈(X++a::b::Y).flatMap pgs,1≤x∧x<N∧g.S x=true) (h0:g.S 0=true) (i:Nat) (hi:i - 1=X.length):
  ∃g',zhg s N g (iNd (P++q0::R) ((X++a::b::Y).map pg)) i= .ok (zaj (zht s N g.S p (P++q0::R) (X++a::b::Y) i).1,g')∧qbb g'.W (zht s N g.S p (P++q0::R) (X++a::b::Y) i).1∧g'.S=(zht s N g.S p (P++q0::R) (X++a::b::Y) i).2∧
   ∀x,x<N→x∉(X++a::b::Y).flatMap pgs→g.S x=true→g'.W x=g.W x:=by
 have hma:a∈X++a::b::Y:=aU _ (.head _)
 have hmb:b∈X++a::b::Y:=aU _ (.tail _ (.head _))
 have hin:∀x∈X++a::b::Y,∀y∈pgs x,y∈(X++a::b::Y).flatMap pgs:=fun x hx y hy=>bS.2 ⟨x,hx,hy⟩
 have hlow:∀x∈X++a::b::Y,∀y∈pgs x,1≤y∧y<1024:=fun x hx y hy=>by
  have:=hp y (hin x hx y hy)
  exact⟨this.1,oQ⟩
 obtain⟨hpa1,hpa2,hpa3⟩:=hp (pg a) (hin a hma _ (zcj a))
 obtain⟨hpb1,hpb2,hpb3⟩:=hp (pg b) (hin b hmb _ (zcj b))
 have loadA:zfs s N g (pg a:Nat)= .ok (zaj a):=zfl hs.kw (hr a hma) (zcu a oa wa sa ta (hlow a hma)) hpa1 hpa2
 have loadB:zfs s N g (pg b:Nat)= .ok (zaj b):=zfl hs.kw (hr b hmb) (zcu b ob wb sb tb (hlow b hmb)) hpb1 hpb2
 have hmap:(X++a::b::Y).map pg=X.map pg++pg a::pg b::Y.map pg:=by rw[cC,bG,bG]
 have hXl:(X.map pg).length=i - 1:=by rw[aD,hi]
 have k1:(iNd (P++q0::R) ((X++a::b::Y).map pg)).kids.getD (i - 1) 0=pg a:=by
  show((X++a::b::Y).map pg).getD (i - 1) 0=_
  rw[hmap,←hXl,qf6]
 have k2:(iNd (P++q0::R) ((X++a::b::Y).map pg)).kids.getD (i - 1+1) 0=pg b:=by
  show((X++a::b::Y).map pg).getD (i - 1+1) 0=_
  rw[hmap,←hXl,qdl]
 have k3:(iNd (P++q0::R) ((X++a::b::Y).map pg)).keys.getD (i - 1) []=q0:=by
  show(P++q0::R).getD (i - 1) []=_
  rw[hi,hl,zuo]
 -- the pages are apart
 have hperm:((X++a::b::Y).flatMap pgs).Perm (pg b::(pgs (zc2 a b q0)++(X.flatMap pgs++Y.flatMap pgs))):=by
  rw[bB,aV,aV]
  refine List.Perm.trans (l₂:=(pgs a++pgs b)++(X.flatMap pgs++Y.flatMap pgs)) ?_ ?_
  ·rw[aG]
   refine(bV _ _ _).trans (cU _ ?_)
   exact bV _ _ _
  ·rw[←aF]
   exact cM _ (qbx a b q0)
 have hnd':=hperm.nodup_iff.1 hnd
 obtain⟨d1,d2⟩:=cP.1 hnd'
 obtain⟨d3,d4,d5⟩:=cN.1 d2
 have hjin:∀x∈pgs (zc2 a b q0),x∈(X++a::b::Y).flatMap pgs:=fun x hx=>hperm.mem_iff.2 (.tail _ (aP _ hx))
 have hjp:∀x∈pgs (zc2 a b q0),1≤x∧x<N∧us g.S (pg b) false x=true:=fun x hx=>by
  have h1:=hp x (hjin x hx)
  refine⟨h1.1,h1.2.1,?_⟩
  unfold us
  rw[if_neg (fun e=>d1 (by rw[←e];exact aP _ hx))]
  exact h1.2.2
 have hO:=qbw s hs.h2 a b q0 oa ob ba bb la gb
 have hW:=qgr s a b q0 wa wb hq
 have hB:=zsp s a b q0 ba bb
 have hT:1≤h→2≤sz (zc2 a b q0):=fun h1=>by rw[zg5];have:=ta h1;omega
 have hK:=qgq a b q0 (hr a hma).kids (hr b hmb).kids
 have hoth:∀x,(x∈X∨x∈Y)→∀y∈pgs x,y<N∧y∉pgs (zc2 a b q0)∧us g.S (pg b) false y=true∧y≠pg a:=fun x hx y hy=>by
  have hyXY:y∈X.flatMap pgs++Y.flatMap pgs:=by
   rcases hx with hx|hx
   ·exact aP _ (bS.2 ⟨x,hx,hy⟩)
   ·exact aU _ (bS.2 ⟨x,hx,hy⟩)
  have hyin:y∈(X++a::b::Y).flatMap pgs:=hperm.mem_iff.2 (.tail _ (aU _ hyXY))
  have hnj:y∉pgs (zc2 a b q0):=fun h=>d5 y h y hyXY rfl
  refine⟨(hp y hyin).2.1,hnj,?_,fun e=>hnj ?_⟩
  ·unfold us
   rw[if_neg (fun e=>d1 (by rw[←e];exact aU _ hyXY))]
   exact(hp y hyin).2.2
  ·rw[e,←zmy a b q0];exact zcj _
 have hrX:∀x,(x∈X∨x∈Y)→Rep g.W x:=fun x hx=>hr x (hx.elim (fun h=>aP _ h) fun h=>aU _ (.tail _ (.tail _ h)))
 have hdrop:zf0 N g (pg b)= .ok { g with S:=us g.S (pg b) false }:=by
  unfold zf0
  rw[if_pos ⟨hpb1,hpb2,hpb3⟩]
 have hlf:¬((zaj a).leaf≠(zaj b).leaf):=by rw[zxw,zxw];exact fun h=>h rfl
 have hF:zhg s N g (iNd (P++q0::R) ((X++a::b::Y).map pg)) i=
   if mx s h<sz a+sz b then(do
    let (gr,g2)←zcc s N { g with S:=us g.S (pg b) false } (pg a) (zaj (zc2 a b q0))
    return (iNd ((P++q0::R).set (i - 1) gr.1) (((X++a::b::Y).map pg).set (i - 1+1) gr.2),g2))
   else(do
    let g2←zb8 s N { g with S:=us g.S (pg b) false } (pg a) (zaj (zc2 a b q0))
    return (iNd ((P++q0::R).eraseIdx (i - 1)) (((X++a::b::Y).map pg).eraseIdx (i - 1+1)),g2)):=by
  unfold zhg
  rw[k1,k2,k3,loadA]
  show(do
   let y←zfs s N g (pg b:Nat)
   if (zaj a).leaf≠y.leaf then Except.error 12
   else if zv7 s (zcq (zaj a) y q0)then do
    let g1←zf0 N g (pg b)
    let (gr,g2)←zcc s N g1 (pg a) (zcq (zaj a) y q0)
    return (iNd ((P++q0::R).set (i - 1) gr.1) (((X++a::b::Y).map pg).set (i - 1+1) gr.2),g2)
   else do
    let g1←zf0 N g (pg b)
    let g2←zb8 s N g1 (pg a) (zcq (zaj a) y q0)
    return (iNd ((P++q0::R).eraseIdx (i - 1)) (((X++a::b::Y).map pg).eraseIdx (i - 1+1)),g2))=_
  rw[loadB]
  show(if (zaj a).leaf≠(zaj b).leaf then Except.error 12
   else if zv7 s (zcq (zaj a) (zaj b) q0)then do
    let g1←zf0 N g (pg b)
    let (gr,g2)←zcc s N g1 (pg a) (zcq (zaj a) (zaj b) q0)
    return (iNd ((P++q0::R).set (i - 1) gr.1) (((X++a::b::Y).map pg).set (i - 1+1) gr.2),g2)
   else do
    let g1←zf0 N g (pg b)
    let g2←zb8 s N g1 (pg a) (zcq (zaj a) (zaj b) q0)
    return (iNd ((P++q0::R).eraseIdx (i - 1)) (((X++a::b::Y).map pg).eraseIdx (i - 1+1)),g2))=_
  rw[if_neg hlf,zz5,qi0,zg5,hdrop]
  by_cases hw:mx s h<sz a+sz b
  ·rw[decide_eq_true hw,if_pos rfl,if_pos hw];rfl
  ·rw[decide_eq_false hw,if_neg bK,if_neg hw];rfl
 rw[hF,qoi s N g.S p hl i hi]
 by_cases hw:mx s h<sz a+sz b
 ·rw[if_pos hw,if_pos hw]
  have h0':us g.S (pg b) false 0=true:=by
   unfold us
   rw[if_neg oQ]
   exact h0
  obtain⟨g2,hg2⟩:=zlm hs hN (zc2 a b q0) { g with S:=us g.S (pg b) false } hO hW hB (by rw[zg5];exact hab) hT hjp d3 ⟨pg b,hpb2,if_pos rfl⟩ h0' (qdq _ hK)
  rw[zmy]at hg2
  obtain⟨⟨l,go,S'⟩,hsp⟩:∃r,zca s N (us g.S (pg b) false) (zc2 a b q0)=r:=⟨_,rfl⟩
  have hne:go≠none:=fun e=>by
   have:=qen s N (zc2 a b q0) (us g.S (pg b) false) (by rw[hsp];exact e)
   rw[zg5]at this
   omega
  have hlp:pg l=pg a:=by
   have:=(zo2 s N (us g.S (pg b) false) (zc2 a b q0) hO hW hB (by rw[zg5];exact hab) (hs.h2 h)).page
   rw[hsp,zmy]at this
   exact this
  have hg2:zlr N { g with S:=us g.S (pg b) false } (pgs (zc2 a b q0)) (l,go,S') (zcc s N { g with S:=us g.S (pg b) false } (pg a) (zaj (zc2 a b q0))) g2:=by rw[←hsp];exact hg2
  rw[hsp]
  match go,hne,hg2 with
  |some (q,d),_,hg2=>
   obtain⟨ho,hrd, -⟩:=hg2.some q d rfl
   rw[ho]
   refine⟨g2,?_,fun x hx=>?_,hg2.S,fun x hx hxn hxS=>?_⟩
   ·show Except.ok (iNd ((P++q0::R).set (i - 1) q) (((X++a::b::Y).map pg).set (i - 1+1) (pg d)),g2)= .ok (iNd (P++q::R) ((X++l::d::Y).map pg),g2)
    rw[show(P++q0::R).set (i - 1) q=P++q::R by rw[hi,hl];exact znk P q0 q R,hmap,←hXl,zo0,cC,bG,bG,hlp]
   ·rcases aR.1 hx with hx|hx
    ·exact(hrX x (.inl hx)).frame fun y hy=>by
      obtain⟨o1,o2,o3, -⟩:=hoth x (.inl hx) y hy
      exact hg2.frame y o1 o2 o3
    ·rcases aL.1 hx with rfl|hx
     ·exact hg2.rep
     ·rcases aL.1 hx with rfl|hx
      ·exact hrd
      ·exact(hrX x (.inr hx)).frame fun y hy=>by
        obtain⟨o1,o2,o3, -⟩:=hoth x (.inr hx) y hy
        exact hg2.frame y o1 o2 o3
   ·refine hg2.frame x hx (fun h=>hxn (hjin x h)) ?_
    show us g.S (pg b) false x=true
    unfold us
    rw[if_neg (fun e=>hxn (by rw[e];exact hin b hmb _ (zcj b)))]
    exact hxS
 ·rw[if_neg hw,if_neg hw]
  have hmay:zf8 s (zaj (zc2 a b q0)):=zcu (zc2 a b q0) hO hW (by rw[zg5];omega) hT fun x hx=>by
   have:=hjp x hx
   exact⟨this.1,oQ⟩
  rw[zcv hmay hpa1 hpa2]
  refine⟨⟨wr g.W (pg a) (zcl (zaj (zc2 a b q0))),us g.S (pg b) false⟩,?_,fun x hx=>?_,rfl,fun x hx hxn hxS=>?_⟩
  ·show Except.ok (iNd ((P++q0::R).eraseIdx (i - 1)) (((X++a::b::Y).map pg).eraseIdx (i - 1+1)),_)= .ok (iNd (P++R) ((X++zc2 a b q0::Y).map pg),_)
   rw[show(P++q0::R).eraseIdx (i - 1)=P++R by rw[hi,hl];exact qbk P q0 R,hmap,←hXl,zue,cC,bG,zmy]
  ·rcases aR.1 hx with hx|hx
   ·exact(hrX x (.inl hx)).frame fun y hy=>zbe _ _ (hoth x (.inl hx) y hy).2.2.2
   ·rcases aL.1 hx with rfl|hx
    ·refine Rep.mk' ?_ (hK.frame (fun y _ hne=>zbe _ _ (by rw[←zmy a b q0];exact hne)) d3)
     rw[zmy]
     exact ze6 _ _ _
    ·exact(hrX x (.inr hx)).frame fun y hy=>zbe _ _ (hoth x (.inr hx) y hy).2.2.2
  ·exact zbe _ _ (fun e=>hxn (by rw[e];exact hin a hma _ (zcj a)))
theorem qby(p:Nat)(kids:List (T h)){i:Nat}(hi:i<kids.length)(c:T h)(L:List Nat):(p::(kids.set i c).flatMap pgs++L).Perm (pgs c++(p::((kids.take i).flatMap pgs++(kids.drop (i+1)).flatMap pgs)++L)):=by
 have e2:(kids.set i c).flatMap pgs=(kids.take i).flatMap pgs++(pgs c++(kids.drop (i+1)).flatMap pgs):=by
  conv=>lhs;rw[zob (kids.set i c) (j:=i) (by rw[bE];exact hi)]
  rw[bB,aV,dN,eP oQ,dO oQ]
 rw[e2,aF,aF]
 refine List.Perm.trans (.cons _ ?_) bM.symm
 simp only[aG]
 exact bV _ _ _
theorem kid_perm'(p:Nat)(kids:List (T h)){i:Nat}(hi:i<kids.length)(L:List Nat):(p::kids.flatMap pgs++L).Perm (pgs kids[i]++(p::((kids.take i).flatMap pgs++(kids.drop (i+1)).flatMap pgs)++L)):=by
 have:=qby p kids hi kids[i] L
 rwa[jJ]at this
theorem qjv(hO:Es es)(k:K)(hf:fd (keys es) k=true):lNd ((keys es).eraseIdx (lb (keys es) k)) ((List.map (fun q:K×K=>q.2) es).eraseIdx (lb (keys es) k))=lNd (List.map (fun q:K×K=>q.1) (zfy es k)) (List.map (fun q:K×K=>q.2) (zfy es k)):=by
 obtain⟨w,a1,a2,a3,a4⟩:=(zyf (e:=es) (k:=k) hO).1 hf
 rw[a4]
 have er:∀{β:Type} (f:K×K→β) (l:E) (i:Nat),(l.eraseIdx i).map f=(l.map f).eraseIdx i:=fun f l i=>by
  induction l generalizing i with
  |nil=>rfl
  |cons x l ih=>
   cases i with
   |zero=>rfl
   |succ i=>simp only[iY,bG,ih]
 rw[er,er]
 rfl
structure qsh (N:Nat) (g:Sg) {h:Nat} (t:T h) (r:T h×Bool×(Nat→Bool)) (o:Except Nat ((Nd×Bool)×Sg)) (g':Sg):Prop where
 is:o= .ok ((zaj r.1,r.2.1),g')
 no:r.2.1=false→g'=g
 kids:qbb g'.W r.1
 S:g'.S=r.2.2
 frame:∀x,x<N→(x∉pgs t∨x=pg t)→g.S x=true→g'.W x=g.W x
theorem zqm{s:Sh}(hs:zwi s){N:Nat}(hn:0<N)(hN:N≤1024)(k:K):∀{h:Nat} (t:T h) (d:Nat) (g:Sg) (L:List Nat),h<d→Ord t→Wd s t→Below s t→sz t≤mx s h→(1≤h→2≤sz t)→Rep g.W t→Acc N g.S (pgs t++L)→
  ∃g',qsh N g t (zdc s N t k g.S) (zd8 s N k d g (pg t:Nat)) g'
 |0,(p,es),d+1,g,L,_,hO,hW,hB,hm,h2k,hrep,hA=>by
  have hO:Es es:=hO
  obtain⟨hp1,hp2⟩:=hA.low p (.head _)
  have hmay:zf8 s (zaj (zb0 p es)):=zcu (zb0 p es) hO hW hm (fun h=>oQ) fun x hx=>by rw[aN.1 hx];exact⟨hp1,aY hp2 hN⟩
  have hload:zfs s N g (p:Nat)= .ok (zaj (zb0 p es)):=zfl (t:=zb0 p es) hs.kw hrep hmay hp1 hp2
  have hr:zdc s N (zb0 p es) k g.S=if fd (keys es) k then(zb0 p (zfy es k),true,g.S)else(zb0 p es,false,g.S):=rfl
  have hF:zd8 s N k (d+1) g (p:Nat)=if fd (keys es) k then .ok ((lNd ((keys es).eraseIdx (lb (keys es) k)) ((List.map (fun q:K×K=>q.2) es).eraseIdx (lb (keys es) k)),true),g)else .ok ((zaj (zb0 p es),false),g):=by
   rw[zd8,hload]
   rfl
  show∃g',qsh N g (zb0 p es) (zdc s N (zb0 p es) k g.S) (zd8 s N k (d+1) g (p:Nat)) g'
  rw[hr,hF]
  cases hf:fd (keys es) k with
  |false=>exact⟨g,rfl,fun _=>rfl,trivial,rfl,fun _ _ _ _=>rfl⟩
  |true=>exact⟨g,by rw[if_pos rfl,qjv hO k hf];rfl,fun h=>(nomatch h),trivial,rfl,fun _ _ _ _=>rfl⟩
 |h+1,(p,ks,kids),d+1,g,L,hd,hO,hW,hB,hm,h2k,hrep,hA=>by
  have hA:Acc N g.S (p::kids.flatMap pgs++L):=hA
  obtain⟨hp1,hp2⟩:=hA.low p (.head _)
  have h2k':2≤kids.length:=h2k (eY _)
  have hfan:=hs.fan
  obtain⟨o1,o2,o3⟩:Ks ks∧Sep ks (kids.map ents)∧∀x∈kids,Ord x:=hO
  obtain⟨w1,w2⟩:(∀k∈ks,k.length=s.kw)∧∀x∈kids,Wd s x:=hW
  have hB':∀x∈kids,mx s h/2≤sz x∧sz x≤mx s h∧Below s x:=hB
  have hrep':∀x∈kids,Rep g.W x:=hrep.2
  have hl:=o2.len
  rw[aD]at hl
  have hi:dn ks k<kids.length:=by have:=zoh ks k;omega
  have hc:kids[dn ks k]? =some kids[dn ks k]:=aB hi
  have hcm:=aT hi
  have hh:=hs.h2 h
  have hnd:=hA.nodup
  obtain⟨nd1,nd2⟩:=cP.1 (show(p::(kids.flatMap pgs++L)).Nodup from hnd)
  have nd3:=(cN.1 nd2).1
  have hin:∀x∈kids,∀y∈pgs x,y∈kids.flatMap pgs:=fun x hx y hy=>bS.2 ⟨x,hx,hy⟩
  have hmay:zf8 s (zaj (zau p ks kids)):=zcu (zau p ks kids) ⟨o1,o2,o3⟩ ⟨w1,w2⟩ hm h2k fun x hx=>by
   have:=hA.low x (aP _ hx)
   exact⟨this.1,oQ⟩
  have hload:zfs s N g (p:Nat)= .ok (zaj (zau p ks kids)):=zfl (t:=zau p ks kids) hs.kw hrep hmay hp1 hp2
  have h2c:1≤h→2≤sz kids[dn ks k]:=fun h1=>by
   have:=(hB' _ hcm).1
   cases h with
   |zero=>omega
   |succ h=>have e:mx s (h+1)=s.fan:=rfl;omega
  have hAc:=hA.perm (kid_perm' p kids hi L)
  obtain⟨g1,hg1⟩:=zqm hs hn hN k kids[dn ks k] d g _ oQ (o3 _ hcm) (w2 _ hcm) (hB' _ hcm).2.2 (hB' _ hcm).2.1 h2c (hrep' _ hcm) hAc
  have hrok:=zmb s N hn hs.h2 oQ k kids[dn ks k] g.S (o3 _ hcm) (w2 _ hcm) (hB' _ hcm).2.2 (hB' _ hcm).2.1 h2c
  have hrem:zdc s N (zau p ks kids) k g.S=match zdc s N kids[dn ks k] k g.S with
   |(_,false,S')=>(zau p ks kids,false,S')
   |(c',true,S')=>if sz c'<mx s h/2 then((zht s N S' p ks (kids.set (dn ks k) c') (dn ks k)).1,true,(zht s N S' p ks (kids.set (dn ks k) c') (dn ks k)).2)
    else(zau p ks (kids.set (dn ks k) c'),true,S'):=by
   simp only[zdc,zau,hc]
   rfl
  have hkd:(zaj (zau p ks kids)).kids.getD (dn ks k) 0=pg kids[dn ks k]:=by
   show(kids.map pg).getD (dn ks k) 0=_
   rw[aE,aO,hc];rfl
  have hF:zd8 s N k (d+1) g (p:Nat)=(do
    let (r,g1)←zd8 s N k d g (pg kids[dn ks k]:Nat)
    if r.2 then do
     let g2←zb8 s N g1 (pg kids[dn ks k]) r.1
     if zqj s r.1 then do
      let (n',g3)←zhg s N g2 (zaj (zau p ks kids)) (dn ks k)
      return ((n',true),g3)
     else return ((zaj (zau p ks kids),true),g2)
    else return ((zaj (zau p ks kids),false),g1)):=by
   rw[zd8,hload,←hkd]
   rfl
  show∃g',qsh N g (zau p ks kids) (zdc s N (zau p ks kids) k g.S) (zd8 s N k (d+1) g (p:Nat)) g'
  rw[hrem,hF,hg1.is]
  obtain⟨⟨c',is,S'⟩,hr⟩:∃r,zdc s N kids[dn ks k] k g.S=r:=⟨_,rfl⟩
  rw[hr]at hg1 hrok⊢
  cases is with
  |false=>
   obtain⟨-,hS⟩:=hrok.no rfl
   have hg:=hg1.no rfl
   refine⟨g,by rw[hg];rfl,fun _=>rfl,hrep.2,?_,fun _ _ _ _=>rfl⟩
   exact hS.symm
  |true=>
   obtain⟨y1,y2,y3,y4,y5,y6,y7,y8⟩:=hrok.yes rfl
   simp only at y1 y2 y3 y4 y5 y6 y7 y8
   have hg1S:g1.S=S':=hg1.S
   have hg1k:qbb g1.W c':=hg1.kids
   have hA1c:=y8 _ hAc
   have hA1:Acc N S' (p::(kids.set (dn ks k) c').flatMap pgs++L):=hA1c.perm (qby p kids hi c' L).symm
   have hnd1:=hA1.nodup
   obtain⟨md1,md2⟩:=cP.1 (show(p::((kids.set (dn ks k) c').flatMap pgs++L)).Nodup from hnd1)
   obtain⟨md3,md4,md5⟩:=cN.1 md2
   have h2c':1≤h→2≤sz c':=fun h1=>by
    have:=(hB' _ hcm).1
    cases h with
    |zero=>omega
    |succ h=>have e:mx s (h+1)=s.fan:=rfl;omega
   have hcs:=hB' _ hcm
   have hlowc:∀x∈pgs c',1≤x∧x<1024:=fun x hx=>by
    have:=hA1c.low x (aP _ hx)
    exact⟨this.1,oQ⟩
   have hmayc:zf8 s (zaj c'):=zcu c' y3 y4 oQ h2c' hlowc
   obtain⟨q1,q2⟩:=hA1c.low (pg c') (aP _ (zcj c'))
   rw[y1]at q1 q2
   have hsave:zb8 s N g1 (pg kids[dn ks k]) (zaj c')= .ok { g1 with W:=wr g1.W (pg kids[dn ks k]) (zcl (zaj c')) }:=zcv hmayc q1 q2
   have hcnd:(pgs c').Nodup:=(cN.1 hA1c.nodup).1
   have hrc:Rep (wr g1.W (pg kids[dn ks k]) (zcl (zaj c'))) c':=by
    refine Rep.mk' ?_ (hg1k.frame (fun y _ hne=>zbe _ _ (by rw[←y1];exact hne)) hcnd)
    rw[y1]
    exact ze6 _ _ _
   have hother:∀x∈kids.set (dn ks k) c',Rep (wr g1.W (pg kids[dn ks k]) (zcl (zaj c'))) x:=fun x hx=>by
    obtain⟨j,hj,rfl⟩:=bL hx
    rw[bE]at hj
    rw[gW]
    split
    ·exact hrc
    ·rename_i hne
     refine(hrep' _ (aT hj)).frame fun y hy=>?_
     have hyin:=hin _ (aT hj) y hy
     have hyA:y∈p::kids.flatMap pgs++L:=.tail _ (aP _ hyin)
     have hyd:=zw5 nd3 hj hi (fun e=>hne e.symm) y hy
     have hyl:=hA.low y hyA
     rw[zbe _ _ (fun e=>hyd (by rw[e];exact zcj _))]
     exact hg1.frame y hyl.2 (.inl hyd) ((hA.is y hyl.2).2 (.inr hyA))
   have hfr:∀x,x<N→(x∉pgs (zau p ks kids)∨x=p)→g.S x=true→wr g1.W (pg kids[dn ks k]) (zcl (zaj c')) x=g.W x:=fun x hx hxp hxS=>by
    have hnc:x∉pgs kids[dn ks k]:=fun h=>by
     have h1:=hin _ hcm x h
     rcases hxp with hxp|rfl
     ·exact hxp (.tail _ h1)
     ·exact nd1 (aP _ h1)
    rw[zbe _ _ (fun e=>hnc (by rw[e];exact zcj _))]
    exact hg1.frame x hx (.inl hnc) hxS
   have hnode:zaj (zau p ks kids)=zaj (zau p ks (kids.set (dn ks k) c')):=by
    show iNd ks (kids.map pg)=iNd ks ((kids.set (dn ks k) c').map pg)
    rw[zm1 kids hi c' y1]
   have hred:(do
    let (r,g1)←(Except.ok ((zaj c',true),g1):Except Nat ((Nd×Bool)×Sg))
    if r.2 then do
     let g2←zb8 s N g1 (pg kids[dn ks k]) r.1
     if zqj s r.1 then do
      let (n',g3)←zhg s N g2 (zaj (zau p ks kids)) (dn ks k)
      return ((n',true),g3)
     else return ((zaj (zau p ks kids),true),g2)
    else return ((zaj (zau p ks kids),false),g1))=(if sz c'<mx s h/2 then(do
      let (n',g3)←zhg s N { g1 with W:=wr g1.W (pg kids[dn ks k]) (zcl (zaj c')) } (zaj (zau p ks (kids.set (dn ks k) c'))) (dn ks k)
      return ((n',true),g3))
     else .ok ((zaj (zau p ks (kids.set (dn ks k) c')),true),{ g1 with W:=wr g1.W (pg kids[dn ks k]) (zcl (zaj c')) })):=by
    show(do
     let g2←zb8 s N g1 (pg kids[dn ks k]) (zaj c')
     if zqj s (zaj c')then do
      let (n',g3)←zhg s N g2 (zaj (zau p ks kids)) (dn ks k)
      return ((n',true),g3)
     else return ((zaj (zau p ks kids),true),g2))=_
    rw[hsave,hnode]
    show(if zqj s (zaj c')then do
      let (n',g3)←zhg s N { g1 with W:=wr g1.W (pg kids[dn ks k]) (zcl (zaj c')) } (zaj (zau p ks (kids.set (dn ks k) c'))) (dn ks k)
      return ((n',true),g3)
     else return ((zaj (zau p ks (kids.set (dn ks k) c')),true),{ g1 with W:=wr g1.W (pg kids[dn ks k]) (zcl (zaj c')) }))=_
    rw[qhv]
    by_cases hw:sz c'<mx s h/2
    ·rw[decide_eq_true hw,if_pos rfl,if_pos hw]
    ·rw[decide_eq_false hw,if_neg bK,if_neg hw];rfl
   rw[hred]
   by_cases hpoor:sz c'<mx s h/2
   ·rw[if_pos hpoor]
    simp only[if_pos hpoor]
    obtain⟨kids',hk'⟩:∃l,kids.set (dn ks k) c'=l:=⟨_,rfl⟩
    have hlen':kids'.length=kids.length:=by rw[←hk',bE]
    have hj:dn ks k - 1+1<kids'.length:=oQ
    have hjk:dn ks k - 1<ks.length:=oQ
    have e1:=qmr kids' hj
    have e2:=zob ks hjk
    have hat:kids'[dn ks k]'oQ=c':=by subst hk';rw[dN]
    have hothr:∀m (hm:m<kids'.length),m≠dn ks k→kids'[m]=kids[m]'oQ:=fun m hm hne=>by subst hk';rw[List.getElem_set_ne (Ne.symm hne)]
    have hall:∀m (hm:m<kids'.length),Ord kids'[m]∧Wd s kids'[m]∧Below s kids'[m]∧sz kids'[m]≤mx s h∧(1≤h→2≤sz kids'[m]):=fun m hm=>by
     by_cases hmi:m=dn ks k
     ·subst hmi
      rw[hat]
      exact⟨y3,y4,y5,oQ,h2c'⟩
     ·rw[hothr m hm hmi]
      have hmm:=aT (by omega:m<kids.length)
      have hbm:=hB' _ hmm
      exact⟨o3 _ hmm,w2 _ hmm,hbm.2.2,hbm.2.1,fun h1=>by
       have:=hbm.1
       cases h with
       |zero=>omega
       |succ h=>have e:mx s (h+1)=s.fan:=rfl;omega⟩
    have hszs:∀m (hm:m<kids'.length),m≠dn ks k→mx s h/2≤sz kids'[m]∧sz kids'[m]≤mx s h:=fun m hm hne=>by
     rw[hothr m hm hne]
     have:=hB' _ (aT (by omega:m<kids.length))
     exact⟨this.1,this.2.1⟩
    have hab:sz kids'[dn ks k - 1]+sz kids'[dn ks k - 1+1]≤mx s h+mx s h/2:=by
     rcases fE (dn ks k)with h0|h0
     ·have a1:kids'[dn ks k - 1]'oQ=c':=by rw[←hat];congr 1;omega
      have a2:=hszs (dn ks k - 1+1) hj oQ
      rw[a1];omega
     ·have a1:kids'[dn ks k - 1+1]'oQ=c':=by rw[←hat];congr 1;omega
      have a2:=hszs (dn ks k - 1) oQ oQ
      rw[a1];omega
    have hbd:=o2.bd o1 (i:=dn ks k) (by rw[aD];exact hi)
    rw[cS]at hbd
    have hbp:Bd ks (dn ks k) (ents c'):=hbd.sub fun q hq=>by rw[y2]at hq;exact zt8 hq
    have hsep:Sep ks (kids'.map ents):=by rw[←hk',map_set'];exact o2.set o1 _ hbp
    obtain⟨p1,p2⟩:=hsep.part o1
    have la:zfo (ents kids'[dn ks k - 1]) ks[dn ks k - 1]:=by
     have:=p1 (dn ks k - 1) (dn ks k - 1) hjk (by rw[aD];omega) (bA _)
     rwa[cS]at this
    have gb:zg1 (ents kids'[dn ks k - 1+1]) ks[dn ks k - 1]:=by
     have:=p2 (dn ks k - 1) (dn ks k - 1+1) hjk (by rw[aD];omega) (eN _)
     rwa[cS]at this
    rw[hk']at hother hA1 md1 md2 md3 md5⊢
    have ha':=hall (dn ks k - 1) oQ
    have hb':=hall (dn ks k - 1+1) hj
    have hrow:∀x∈kids'.flatMap pgs,1≤x∧x<N∧S' x=true:=fun x hx=>by
     have hxA:x∈p::kids'.flatMap pgs++L:=.tail _ (aP _ hx)
     have:=hA1.low x hxA
     exact⟨this.1,this.2,(hA1.is x this.2).2 (.inr hxA)⟩
    obtain⟨g3,m1,m2,m3,m4⟩:=qdx hs hN (p:=p) (P:=ks.take (dn ks k - 1)) (R:=ks.drop (dn ks k - 1+1)) (q0:=ks[dn ks k - 1]) (X:=kids'.take (dn ks k - 1)) (Y:=kids'.drop (dn ks k - 1+2)) (a:=kids'[dn ks k - 1]) (b:=kids'[dn ks k - 1+1]) (by rw[aM,aM];omega) { g1 with W:=wr g1.W (pg kids[dn ks k]) (zcl (zaj c')) } ha'.1 hb'.1 ha'.2.1 hb'.2.1 (w1 _ (aT hjk)) ha'.2.2.1 hb'.2.2.1 la gb ha'.2.2.2.1 hb'.2.2.2.1 ha'.2.2.2.2 hb'.2.2.2.2 hab (by rw[←e1];exact hother) (by rw[←e1];exact md3) (by rw[←e1];show∀x∈kids'.flatMap pgs,1≤x∧x<N∧g1.S x=true;rw[hg1S];exact hrow) (by show g1.S 0=true;rw[hg1S];exact(hA1.is 0 hn).2 (.inl rfl)) (dn ks k) (by rw[aM];omega)
    rw[←e1,←e2]at m1 m2 m3
    rw[←e1]at m4
    have m1':zhg s N { g1 with W:=wr g1.W (pg kids[dn ks k]) (zcl (zaj c')) } (zaj (zau p ks kids')) (dn ks k)= .ok (zaj (zht s N S' p ks kids' (dn ks k)).1,g3):=by
     rw[show zht s N S' p ks kids' (dn ks k)=zht s N g1.S p ks kids' (dn ks k) by rw[hg1S]];exact m1
    have m2':qbb g3.W (zht s N S' p ks kids' (dn ks k)).1:=by rw[←hg1S];exact m2
    have m3':g3.S=(zht s N S' p ks kids' (dn ks k)).2:=by rw[←hg1S];exact m3
    rw[m1']
    refine⟨g3,rfl,fun h=>(nomatch h),m2',m3',fun x hx hxp hxS=>?_⟩
    have hx1:x=0∨x=p∨x∈L:=by
     rcases(hA.is x hx).1 hxS with h|h
     ·exact .inl h
     ·rcases aL.1 (show x∈p::(kids.flatMap pgs++L)from h)with h|h
      ·exact .inr (.inl h)
      ·rcases aR.1 h with h|h
       ·rcases hxp with hxp|hxp
        ·exact absurd (List.Mem.tail _ h) hxp
        ·exact .inr (.inl hxp)
       ·exact .inr (.inr h)
    have hS1x:S' x=true:=(hA1.is x hx).2 (hx1.imp id fun h=>by
     rcases h with rfl|h
     ·exact .head _
     ·exact .tail _ (aU _ h))
    have hxn:x∉kids'.flatMap pgs:=fun hxk=>by
     rcases hx1 with rfl|rfl|h
     ·have:=(hrow 0 hxk).1;omega
     ·exact md1 (aP _ hxk)
     ·exact md5 x hxk x h rfl
    rw[m4 x hx hxn (by show g1.S x=true;rw[hg1S];exact hS1x)]
    exact hfr x hx hxp hxS
   ·rw[if_neg hpoor]
    simp only[if_neg hpoor]
    exact⟨_,rfl,fun h=>(nomatch h),hother,hg1S,hfr⟩
def qew(W:Nat→Bys):Rt→Prop
 |none=>True
 |some ⟨_,t⟩=>Rep W t
noncomputable section
def zoj(s:Sh)(N:Nat)(key val:K)(g:Sg)(root:Int):Except Nat (Int×Sg):=
 if root=0 then do
  let (q,g1)←zh8 N g
  let g2←zb8 s N g1 q (lNd [key] [val])
  return ((q:Int),g2)
 else do
  let (gr,g1)←putF s N key val 16 g root
  if gr.2=0 then return (root,g1)
  else do
   let (q,g2)←zh8 N g1
   let g3←zb8 s N g2 q (iNd [gr.1] [root.toNat,gr.2])
   return ((q:Int),g3)
def zrp(s:Sh)(N:Nat)(key:K)(g:Sg)(root:Int):Except Nat ((Int×Bool)×Sg):=
 if root=0 then return ((0,false),g)
 else do
  let (r,g1)←zd8 s N key 16 g root
  if r.2=false then return ((root,false),g1)
  else if r.1.leaf=true∧r.1.keys.length=0 then do
   let g2←zf0 N g1 root.toNat
   return ((0,true),g2)
  else if r.1.leaf=false∧r.1.kids.length=1 then do
   let g2←zf0 N g1 root.toNat
   return (((r.1.kids.getD 0 0:Nat),true),g2)
  else do
   let g2←zb8 s N g1 root.toNat r.1
   return ((root,true),g2)
def qdg(s:Sh)(N:Nat)(g:Sg)(key:K):Nat→Int→Except Nat Nd
 |0,_=>.error 12
 |d+1,at_=>do
  let n←zfs s N g at_
  if n.leaf then return n else qdg s N g key d (n.kids.getD (dn n.keys key) 0:Nat)
def quj(s:Sh)(N:Nat)(g:Sg)(key:K)(root:Int):Except Nat (Option K):=
 if root=0 then return none
 else do
  let n←qdg s N g key 16 root
  return if fd n.keys key then n.vals[lb n.keys key]? else none
end
theorem qk9(hs:zwi s)(hN:N≤1024)(k v:K)(hk:k.length=s.kw)(hv:v.length=s.vw)(r:Rt)(g:Sg)(L:List Nat)(hr:qex s r)(hrep:qew g.W r)(hA:Acc N g.S (zjb r++L))(hroom:(zjb r++L).length+zhs r+3<N)(hh:zhs r<16):
  ∃g',zoj s N k v g (zbj r:Nat)= .ok ((zbj (qe4 s N k v g.S r).1:Nat),g')∧qew g'.W (qe4 s N k v g.S r).1∧g'.S=(qe4 s N k v g.S r).2∧∀x∈L,g'.W x=g.W x:=by
 match r with
 |none=>
  have hA:Acc N g.S L:=hA
  have hroom:L.length+0+3<N:=hroom
  obtain⟨f1,f2,f3,f4,f5⟩:=hA.free oQ
  have hmay:zf8 s (lNd [k] [v]):=zcu (h:=0) (zb0 (nw N g.S) [(k,v)]) (eB _ _) (fun q hq=>by rw[aN.1 hq];exact⟨hk,hv⟩) (by show 1≤s.cap;have:=hs.cap;omega) (fun h=>oQ) fun x hx=>by rw[aN.1 hx];exact⟨f4,aY f2 hN⟩
  refine⟨⟨wr (wr g.W (nw N g.S) (List.replicate 512 0)) (nw N g.S) (zcl (lNd [k] [v])),us g.S (nw N g.S) true⟩,?_,ze6 _ _ _,rfl,fun x hx=>?_⟩
  ·show zoj s N k v g ((0:Nat):Int)=_
   unfold zoj zh8
   rw[if_pos (show((0:Nat):Int)=0 from rfl),if_pos ⟨_,f2,f1⟩]
   show(do
    let g2←zb8 s N _ (nw N g.S) (lNd [k] [v])
    return (((nw N g.S:Nat):Int),g2))=_
   rw[zcv hmay f4 f2]
   rfl
  ·have hne:x≠nw N g.S:=fun e=>f5 (by rw[←e];exact hx)
   show wr _ _ _ x=_
   rw[zbe _ _ hne,zbe _ _ hne]
 |some ⟨h,t⟩=>
  have hr:TOk s t:=hr
  have hrep:Rep g.W t:=hrep
  have hA:Acc N g.S (pgs t++L):=hA
  have hroom:(pgs t++L).length+h+3<N:=hroom
  have hh:h<16:=hh
  obtain⟨nd1,nd2,nd3⟩:=cN.1 hA.nodup
  obtain⟨g1,hg1⟩:=qcf hs hN k v hk hv t 16 g (pgs t++L) hh hr.ord hr.wd hr.below hr.le hr.two hrep nd1 (fun x hx=>aP _ hx) hA oQ
  obtain⟨N1,f1,f2,f3⟩:=qcg s N k v t g.S (fun _=>trivial)
  obtain⟨hok, -⟩:=zta s N hs.h2 k v hk hv t g.S hr.ord hr.wd hr.below hr.le
  have hA1:=f3 (pgs t++L) oQ hA
  obtain⟨hp1,hp2⟩:=hA.low (pg t) (aP _ (zcj t))
  have hne0:¬((pg t:Nat):Int)=0:=oQ
  have hput:qe4 s N k v g.S (some ⟨h,t⟩)=match zok s N t k v g.S with
   |(t',none,S')=>(some ⟨h,t'⟩,S')
   |(t',some (q,d),S')=>(some ⟨h+1,zau (nw N S') [q] [t',d]⟩,us S' (nw N S') true):=rfl
  have hF:zoj s N k v g ((pg t:Nat):Int)=(do
    let (gr,g1)←putF s N k v 16 g (pg t:Nat)
    if gr.2=0 then return (((pg t:Nat):Int),g1)
    else do
     let (q,g2)←zh8 N g1
     let g3←zb8 s N g2 q (iNd [gr.1] [((pg t:Nat):Int).toNat,gr.2])
     return ((q:Int),g3)):=by
   unfold zoj
   rw[if_neg hne0]
  show∃g',zoj s N k v g ((pg t:Nat):Int)= .ok ((zbj (qe4 s N k v g.S (some ⟨h,t⟩)).1:Nat),g')∧qew g'.W (qe4 s N k v g.S (some ⟨h,t⟩)).1∧g'.S=(qe4 s N k v g.S (some ⟨h,t⟩)).2∧∀x∈L,g'.W x=g.W x
  rw[hput,hF,cB]
  obtain⟨⟨t',go,S'⟩,hq⟩:∃r,zok s N t k v g.S=r:=⟨_,rfl⟩
  rw[hq]at hg1 hok f2 hA1⊢
  have hpt:pg t'=pg t:=hok.page
  have hfrL:∀x∈L,g1.W x=g.W x:=fun x hx=>by
   have hxA:x∈pgs t++L:=aU _ hx
   have:=hA.low x hxA
   exact hg1.frame x this.2 (fun h=>nd3 x h x hx rfl) ((hA.is x this.2).2 (.inr hxA))
  cases go with
  |none=>
   rw[hg1.none rfl]
   exact⟨g1,by show Except.ok (((pg t:Nat):Int),g1)= .ok (((pg t':Nat):Int),g1);rw[hpt],hg1.rep,hg1.S,hfrL⟩
  |some go=>
   obtain⟨q,d⟩:=go
   obtain⟨ho,hrd,hd1⟩:=hg1.some q d rfl
   obtain⟨e1,e2,e3,e4,e5,e6,e7,e8,e9,e10,e11,e12,e13,e14⟩:=hok.some q d rfl
   simp only at e1 e2 e3 e4 e5 e6 e7 e8 e9 e10 e11 e12 e13 e14
   have f2:(pgs t'++pgs d).Perm (N1++pgs t):=f2
   have hg1S:g1.S=S':=hg1.S
   have hA1:Acc N g1.S (N1++(pgs t++L)):=by rw[hg1S];exact hA1
   obtain⟨r1,r2,r3,r4,r5⟩:=hA1.free (by rw[aA];omega)
   rw[ho]
   have hin:∀x∈pgs t'++pgs d,x∈N1++(pgs t++L):=fun x hx=>by
    rw[←aG]
    exact aP _ (f2.mem_iff.1 hx)
   have hneq:∀x∈pgs t'++pgs d,x≠nw N g1.S:=fun x hx e=>r5 (by rw[←e];exact hin x hx)
   have hmay:zf8 s (iNd [q] [pg t,pg d]):=by
    have:=zcu (zau (nw N g1.S) [q] [t',d]) (s:=s) ⟨eB _ _,⟨e7,fun e he=>(aN.1 he)▸e8,trivial⟩,fun x hx=>by
     rcases aL.1 hx with rfl|hx
     ·exact e2
     ·exact(aN.1 hx)▸e3⟩ ⟨fun x hx=>(aN.1 hx)▸e6,fun x hx=>by
     rcases aL.1 hx with rfl|hx
     ·exact e4
     ·exact(aN.1 hx)▸e5⟩ (by show 2≤s.fan;have:=hs.fan;omega) (fun _=>by show 2≤2;decide) fun x hx=>by
      rcases aL.1 hx with rfl|hx
      ·exact⟨r4,aY r2 hN⟩
      ·have hx:x∈[t',d].flatMap pgs:=hx
       simp only[aV,jM,bC]at hx
       have:=hA1.low x (hin x hx)
       exact⟨this.1,aY this.2 hN⟩
    have e:zaj (zau (nw N g1.S) [q] [t',d])=iNd [q] [pg t,pg d]:=by
     show iNd [q] [pg t',pg d]=_
     rw[hpt]
    rw[←e];exact this
   have hne:¬(pg d=0):=oQ
   refine⟨⟨wr (wr g1.W (nw N g1.S) (List.replicate 512 0)) (nw N g1.S) (zcl (iNd [q] [pg t,pg d])),us g1.S (nw N g1.S) true⟩,?_,⟨?_,fun x hx=>?_⟩,?_,fun x hx=>?_⟩
   ·show(if pg d=0 then _ else(do
     let (q',g2)←zh8 N g1
     let g3←zb8 s N g2 q' (iNd [q] [pg t,pg d])
     return ((q':Int),g3)))=_
    rw[if_neg hne]
    unfold zh8
    rw[if_pos ⟨_,r2,r1⟩]
    show(do
     let g3←zb8 s N _ (nw N g1.S) (iNd [q] [pg t,pg d])
     return (((nw N g1.S:Nat):Int),g3))=_
    rw[zcv hmay r4 r2]
    show Except.ok (((nw N g1.S:Nat):Int),_)= .ok (((nw N S':Nat):Int),_)
    rw[hg1S]
   ·show wr _ _ _ (nw N S')=_
    rw[←hg1S,ze6]
    show _=zcl (iNd [q] [pg t',pg d])
    rw[hpt]
   ·have hx:x∈[t',d]:=hx
    have hrx:Rep g1.W x:=by
     rcases aL.1 hx with rfl|hx
     ·exact hg1.rep
     ·exact(aN.1 hx)▸hrd
    refine hrx.frame fun y hy=>?_
    have hy':y∈pgs t'++pgs d:=by
     rcases aL.1 hx with rfl|hx
     ·exact aP _ hy
     ·have:=aN.1 hx;subst this;exact aU _ hy
    show wr _ _ _ y=g1.W y
    rw[zbe _ _ (hneq y hy'),zbe _ _ (hneq y hy')]
   ·show us g1.S (nw N g1.S) true=us S' (nw N S') true
    rw[hg1S]
   ·have hxn:x≠nw N g1.S:=fun e=>r5 (by rw[←e];exact aU _ (aU _ hx))
    show wr _ _ _ x=_
    rw[zbe _ _ hxn,zbe _ _ hxn]
    exact hfrL x hx
theorem qju(hs:zwi s)(hn:0<N)(hN:N≤1024)(k:K)(r:Rt)(g:Sg)(L:List Nat)(hr:qex s r)(hrep:qew g.W r)(hA:Acc N g.S (zjb r++L))(hh:zhs r<16):
  ∃g',zrp s N k g (zbj r:Nat)= .ok (((zbj (zy5 s N k g.S r).1:Nat),(zy5 s N k g.S r).2.1),g')∧qew g'.W (zy5 s N k g.S r).1∧g'.S=(zy5 s N k g.S r).2.2∧∀x∈L,g'.W x=g.W x:=by
 match r with
 |none=>exact⟨g,rfl,trivial,rfl,fun _ _=>rfl⟩
 |some ⟨h,t⟩=>
  have hr:TOk s t:=hr
  have hrep:Rep g.W t:=hrep
  have hA:Acc N g.S (pgs t++L):=hA
  have hh:h<16:=hh
  obtain⟨nd1,nd2,nd3⟩:=cN.1 hA.nodup
  obtain⟨g1,hg1⟩:=zqm hs hn hN k t 16 g L hh hr.ord hr.wd hr.below hr.le hr.two hrep hA
  have hrok:=zmb s N hn hs.h2 (by have:=hs.fan;omega) k t g.S hr.ord hr.wd hr.below hr.le hr.two
  obtain⟨hp1,hp2⟩:=hA.low (pg t) (aP _ (zcj t))
  have hne0:¬((pg t:Nat):Int)=0:=oQ
  have hdel:zy5 s N k g.S (some ⟨h,t⟩)=match zdc s N t k g.S with
   |(_,false,S')=>(some ⟨h,t⟩,false,S')
   |(t',true,S')=>match zf4 t' with
    |some r=>(r,true,us S' (pg t) false)
    |none=>(some ⟨h,t'⟩,true,S'):=rfl
  have hF:zrp s N k g ((pg t:Nat):Int)=(do
    let (r,g1)←zd8 s N k 16 g (pg t:Nat)
    if r.2=false then return ((((pg t:Nat):Int),false),g1)
    else if r.1.leaf=true∧r.1.keys.length=0 then do
     let g2←zf0 N g1 ((pg t:Nat):Int).toNat
     return ((0,true),g2)
    else if r.1.leaf=false∧r.1.kids.length=1 then do
     let g2←zf0 N g1 ((pg t:Nat):Int).toNat
     return (((r.1.kids.getD 0 0:Nat),true),g2)
    else do
     let g2←zb8 s N g1 ((pg t:Nat):Int).toNat r.1
     return ((((pg t:Nat):Int),true),g2)):=by
   unfold zrp
   rw[if_neg hne0]
  show∃g',zrp s N k g ((pg t:Nat):Int)= .ok (((zbj (zy5 s N k g.S (some ⟨h,t⟩)).1:Nat),(zy5 s N k g.S (some ⟨h,t⟩)).2.1),g')∧qew g'.W (zy5 s N k g.S (some ⟨h,t⟩)).1∧g'.S=(zy5 s N k g.S (some ⟨h,t⟩)).2.2∧∀x∈L,g'.W x=g.W x
  rw[hdel,hF,hg1.is,cB]
  have hfrL:∀x∈L,g1.W x=g.W x:=fun x hx=>by
   have hxA:x∈pgs t++L:=aU _ hx
   have:=hA.low x hxA
   exact hg1.frame x this.2 (.inl (fun h=>nd3 x h x hx rfl)) ((hA.is x this.2).2 (.inr hxA))
  obtain⟨⟨t',is,S'⟩,hq⟩:∃r,zdc s N t k g.S=r:=⟨_,rfl⟩
  rw[hq]at hg1 hrok⊢
  cases is with
  |false=>
   obtain⟨-,hS⟩:=hrok.no rfl
   have hg:=hg1.no rfl
   subst hg
   exact⟨g1,rfl,hrep,hS.symm,fun _ _=>rfl⟩
  |true=>
   obtain⟨y1,y2,y3,y4,y5,y6,y7,y8⟩:=hrok.yes rfl
   simp only at y1 y2 y3 y4 y5 y6 y7 y8
   have hA1:=y8 L hA
   have hg1S:g1.S=S':=hg1.S
   have hg1k:qbb g1.W t':=hg1.kids
   have hptS:g1.S (pg t)=true:=by
    rw[hg1S]
    exact(hA1.is (pg t) hp2).2 (.inr (aP _ (by rw[←y1];exact zcj t')))
   have hdrop:zf0 N g1 (pg t)= .ok { g1 with S:=us g1.S (pg t) false }:=by
    unfold zf0
    rw[if_pos ⟨hp1,hp2,hptS⟩]
   have hsave:zf4 t'=none→zf8 s (zaj t'):=fun hsh=>zcu t' y3 y4 (cH y6 hr.le) (fun h1=>by
    cases h with
    |zero=>omega
    |succ h=>
     obtain⟨p',ks',kids'⟩:=t'
     match kids',hsh,y7 with
     | [],_,y7=>have:=hr.two (eY _);have y7:sz t≤0+1:=y7;omega
     | [x],hsh,_=>cases hsh
     |x::z::l,_,_=>show 2≤(x::z::l).length;simp) fun x hx=>by
    have:=hA1.low x (aP _ hx)
    exact⟨this.1,aY this.2 hN⟩
   have hstep:((do
    let (r,g1)←(Except.ok ((zaj t',true),g1):Except Nat ((Nd×Bool)×Sg))
    if r.2=false then return ((((pg t:Nat):Int),false),g1)
    else if r.1.leaf=true∧r.1.keys.length=0 then do
     let g2←zf0 N g1 (pg t)
     return ((0,true),g2)
    else if r.1.leaf=false∧r.1.kids.length=1 then do
     let g2←zf0 N g1 (pg t)
     return (((r.1.kids.getD 0 0:Nat),true),g2)
    else do
     let g2←zb8 s N g1 (pg t) r.1
     return ((((pg t:Nat):Int),true),g2)):Except Nat ((Int×Bool)×Sg))=(if (zaj t').leaf=true∧(zaj t').keys.length=0 then .ok (((0:Int),true),{ g1 with S:=us g1.S (pg t) false })
    else if (zaj t').leaf=false∧(zaj t').kids.length=1 then .ok ((((zaj t').kids.getD 0 0:Nat),true),{ g1 with S:=us g1.S (pg t) false })
    else do
     let g2←zb8 s N g1 (pg t) (zaj t')
     return ((((pg t:Nat):Int),true),g2)):=by
    show((if (zaj t').leaf=true∧(zaj t').keys.length=0 then do
     let g2←zf0 N g1 (pg t)
     return ((0,true),g2)
    else if (zaj t').leaf=false∧(zaj t').kids.length=1 then do
     let g2←zf0 N g1 (pg t)
     return ((((zaj t').kids.getD 0 0:Nat),true),g2)
    else do
     let g2←zb8 s N g1 (pg t) (zaj t')
     return ((((pg t:Nat):Int),true),g2)):Except Nat ((Int×Bool)×Sg))=_
    rw[hdrop]
    rfl
   rw[hstep]
   cases h with
   |zero=>
    obtain⟨p',es'⟩:=t'
    by_cases h0:es'.length=0
    ·have e0:es'=[]:=bQ h0
     subst e0
     have hsh:zf4 (h:=0) (p',[])=some none:=rfl
     simp only[hsh]
     refine⟨{ g1 with S:=us g1.S (pg t) false },?_,trivial,by show us g1.S (pg t) false=us S' (pg t) false;rw[hg1S],hfrL⟩
     rw[if_pos ⟨rfl,rfl⟩]
     rfl
    ·have hsh:zf4 (h:=0) (p',es')=none:=if_neg h0
     have hm:=hsave hsh
     simp only[hsh]
     have hc1:¬((zaj (h:=0) (p',es')).leaf=true∧(zaj (h:=0) (p',es')).keys.length=0):=fun h=>by
      have:=h.2
      have e:(zaj (h:=0) (p',es')).keys.length=es'.length:=aD _
      omega
     have hc2:¬((zaj (h:=0) (p',es')).leaf=false∧(zaj (h:=0) (p',es')).kids.length=1):=fun h=>by cases h.1
     rw[if_neg hc1,if_neg hc2,zcv hm hp1 hp2]
     have yp:p'=pg t:=y1
     subst yp
     refine⟨{ g1 with W:=wr g1.W (pg t) (zcl (zaj (h:=0) (pg t,es'))) },rfl,ze6 _ _ _,hg1S,fun x hx=>?_⟩
     ·show wr _ _ _ x=_
      rw[zbe _ _ (fun e=>nd3 (pg t) (zcj t) x hx e.symm)]
      exact hfrL x hx
   |succ h=>
    obtain⟨p',ks',kids'⟩:=t'
    have h2k:=hr.two (eY _)
    have y7:sz t≤kids'.length+1:=y7
    have yp:p'=pg t:=y1
    subst yp
    have hg1k:∀x∈kids',Rep g1.W x:=hg1k
    have hc1:¬((zaj (h:=h+1) (pg t,ks',kids')).leaf=true∧(zaj (h:=h+1) (pg t,ks',kids')).keys.length=0):=fun h=>by cases h.1
    rw[if_neg hc1]
    match kids',y7,hsave,hg1k,hA1 with
    | [],y7,_,_,_=>have y7:sz t≤0+1:=y7;omega
    | [x],y7,hsave,hg1k,hA1=>
     have hsh:zf4 (h:=h+1) (pg t,ks',[x])=some (some ⟨h,x⟩):=rfl
     simp only[hsh]
     rw[if_pos ⟨rfl,rfl⟩]
     exact⟨{ g1 with S:=us g1.S (pg t) false },rfl,hg1k x (.head _),by show us g1.S (pg t) false=us S' (pg t) false;rw[hg1S],hfrL⟩
    |x::z::l,y7,hsave,hg1k,hA1=>
     have hsh:zf4 (h:=h+1) (pg t,ks',x::z::l)=none:=rfl
     have hm:=hsave hsh
     simp only[hsh]
     have hc2:¬((zaj (h:=h+1) (pg t,ks',x::z::l)).leaf=false∧(zaj (h:=h+1) (pg t,ks',x::z::l)).kids.length=1):=fun h=>by
      have:=h.2
      have e:(zaj (h:=_+1) (pg t,ks',x::z::l)).kids.length=(x::z::l).length:=aD _
      rw[e]at this
      simp at this
     rw[if_neg hc2,zcv hm hp1 hp2]
     have hA1:Acc N S' ((pg t::(x::z::l).flatMap pgs)++L):=hA1
     obtain⟨m1, -⟩:=cP.1 (show(pg t::((x::z::l).flatMap pgs++L)).Nodup from hA1.nodup)
     refine⟨{ g1 with W:=wr g1.W (pg t) (zcl (zaj (h:=h+1) (pg t,ks',x::z::l))) },rfl,⟨ze6 _ _ _,fun w hw=>?_⟩,hg1S,fun w hw=>?_⟩
     ·have hw:w∈x::z::l:=hw
      refine(hg1k w hw).frame fun y hy=>zbe _ _ (fun e=>m1 ?_)
      rw[←e]
      exact aP _ (bS.2 ⟨w,hw,hy⟩)
     ·show wr _ _ _ w=_
      rw[zbe _ _ (fun e=>nd3 (pg t) (zcj t) w hw e.symm)]
      exact hfrL w hw
theorem qus{s:Sh}(hs:zwi s){N:Nat}(hN:N≤1024)(k:K)(g:Sg):∀{h:Nat} (t:T h) (d:Nat),h<d→Ord t→Wd s t→Below s t→sz t≤mx s h→(1≤h→2≤sz t)→Rep g.W t→(∀x∈pgs t,1≤x∧x<N)→∃es,qdg s N g k d (pg t:Nat)= .ok (lNd (keys es) (List.map (fun q:K×K=>q.2) es))∧es=zjx t k
 |0,(p,es),d+1,_,hO,hW,hB,hm,_,hrep,hp=>by
  obtain⟨hp1,hp2⟩:=hp p (.head _)
  have hmay:zf8 s (zaj (zb0 p es)):=zcu (zb0 p es) hO hW hm (fun h=>oQ) fun x hx=>by rw[aN.1 hx];exact⟨hp1,aY hp2 hN⟩
  have hload:zfs s N g (p:Nat)= .ok (zaj (zb0 p es)):=zfl (t:=zb0 p es) hs.kw hrep hmay hp1 hp2
  refine⟨es,?_,rfl⟩
  show qdg s N g k (d+1) (p:Nat)=_
  rw[qdg,hload]
  rfl
 |h+1,(p,ks,kids),d+1,hd,hO,hW,hB,hm,h2k,hrep,hp=>by
  obtain⟨hp1,hp2⟩:=hp p (.head _)
  have hfan:=hs.fan
  have hB':∀x∈kids,mx s h/2≤sz x∧sz x≤mx s h∧Below s x:=hB
  have hl:(kids.map ents).length=ks.length+1:=hO.2.1.len
  rw[aD]at hl
  have hi:dn ks k<kids.length:=by have:=zoh ks k;omega
  have hc:kids[dn ks k]? =some kids[dn ks k]:=aB hi
  have hcm:=aT hi
  have hmay:zf8 s (zaj (zau p ks kids)):=zcu (zau p ks kids) hO hW hm h2k fun x hx=>⟨(hp x hx).1,aY (hp x hx).2 hN⟩
  have hload:zfs s N g (p:Nat)= .ok (zaj (zau p ks kids)):=zfl (t:=zau p ks kids) hs.kw hrep hmay hp1 hp2
  have hh:=hs.h2 h
  obtain⟨es,e1,e2⟩:=qus hs hN k g kids[dn ks k] d oQ (hO.2.2 _ hcm) (hW.2 _ hcm) (hB' _ hcm).2.2 (hB' _ hcm).2.1 (fun h1=>by
   have:=(hB' _ hcm).1
   cases h with
   |zero=>omega
   |succ h=>have e:mx s (h+1)=s.fan:=rfl;omega) (hrep.2 _ hcm) fun x hx=>hp x (.tail _ (bS.2 ⟨_,hcm,hx⟩))
  have hkd:(zaj (zau p ks kids)).kids.getD (dn ks k) 0=pg kids[dn ks k]:=by
   show(kids.map pg).getD (dn ks k) 0=_
   rw[aE,aO,hc];rfl
  refine⟨es,?_,?_⟩
  ·show qdg s N g k (d+1) (p:Nat)=_
   rw[qdg,hload]
   show qdg s N g k d ((zaj (zau p ks kids)).kids.getD (dn ks k) 0:Nat)=_
   rw[hkd]
   exact e1
  ·rw[e2]
   show _=zjx (zau p ks kids) k
   simp only[zjx,zau,hc]
theorem qwp(hs:zwi s)(hN:N≤1024)(k:K)(r:Rt)(g:Sg)(hr:qex s r)(hrep:qew g.W r)(hp:∀x∈zjb r,1≤x∧x<N)(hh:zhs r<16):quj s N g k (zbj r:Nat)= .ok (zi6 (zdb r) k):=by
 match r with
 |none=>rfl
 |some ⟨h,t⟩=>
  have hr:TOk s t:=hr
  obtain⟨es,e1,e2⟩:=qus hs hN k g t 16 hh hr.ord hr.wd hr.below hr.le hr.two hrep hp
  obtain⟨l1,l2⟩:=zu5 t k hr.ord
  rw[←e2]at l1 l2
  have hne0:¬((pg t:Nat):Int)=0:=by have:=(hp (pg t) (zcj t)).1;omega
  show quj s N g k ((pg t:Nat):Int)= .ok (zi6 (ents t) k)
  unfold quj
  rw[if_neg hne0,e1,←l2]
  show Except.ok (if fd (keys es) k then(List.map (fun q:K×K=>q.2) es)[lb (keys es) k]? else none)=_
  have hrow:=zyf (e:=es) (k:=k) l1
  cases hf:fd (keys es) k with
  |true=>
   obtain⟨v,a1,a2, -, -⟩:=hrow.1 hf
   rw[if_pos rfl,aO,a1,a2];rfl
  |false=>
   obtain⟨a1, -, -⟩:=hrow.2 hf
   rw[if_neg bK,a1]
end Go.Eng.Tr
