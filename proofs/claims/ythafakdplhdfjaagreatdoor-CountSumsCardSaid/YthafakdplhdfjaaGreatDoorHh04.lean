/- Parts: Trees of pages; Rows by places; what a tree tells; Nodes of trees; What the tree's functions do with pages; Put; Delete. No condition. -/
import Derived.Test.YthafakdplhdfjaaGreatDoorHh03
set_option maxRecDepth 100000
namespace Go.Eng.Tr
def keys(e:E):List K:=e.map (·.1)
variable{e:E}{k:K}
theorem qbq:(zi6 e k).isSome=true↔k∈keys e:=by
 unfold zi6 keys
 rw[kI,List.find?_isSome]
 constructor
 ·rintro⟨p,hp,h⟩;exact aO.2 ⟨p,hp,of_decide_eq_true h⟩
 ·intro h
  obtain⟨p,hp,h⟩:=aO.1 h
  exact⟨p,hp,decide_eq_true h⟩
theorem qbi:∀{e:E} {k:K},Es e→k∈keys e→(zfy e k).length+1=e.length
 | [],_,_,h=>by cases h
 |p::r,k,h,hk=>by
  obtain⟨h1,h2⟩:(∀a∈r.map (·.1),kl p.1 a)∧Es r:=bI.1 h
  unfold zfy
  by_cases e:p.1=k
  ·have hr:r.filter (fun q=>decide (q.1≠k))=r:=cU.2 fun q hq=>by
    have:=zi8 (h1 q.1 (aO.2 ⟨q,hq,rfl⟩))
    rw[e]at this
    simpa using this.symm
   rw[dU (by simpa using e),hr,aW]
  ·have hk':k∈keys r:=by
    rcases aI.1 hk with hk|hk
    ·exact absurd hk.symm e
    ·exact hk
   rw[eN (by simpa using e),aW,aW]
   have:=qbi h2 hk'
   unfold zfy at this
   omega
theorem zzn(h:Es e):Es (zfy e k):=by
 unfold Es at*
 exact dO (List.Sublist.map _ List.filter_sublist) h
variable{p:K×K}
theorem zt8(h:p∈zfy e k):p∈e:=(cR.1 h).1
def zdc(s:Sh)(n:Nat):{h:Nat}→T h→K→(Nat→Bool)→T h×Bool×(Nat→Bool)
 |0,t,k,S=>if fd (keys t.2) k then(zb0 t.1 (zfy t.2 k),true,S)else(t,false,S)
 |h+1,t,k,S=>match t.2.2[dn t.2.1 k]? with
  |none=>(t,false,S)
  |some c=>match zdc s n c k S with
   |(_,false,S')=>(t,false,S')
   |(c',true,S')=>if sz c'<mx s h/2 then((zht s n S' t.1 t.2.1 (t.2.2.set (dn t.2.1 k) c') (dn t.2.1 k)).1,true,(zht s n S' t.1 t.2.1 (t.2.2.set (dn t.2.1 k) c') (dn t.2.1 k)).2)
    else(zau t.1 t.2.1 (t.2.2.set (dn t.2.1 k) c'),true,S')
structure qnf (s:Sh) (n:Nat) (S:Nat→Bool) {h:Nat} (t:T h) (k:K) (r:T h×Bool×(Nat→Bool)):Prop where
 is:r.2.1=true↔k∈keys (ents t)
 no:r.2.1=false→r.1=t∧r.2.2=S
 yes:r.2.1=true→pg r.1=pg t∧ents r.1=zfy (ents t) k∧Ord r.1∧Wd s r.1∧Below s r.1∧sz r.1≤sz t∧sz t≤sz r.1+1∧∀L,Acc n S (pgs t++L)→Acc n r.2.2 (pgs r.1++L)
variable{α:Type}{j:Nat}
theorem qmr(l:List α)(h:j+1<l.length):l=l.take j++l[j]::l[j+1]::l.drop (j+2):=by
 conv=>lhs;rw[←bF j l,cC (by omega:j<l.length),cC h]
theorem zob(l:List α)(h:j<l.length):l=l.take j++l[j]::l.drop (j+1):=by
 conv=>lhs;rw[←bF j l,cC h]
theorem qkl{A B:E}(hA:zfo A k)(hB:zzc B k):k∈keys (A++(e++B))↔k∈keys e:=by
 unfold keys
 rw[bV,bV,aR,aR]
 refine⟨fun h=>?_,fun h=>.inr (.inl h)⟩
 rcases h with h|h|h
 ·obtain⟨p,hp,e⟩:=aO.1 h
  exact absurd e (zi8 (hA p hp))
 ·exact h
 ·obtain⟨p,hp,e⟩:=aO.1 h
  exact absurd e.symm (zi8 (hB p hp))
theorem zmb(s:Sh)(n:Nat)(hn:0<n)(h2:∀h,2≤mx s h)(h4:4≤s.fan)(k:K):∀{h:Nat} (t:T h) (S:Nat→Bool),Ord t→Wd s t→Below s t→sz t≤mx s h→(1≤h→2≤sz t)→qnf s n S t k (zdc s n t k S)
 |0,(p,es),S,hO,hW,hB,hm,_=>by
  have hO:Es es:=hO
  have hr:zdc s n (zb0 p es) k S=if fd (keys es) k then(zb0 p (zfy es k),true,S)else(zb0 p es,false,S):=rfl
  show qnf s n S (zb0 p es) k (zdc s n (zb0 p es) k S)
  rw[hr]
  cases hf:fd (keys es) k with
  |false=>
   rw[if_neg bP]
   refine⟨⟨fun h=>(nomatch h),fun h=>?_⟩,fun _=>⟨rfl,rfl⟩,fun h=>(nomatch h)⟩
   rw[show fd (keys es) k=true from(qbl hO).2 h]at hf
   cases hf
  |true=>
   rw[if_pos rfl]
   have hk:=(qbl hO).1 hf
   have hlen:=qbi hO hk
   refine⟨⟨fun _=>hk,fun _=>rfl⟩,fun h=>(nomatch h),fun _=>⟨rfl,rfl,zzn hO,fun q hq=>hW q (zt8 hq),trivial,?_,?_,fun L hA=>hA⟩⟩
   ·show(zfy es k).length≤es.length;omega
   ·show es.length≤(zfy es k).length+1;omega
 |h+1,(p,ks,kids),S,hO,hW,hB,hm,h2k=>by
  obtain⟨o1,o2,o3⟩:Ks ks∧Sep ks (kids.map ents)∧∀x∈kids,Ord x:=hO
  obtain⟨w1,w2⟩:(∀k∈ks,k.length=s.kw)∧∀x∈kids,Wd s x:=hW
  have hB:∀x∈kids,mx s h/2≤sz x∧sz x≤mx s h∧Below s x:=hB
  have h2k:2≤kids.length:=h2k (eZ _)
  have hl:=o2.len
  rw[aD]at hl
  have hi:dn ks k<kids.length:=by have:=zoh ks k;omega
  have hc:kids[dn ks k]? =some kids[dn ks k]:=aB hi
  have hcm:=aS hi
  have hh:=h2 h
  have ih:=zmb s n hn h2 h4 k kids[dn ks k] S (o3 _ hcm) (w2 _ hcm) (hB _ hcm).2.2 (hB _ hcm).2.1 (fun h1=>by
   have:=(hB _ hcm).1
   cases h with
   |zero=>omega
   |succ h=>have e:mx s (h+1)=s.fan:=rfl;omega)
  obtain⟨m1,m2⟩:=Sep.mid (kids:=kids) o1 o2 k
  have hbd:=o2.bd o1 (i:=dn ks k) (by rw[aD];exact hi)
  rw[cS]at hbd
  have hfl:=zh0 kids ents hi
  have hrem:zdc s n (zau p ks kids) k S=match zdc s n kids[dn ks k] k S with
   |(_,false,S')=>(zau p ks kids,false,S')
   |(c',true,S')=>if sz c'<mx s h/2 then((zht s n S' p ks (kids.set (dn ks k) c') (dn ks k)).1,true,(zht s n S' p ks (kids.set (dn ks k) c') (dn ks k)).2)
    else(zau p ks (kids.set (dn ks k) c'),true,S'):=by
   simp only[zdc,zau,hc]
  show qnf s n S (zau p ks kids) k (zdc s n (zau p ks kids) k S)
  have hmem:k∈keys (ents (zau p ks kids))↔k∈keys (ents kids[dn ks k]):=by
   show k∈keys (kids.flatMap ents)↔_
   rw[hfl]
   exact qkl m1 m2
  rw[hrem]
  obtain⟨⟨c',is,S'⟩,hr⟩:∃r,zdc s n kids[dn ks k] k S=r:=⟨_,rfl⟩
  rw[hr]at ih⊢
  cases is with
  |false=>
   obtain⟨-,hS⟩:=ih.no rfl
   exact⟨⟨fun h=>(nomatch h),fun h=>ih.is.2 (hmem.1 h)⟩,fun _=>⟨rfl,hS⟩,fun h=>(nomatch h)⟩
  |true=>
   obtain⟨y1,y2,y3,y4,y5,y6,y7,y8⟩:=ih.yes rfl
   simp only at y1 y2 y3 y4 y5 y6 y7 y8⊢
   have hkk:=hmem.2 (ih.is.1 rfl)
   have hcs:=hB _ hcm
   have hbp:Bd ks (dn ks k) (ents c'):=hbd.sub fun q hq=>by rw[y2]at hq;exact zt8 hq
   have hents:(kids.set (dn ks k) c').flatMap ents=zfy (kids.flatMap ents) k:=by
    rw[qcn _ _ hi,hfl,qjt m1 m2,y2]
   have hsep:Sep ks ((kids.set (dn ks k) c').map ents):=by rw[map_set'];exact o2.set o1 _ hbp
   have hord:∀x∈kids.set (dn ks k) c',Ord x:=fun x hx=>by
    rcases cK hx with hx|rfl
    ·exact o3 x hx
    ·exact y3
   have hwd:∀x∈kids.set (dn ks k) c',Wd s x:=fun x hx=>by
    rcases cK hx with hx|rfl
    ·exact w2 x hx
    ·exact y4
   have hbl:∀x∈kids.set (dn ks k) c',Below s x:=fun x hx=>by
    rcases cK hx with hx|rfl
    ·exact(hB x hx).2.2
    ·exact y5
   have hacc:∀L,Acc n S (p::kids.flatMap pgs++L)→Acc n S' (p::(kids.set (dn ks k) c').flatMap pgs++L):=fun L hA=>by
    have e1:kids.flatMap pgs=(kids.take (dn ks k)).flatMap pgs++(pgs kids[dn ks k]++(kids.drop (dn ks k+1)).flatMap pgs):=by
     conv=>lhs;rw[zob kids hi]
     rw[bE,aY]
    have e2:(kids.set (dn ks k) c').flatMap pgs=(kids.take (dn ks k)).flatMap pgs++(pgs c'++(kids.drop (dn ks k+1)).flatMap pgs):=by
     conv=>lhs;rw[zob (kids.set (dn ks k) c') (j:=dn ks k) (by rw[bM];exact hi)]
     rw[bE,aY,dH,eJ oQ,dI oQ]
    have key:∀Z:List Nat,(p::((kids.take (dn ks k)).flatMap pgs++(Z++(kids.drop (dn ks k+1)).flatMap pgs))++L).Perm (Z++(p::((kids.take (dn ks k)).flatMap pgs++(kids.drop (dn ks k+1)).flatMap pgs)++L)):=fun Z=>by
     rw[aC,aC]
     refine List.Perm.trans (.cons _ ?_) bH.symm
     simp only[aF]
     exact bR _ _ _
    rw[e1]at hA
    rw[e2]
    exact(y8 _ (hA.perm (key _))).perm (key _).symm
   by_cases hpoor:sz c'<mx s h/2
   ·rw[if_pos hpoor]
    obtain⟨kids',hk'⟩:∃l,kids.set (dn ks k) c'=l:=⟨_,rfl⟩
    have hlen':kids'.length=kids.length:=by rw[←hk',bM]
    have hj:dn ks k - 1+1<kids'.length:=oQ
    have hjk:dn ks k - 1<ks.length:=oQ
    have e1:=qmr kids' hj
    have e2:=zob ks hjk
    have hsz:∀m (hm:m<kids'.length),m≠dn ks k→mx s h/2≤sz kids'[m]∧sz kids'[m]≤mx s h:=fun m hm hne=>by
     have:kids'[m]=kids[m]'oQ:=by subst hk';rw[List.getElem_set_ne (Ne.symm hne)]
     rw[this]
     have:=hB _ (aS (by omega:m<kids.length))
     exact⟨this.1,this.2.1⟩
    have hat:kids'[dn ks k]'oQ=c':=by subst hk';rw[dH]
    rw[hk']at hents hsep hord hwd hbl hacc⊢
    have hab:sz kids'[dn ks k - 1]+sz kids'[dn ks k - 1+1]≤mx s h+mx s h/2∧mx s h/2≤sz kids'[dn ks k - 1]+sz kids'[dn ks k - 1+1]:=by
     rcases fA (dn ks k)with h0|h0
     ·have a1:kids'[dn ks k - 1]'oQ=c':=by rw[←hat];congr 1;omega
      have a2:=hsz (dn ks k - 1+1) hj oQ
      rw[a1];omega
     ·have a1:kids'[dn ks k - 1+1]'oQ=c':=by rw[←hat];congr 1;omega
      have a2:=hsz (dn ks k - 1) oQ oQ
      rw[a1];omega
    have hXY:∀x∈kids'.take (dn ks k - 1)++kids'.drop (dn ks k - 1+2),mx s h/2≤sz x∧sz x≤mx s h:=fun x hx=>by
     rcases aR.1 hx with hx|hx
     ·obtain⟨m,hm,rfl⟩:=bJ hx
      rw[aM]at hm
      rw[dW]
      exact hsz m oQ oQ
     ·obtain⟨m,hm,rfl⟩:=bJ hx
      rw[aX]at hm
      rw[dL]
      exact hsz _ oQ oQ
    have hmend:=qoj s n hn h2 S' p (P:=ks.take (dn ks k - 1)) (R:=ks.drop (dn ks k - 1+1)) (q0:=ks[dn ks k - 1]) (X:=kids'.take (dn ks k - 1)) (Y:=kids'.drop (dn ks k - 1+2)) (a:=kids'[dn ks k - 1]) (b:=kids'[dn ks k - 1+1]) (by rw[aM,aM];omega) (by rw[←e2];exact o1) (by rw[←e2,←e1];exact hsep) (by rw[←e1];exact hord) (by rw[←e2];exact w1) (by rw[←e1];exact hwd) (by rw[←e1];exact hbl) hXY hab.1 hab.2 (dn ks k) (by rw[aM];omega)
    rw[←e1,←e2]at hmend
    refine⟨⟨fun _=>hkk,fun _=>rfl⟩,fun h=>(nomatch h),fun _=>⟨hmend.page,?_,hmend.ord,hmend.wd,hmend.below,?_,?_,fun L hA=>hmend.acc L (hacc L hA)⟩⟩
    ·show _=zfy (kids.flatMap ents) k
     rw[hmend.ents];exact hents
    ·show sz (zht s n S' p ks kids' (dn ks k)).1≤kids.length
     have:=hmend.le;omega
    ·show kids.length≤sz (zht s n S' p ks kids' (dn ks k)).1+1
     have:=hmend.ge;omega
   ·rw[if_neg hpoor]
    refine⟨⟨fun _=>hkk,fun _=>rfl⟩,fun h=>(nomatch h),fun _=>⟨rfl,hents,⟨o1,hsep,hord⟩,⟨w1,hwd⟩,fun x hx=>?_,?_,?_,hacc⟩⟩
    ·rcases cK hx with hx|rfl
     ·exact hB x hx
     ·exact⟨oQ,oQ,y5⟩
    ·show(kids.set (dn ks k) c').length≤kids.length
     rw[bM];exact bA _
    ·show kids.length≤(kids.set (dn ks k) c').length+1
     rw[bM];exact Nat.le_succ _
def lv:{h:Nat}→T h→Nat
 |0,_=>1
 |_+1,t=>(t.2.2.map lv).sum
theorem zos{β:Type}(l:List α)(f:α→List β):(l.flatMap f).length=(l.map fun x=>(f x).length).sum:=by
 induction l with
 |nil=>rfl
 |cons x l ih=>rw[aY,aA,ih,bD,gH]
theorem ztl(l:List α)(f g:α→Nat)(c:Nat)(h:∀x∈l,f x+c≤g x):(l.map f).sum+c*l.length≤(l.map g).sum:=by
 induction l with
 |nil=>simp
 |cons x l ih=>
  have h1:=h x (.head _)
  have h2:=ih fun y hy=>h y (.tail _ hy)
  rw[bD,bD,gH,gH,aW,Nat.mul_succ]
  omega
theorem zq1(l:List α)(f:α→Nat)(c:Nat):(l.map fun x=>c*f x).sum=c*(l.map f).sum:=by
 induction l with
 |nil=>simp
 |cons x l ih=>rw[bD,bD,gH,gH,ih,iD]
theorem few(s:Sh)(h4:4≤s.fan/2):∀{h:Nat} (t:T h),Below s t→mx s h/2≤sz t→3*(pgs t).length+1≤4*lv t
 |0,(_,_),_,_=>bA _
 |h+1,(p,ks,kids),hB,hz=>by
  have hB:∀x∈kids,mx s h/2≤sz x∧sz x≤mx s h∧Below s x:=hB
  have hz:s.fan/2≤kids.length:=hz
  show 3*(p::kids.flatMap pgs).length+1≤4*(kids.map lv).sum
  have:=ztl kids (fun x=>3*(pgs x).length) (fun x=>4*lv x) 1 fun x hx=>few s h4 x (hB x hx).2.2 (hB x hx).1
  rw[zq1,zq1,←zos]at this
  rw[aW]
  omega
theorem qj1(s:Sh)(h4:4≤s.fan/2):∀{h:Nat} (t:T h),Below s t→(1≤h→2≤sz t)→3*(pgs t).length≤4*lv t+1
 |0,(_,_),_,_=>by show 3*1≤4*1+1;decide
 |h+1,(p,ks,kids),hB,hz=>by
  have hB:∀x∈kids,mx s h/2≤sz x∧sz x≤mx s h∧Below s x:=hB
  have hz:2≤kids.length:=hz (eZ _)
  show 3*(p::kids.flatMap pgs).length≤4*(kids.map lv).sum+1
  have:=ztl kids (fun x=>3*(pgs x).length) (fun x=>4*lv x) 1 fun x hx=>few s h4 x (hB x hx).2.2 (hB x hx).1
  rw[zq1,zq1,←zos]at this
  rw[aW]
  omega
theorem zdt(s:Sh):∀{h:Nat} (t:T h),Below s t→(h=0→s.cap/2≤sz t)→s.cap/2*lv t≤(ents t).length
 |0,(p,es),_,hz=>by
  show s.cap/2*1≤es.length
  rw[bL];exact hz rfl
 |h+1,(p,ks,kids),hB,_=>by
  have hB:∀x∈kids,mx s h/2≤sz x∧sz x≤mx s h∧Below s x:=hB
  show s.cap/2*(kids.map lv).sum≤(kids.flatMap ents).length
  rw[zos,←zq1]
  have:=ztl kids (fun x=>s.cap/2*lv x) (fun x=>(ents x).length) 0 fun x hx=>zdt s x (hB x hx).2.2 (fun h0=>by subst h0;exact(hB x hx).1)
  omega
theorem qtl(s:Sh)(h4:4≤s.fan/2):∀{h:Nat} (t:T h),Below s t→(1≤h→2≤sz t)→h+1≤lv t
 |0,_,_,_=>bA _
 |h+1,(p,ks,kids),hB,hz=>by
  have hB:∀x∈kids,mx s h/2≤sz x∧sz x≤mx s h∧Below s x:=hB
  have hz:2≤kids.length:=hz (eZ _)
  show h+1+1≤(kids.map lv).sum
  have:=ztl kids (fun _=>0) lv (h+1) fun x hx=>by
   have:=qtl s h4 x (hB x hx).2.2 (fun h1=>by
    have:=(hB x hx).1
    cases h with
    |zero=>omega
    |succ h=>have e:mx s (h+1)=s.fan:=rfl;omega)
   omega
  have h5:(h+1)*2≤(h+1)*kids.length:=gJ _ hz
  omega
theorem zcj:∀{h:Nat} (t:T h),pg t∈pgs t
 |0,(_,_)=>.head _
 |_+1,(_,_,_)=>.head _
abbrev Rt:=Option (Σ h,T h)
def zdb:Rt→E
 |none=>[]
 |some ⟨_,t⟩=>ents t
def zjb:Rt→List Nat
 |none=>[]
 |some ⟨_,t⟩=>pgs t
def zbj:Rt→Nat
 |none=>0
 |some ⟨_,t⟩=>pg t
structure TOk (s:Sh) {h:Nat} (t:T h):Prop where
 ord:Ord t
 wd:Wd s t
 below:Below s t
 le:sz t≤mx s h
 one:1≤sz t
 two:1≤h→2≤sz t
def qex(s:Sh):Rt→Prop
 |none=>True
 |some ⟨_,t⟩=>TOk s t
structure zwi (s:Sh):Prop where
 kw:1≤s.kw
 cap:2≤s.cap
 fan:8≤s.fan
variable{s:Sh}
theorem zwi.h2(h:zwi s):∀h,2≤mx s h
 |0=>h.cap
 |_+1=>cI dQ h.fan
theorem zwi.h4(h:zwi s):4≤s.fan/2:=by have:=h.fan;omega
def qe4(s:Sh)(n:Nat)(k v:K)(S:Nat→Bool):Rt→Rt×(Nat→Bool)
 |none=>(some ⟨0,zb0 (nw n S) [(k,v)]⟩,us S (nw n S) true)
 |some ⟨h,t⟩=>match zok s n t k v S with
  |(t',none,S')=>(some ⟨h,t'⟩,S')
  |(t',some (q,d),S')=>(some ⟨h+1,zau (nw n S') [q] [t',d]⟩,us S' (nw n S') true)
def zhs:Rt→Nat
 |none=>0
 |some ⟨h,_⟩=>h
theorem qou(hs:zwi s)(n:Nat)(k v:K)(hk:k.length=s.kw)(hv:v.length=s.vw)(r:Rt)(S:Nat→Bool)(L:List Nat)(hr:qex s r)(hA:Acc n S (zjb r++L))(hroom:(zjb r++L).length+zhs r+3<n):
  qex s (qe4 s n k v S r).1∧zdb (qe4 s n k v S r).1=zfx (zdb r) k v∧Acc n (qe4 s n k v S r).2 (zjb (qe4 s n k v S r).1++L):=by
 match r with
 |none=>
  refine⟨⟨eO _ _,fun q hq=>by rw[aK.1 hq];exact⟨hk,hv⟩,trivial,?_,bA _,fun h=>oQ⟩,rfl,?_⟩
  ·show 1≤s.cap
   have:=hs.cap;omega
  ·have hA:Acc n S L:=hA
   have hroom:L.length+0+3<n:=hroom
   exact hA.add oQ
 |some ⟨h,t⟩=>
  have hr:TOk s t:=hr
  obtain⟨hp,hmin⟩:=zta s n hs.h2 k v hk hv t S hr.ord hr.wd hr.below hr.le
  obtain⟨N,f1,f2,f3⟩:=qcg s n k v t S (fun _=>trivial)
  have hroom:(pgs t++L).length+h+3<n:=hroom
  have hA:Acc n S (pgs t++L):=hA
  have hA2:=f3 (pgs t++L) oQ hA
  have hput:qe4 s n k v S (some ⟨h,t⟩)=match zok s n t k v S with
   |(t',none,S')=>(some ⟨h,t'⟩,S')
   |(t',some (q,d),S')=>(some ⟨h+1,zau (nw n S') [q] [t',d]⟩,us S' (nw n S') true):=rfl
  rw[hput]
  obtain⟨⟨t',g,S'⟩,hq⟩:∃r,zok s n t k v S=r:=⟨_,rfl⟩
  rw[hq]at hp hmin f2 f3 hA2⊢
  cases g with
  |none=>
   obtain⟨a1,a2,a3,a4,a5⟩:=hp.none rfl
   have hm:sz t≤sz t':=hmin rfl
   have f2:(pgs t'++[]).Perm (N++pgs t):=f2
   rw[aU]at f2
   exact⟨⟨a2,a3,a5,a4,cI hr.one hm,fun h1=>cI (hr.two h1) hm⟩,a1,hA2.perm (by rw[←aF];exact cX L f2.symm)⟩
  |some g=>
   obtain⟨q,d⟩:=g
   obtain⟨e1,e2,e3,e4,e5,e6,e7,e8,e9,e10,e11,e12,e13,e14⟩:=hp.some q d rfl
   have f2:(pgs t'++pgs d).Perm (N++pgs t):=f2
   have hA3:Acc n S' (N++(pgs t++L)):=hA2
   refine⟨⟨⟨eO _ _,⟨e7,fun e he=>(aK.1 he)▸e8,trivial⟩,fun x hx=>?_⟩,⟨fun x hx=>(aK.1 hx)▸e6,fun x hx=>?_⟩,fun x hx=>?_,?_,by show 1≤2;decide,fun _=>by show 2≤2;decide⟩,?_,?_⟩
   ·rcases aI.1 hx with rfl|hx
    ·exact e2
    ·exact(aK.1 hx)▸e3
   ·rcases aI.1 hx with rfl|hx
    ·exact e4
    ·exact(aK.1 hx)▸e5
   ·rcases aI.1 hx with rfl|hx
    ·exact⟨e9,e10,e13⟩
    ·exact(aK.1 hx)▸⟨e11,e12,e14⟩
   ·show 2≤s.fan
    have:=hs.fan;omega
   ·show[t',d].flatMap ents=zfx (ents t) k v
    rw[←e1];simp
   ·have hA4:=hA3.add (by rw[aA];omega)
    refine hA4.perm ?_
    show(nw n S'::(N++(pgs t++L))).Perm ((nw n S'::[t',d].flatMap pgs)++L)
    refine .cons _ ?_
    simp only[aY,jH,aU]
    rw[←aF]
    exact cX L f2.symm
def zf4:{h:Nat}→T h→Option Rt
 |0,t=>if t.2.length=0 then some none else none
 |h+1,t=>match t.2.2 with
  | [x]=>some (some ⟨h,x⟩)
  |_=>none
def zy5(s:Sh)(n:Nat)(k:K)(S:Nat→Bool):Rt→Rt×Bool×(Nat→Bool)
 |none=>(none,false,S)
 |some ⟨h,t⟩=>match zdc s n t k S with
  |(_,false,S')=>(some ⟨h,t⟩,false,S')
  |(t',true,S')=>match zf4 t' with
   |some r=>(r,true,us S' (pg t) false)
   |none=>(some ⟨h,t'⟩,true,S')
theorem qnr(hs:zwi s)(n:Nat)(hn:0<n)(k:K)(r:Rt)(S:Nat→Bool)(L:List Nat)(hr:qex s r)(hA:Acc n S (zjb r++L)):
  qex s (zy5 s n k S r).1∧((zy5 s n k S r).2.1=true↔k∈keys (zdb r))∧zdb (zy5 s n k S r).1=zfy (zdb r) k∧Acc n (zy5 s n k S r).2.2 (zjb (zy5 s n k S r).1++L):=by
 match r with
 |none=>exact⟨trivial,⟨fun h=>(nomatch h),fun h=>(nomatch h)⟩,rfl,hA⟩
 |some ⟨h,t⟩=>
  have hr:TOk s t:=hr
  have hrem:=zmb s n hn hs.h2 (by have:=hs.fan;omega) k t S hr.ord hr.wd hr.below hr.le hr.two
  have hA:Acc n S (pgs t++L):=hA
  have hdel:zy5 s n k S (some ⟨h,t⟩)=match zdc s n t k S with
   |(_,false,S')=>(some ⟨h,t⟩,false,S')
   |(t',true,S')=>match zf4 t' with
    |some r=>(r,true,us S' (pg t) false)
    |none=>(some ⟨h,t'⟩,true,S'):=rfl
  rw[hdel]
  obtain⟨⟨t',is,S'⟩,hq⟩:∃r,zdc s n t k S=r:=⟨_,rfl⟩
  rw[hq]at hrem⊢
  cases is with
  |false=>
   obtain⟨-,hS⟩:=hrem.no rfl
   have hS:S'=S:=hS
   have hno:k∉keys (ents t):=fun hk=>by have:=hrem.is.2 hk;cases this
   refine⟨hr,hrem.is,?_,by show Acc n S' (pgs t++L);rw[hS];exact hA⟩
   show ents t=zfy (ents t) k
   unfold zfy
   rw[cU.2 fun p hp=>by
    have:p.1≠k:=fun e=>hno (aO.2 ⟨p,hp,e⟩)
    simpa using this]
  |true=>
   obtain⟨y1,y2,y3,y4,y5,y6,y7,y8⟩:=hrem.yes rfl
   simp only at y1 y2 y3 y4 y5 y6 y7 y8
   have hA2:=y8 L hA
   have his:True↔k∈keys (ents t):=by have:=hrem.is;simpa using this
   cases h with
   |zero=>
    obtain⟨p',es'⟩:=t'
    by_cases h0:es'.length=0
    ·have e0:es'=[]:=bN h0
     subst e0
     have hsh:zf4 (h:=0) (p',[])=some none:=rfl
     simp only[hsh]
     have y1:p'=pg t:=y1
     have y2:([]:E)=zfy (ents t) k:=y2
     refine⟨trivial,⟨fun _=>his.1 trivial,fun _=>trivial⟩,y2,?_⟩
     show Acc n (us S' (pg t) false) L
     rw[←y1]
     exact Acc.del (show Acc n S' (p'::L)from hA2)
    ·have hsh:zf4 (h:=0) (p',es')=none:=if_neg h0
     simp only[hsh]
     exact⟨⟨y3,y4,y5,cI y6 hr.le,kC h0,fun h=>oQ⟩,⟨fun _=>his.1 trivial,fun _=>trivial⟩,y2,hA2⟩
   |succ h=>
    obtain⟨p',ks',kids'⟩:=t'
    have h2k:=hr.two (eZ _)
    have y7:sz t≤kids'.length+1:=y7
    have y1:p'=pg t:=y1
    match kids',y7,y2,y3,y4,y5,y6,hA2 with
    | [],y7,_,_,_,_,_,_=>simp at y7;omega
    | [x],y7,y2,y3,y4,y5,y6,hA2=>
     have hsh:zf4 (h:=h+1) (p',ks',[x])=some (some ⟨h,x⟩):=rfl
     simp only[hsh]
     have y5:∀z∈[x],mx s h/2≤sz z∧sz z≤mx s h∧Below s z:=y5
     obtain⟨b1,b2,b3⟩:=y5 x (.head _)
     have hh:=hs.h2 h
     have y2:[x].flatMap ents=zfy (ents t) k:=y2
     refine⟨⟨y3.2.2 x (.head _),y4.2 x (.head _),b3,b2,oQ,fun h1=>?_⟩,⟨fun _=>his.1 trivial,fun _=>trivial⟩,?_,?_⟩
     ·cases h with
      |zero=>omega
      |succ h=>have e:mx s (h+1)=s.fan:=rfl;have:=hs.fan;omega
     ·show ents x=zfy (ents t) k
      rw[←y2];simp
     ·show Acc n (us S' (pg t) false) (pgs x++L)
      rw[←y1]
      refine Acc.del (q:=p') ?_
      have:Acc n S' (p'::([x].flatMap pgs++L)):=hA2
      simpa using this
    |x::z::l,y7,y2,y3,y4,y5,y6,hA2=>
     have hsh:zf4 (h:=h+1) (p',ks',x::z::l)=none:=rfl
     simp only[hsh]
     refine⟨⟨y3,y4,y5,cI y6 hr.le,by show 1≤(x::z::l).length;simp,fun _=>by show 2≤(x::z::l).length;simp⟩,⟨fun _=>his.1 trivial,fun _=>trivial⟩,y2,hA2⟩
theorem qq7:∀{h:Nat} (t:T h),lv t≤(pgs t).length
 |0,(_,_)=>bA _
 |h+1,(p,ks,kids)=>by
  show(kids.map lv).sum≤(p::kids.flatMap pgs).length
  rw[aW,zos]
  have:=ztl kids lv (fun x=>(pgs x).length) 0 fun x _=>qq7 x
  omega
theorem qhr(hs:zwi s)(r:Rt)(hr:qex s r):3*(zjb r).length≤4*((zdb r).length/(s.cap/2))+1+(if (zjb r).length=1 then 3 else 0)∧zhs r+1≤(zjb r).length+1∧(1<(zjb r).length→2*(s.cap/2)≤(zdb r).length):=by
 have hc:0<s.cap/2:=by have:=hs.cap;omega
 match r with
 |none=>exact⟨by simp[zjb],by simp[zhs,zjb],fun h=>by simp[zjb]at h⟩
 |some ⟨h,t⟩=>
  have hr:TOk s t:=hr
  have f1:=qj1 s hs.h4 t hr.below hr.two
  have f2:=qtl s hs.h4 t hr.below hr.two
  have hlv:=qq7 t
  show 3*(pgs t).length≤4*((ents t).length/(s.cap/2))+1+(if (pgs t).length=1 then 3 else 0)∧h+1≤(pgs t).length+1∧(1<(pgs t).length→2*(s.cap/2)≤(ents t).length)
  cases h with
  |zero=>
   obtain⟨p,es⟩:=t
   have:(pgs (h:=0) (p,es)).length=1:=rfl
   rw[this]
   exact⟨by simp,dQ,fun h=>oQ⟩
  |succ h=>
   have f3:=zdt s t hr.below (fun h=>oQ)
   have f4:lv t≤(ents t).length/(s.cap/2):=(Nat.le_div_iff_mul_le hc).2 (by rw[kO];exact f3)
   refine⟨oQ,oQ,fun _=>?_⟩
   have:s.cap/2*2≤s.cap/2*lv t:=gJ _ oQ
   omega
variable{r:E}
theorem zst(h:kl p.1 k):lb (keys (p::r)) k=lb (keys r) k+1:=by simp[lb,keys,h]
theorem zss(h:¬kl p.1 k):lb (keys (p::r)) k=0:=by simp[lb,keys,h]
theorem zpm(h:Es (p::r)):(∀q∈r,kl p.1 q.1)∧Es r:=by
 obtain⟨h1,h2⟩:(∀a∈r.map (·.1),kl p.1 a)∧Es r:=bI.1 h
 exact⟨fun q hq=>h1 _ (aO.2 ⟨q,hq,rfl⟩),h2⟩
theorem zyf:∀{e:E} {k:K},Es e→(fd (keys e) k=true→∃v,e[lb (keys e) k]? =some (k,v)∧zi6 e k=some v∧(∀w,zfx e k w=e.set (lb (keys e) k) (k,w))∧zfy e k=e.eraseIdx (lb (keys e) k))∧
  (fd (keys e) k=false→zi6 e k=none∧(∀w,zfx e k w=ins e (lb (keys e) k) (k,w))∧zfy e k=e)
 | [],k,_=>⟨fun h=>by simp[fd,keys,lb]at h,fun _=>⟨rfl,fun _=>rfl,rfl⟩⟩
 |p::r,k,h=>by
  obtain⟨h1,h2⟩:=zpm h
  obtain⟨i1,i2⟩:=zyf (e:=r) (k:=k) h2
  by_cases hlt:kl p.1 k
  ·have hl:=zst (r:=r) hlt
   have hf:fd (keys (p::r)) k=fd (keys r) k:=by
    unfold fd
    rw[hl]
    rfl
   have hne:p.1≠k:=zi8 hlt
   have hg:zi6 (p::r) k=zi6 r k:=by
    unfold zi6
    rw[gR (by simpa using hne)]
   have hp:∀w,zfx (p::r) k w=p::zfx r k w:=fun w=>by
    show(if k=p.1 then _ else if kl k p.1 then _ else _)=_
    rw[if_neg hne.symm,if_neg (zhf hlt)]
   have hd:zfy (p::r) k=p::zfy r k:=by
    unfold zfy
    rw[eN (by simpa using hne)]
   rw[hf,hl,hg,hd]
   refine⟨fun hfd=>?_,fun hfd=>?_⟩
   ·obtain⟨v,a1,a2,a3,a4⟩:=i1 hfd
    exact⟨v,a1,a2,fun w=>by rw[hp,a3];rfl,by rw[a4];rfl⟩
   ·obtain⟨a1,a2,a3⟩:=i2 hfd
    exact⟨a1,fun w=>by rw[hp,a2];rfl,by rw[a3]⟩
  ·have hl:=zss (r:=r) hlt
   by_cases he:p.1=k
   ·have hf:fd (keys (p::r)) k=true:=by
     rw[zly,hl]
     show some p.1=some k
     rw[he]
    rw[hf,hl]
    refine⟨fun _=>⟨p.2,?_,?_,fun w=>?_,?_⟩,fun h=>(nomatch h)⟩
    ·show some p=some (k,p.2)
     rw[←he]
    ·unfold zi6
     rw[List.find?_cons_of_pos (by simpa using he)]
     rfl
    ·show(if k=p.1 then _ else _)=_
     rw[if_pos he.symm];rfl
    ·show zfy (p::r) k=r
     unfold zfy
     rw[dU (by simpa using he),cU.2 fun q hq=>by
      have:=zi8 (h1 q hq)
      rw[he]at this
      simpa using this.symm]
   ·have hf:fd (keys (p::r)) k=false:=by
     cases hfd:fd (keys (p::r)) k with
     |false=>rfl
     |true=>
      have:=zly.1 hfd
      rw[hl]at this
      exact absurd (cN this) he
    have hgt:kl k p.1:=qqz hlt he
    rw[hf,hl]
    refine⟨fun h=>(nomatch h),fun _=>⟨?_,fun w=>?_,?_⟩⟩
    ·unfold zi6
     rw[dB.2 fun q hq=>by
      rcases aI.1 hq with rfl|hq
      ·simpa using he
      ·simpa using (zi8 (zb9 hgt (h1 q hq))).symm]
     rfl
    ·show(if k=p.1 then _ else if kl k p.1 then _ else _)=_
     rw[if_neg (Ne.symm he),if_pos hgt];rfl
    ·unfold zfy
     refine cU.2 fun q hq=>?_
     rcases aI.1 hq with rfl|hq
     ·simpa using he
     ·simpa using (zi8 (zb9 hgt (h1 q hq))).symm
theorem qla{v:K}(h:Es e):zfx e k v=ins (zfy e k) (lb (keys (zfy e k)) k) (k,v):=by
 have h':Es (zfy e k):=zzn h
 have hno:fd (keys (zfy e k)) k=false:=by
  cases hf:fd (keys (zfy e k)) k with
  |false=>rfl
  |true=>
   have:=(qbl h').1 hf
   obtain⟨p,hp,he⟩:=aO.1 this
   have:=(cR.1 hp).2
   simp[he]at this
 rw[←((zyf h').2 hno).2.1]
 clear hno h'
 induction e with
 |nil=>rfl
 |cons p r ih=>
  obtain⟨h1,h2⟩:=zpm h
  by_cases he:k=p.1
  ·have hd:zfy (p::r) k=r:=by
    unfold zfy
    rw[dU (by simpa using he.symm),cU.2 fun q hq=>by
     have:=zi8 (h1 q hq)
     rw[←he]at this
     simpa using this.symm]
   have hg:zfx r k v=(k,v)::r:=qhw (fun q hq=>by rw[he];exact h1 q hq)
   rw[hd,hg]
   show(if k=p.1 then(k,v)::r else _)=(k,v)::r
   rw[if_pos he]
  ·have hd:zfy (p::r) k=p::zfy r k:=by
    unfold zfy
    rw[eN (by simpa using Ne.symm he)]
   rw[hd]
   show(if k=p.1 then _ else if kl k p.1 then(k,v)::p::r else p::zfx r k v)=(if k=p.1 then _ else if kl k p.1 then(k,v)::p::zfy r k else p::zfx (zfy r k) k v)
   rw[if_neg he,if_neg he,ih h2]
   by_cases hlt:kl k p.1
   ·rw[if_pos hlt,if_pos hlt]
    have:zfy r k=r:=by
     unfold zfy
     exact cU.2 fun q hq=>by simpa using (zi8 (zb9 hlt (h1 q hq))).symm
    rw[this]
   ·rw[if_neg hlt,if_neg hlt]
def zjx:{h:Nat}→T h→K→E
 |0,t,_=>t.2
 |_+1,t,k=>match t.2.2[dn t.2.1 k]? with
  |none=>[]
  |some c=>zjx c k
theorem zu5:∀{h:Nat} (t:T h) (k:K),Ord t→Es (zjx t k)∧zi6 (zjx t k) k=zi6 (ents t) k
 |0,(_,_),_,hO=>⟨hO,rfl⟩
 |h+1,(p,ks,kids),k,hO=>by
  obtain⟨o1,o2,o3⟩:Ks ks∧Sep ks (kids.map ents)∧∀x∈kids,Ord x:=hO
  have hl:=o2.len
  rw[aD]at hl
  have hi:dn ks k<kids.length:=by have:=zoh ks k;omega
  have hc:kids[dn ks k]? =some kids[dn ks k]:=aB hi
  obtain⟨i1,i2⟩:=zu5 kids[dn ks k] k (o3 _ (aS hi))
  obtain⟨m1,m2⟩:=Sep.mid (kids:=kids) o1 o2 k
  have he:zjx (zau p ks kids) k=zjx kids[dn ks k] k:=by simp only[zjx,zau,hc]
  show Es (zjx (zau p ks kids) k)∧zi6 (zjx (zau p ks kids) k) k=zi6 (kids.flatMap ents) k
  rw[he,zh0 kids ents hi,qwn m1 m2]
  exact⟨i1,i2⟩
def qni:{h:Nat}→T h→K→E
 |0,t,f=>t.2.drop (lb (keys t.2) f)
 |_+1,t,f=>(t.2.2.drop (dn t.2.1 f)).flatMap fun x=>qni x f
def geE(e:E)(f:K):E:=e.filter fun p=>decide (¬kl p.1 f)
theorem qfx:∀{e:E} {f:K},Es e→e.drop (lb (keys e) f)=geE e f
 | [],_,_=>rfl
 |p::r,f,h=>by
  obtain⟨h1,h2⟩:=zpm h
  unfold geE
  by_cases hlt:kl p.1 f
  ·rw[zst hlt,iK,qfx h2,dU (by simpa using hlt)]
   rfl
  ·rw[zss hlt,List.drop_zero]
   symm
   refine cU.2 fun q hq=>?_
   rcases aI.1 hq with rfl|hq
   ·simpa using hlt
   ·simpa using fun h=>hlt (zb9 (h1 q hq) h)
theorem qfa:∀{h:Nat} (t:T h) (f:K),Ord t→qni t f=geE (ents t) f
 |0,(_,es),f,hO=>qfx (e:=es) hO
 |h+1,(p,ks,kids),f,hO=>by
  obtain⟨o1,o2,o3⟩:Ks ks∧Sep ks (kids.map ents)∧∀x∈kids,Ord x:=hO
  have hl:=o2.len
  rw[aD]at hl
  have hi:dn ks f<kids.length:=by have:=zoh ks f;omega
  obtain⟨m1,m2⟩:=Sep.mid (kids:=kids) o1 o2 f
  show(kids.drop (dn ks f)).flatMap (fun x=>qni x f)=geE (kids.flatMap ents) f
  rw[zh0 kids ents hi,cC hi,aY,qfa kids[dn ks f] f (o3 _ (aS hi))]
  have f1:((kids.take (dn ks f)).flatMap ents).filter (fun p=>decide (¬kl p.1 f))=[]:=List.filter_eq_nil_iff.2 fun q hq=>by simpa using m1 q hq
  have f2:((kids.drop (dn ks f+1)).flatMap ents).filter (fun p=>decide (¬kl p.1 f))=(kids.drop (dn ks f+1)).flatMap ents:=cU.2 fun q hq=>by simpa using zhf (m2 q hq)
  unfold geE
  rw[fZ,fZ,f1,f2,aE]
  congr 1
  have:∀l:List (T h),(∀x∈l,Ord x)→(∀q∈l.flatMap ents,kl f q.1)→l.flatMap (fun x=>qni x f)=l.flatMap ents:=fun l hO' hg=>by
   induction l with
   |nil=>rfl
   |cons x l ih=>
    rw[aY,aY,ih (fun y hy=>hO' y (.tail _ hy)) fun q hq=>hg q (by rw[aY];exact aT _ hq),qfa x f (hO' x (.head _))]
    unfold geE
    rw[cU.2 fun q hq=>by simpa using zhf (hg q (by rw[aY];exact aN _ hq))]
  exact this _ (fun x hx=>o3 x (cG hx)) m2
end Go.Eng.Tr
namespace Go.Eng.Tr
open Go.Proofs.YthafakdplhdfjaaGreatDoor
structure Nd where
 leaf:Bool
 keys:List K
 vals:List K
 kids:List Nat
structure zf8 (s:Sh) (n:Nd):Prop where
 sorted:Ks n.keys
 wide:∀k∈n.keys,k.length=s.kw
 leaf:n.leaf=true→n.kids=[]∧n.keys.length=n.vals.length∧(∀v∈n.vals,v.length=s.vw)∧n.keys.length≤s.cap
 inner:n.leaf=false→(∀k∈n.kids,1≤k∧k<1024)∧n.vals=[]∧n.kids.length=n.keys.length+1∧1≤n.keys.length∧n.kids.length≤s.fan
def qe0(n:Nd):Bys:=if n.leaf then(n.keys.zip n.vals).flatMap fun p=>p.1++p.2 else n.keys.flatMap id
def zog(n:Nd):Bys:=beN 1 (if n.leaf then 1 else 2)++(beN 1 0++(beN 2 n.keys.length++(n.kids.flatMap (beN 2)++qe0 n)))
def zcl(n:Nd):Bys:=zog n++List.replicate (512 - (zog n).length) 0
theorem zkg{α:Type}(l:List α)(f:α→Bys)(c:Nat)(h:∀x∈l,(f x).length=c):(l.flatMap f).length=l.length*c:=by
 induction l with
 |nil=>simp
 |cons x l ih=>rw[aY,aA,h x (.head _),ih fun y hy=>h y (.tail _ hy),aW,Nat.succ_mul];omega
variable{s:Sh}{n:Nd}
theorem qbh(h:zf8 s n):(zog n).length=if n.leaf then 4+n.keys.length*(s.kw+s.vw)else 4+n.kids.length*2+n.keys.length*s.kw:=by
 unfold zog qe0
 simp only[aA,zal]
 rw[zkg n.kids (beN 2) 2 fun x _=>zal 2 x]
 cases hl:n.leaf with
 |true=>
  obtain⟨h1,h2,h3,h4⟩:=h.leaf hl
  rw[if_pos rfl,if_pos rfl,h1,zkg _ _ (s.kw+s.vw) fun p hp=>by
   obtain⟨q1,q2⟩:=iO hp
   rw[aA,h.wide _ q1,h3 _ q2],jQ,←h2,kN]
  simp;omega
 |false=>
  rw[if_neg bP,if_neg bP,zkg n.keys id s.kw fun k hk=>h.wide k hk]
  omega
theorem zzg(hs:1≤s.kw)(h:zf8 s n):(zog n).length≤512:=by
 rw[qbh h]
 cases hl:n.leaf with
 |true=>
  obtain⟨-, -, -,h4⟩:=h.leaf hl
  rw[if_pos rfl]
  have:n.keys.length*(s.kw+s.vw)≤s.cap*(s.kw+s.vw):=fC _ h4
  have h5:s.cap*(s.kw+s.vw)≤508:=Nat.div_mul_le_self 508 (s.kw+s.vw)
  omega
 |false=>
  obtain⟨-, -,h3,h4,h5⟩:=h.inner hl
  rw[if_neg bP]
  have h6:s.fan*(s.kw+2)≤508+s.kw:=Nat.div_mul_le_self (508+s.kw) (s.kw+2)
  have h7:n.kids.length*(s.kw+2)≤s.fan*(s.kw+2):=fC _ h5
  have h8:n.kids.length*(s.kw+2)=n.kids.length*s.kw+n.kids.length*2:=iD _ _ _
  have h9:n.kids.length*s.kw=n.keys.length*s.kw+s.kw:=by rw[h3,Nat.succ_mul]
  omega
theorem zxv(hs:1≤s.kw)(h:zf8 s n):(zcl n).length=512:=by
 have:=zzg hs h
 unfold zcl
 rw[aA,cF]
 omega
def kidsF:Nat→Opn→List Nat×Opn
 |0,st=>([],st)
 |m+1,st=>if st.2 then([],st)else((opN 2 st).1::(kidsF m (opN 2 st).2).1,(kidsF m (opN 2 st).2).2)
def qe2(s:Sh)(leaf:Bool)(st:Opn):K×K×Opn:=((opT s.kw st).1,if leaf then(opT s.vw (opT s.kw st).2).1 else[],if leaf then(opT s.vw (opT s.kw st).2).2 else(opT s.kw st).2)
def zer(s:Sh)(leaf:Bool):Nat→Opn→List K×List K×Opn
 |0,st=>([],[],st)
 |m+1,st=>if st.2 then([],[],st)else
  ((qe2 s leaf st).1::(zer s leaf m (qe2 s leaf st).2.2).1,if leaf then(qe2 s leaf st).2.1::(zer s leaf m (qe2 s leaf st).2.2).2.1 else[],(zer s leaf m (qe2 s leaf st).2.2).2.2)
def hdF(b:Bys):Bool×Nat×Opn:=(decide ((opN 1 (b,false)).1=1),(opN 2 (opN 1 (opN 1 (b,false)).2).2).1,(opN 2 (opN 1 (opN 1 (b,false)).2).2).2)
def zn5(s:Sh)(b:Bys):Nd×Opn:=
 let kf:=if (hdF b).1 then([],(hdF b).2.2)else kidsF ((hdF b).2.1+1) (hdF b).2.2
 (⟨(hdF b).1,(zer s (hdF b).1 (hdF b).2.1 kf.2).1,(zer s (hdF b).1 (hdF b).2.1 kf.2).2.1,kf.1⟩,(zer s (hdF b).1 (hdF b).2.1 kf.2).2.2)
theorem qgv:∀(l:List Nat) (r:Bys),(∀k∈l,k<65536)→kidsF l.length (l.flatMap (beN 2)++r,false)=(l,(r,false))
 | [],_,_=>rfl
 |k::l,r,h=>by
  have e:opN 2 ((k::l).flatMap (beN 2)++r,false)=(k,(l.flatMap (beN 2)++r,false)):=by
   rw[aY,aF]
   exact zgc (h k (.head _)) _
  rw[aW,kidsF,if_neg bP,e,qgv l r fun x hx=>h x (.tail _ hx)]
theorem zxm(s:Sh):∀(l:E) (r:Bys),(∀p∈l,p.1.length=s.kw∧p.2.length=s.vw)→zer s true l.length (l.flatMap (fun p=>p.1++p.2)++r,false)=(l.map (·.1),l.map (·.2),(r,false))
 | [],_,_=>rfl
 |p::l,r,h=>by
  obtain⟨h1,h2⟩:=h p (.head _)
  have e:qe2 s true ((p::l).flatMap (fun p=>p.1++p.2)++r,false)=(p.1,p.2,(l.flatMap (fun p=>p.1++p.2)++r,false)):=by
   unfold qe2
   rw[aY,aF,aF,←h1,zqb,←h2,zqb]
   rfl
  rw[aW,zer,if_neg bP,e,zxm s l r fun x hx=>h x (.tail _ hx)]
  rfl
theorem zsr(s:Sh):∀(l:List K) (r:Bys),(∀k∈l,k.length=s.kw)→zer s false l.length (l.flatMap id++r,false)=(l,[],(r,false))
 | [],_,_=>rfl
 |k::l,r,h=>by
  have h1:=h k (.head _)
  have e:qe2 s false ((k::l).flatMap id++r,false)=(k,[],(l.flatMap id++r,false)):=by
   unfold qe2
   rw[aY,aF,←h1]
   have:=zqb k (l.flatMap id++r)
   simp only[id_eq]
   rw[this]
   rfl
  rw[aW,zer,if_neg bP,e,zsr s l r fun x hx=>h x (.tail _ hx)]
  rfl
theorem ql2{a b:List K}(h:a.length=b.length):(a.zip b).map (·.1)=a∧(a.zip b).map (·.2)=b:=by
 refine⟨?_,?_⟩
 ·have:=List.map_fst_zip (l₁:=a) (l₂:=b) oQ
  exact this
 ·have:=List.map_snd_zip (l₁:=a) (l₂:=b) oQ
  exact this
theorem qk4(hs:1≤s.kw)(h:zf8 s n):zn5 s (zcl n)=(n,(List.replicate (512 - (zog n).length) 0,false)):=by
 have hle:=zzg hs h
 have hlen:=qbh h
 generalize hz:List.replicate (512 - (zog n).length) (0:UInt8)=z
 have hkl:n.keys.length<65536:=by
  cases hl:n.leaf with
  |true=>
   rw[hl,if_pos rfl]at hlen
   have:n.keys.length*1≤n.keys.length*(s.kw+s.vw):=gJ _ oQ
   omega
  |false=>
   rw[hl,if_neg bP]at hlen
   have:n.keys.length*1≤n.keys.length*s.kw:=gJ _ hs
   omega
 have e1:opN 1 (zcl n,false)=(if n.leaf then 1 else 2,(beN 1 0++(beN 2 n.keys.length++(n.kids.flatMap (beN 2)++(qe0 n++z))),false)):=by
  unfold zcl
  rw[hz]
  unfold zog
  simp only[aF]
  exact zgc (by split<;>decide) _
 have e2:opN 1 (beN 1 0++(beN 2 n.keys.length++(n.kids.flatMap (beN 2)++(qe0 n++z))),false)=(0,(beN 2 n.keys.length++(n.kids.flatMap (beN 2)++(qe0 n++z)),false)):=zgc dQ _
 have e3:opN 2 (beN 2 n.keys.length++(n.kids.flatMap (beN 2)++(qe0 n++z)),false)=(n.keys.length,(n.kids.flatMap (beN 2)++(qe0 n++z),false)):=zgc oQ _
 have eh:hdF (zcl n)=(n.leaf,n.keys.length,(n.kids.flatMap (beN 2)++(qe0 n++z),false)):=by
  unfold hdF
  rw[e1]
  simp only
  rw[e2]
  simp only
  rw[e3]
  cases n.leaf<;>rfl
 unfold zn5
 rw[eh]
 obtain⟨leaf,keys,vals,kids⟩:=n
 simp only at*
 cases leaf with
 |true=>
  obtain⟨h1,h2,h3,h4⟩:=h.leaf rfl
  simp only at h1 h2 h3 h4
  subst h1
  obtain⟨z1,z2⟩:=ql2 h2
  have:=zxm s (keys.zip vals) z fun p hp=>by
   obtain⟨q1,q2⟩:=iO hp
   exact⟨h.wide _ q1,h3 _ q2⟩
  rw[jQ,←h2,kN,z1,z2]at this
  simp only[if_true,jH,aE,qe0]
  rw[this]
 |false=>
  obtain⟨h1,h2,h3,h4,h5⟩:=h.inner rfl
  simp only at h1 h2 h3 h4 h5
  subst h2
  have k1:=qgv kids (keys.flatMap id++z) fun k hk=>by have:=(h1 k hk).2;omega
  rw[h3]at k1
  have k2:=zsr s keys z fun k hk=>h.wide k hk
  simp only[bS,if_false,qe0]
  rw[k1]
  simp only
  rw[k2]
noncomputable def zq5(s:Sh)(b:Bys):Option Nd:=by
 classical exact if (zn5 s b).2.2=false∧zf8 s (zn5 s b).1∧zcl (zn5 s b).1=b then some (zn5 s b).1 else none
theorem qin(hs:1≤s.kw)(h:zf8 s n):zq5 s (zcl n)=some n:=by
 unfold zq5
 rw[qk4 hs h,if_pos ⟨rfl,h,rfl⟩]
theorem qo7{b:Bys}(h:zq5 s b=some n):zf8 s n∧zcl n=b:=by
 unfold zq5 at h
 split at h
 ·rename_i hc
  cases h
  exact hc.2
 ·cases h
end Go.Eng.Tr
namespace Go.Eng.Tr
open Go.Proofs.YthafakdplhdfjaaGreatDoor
structure Sg where
 W:Nat→Bys
 S:Nat→Bool
def wr(W:Nat→Bys)(i:Nat)(b:Bys):Nat→Bys:=fun j=>if j=i then b else W j
noncomputable section
open Classical
def zfs(s:Sh)(N:Nat)(g:Sg)(at_:Int):Except Nat Nd:=if 1≤at_∧at_<N then(match zq5 s (g.W at_.toNat)with|some n=>.ok n|none=>.error 12)else .error 12
def zb8(s:Sh)(N:Nat)(g:Sg)(at_:Nat)(n:Nd):Except Nat Sg:=if zf8 s n then(if 1≤at_∧at_<N then .ok { g with W:=wr g.W at_ (zcl n) } else .error 2)else .error 12
def zh8(N:Nat)(g:Sg):Except Nat (Nat×Sg):=if∃i,i<N∧g.S i=false then .ok (nw N g.S,⟨wr g.W (nw N g.S) (List.replicate 512 0),us g.S (nw N g.S) true⟩)else .error 5
def zf0(N:Nat)(g:Sg)(at_:Nat):Except Nat Sg:=if 1≤at_∧at_<N∧g.S at_=true then .ok { g with S:=us g.S at_ false } else .error 2
def lNd(keys vals:List K):Nd:=⟨true,keys,vals,[]⟩
def iNd(keys:List K)(kids:List Nat):Nd:=⟨false,keys,[],kids⟩
def qbn(s:Sh)(n:Nd):Bool:=if n.leaf then decide (n.keys.length≤s.cap)else decide (n.kids.length≤s.fan)
def zcc(s:Sh)(N:Nat)(g:Sg)(at_:Nat)(n:Nd):Except Nat ((K×Nat)×Sg):=
 if qbn s n then do
  let g1←zb8 s N g at_ n
  return (([],0),g1)
 else do
  let (q,g1)←zh8 N g
  if n.leaf then do
   let g2←zb8 s N g1 q (lNd (n.keys.drop (n.keys.length/2)) (n.vals.drop (n.keys.length/2)))
   let g3←zb8 s N g2 at_ (lNd (n.keys.take (n.keys.length/2)) (n.vals.take (n.keys.length/2)))
   return (((n.keys.drop (n.keys.length/2)).headD [],q),g3)
  else do
   let g2←zb8 s N g1 q (iNd (n.keys.drop (n.kids.length/2)) (n.kids.drop (n.kids.length/2)))
   let g3←zb8 s N g2 at_ (iNd (n.keys.take (n.kids.length/2 - 1)) (n.kids.take (n.kids.length/2)))
   return ((n.keys.getD (n.kids.length/2 - 1) [],q),g3)
end
def zaj:{h:Nat}→T h→Nd
 |0,t=>lNd (t.2.map (·.1)) (t.2.map (·.2))
 |_+1,t=>iNd t.2.1 (t.2.2.map pg)
def Rep(W:Nat→Bys):{h:Nat}→T h→Prop
 |0,t=>W t.1=zcl (zaj (h:=0) t)
 |h+1,t=>W t.1=zcl (zaj (h:=h+1) t)∧∀x∈t.2.2,Rep W x
variable{W:Nat→Bys}
theorem Rep.at_:∀{h:Nat} {t:T h},Rep W t→W (pg t)=zcl (zaj t)
 |0,_,h=>h
 |_+1,_,h=>h.1
theorem Rep.frame{W W':Nat→Bys}:∀{h:Nat} {t:T h},Rep W t→(∀x∈pgs t,W' x=W x)→Rep W' t
 |0,t,hr,hf=>(hf t.1 (.head _)).trans hr
 |h+1,t,hr,hf=>⟨(hf t.1 (.head _)).trans hr.1,fun x hx=>(hr.2 x hx).frame fun y hy=>hf y (.tail _ (cE.2 ⟨x,hx,hy⟩))⟩
variable{s:Sh}
theorem zcu:∀{h:Nat} (t:T h),Ord t→Wd s t→sz t≤mx s h→(1≤h→2≤sz t)→(∀x∈pgs t,1≤x∧x<1024)→zf8 s (zaj t)
 |0,(p,es),hO,hW,hm,_,_=>by
  refine⟨hO,fun k hk=>?_,fun _=>⟨rfl,by simp[zaj,lNd],fun v hv=>?_,?_⟩,fun h=>(nomatch h)⟩
  ·obtain⟨q,hq,rfl⟩:=aO.1 hk
   exact(hW q hq).1
  ·obtain⟨q,hq,rfl⟩:=aO.1 hv
   exact(hW q hq).2
  ·show(es.map (·.1)).length≤s.cap
   rw[aD];exact hm
 |h+1,(p,ks,kids),hO,hW,hm,h2,hp=>by
  have hl:=hO.2.1.len
  have h2:2≤kids.length:=h2 (eZ _)
  have hl:(kids.map ents).length=ks.length+1:=hl
  rw[aD]at hl
  refine⟨hO.1,hW.1,fun h=>(nomatch h),fun _=>⟨fun k hk=>?_,rfl,?_,?_,?_⟩⟩
  ·obtain⟨x,hx,rfl⟩:=aO.1 hk
   exact hp _ (.tail _ (cE.2 ⟨x,hx,zcj x⟩))
  ·show(kids.map pg).length=ks.length+1
   rw[aD];exact hl
  ·show 1≤ks.length;omega
  ·show(kids.map pg).length≤s.fan
   rw[aD];exact hm
variable{N h:Nat}{g:Sg}
theorem zfl(hs:1≤s.kw){t:T h}(hr:Rep g.W t)(hm:zf8 s (zaj t))(h1:1≤pg t)(h2:pg t<N):zfs s N g (pg t:Nat)= .ok (zaj t):=by
 unfold zfs
 rw[if_pos ⟨oQ,oQ⟩,cA,hr.at_,qin hs hm]
theorem zcv{at_:Nat}{n:Nd}(hm:zf8 s n)(h1:1≤at_)(h2:at_<N):zb8 s N g at_ n= .ok { g with W:=wr g.W at_ (zcl n) }:=by
 unfold zb8
 rw[if_pos hm,if_pos ⟨h1,h2⟩]
theorem ze6(W:Nat→Bys)(i:Nat)(b:Bys):wr W i b i=b:=if_pos rfl
theorem zbe(W:Nat→Bys){i j:Nat}(b:Bys)(h:j≠i):wr W i b j=W j:=if_neg h
structure zlr (N:Nat) (g:Sg) {h:Nat} (L:List Nat) (r:Res h) (o:Except Nat ((K×Nat)×Sg)) (g':Sg):Prop where
 none:r.2.1=none→o= .ok (([],0),g')
 some:∀q d,r.2.1=some (q,d)→o= .ok ((q,pg d),g')∧Rep g'.W d∧1≤pg d
 rep:Rep g'.W r.1
 S:g'.S=r.2.2
 frame:∀x,x<N→x∉L→g.S x=true→g'.W x=g.W x
theorem zlm(hs:zwi s)(hN:N≤1024):∀{h:Nat} (t:T h) (g:Sg),Ord t→Wd s t→Below s t→sz t≤mx s h+mx s h/2→(1≤h→2≤sz t)→(∀x∈pgs t,1≤x∧x<N∧g.S x=true)→(pgs t).Nodup→(∃i,i<N∧g.S i=false)→g.S 0=true→(match h,t with|0,_=>True|_+1,t=>∀x∈t.2.2,Rep g.W x)→
  ∃g',zlr N g (pgs t) (zca s N g.S t) (zcc s N g (pg t) (zaj t)) g'
 |0,(p,es),g,hO,hW,hB,hm,_,hp,hnd,hfree,h0,_=>by
  obtain⟨hp1,hp2,hp3⟩:=hp p (.head _)
  change∃g',zlr N g [p] (zca s N g.S (zb0 p es)) (zcc s N g p (lNd (List.map (fun q:K×K=>q.1) es) (List.map (fun q:K×K=>q.2) es))) g'
  rw[znl]
  have hlen:(es.map (·.1)).length=es.length:=aD _
  have mk:∀l:E,Es l→(∀q∈l,q∈es)→l.length≤s.cap→zf8 s (lNd (l.map (·.1)) (l.map (·.2))):=fun l h1 h2 h3=>
   zcu (h:=0) (zb0 p l) h1 (fun q hq=>hW q (h2 q hq)) h3 (fun h=>oQ) (fun x hx=>by
    have e:x=p:=aK.1 hx
    rw[e];exact⟨hp1,oQ⟩)
  by_cases hc:es.length≤s.cap
  ·rw[if_pos hc]
   have hf:qbn s (lNd (es.map (·.1)) (es.map (·.2)))=true:=by
    unfold qbn lNd
    rw[if_pos rfl,hlen]
    exact decide_eq_true hc
   refine⟨⟨wr g.W p (zcl (lNd (es.map (·.1)) (es.map (·.2)))),g.S⟩,⟨fun _=>?_,fun q d h=>(nomatch h),?_,rfl,fun x _ hx _=>?_⟩⟩
   ·unfold zcc
    rw[if_pos hf,zcv (mk es hO (fun q hq=>hq) hc) hp1 hp2]
    rfl
   ·exact ze6 _ _ _
   ·exact zbe _ _ (fun e=>hx (by rw[e];exact gA))
  ·rw[if_neg hc]
   obtain⟨f1,f2,f3⟩:=zjr hfree
   have hm:es.length≤s.cap+s.cap/2:=hm
   have hcap:=hs.cap
   obtain⟨l1,l2⟩:=zus (a:=es.length) (m:=s.cap) oQ
   obtain⟨l3,l4⟩:=zur hm oQ
   have hq1:1≤nw N g.S:=by
    rcases fA (nw N g.S)with h|h
    ·rw[h,h0]at f1;cases f1
    ·exact h
   have hqp:nw N g.S≠p:=fun e=>by rw[e,hp3]at f1;cases f1
   have hf:qbn s (lNd (es.map (·.1)) (es.map (·.2)))=false:=by
    unfold qbn lNd
    rw[if_pos rfl,hlen]
    exact decide_eq_false hc
   have m1:=mk (es.drop (es.length/2)) (Es.drop (e:=es) hO _) (fun q hq=>cG hq) (by rw[aX];omega)
   have m2:=mk (es.take (es.length/2)) (Es.take (e:=es) hO _) (fun q hq=>bW hq) (by rw[aM];omega)
   refine⟨⟨wr (wr (wr g.W (nw N g.S) (List.replicate 512 0)) (nw N g.S) (zcl (zaj (zb0 p (es.drop (es.length/2)))))) p (zcl (zaj (zb0 p (es.take (es.length/2))))),us g.S (nw N g.S) true⟩,⟨fun h=>(nomatch h),fun q d hqd=>?_,?_,rfl,fun x _ hx hxS=>?_⟩⟩
   ·obtain⟨rfl,rfl⟩:=jN (cN hqd)
    refine⟨?_,?_,hq1⟩
    ·unfold zcc
     rw[if_neg (by rw[hf];decide)]
     unfold zh8
     rw[if_pos hfree]
     show(do
      let g2←zb8 s N _ (nw N g.S) (lNd ((List.map (fun q:K×K=>q.1) es).drop ((List.map (fun q:K×K=>q.1) es).length/2)) ((List.map (fun q:K×K=>q.2) es).drop ((List.map (fun q:K×K=>q.1) es).length/2)))
      let g3←zb8 s N g2 p (lNd ((List.map (fun q:K×K=>q.1) es).take ((List.map (fun q:K×K=>q.1) es).length/2)) ((List.map (fun q:K×K=>q.2) es).take ((List.map (fun q:K×K=>q.1) es).length/2)))
      return ((((List.map (fun q:K×K=>q.1) es).drop ((List.map (fun q:K×K=>q.1) es).length/2)).headD [],nw N g.S),g3))=_
     rw[hlen,←eX,←eX,←fE,←fE,zcv m1 hq1 f2]
     show(do
      let g3←zb8 s N _ p _
      return (_,g3))=_
     rw[zcv m2 hp1 hp2]
     rfl
    ·show wr _ _ _ (nw N g.S)=_
     rw[zbe _ _ hqp,ze6]
     rfl
   ·exact ze6 _ _ _
   ·show wr _ _ _ x=g.W x
    have hxq:x≠nw N g.S:=fun e=>by rw[e,f1]at hxS;cases hxS
    rw[zbe _ _ (fun e=>hx (by rw[e];exact gA)),zbe _ _ hxq,zbe _ _ hxq]
 |h+1,(p,ks,kids),g,hO,hW,hB,hm,h2k,hp,hnd,hfree,h0,hrep=>by
  obtain⟨hp1,hp2,hp3⟩:=hp p (.head _)
  have hrep:∀x∈kids,Rep g.W x:=hrep
  have h2k:2≤kids.length:=h2k (eZ _)
  have hm:kids.length≤s.fan+s.fan/2:=hm
  obtain⟨nd1,nd2⟩:=cP.1 (show(p::kids.flatMap pgs).Nodup from hnd)
  have hkp:∀x∈kids,∀y∈pgs x,y≠p∧1≤y∧y<N∧g.S y=true:=fun x hx y hy=>by
   have hm:=cE.2 ⟨x,hx,hy⟩
   exact⟨fun e=>nd1 (e▸hm),hp y (.tail _ hm)⟩
  have hl:=hO.2.1.len
  have hl:(kids.map ents).length=ks.length+1:=hl
  rw[aD]at hl
  change∃g',zlr N g (pgs (zau p ks kids)) (zca s N g.S (zau p ks kids)) (zcc s N g p (iNd ks (kids.map pg))) g'
  rw[znm]
  have hlen:(kids.map pg).length=kids.length:=aD _
  by_cases hc:kids.length≤s.fan
  ·rw[if_pos hc]
   have hf:qbn s (iNd ks (kids.map pg))=true:=by
    unfold qbn iNd
    rw[if_neg bP,hlen]
    exact decide_eq_true hc
   have hmay:zf8 s (zaj (zau p ks kids)):=zcu (zau p ks kids) hO hW hc (fun _=>h2k) fun x hx=>⟨(hp x hx).1,by have:=(hp x hx).2.1;omega⟩
   refine⟨⟨wr g.W p (zcl (iNd ks (kids.map pg))),g.S⟩,⟨fun _=>?_,fun q d h=>(nomatch h),⟨ze6 _ _ _,fun x hx=>(hrep x hx).frame fun y hy=>zbe _ _ (hkp x hx y hy).1⟩,rfl,fun x _ hx _=>?_⟩⟩
   ·unfold zcc
    rw[if_pos hf,zcv (show zf8 s (iNd ks (kids.map pg))from hmay) hp1 hp2]
    rfl
   ·exact zbe _ _ (fun e=>hx (by rw[e];exact gA))
  ·rw[if_neg hc]
   obtain⟨f1,f2,f3⟩:=zjr hfree
   have hfan:=hs.fan
   obtain⟨l1,l2⟩:=zus (a:=kids.length) (m:=s.fan) oQ
   obtain⟨l3,l4⟩:=zur hm oQ
   have hq1:1≤nw N g.S:=by
    rcases fA (nw N g.S)with h|h
    ·rw[h,h0]at f1;cases f1
    ·exact h
   have hqn:∀y,g.S y=true→y≠nw N g.S:=fun y hy e=>by rw[e,f1]at hy;cases hy
   have hf:qbn s (iNd ks (kids.map pg))=false:=by
    unfold qbn iNd
    rw[if_neg bP,hlen]
    exact decide_eq_false hc
   obtain⟨c1,c2⟩:=hO.2.1.cut hO.1 (m:=kids.length/2) oQ (by show kids.length/2<(kids.map ents).length;rw[aD];omega)
   have c1:Sep (ks.take (kids.length/2 - 1)) ((kids.map ents).take (kids.length/2)):=c1
   have c2:Sep (ks.drop (kids.length/2)) ((kids.map ents).drop (kids.length/2)):=c2
   rw[←fE]at c1
   rw[←eX]at c2
   have m1:zf8 s (zaj (zau p (ks.drop (kids.length/2)) (kids.drop (kids.length/2)))):=zcu (zau p _ _) ⟨dO (fH _ _) hO.1,c2,fun x hx=>hO.2.2 x (cG hx)⟩ ⟨fun k hk=>hW.1 k (cG hk),fun x hx=>hW.2 x (cG hx)⟩ (by show(kids.drop (kids.length/2)).length≤s.fan;rw[aX];omega) (fun _=>by show 2≤(kids.drop (kids.length/2)).length;rw[aX];omega) fun x hx=>by
    rcases aI.1 hx with rfl|hx
    ·exact⟨hp1,oQ⟩
    ·obtain⟨z,hz,hx⟩:=cE.1 hx
     have:=hkp z (cG hz) x hx
     exact⟨this.2.1,oQ⟩
   have m2:zf8 s (zaj (zau p (ks.take (kids.length/2 - 1)) (kids.take (kids.length/2)))):=zcu (zau p _ _) ⟨dO (fK _ _) hO.1,c1,fun x hx=>hO.2.2 x (bW hx)⟩ ⟨fun k hk=>hW.1 k (bW hk),fun x hx=>hW.2 x (bW hx)⟩ (by show(kids.take (kids.length/2)).length≤s.fan;rw[aM];omega) (fun _=>by show 2≤(kids.take (kids.length/2)).length;rw[aM];omega) fun x hx=>by
    rcases aI.1 hx with rfl|hx
    ·exact⟨hp1,oQ⟩
    ·obtain⟨z,hz,hx⟩:=cE.1 hx
     have:=hkp z (bW hz) x hx
     exact⟨this.2.1,oQ⟩
   have hkid:∀x∈kids,∀b0 b1 b2:Bys,Rep (wr (wr (wr g.W (nw N g.S) b0) (nw N g.S) b1) p b2) x:=fun x hx b0 b1 b2=>(hrep x hx).frame fun y hy=>by
    have:=hkp x hx y hy
    rw[zbe _ _ this.1,zbe _ _ (hqn y this.2.2.2),zbe _ _ (hqn y this.2.2.2)]
   refine⟨⟨wr (wr (wr g.W (nw N g.S) (List.replicate 512 0)) (nw N g.S) (zcl (iNd (ks.drop (kids.length/2)) ((kids.drop (kids.length/2)).map pg)))) p (zcl (iNd (ks.take (kids.length/2 - 1)) ((kids.take (kids.length/2)).map pg))),us g.S (nw N g.S) true⟩,⟨fun h=>(nomatch h),fun q d hqd=>?_,⟨ze6 _ _ _,fun x hx=>hkid x (bW hx) _ _ _⟩,rfl,fun x _ hx hxS=>?_⟩⟩
   ·obtain⟨rfl,rfl⟩:=jN (cN hqd)
    refine⟨?_,⟨?_,fun x hx=>hkid x (cG hx) _ _ _⟩,hq1⟩
    ·unfold zcc
     rw[if_neg (by rw[hf];decide)]
     unfold zh8
     rw[if_pos hfree]
     show(do
      let g2←zb8 s N _ (nw N g.S) (iNd (ks.drop ((kids.map pg).length/2)) ((kids.map pg).drop ((kids.map pg).length/2)))
      let g3←zb8 s N g2 p (iNd (ks.take ((kids.map pg).length/2 - 1)) ((kids.map pg).take ((kids.map pg).length/2)))
      return ((ks.getD ((kids.map pg).length/2 - 1) [],nw N g.S),g3))=_
     rw[hlen,←eX,←fE,zcv (show zf8 s (iNd (ks.drop (kids.length/2)) ((kids.drop (kids.length/2)).map pg))from m1) hq1 f2]
     show(do
      let g3←zb8 s N _ p _
      return (_,g3))=_
     rw[zcv (show zf8 s (iNd (ks.take (kids.length/2 - 1)) ((kids.take (kids.length/2)).map pg))from m2) hp1 hp2]
     rfl
    ·show wr _ _ _ (nw N g.S)=_
     rw[zbe _ _ (hqn p hp3).symm,ze6]
     rfl
   ·show wr _ _ _ x=g.W x
    have hxq:x≠nw N g.S:=hqn x hxS
    rw[zbe _ _ (fun e=>hx (by rw[e];exact gA)),zbe _ _ hxq,zbe _ _ hxq]
def qap(n:Nd)(key val:K):Nd:=if fd n.keys key then lNd n.keys (n.vals.set (lb n.keys key) val)else lNd (ins n.keys (lb n.keys key) key) (ins n.vals (lb n.keys key) val)
noncomputable section
def putF(s:Sh)(N:Nat)(key val:K):Nat→Sg→Int→Except Nat ((K×Nat)×Sg)
 |0,_,_=>.error 12
 |d+1,g,at_=>do
  let n←zfs s N g at_
  if n.leaf then zcc s N g at_.toNat (qap n key val)
  else do
   let (gr,g1)←putF s N key val d g (n.kids.getD (dn n.keys key) 0:Nat)
   if gr.2=0 then return (gr,g1)
   else zcc s N g1 at_.toNat (iNd (ins n.keys (dn n.keys key) gr.1) (ins n.kids (dn n.keys key+1) gr.2))
end
theorem qco{α:Type}(l:List α)(i:Nat)(x:α)(h:l[i]? =some x):l.set i x=l:=by
 obtain⟨h1,h2⟩:=aJ.1 h
 rw[←h2];exact gC h1
theorem qlb{es:E}(hO:Es es)(p:Nat)(k v:K):qap (zaj (zb0 p es)) k v=zaj (zb0 p (zfx es k v)):=by
 have hr:=zyf (e:=es) (k:=k) hO
 show(if fd (keys es) k then lNd (keys es) ((List.map (fun q:K×K=>q.2) es).set (lb (keys es) k) v)else lNd (ins (keys es) (lb (keys es) k) k) (ins (List.map (fun q:K×K=>q.2) es) (lb (keys es) k) v))=lNd (List.map (fun q:K×K=>q.1) (zfx es k v)) (List.map (fun q:K×K=>q.2) (zfx es k v))
 cases hf:fd (keys es) k with
 |true=>
  obtain⟨w,a1, -,a3, -⟩:=hr.1 hf
  rw[if_pos rfl,a3,iF,iF]
  congr 1
  exact(qco (keys es) _ _ (by
   show(List.map (fun q:K×K=>q.1) es)[lb (keys es) k]? =some k
   rw[aP,a1];rfl)).symm
 |false=>
  obtain⟨-,a2, -⟩:=hr.2 hf
  rw[if_neg bP,a2,zp0,zp0]
  rfl
theorem zw5{kids:List (T h)}(hn:(kids.flatMap pgs).Nodup){i j:Nat}(hi:i<kids.length)(hj:j<kids.length)(hij:i≠j):∀y∈pgs kids[i],y∉pgs kids[j]:=by
 induction kids generalizing i j with
 |nil=>exact absurd hi (fN _)
 |cons x l ih=>
  rw[aY,cM]at hn
  obtain⟨n1,n2,n3⟩:=hn
  intro y hy hy'
  cases i with
  |zero=>
   cases j with
   |zero=>exact hij rfl
   |succ j=>exact n3 y hy y (cE.2 ⟨_,aS (by simpa using hj),hy'⟩) rfl
  |succ i=>
   cases j with
   |zero=>exact n3 y hy' y (cE.2 ⟨_,aS (by simpa using hi),hy⟩) rfl
   |succ j=>exact ih n2 (by simpa using hi) (by simpa using hj) oQ y hy hy'
theorem qkg(h2:∀h,2≤mx s h){p:Nat}{ks:List K}{kids:List (T h)}(hO:Ord (zau p ks kids))(hW:Wd s (zau p ks kids))(hB:Below s (zau p ks kids)){k v:K}(hi:dn ks k<kids.length){c' d:T h}{q:K}{r:Res h}(hr:zk1 s kids[dn ks k] (zfx (ents kids[dn ks k]) k v) r)(h1:r.1=c')(h3:r.2.1=some (q,d)):
  Ord (zau p (ins ks (dn ks k) q) (ins (kids.set (dn ks k) c') (dn ks k+1) d))∧Wd s (zau p (ins ks (dn ks k) q) (ins (kids.set (dn ks k) c') (dn ks k+1) d))∧Below s (zau p (ins ks (dn ks k) q) (ins (kids.set (dn ks k) c') (dn ks k+1) d)):=by
 subst h1
 obtain⟨o1,o2,o3⟩:Ks ks∧Sep ks (kids.map ents)∧∀x∈kids,Ord x:=hO
 obtain⟨w1,w2⟩:(∀k∈ks,k.length=s.kw)∧∀x∈kids,Wd s x:=hW
 have hB:∀x∈kids,mx s h/2≤sz x∧sz x≤mx s h∧Below s x:=hB
 have hbd:=o2.bd o1 (i:=dn ks k) (by rw[aD];exact hi)
 rw[cS]at hbd
 have hbp:=qqf o1 (v:=v) hbd
 obtain⟨n1,n2,n3,n4,n5,n6,n7,n8,n9,n10,n11,n12,n13,n14⟩:=hr.some q d h3
 have hh:=h2 h
 have ne1:=zjp s h2 r.1 n13 oQ
 have ne2:=zjp s h2 d n14 oQ
 obtain⟨x1,hx1⟩:=dJ _ ne1
 obtain⟨x2,hx2⟩:=dJ _ ne2
 have b1:Bd ks (dn ks k) (ents r.1):=hbp.sub fun p hp=>by rw[←n1];exact aN _ hp
 have b2:Bd ks (dn ks k) (ents d):=hbp.sub fun p hp=>by rw[←n1];exact aT _ hp
 obtain⟨i1,i2⟩:=o2.ins o1 (i:=dn ks k) (by rw[aD];exact hi) b1 b2 n7 n8 (fun j hj hij=>zd5 (b1.2 j hj hij x1 hx1) (n7 x1 hx1)) fun j hj hij=>zd5 (n8 x2 hx2) (b2.1 j hj hij x2 hx2)
 refine⟨⟨i1,?_,fun x hx=>?_⟩,⟨fun x hx=>?_,fun x hx=>?_⟩,fun x hx=>?_⟩
 ·show Sep _ ((ins (kids.set (dn ks k) r.1) (dn ks k+1) d).map ents)
  rw[zp0,map_set']
  exact i2
 ·rcases zf2 hx with rfl|hx
  ·exact n3
  ·rcases cK hx with hx|rfl
   ·exact o3 x hx
   ·exact n2
 ·rcases zf2 hx with rfl|hx
  ·exact n6
  ·exact w1 x hx
 ·rcases zf2 hx with rfl|hx
  ·exact n5
  ·rcases cK hx with hx|rfl
   ·exact w2 x hx
   ·exact n4
 ·rcases zf2 hx with rfl|hx
  ·exact⟨n11,n12,n14⟩
  ·rcases cK hx with hx|rfl
   ·exact hB x hx
   ·exact⟨n9,n10,n13⟩
theorem zm1(kids:List (T h)){i:Nat}(hi:i<kids.length)(c':T h)(he:pg c'=pg kids[i]):(kids.set i c').map pg=kids.map pg:=by
 rw[map_set',he]
 exact qco _ _ _ (by rw[aP,aB hi];rfl)
theorem qcf{s:Sh}(hs:zwi s){N:Nat}(hN:N≤1024)(k v:K)(hk:k.length=s.kw)(hv:v.length=s.vw):∀{h:Nat} (t:T h) (d:Nat) (g:Sg) (L:List Nat),h<d→Ord t→Wd s t→Below s t→sz t≤mx s h→(1≤h→2≤sz t)→Rep g.W t→(pgs t).Nodup→(∀x∈pgs t,x∈L)→Acc N g.S L→L.length+h+2<N→
  ∃g',zlr N g (pgs t) (zok s N t k v g.S) (putF s N k v d g (pg t:Nat)) g'
 |0,(p,es),d+1,g,L,_,hO,hW,hB,hm,h2k,hrep,hnd,hsub,hA,hroom=>by
  have hO:Es es:=hO
  have hcap:=hs.cap
  have hm:es.length≤s.cap:=hm
  have hpL:p∈L:=hsub p (.head _)
  obtain⟨hp1,hp2⟩:=hA.low p hpL
  have h0:g.S 0=true:=(hA.is 0 oQ).2 (.inl rfl)
  have hpS:g.S p=true:=(hA.is p hp2).2 (.inr hpL)
  have hmay:zf8 s (zaj (zb0 p es)):=zcu (zb0 p es) hO hW hm (fun h=>oQ) fun x hx=>by rw[aK.1 hx];exact⟨hp1,aV hp2 hN⟩
  have hload:zfs s N g (p:Nat)= .ok (zaj (zb0 p es)):=zfl (t:=zb0 p es) hs.kw hrep hmay hp1 hp2
  have hl:=zvs es k v
  obtain⟨f1,f2,f3,f4,f5⟩:=hA.free oQ
  obtain⟨g',hg⟩:=zlm hs hN (zb0 p (zfx es k v)) g (zvr (e:=es) hO) (fun q hq=>by
   rcases zkm hq with rfl|hq
   ·exact⟨hk,hv⟩
   ·exact hW q hq) trivial (by show(zfx es k v).length≤s.cap+s.cap/2;omega) (fun h=>oQ) (fun x hx=>by rw[aK.1 hx];exact⟨hp1,hp2,hpS⟩) (eO _ _) ⟨_,f2,f1⟩ h0 trivial
  refine⟨g',?_⟩
  have e:putF s N k v (d+1) g (p:Nat)=zcc s N g p (zaj (zb0 p (zfx es k v))):=by
   rw[putF,hload]
   show(if (zaj (zb0 p es)).leaf=true then zcc s N g ((p:Nat):Int).toNat (qap (zaj (zb0 p es)) k v)else(do
    let (gr,g1)←putF s N k v d g ((zaj (zb0 p es)).kids.getD (dn (zaj (zb0 p es)).keys k) 0:Nat)
    if gr.2=0 then return (gr,g1)
    else zcc s N g1 ((p:Nat):Int).toNat (iNd (ins (zaj (zb0 p es)).keys (dn (zaj (zb0 p es)).keys k) gr.1) (ins (zaj (zb0 p es)).kids (dn (zaj (zb0 p es)).keys k+1) gr.2))))=_
   rw[if_pos (show(zaj (zb0 p es)).leaf=true from rfl),qlb hO,cA]
  show zlr N g [p] (zca s N g.S (zb0 p (zfx es k v))) (putF s N k v (d+1) g (p:Nat)) g'
  rw[e]
  exact hg
 |h+1,(p,ks,kids),d+1,g,L,hd,hO,hW,hB,hm,h2k,hrep,hnd,hsub,hA,hroom=>by
  have hpL:p∈L:=hsub p (.head _)
  obtain⟨hp1,hp2⟩:=hA.low p hpL
  have h0:g.S 0=true:=(hA.is 0 oQ).2 (.inl rfl)
  have hpS:g.S p=true:=(hA.is p hp2).2 (.inr hpL)
  have h2k':2≤kids.length:=h2k (eZ _)
  have hm':kids.length≤s.fan:=hm
  have hfan:=hs.fan
  obtain⟨nd1,nd2⟩:=cP.1 (show(p::kids.flatMap pgs).Nodup from hnd)
  have hl:(kids.map ents).length=ks.length+1:=hO.2.1.len
  rw[aD]at hl
  have hi:dn ks k<kids.length:=by have:=zoh ks k;omega
  have hc:kids[dn ks k]? =some kids[dn ks k]:=aB hi
  have hcm:=aS hi
  have hB':∀x∈kids,mx s h/2≤sz x∧sz x≤mx s h∧Below s x:=hB
  have hrep':∀x∈kids,Rep g.W x:=hrep.2
  have hin:∀x∈kids,∀y∈pgs x,y∈kids.flatMap pgs:=fun x hx y hy=>cE.2 ⟨x,hx,hy⟩
  have hmay:zf8 s (zaj (zau p ks kids)):=zcu (zau p ks kids) hO hW hm h2k fun x hx=>by
   have:=hA.low x (hsub x hx)
   exact⟨this.1,oQ⟩
  have hload:zfs s N g (p:Nat)= .ok (zaj (zau p ks kids)):=zfl (t:=zau p ks kids) hs.kw hrep hmay hp1 hp2
  have hcnd:(pgs kids[dn ks k]).Nodup:=by
   have:=nd2
   rw[zob kids hi,bE,aY,cM]at this
   exact(cM.1 this.2.1).1
  obtain⟨g1,hg1⟩:=qcf hs hN k v hk hv kids[dn ks k] d g L oQ (hO.2.2 _ hcm) (hW.2 _ hcm) (hB' _ hcm).2.2 (hB' _ hcm).2.1 (fun h1=>by
   have:=(hB' _ hcm).1
   cases h with
   |zero=>omega
   |succ h=>have e:mx s (h+1)=s.fan:=rfl;omega) (hrep' _ hcm) hcnd (fun x hx=>hsub x (.tail _ (hin _ hcm x hx))) hA oQ
  obtain⟨hok, -⟩:=zta s N hs.h2 k v hk hv kids[dn ks k] g.S (hO.2.2 _ hcm) (hW.2 _ hcm) (hB' _ hcm).2.2 (hB' _ hcm).2.1
  obtain⟨N1,f1,p1,a1⟩:=qcg s N k v kids[dn ks k] g.S (fun _=>trivial)
  have hA1:=a1 L oQ hA
  have hput:zok s N (zau p ks kids) k v g.S=match zok s N kids[dn ks k] k v g.S with
   |(c',none,S')=>(zau p ks (kids.set (dn ks k) c'),none,S')
   |(c',some (q,d),S')=>zca s N S' (zau p (ins ks (dn ks k) q) (ins (kids.set (dn ks k) c') (dn ks k+1) d)):=by
   simp only[zok,zau,hc]
   rfl
  have hkd:(zaj (zau p ks kids)).kids.getD (dn ks k) 0=pg kids[dn ks k]:=by
   show(kids.map pg).getD (dn ks k) 0=_
   rw[aH,aP,hc];rfl
  have hF:putF s N k v (d+1) g (p:Nat)=(do
    let (gr,g1)←putF s N k v d g (pg kids[dn ks k]:Nat)
    if gr.2=0 then return (gr,g1)
    else zcc s N g1 p (iNd (ins ks (dn ks k) gr.1) (ins (kids.map pg) (dn ks k+1) gr.2))):=by
   rw[putF,hload,←hkd]
   rfl
  show∃g',zlr N g (pgs (zau p ks kids)) (zok s N (zau p ks kids) k v g.S) (putF s N k v (d+1) g (p:Nat)) g'
  rw[hput,hF]
  obtain⟨⟨c',go,S'⟩,hr⟩:∃r,zok s N kids[dn ks k] k v g.S=r:=⟨_,rfl⟩
  rw[hr]at hg1 hok p1 hA1⊢
  have hpc:pg c'=pg kids[dn ks k]:=hok.page
  have hg1S:g1.S=S':=hg1.S
  have hg1r:Rep g1.W c':=hg1.rep
  -- the other children lie as they lay
  have hother:∀x∈kids.set (dn ks k) c',Rep g1.W x:=fun x hx=>by
   obtain⟨j,hj,rfl⟩:=bJ hx
   rw[bM]at hj
   rw[iE]
   split
   ·exact hg1r
   ·rename_i hne
    refine(hrep' _ (aS hj)).frame fun y hy=>?_
    have hyL:=hsub y (.tail _ (hin _ (aS hj) y hy))
    exact hg1.frame y (hA.low y hyL).2 (zw5 nd2 hj hi (fun e=>hne e.symm) y hy) ((hA.is y (hA.low y hyL).2).2 (.inr hyL))
  have hfr:∀x,x<N→x∉pgs (zau p ks kids)→g.S x=true→g1.W x=g.W x:=fun x hx hxp hxS=>hg1.frame x hx (fun h=>hxp (.tail _ (hin _ hcm x h))) hxS
  cases go with
  |none=>
   have ho:=hg1.none rfl
   rw[ho]
   refine⟨g1,fun _=>rfl,fun q d h=>(nomatch h),⟨?_,hother⟩,hg1S,hfr⟩
   show g1.W p=zcl (iNd ks ((kids.set (dn ks k) c').map pg))
   rw[zm1 kids hi c' hpc,hg1.frame p hp2 (fun h=>nd1 (hin _ hcm p h)) hpS]
   exact hrep.1
  |some go=>
   obtain⟨q,dd⟩:=go
   obtain⟨ho,hrd,hd1⟩:=hg1.some q dd rfl
   rw[ho]
   have hne:¬(pg dd=0):=oQ
   show∃g',zlr N g (pgs (zau p ks kids)) _ (if pg dd=0 then _ else zcc s N g1 p (iNd (ins ks (dn ks k) q) (ins (kids.map pg) (dn ks k+1) (pg dd)))) g'
   rw[if_neg hne]
   obtain⟨i1,i2,i3⟩:=qkg hs.h2 (p:=p) hO hW hB (k:=k) (v:=v) hi hok rfl rfl
   have p1:(pgs c'++pgs dd).Perm (N1++pgs kids[dn ks k]):=p1
   have hperm:(pgs (zau p (ins ks (dn ks k) q) (ins (kids.set (dn ks k) c') (dn ks k+1) dd))).Perm (N1++pgs (zau p ks kids)):=by
    show(p::(ins (kids.set (dn ks k) c') (dn ks k+1) dd).flatMap pgs).Perm (N1++p::kids.flatMap pgs)
    refine(List.Perm.cons _ ?_).trans bH.symm
    refine(zl1 _ _ _).trans ?_
    have e1:kids.flatMap pgs=(kids.take (dn ks k)).flatMap pgs++(pgs kids[dn ks k]++(kids.drop (dn ks k+1)).flatMap pgs):=by
     conv=>lhs;rw[zob kids hi]
     rw[bE,aY]
    have e2:(kids.set (dn ks k) c').flatMap pgs=(kids.take (dn ks k)).flatMap pgs++(pgs c'++(kids.drop (dn ks k+1)).flatMap pgs):=by
     conv=>lhs;rw[zob (kids.set (dn ks k) c') (j:=dn ks k) (by rw[bM];exact hi)]
     rw[bE,aY,dH,eJ oQ,dI oQ]
    rw[e1,e2]
    have hp2:(pgs dd++pgs c').Perm (N1++pgs kids[dn ks k]):=dR.trans p1
    generalize (kids.take (dn ks k)).flatMap pgs=A
    generalize (kids.drop (dn ks k+1)).flatMap pgs=B
    refine(bR _ _ _).trans ?_
    refine List.Perm.trans ?_ (bR _ _ _)
    refine cW _ ?_
    rw[←aF,←aF]
    exact cX _ hp2
   have hA1:Acc N g1.S (N1++L):=by rw[hg1S];exact hA1
   have hN1:=cM.1 hA1.nodup
   have hin2:∀x∈pgs (zau p (ins ks (dn ks k) q) (ins (kids.set (dn ks k) c') (dn ks k+1) dd)),x∈N1++L:=fun x hx=>by
    rcases aR.1 (hperm.mem_iff.1 hx)with h|h
    ·exact aN _ h
    ·exact aT _ (hsub x h)
   have hnd2:(pgs (zau p (ins ks (dn ks k) q) (ins (kids.set (dn ks k) c') (dn ks k+1) dd))).Nodup:=hperm.nodup_iff.2 (cM.2 ⟨hN1.1,hnd,fun a ha b hb=>hN1.2.2 a ha b (hsub b hb)⟩)
   obtain⟨r1,r2,r3,r4,r5⟩:=hA1.free (by rw[aA];omega)
   obtain⟨g2,hg2⟩:=zlm hs hN (zau p (ins ks (dn ks k) q) (ins (kids.set (dn ks k) c') (dn ks k+1) dd)) g1 i1 i2 i3 (by
    show(ins (kids.set (dn ks k) c') (dn ks k+1) dd).length≤s.fan+s.fan/2
    rw[zf1,bM];omega) (fun _=>by
    show 2≤(ins (kids.set (dn ks k) c') (dn ks k+1) dd).length
    rw[zf1,bM];omega) (fun x hx=>by
    have:=hA1.low x (hin2 x hx)
    exact⟨this.1,this.2,(hA1.is x this.2).2 (.inr (hin2 x hx))⟩) hnd2 ⟨_,r2,r1⟩ ((hA1.is 0 oQ).2 (.inl rfl)) (fun x hx=>by
    rcases zf2 hx with rfl|hx
    ·exact hrd
    ·exact hother x hx)
   have hnode:zaj (zau p (ins ks (dn ks k) q) (ins (kids.set (dn ks k) c') (dn ks k+1) dd))=iNd (ins ks (dn ks k) q) (ins (kids.map pg) (dn ks k+1) (pg dd)):=by
    show iNd (ins ks (dn ks k) q) ((ins (kids.set (dn ks k) c') (dn ks k+1) dd).map pg)=_
    rw[zp0,zm1 kids hi c' hpc]
   rw[hnode]at hg2
   refine⟨g2,?_⟩
   have hg2:zlr N g1 (pgs (zau p (ins ks (dn ks k) q) (ins (kids.set (dn ks k) c') (dn ks k+1) dd))) (zca s N S' (zau p (ins ks (dn ks k) q) (ins (kids.set (dn ks k) c') (dn ks k+1) dd))) (zcc s N g1 p (iNd (ins ks (dn ks k) q) (ins (kids.map pg) (dn ks k+1) (pg dd)))) g2:=by rw[←hg1S];exact hg2
   refine⟨hg2.none,hg2.some,hg2.rep,hg2.S,fun x hx hxp hxS=>?_⟩
   have hxL:x=0∨x∈L:=(hA.is x hx).1 hxS
   rw[hg2.frame x hx (fun h=>?_) ((hA1.is x hx).2 (hxL.imp id fun h=>aT _ h)),hfr x hx hxp hxS]
   rcases aR.1 (hperm.mem_iff.1 h)with h|h
   ·rcases hxL with rfl|hxL
    ·have:=(hA1.low 0 (aN _ h)).1
     omega
    ·exact hN1.2.2 x h x hxL rfl
   ·exact hxp h
def zqj(s:Sh)(n:Nd):Bool:=if n.leaf then decide (n.keys.length<s.cap/2)else decide (n.kids.length<s.fan/2)
def zcq(a b:Nd)(key:K):Nd:=if a.leaf then lNd (a.keys++b.keys) (a.vals++b.vals)else iNd (a.keys++key::b.keys) (a.kids++b.kids)
def zv7(s:Sh)(n:Nd):Bool:=(n.leaf&&decide (s.cap<n.keys.length))||decide (s.fan<n.kids.length)
noncomputable section
def zhg(s:Sh)(N:Nat)(g:Sg)(n:Nd)(i:Nat):Except Nat (Nd×Sg):=do
 let x←zfs s N g (n.kids.getD (i - 1) 0:Nat)
 let y←zfs s N g (n.kids.getD (i - 1+1) 0:Nat)
 if x.leaf≠y.leaf then .error 12
 else if zv7 s (zcq x y (n.keys.getD (i - 1) []))then do
  let g1←zf0 N g (n.kids.getD (i - 1+1) 0)
  let (gr,g2)←zcc s N g1 (n.kids.getD (i - 1) 0) (zcq x y (n.keys.getD (i - 1) []))
  return (iNd (n.keys.set (i - 1) gr.1) (n.kids.set (i - 1+1) gr.2),g2)
 else do
  let g1←zf0 N g (n.kids.getD (i - 1+1) 0)
  let g2←zb8 s N g1 (n.kids.getD (i - 1) 0) (zcq x y (n.keys.getD (i - 1) []))
  return (iNd (n.keys.eraseIdx (i - 1)) (n.kids.eraseIdx (i - 1+1)),g2)
def zd8(s:Sh)(N:Nat)(key:K):Nat→Sg→Int→Except Nat ((Nd×Bool)×Sg)
 |0,_,_=>.error 12
 |d+1,g,at_=>do
  let n←zfs s N g at_
  if n.leaf then
   if fd n.keys key then return ((lNd (n.keys.eraseIdx (lb n.keys key)) (n.vals.eraseIdx (lb n.keys key)),true),g)
   else return ((n,false),g)
  else do
   let (r,g1)←zd8 s N key d g (n.kids.getD (dn n.keys key) 0:Nat)
   if r.2 then do
    let g2←zb8 s N g1 (n.kids.getD (dn n.keys key) 0) r.1
    if zqj s r.1 then do
     let (n',g3)←zhg s N g2 n (dn n.keys key)
     return ((n',true),g3)
    else return ((n,true),g2)
   else return ((n,false),g1)
end
def qbb(W:Nat→Bys):{h:Nat}→T h→Prop
 |0,_=>True
 |_+1,t=>∀x∈t.2.2,Rep W x
theorem Rep.kids:∀{h:Nat} {t:T h},Rep W t→qbb W t
 |0,_,_=>trivial
 |_+1,_,h=>h.2
theorem Rep.mk':∀{h:Nat} {t:T h},W (pg t)=zcl (zaj t)→qbb W t→Rep W t
 |0,_,h,_=>h
 |_+1,_,h,k=>⟨h,k⟩
theorem qbb.frame{W W':Nat→Bys}:∀{h:Nat} {t:T h},qbb W t→(∀x∈pgs t,x≠pg t→W' x=W x)→(pgs t).Nodup→qbb W' t
 |0,_,_,_,_=>trivial
 |h+1,(p,ks,kids),hr,hf,hn=>fun x hx=>by
  obtain⟨n1, -⟩:=cP.1 (show(p::kids.flatMap pgs).Nodup from hn)
  have hr:∀x∈kids,Rep W x:=hr
  refine(hr x hx).frame fun y hy=>?_
  have hm:=cE.2 ⟨x,hx,hy⟩
  exact hf y (.tail _ hm) (fun e=>n1 (by rw[←show y=p from e];exact hm))
theorem zxw:∀{h:Nat} (t:T h),(zaj t).leaf=decide (h=0)
 |0,_=>rfl
 |_+1,_=>rfl
theorem zz5:∀{h:Nat} (a b:T h) (q:K),zcq (zaj a) (zaj b) q=zaj (zc2 a b q)
 |0,(_,ea),(_,eb),_=>by
  show lNd (List.map (fun q:K×K=>q.1) ea++List.map (fun q:K×K=>q.1) eb) (List.map (fun q:K×K=>q.2) ea++List.map (fun q:K×K=>q.2) eb)=lNd (List.map (fun q:K×K=>q.1) (ea++eb)) (List.map (fun q:K×K=>q.2) (ea++eb))
  rw[bV,bV]
 |_+1,(_,ka,xa),(_,kb,xb),q=>by
  show iNd (ka++q::kb) (xa.map pg++xb.map pg)=iNd (ka++q::kb) ((xa++xb).map pg)
  rw[bV]
theorem qi0(s:Sh):∀{h:Nat} (t:T h),zv7 s (zaj t)=decide (mx s h<sz t)
 |0,(_,es)=>by
  show(true&&decide (s.cap<(List.map (fun q:K×K=>q.1) es).length)||decide (s.fan<0))=decide (s.cap<es.length)
  rw[aD,fD,decide_eq_false (fN _),Bool.or_false]
 |_+1,(_,ks,kids)=>by
  show(false&&_||decide (s.fan<(kids.map pg).length))=decide (s.fan<kids.length)
  rw[aD,eE,jJ]
theorem qhv(s:Sh):∀{h:Nat} (t:T h),zqj s (zaj t)=decide (sz t<mx s h/2)
 |0,(_,es)=>by
  show decide ((List.map (fun q:K×K=>q.1) es).length<s.cap/2)=decide (es.length<s.cap/2)
  rw[aD]
 |_+1,(_,ks,kids)=>by
  show decide ((kids.map pg).length<s.fan/2)=decide (kids.length<s.fan/2)
  rw[aD]
theorem qgq:∀{h:Nat} (a b:T h) (q:K),qbb W a→qbb W b→qbb W (zc2 a b q)
 |0,_,_,_,_,_=>trivial
 |_+1,(_,_,_),(_,_,_),_,ha,hb=>fun x hx=>(aR.1 hx).elim (ha x) (hb x)
theorem qdq:∀{h:Nat} (t:T h),qbb W t→(match h,t with|0,_=>True|_+1,t=>∀x∈t.2.2,Rep W x)
 |0,_,_=>trivial
 |_+1,_,h=>h
theorem qf6(X:List Nat)(a:Nat)(Y:List Nat):(X++a::Y).getD X.length 0=a:=by
 rw[aH,zwm];rfl
theorem qdl(X:List Nat)(a b:Nat)(Y:List Nat):(X++a::b::Y).getD (X.length+1) 0=b:=by
 rw[aH,zt0];rfl
variable{q0:K}
theorem qoi(s:Sh)(n:Nat)(S:Nat→Bool)(p:Nat){P R:List K}{X Y:List (T h)}{a b:T h}(hl:X.length=P.length)(i:Nat)(hi:i - 1=X.length):zht s n S p (P++q0::R) (X++a::b::Y) i=
   if mx s h<sz a+sz b then
    match zca s n (us S (pg b) false) (zc2 a b q0)with
    |(l,some (q,d),S')=>(zau p (P++q::R) (X++l::d::Y),S')
    |(_,none,S')=>(zau p (P++q0::R) (X++a::b::Y),S')
   else(zau p (P++R) (X++zc2 a b q0::Y),us S (pg b) false):=by
 have e1:∀l,(X++a::b::Y).set X.length l=X++l::b::Y:=fun l=>znk X a l (b::Y)
 have e2:∀l d,(X++l::b::Y).set (X.length+1) d=X++l::d::Y:=fun l d=>zo0 X l b d Y
 have e3:∀q,(P++q0::R).set X.length q=P++q::R:=fun q=>by rw[hl];exact znk P q0 q R
 have e4:(P++q0::R).eraseIdx X.length=P++R:=by rw[hl];exact qbk P q0 R
 have e5:(P++q0::R).getD X.length []=q0:=by rw[hl];exact zuo P q0 R
 have e6:∀l,(X++l::b::Y).eraseIdx (X.length+1)=X++l::Y:=fun l=>zue X l b Y
 unfold zht
 rw[hi,zwm,zt0]
 simp only[e1,e2,e3,e4,e5,e6,zg5]
 rfl
theorem qen(s:Sh)(n:Nat):∀{h:Nat} (t:T h) (S:Nat→Bool),(zca s n S t).2.1=none→sz t≤mx s h
 |0,(tp,te),S,hn=>by
  change (zca s n S (zb0 tp te)).2.1=none at hn
  rw[znl]at hn
  split at hn
  ·rename_i hc;exact hc
  ·cases hn
 |h+1,(tp,tk,tc),S,hn=>by
  change (zca s n S (zau tp tk tc)).2.1=none at hn
  rw[znm]at hn
  split at hn
  ·rename_i hc;exact hc
  ·cases hn
theorem qdx(hs:zwi s)(hN:N≤1024){p:Nat}{P R:List K}{X Y:List (T h)}{a b:T h}(hl:X.length=P.length)(g:Sg)(oa:Ord a)(ob:Ord b)(wa:Wd s a)(wb:Wd s b)(hq:q0.length=s.kw)(ba:Below s a)(bb:Below s b)(la:zfo (ents a) q0)(gb:zg1 (ents b) q0)
  (sa:sz a≤mx s h) (sb:sz b≤mx s h) (ta:1≤h→2≤sz a) (tb:1≤h→2≤sz b) (hab:sz a+sz b≤mx s h+mx s h/2) (hr:∀x∈X++a::b::Y,Rep g.W x) (hnd:((X++a::b::Y).flatMap pgs).Nodup) (hp:∀x∈(X++a::b::Y).flatMap pgs,1≤x∧x<N∧g.S x=true) (h0:g.S 0=true) (i:Nat) (hi:i - 1=X.length):
  ∃g',zhg s N g (iNd (P++q0::R) ((X++a::b::Y).map pg)) i= .ok (zaj (zht s N g.S p (P++q0::R) (X++a::b::Y) i).1,g')∧qbb g'.W (zht s N g.S p (P++q0::R) (X++a::b::Y) i).1∧g'.S=(zht s N g.S p (P++q0::R) (X++a::b::Y) i).2∧
   ∀x,x<N→x∉(X++a::b::Y).flatMap pgs→g.S x=true→g'.W x=g.W x:=by
 have hma:a∈X++a::b::Y:=aT _ (.head _)
 have hmb:b∈X++a::b::Y:=aT _ (.tail _ (.head _))
 have hin:∀x∈X++a::b::Y,∀y∈pgs x,y∈(X++a::b::Y).flatMap pgs:=fun x hx y hy=>cE.2 ⟨x,hx,hy⟩
 have hlow:∀x∈X++a::b::Y,∀y∈pgs x,1≤y∧y<1024:=fun x hx y hy=>by
  have:=hp y (hin x hx y hy)
  exact⟨this.1,oQ⟩
 obtain⟨hpa1,hpa2,hpa3⟩:=hp (pg a) (hin a hma _ (zcj a))
 obtain⟨hpb1,hpb2,hpb3⟩:=hp (pg b) (hin b hmb _ (zcj b))
 have loadA:zfs s N g (pg a:Nat)= .ok (zaj a):=zfl hs.kw (hr a hma) (zcu a oa wa sa ta (hlow a hma)) hpa1 hpa2
 have loadB:zfs s N g (pg b:Nat)= .ok (zaj b):=zfl hs.kw (hr b hmb) (zcu b ob wb sb tb (hlow b hmb)) hpb1 hpb2
 have hmap:(X++a::b::Y).map pg=X.map pg++pg a::pg b::Y.map pg:=by rw[bV,bD,bD]
 have hXl:(X.map pg).length=i - 1:=by rw[aD,hi]
 have k1:(iNd (P++q0::R) ((X++a::b::Y).map pg)).kids.getD (i - 1) 0=pg a:=by
  show((X++a::b::Y).map pg).getD (i - 1) 0=_
  rw[hmap,←hXl,qf6]
 have k2:(iNd (P++q0::R) ((X++a::b::Y).map pg)).kids.getD (i - 1+1) 0=pg b:=by
  show((X++a::b::Y).map pg).getD (i - 1+1) 0=_
  rw[hmap,←hXl,qdl]
 have k3:(iNd (P++q0::R) ((X++a::b::Y).map pg)).keys.getD (i - 1) []=q0:=by
  show(P++q0::R).getD (i - 1) []=_
  rw[hi,hl,zuo]
 -- the pages are apart
 have hperm:((X++a::b::Y).flatMap pgs).Perm (pg b::(pgs (zc2 a b q0)++(X.flatMap pgs++Y.flatMap pgs))):=by
  rw[bE,aY,aY]
  refine List.Perm.trans (l₂:=(pgs a++pgs b)++(X.flatMap pgs++Y.flatMap pgs)) ?_ ?_
  ·rw[aF]
   refine(bR _ _ _).trans (cW _ ?_)
   exact bR _ _ _
  ·rw[←aC]
   exact cX _ (qbx a b q0)
 have hnd':=hperm.nodup_iff.1 hnd
 obtain⟨d1,d2⟩:=cP.1 hnd'
 obtain⟨d3,d4,d5⟩:=cM.1 d2
 have hjin:∀x∈pgs (zc2 a b q0),x∈(X++a::b::Y).flatMap pgs:=fun x hx=>hperm.mem_iff.2 (.tail _ (aN _ hx))
 have hjp:∀x∈pgs (zc2 a b q0),1≤x∧x<N∧us g.S (pg b) false x=true:=fun x hx=>by
  have h1:=hp x (hjin x hx)
  refine⟨h1.1,h1.2.1,?_⟩
  unfold us
  rw[if_neg (fun e=>d1 (by rw[←e];exact aN _ hx))]
  exact h1.2.2
 have hO:=qbw s hs.h2 a b q0 oa ob ba bb la gb
 have hW:=qgr s a b q0 wa wb hq
 have hB:=zsp s a b q0 ba bb
 have hT:1≤h→2≤sz (zc2 a b q0):=fun h1=>by rw[zg5];have:=ta h1;omega
 have hK:=qgq a b q0 (hr a hma).kids (hr b hmb).kids
 have hoth:∀x,(x∈X∨x∈Y)→∀y∈pgs x,y<N∧y∉pgs (zc2 a b q0)∧us g.S (pg b) false y=true∧y≠pg a:=fun x hx y hy=>by
  have hyXY:y∈X.flatMap pgs++Y.flatMap pgs:=by
   rcases hx with hx|hx
   ·exact aN _ (cE.2 ⟨x,hx,hy⟩)
   ·exact aT _ (cE.2 ⟨x,hx,hy⟩)
  have hyin:y∈(X++a::b::Y).flatMap pgs:=hperm.mem_iff.2 (.tail _ (aT _ hyXY))
  have hnj:y∉pgs (zc2 a b q0):=fun h=>d5 y h y hyXY rfl
  refine⟨(hp y hyin).2.1,hnj,?_,fun e=>hnj ?_⟩
  ·unfold us
   rw[if_neg (fun e=>d1 (by rw[←e];exact aT _ hyXY))]
   exact(hp y hyin).2.2
  ·rw[e,←zmy a b q0];exact zcj _
 have hrX:∀x,(x∈X∨x∈Y)→Rep g.W x:=fun x hx=>hr x (hx.elim (fun h=>aN _ h) fun h=>aT _ (.tail _ (.tail _ h)))
 have hdrop:zf0 N g (pg b)= .ok { g with S:=us g.S (pg b) false }:=by
  unfold zf0
  rw[if_pos ⟨hpb1,hpb2,hpb3⟩]
 have hlf:¬((zaj a).leaf≠(zaj b).leaf):=by rw[zxw,zxw];exact fun h=>h rfl
 have hF:zhg s N g (iNd (P++q0::R) ((X++a::b::Y).map pg)) i=
   if mx s h<sz a+sz b then(do
    let (gr,g2)←zcc s N { g with S:=us g.S (pg b) false } (pg a) (zaj (zc2 a b q0))
    return (iNd ((P++q0::R).set (i - 1) gr.1) (((X++a::b::Y).map pg).set (i - 1+1) gr.2),g2))
   else(do
    let g2←zb8 s N { g with S:=us g.S (pg b) false } (pg a) (zaj (zc2 a b q0))
    return (iNd ((P++q0::R).eraseIdx (i - 1)) (((X++a::b::Y).map pg).eraseIdx (i - 1+1)),g2)):=by
  unfold zhg
  rw[k1,k2,k3,loadA]
  show(do
   let y←zfs s N g (pg b:Nat)
   if (zaj a).leaf≠y.leaf then Except.error 12
   else if zv7 s (zcq (zaj a) y q0)then do
    let g1←zf0 N g (pg b)
    let (gr,g2)←zcc s N g1 (pg a) (zcq (zaj a) y q0)
    return (iNd ((P++q0::R).set (i - 1) gr.1) (((X++a::b::Y).map pg).set (i - 1+1) gr.2),g2)
   else do
    let g1←zf0 N g (pg b)
    let g2←zb8 s N g1 (pg a) (zcq (zaj a) y q0)
    return (iNd ((P++q0::R).eraseIdx (i - 1)) (((X++a::b::Y).map pg).eraseIdx (i - 1+1)),g2))=_
  rw[loadB]
  show(if (zaj a).leaf≠(zaj b).leaf then Except.error 12
   else if zv7 s (zcq (zaj a) (zaj b) q0)then do
    let g1←zf0 N g (pg b)
    let (gr,g2)←zcc s N g1 (pg a) (zcq (zaj a) (zaj b) q0)
    return (iNd ((P++q0::R).set (i - 1) gr.1) (((X++a::b::Y).map pg).set (i - 1+1) gr.2),g2)
   else do
    let g1←zf0 N g (pg b)
    let g2←zb8 s N g1 (pg a) (zcq (zaj a) (zaj b) q0)
    return (iNd ((P++q0::R).eraseIdx (i - 1)) (((X++a::b::Y).map pg).eraseIdx (i - 1+1)),g2))=_
  rw[if_neg hlf,zz5,qi0,zg5,hdrop]
  by_cases hw:mx s h<sz a+sz b
  ·rw[decide_eq_true hw,if_pos rfl,if_pos hw];rfl
  ·rw[decide_eq_false hw,if_neg bP,if_neg hw];rfl
 rw[hF,qoi s N g.S p hl i hi]
 by_cases hw:mx s h<sz a+sz b
 ·rw[if_pos hw,if_pos hw]
  have h0':us g.S (pg b) false 0=true:=by
   unfold us
   rw[if_neg oQ]
   exact h0
  obtain⟨g2,hg2⟩:=zlm hs hN (zc2 a b q0) { g with S:=us g.S (pg b) false } hO hW hB (by rw[zg5];exact hab) hT hjp d3 ⟨pg b,hpb2,if_pos rfl⟩ h0' (qdq _ hK)
  rw[zmy]at hg2
  obtain⟨⟨l,go,S'⟩,hsp⟩:∃r,zca s N (us g.S (pg b) false) (zc2 a b q0)=r:=⟨_,rfl⟩
  have hne:go≠none:=fun e=>by
   have:=qen s N (zc2 a b q0) (us g.S (pg b) false) (by rw[hsp];exact e)
   rw[zg5]at this
   omega
  have hlp:pg l=pg a:=by
   have:=(zo2 s N (us g.S (pg b) false) (zc2 a b q0) hO hW hB (by rw[zg5];exact hab) (hs.h2 h)).page
   rw[hsp,zmy]at this
   exact this
  have hg2:zlr N { g with S:=us g.S (pg b) false } (pgs (zc2 a b q0)) (l,go,S') (zcc s N { g with S:=us g.S (pg b) false } (pg a) (zaj (zc2 a b q0))) g2:=by rw[←hsp];exact hg2
  rw[hsp]
  match go,hne,hg2 with
  |some (q,d),_,hg2=>
   obtain⟨ho,hrd, -⟩:=hg2.some q d rfl
   rw[ho]
   refine⟨g2,?_,fun x hx=>?_,hg2.S,fun x hx hxn hxS=>?_⟩
   ·show Except.ok (iNd ((P++q0::R).set (i - 1) q) (((X++a::b::Y).map pg).set (i - 1+1) (pg d)),g2)= .ok (iNd (P++q::R) ((X++l::d::Y).map pg),g2)
    rw[show(P++q0::R).set (i - 1) q=P++q::R by rw[hi,hl];exact znk P q0 q R,hmap,←hXl,zo0,bV,bD,bD,hlp]
   ·rcases aR.1 hx with hx|hx
    ·exact(hrX x (.inl hx)).frame fun y hy=>by
      obtain⟨o1,o2,o3, -⟩:=hoth x (.inl hx) y hy
      exact hg2.frame y o1 o2 o3
    ·rcases aI.1 hx with rfl|hx
     ·exact hg2.rep
     ·rcases aI.1 hx with rfl|hx
      ·exact hrd
      ·exact(hrX x (.inr hx)).frame fun y hy=>by
        obtain⟨o1,o2,o3, -⟩:=hoth x (.inr hx) y hy
        exact hg2.frame y o1 o2 o3
   ·refine hg2.frame x hx (fun h=>hxn (hjin x h)) ?_
    show us g.S (pg b) false x=true
    unfold us
    rw[if_neg (fun e=>hxn (by rw[e];exact hin b hmb _ (zcj b)))]
    exact hxS
 ·rw[if_neg hw,if_neg hw]
  have hmay:zf8 s (zaj (zc2 a b q0)):=zcu (zc2 a b q0) hO hW (by rw[zg5];omega) hT fun x hx=>by
   have:=hjp x hx
   exact⟨this.1,oQ⟩
  rw[zcv hmay hpa1 hpa2]
  refine⟨⟨wr g.W (pg a) (zcl (zaj (zc2 a b q0))),us g.S (pg b) false⟩,?_,fun x hx=>?_,rfl,fun x hx hxn hxS=>?_⟩
  ·show Except.ok (iNd ((P++q0::R).eraseIdx (i - 1)) (((X++a::b::Y).map pg).eraseIdx (i - 1+1)),_)= .ok (iNd (P++R) ((X++zc2 a b q0::Y).map pg),_)
   rw[show(P++q0::R).eraseIdx (i - 1)=P++R by rw[hi,hl];exact qbk P q0 R,hmap,←hXl,zue,bV,bD,zmy]
  ·rcases aR.1 hx with hx|hx
   ·exact(hrX x (.inl hx)).frame fun y hy=>zbe _ _ (hoth x (.inl hx) y hy).2.2.2
   ·rcases aI.1 hx with rfl|hx
    ·refine Rep.mk' ?_ (hK.frame (fun y _ hne=>zbe _ _ (by rw[←zmy a b q0];exact hne)) d3)
     rw[zmy]
     exact ze6 _ _ _
    ·exact(hrX x (.inr hx)).frame fun y hy=>zbe _ _ (hoth x (.inr hx) y hy).2.2.2
  ·exact zbe _ _ (fun e=>hxn (by rw[e];exact hin a hma _ (zcj a)))
end Go.Eng.Tr
