/- Parts: Trees of pages; Rows by places; what a tree tells. No condition. -/
import Derived.Test.YthafakdplhdfjaaGreatDoorHf02
set_option maxRecDepth 100000
namespace Go.Eng.Tr
structure Sh where
 kw:Nat
 vw:Nat
def Sh.cap(s:Sh):Nat:=508/(s.kw+s.vw)
def Sh.fan(s:Sh):Nat:=(508+s.kw)/(s.kw+2)
def T:Nat→Type
 |0=>Nat×E
 |h+1=>Nat×List K×List (T h)
def pg:{h:Nat}→T h→Nat
 |0,t=>t.1
 |_+1,t=>t.1
def ents:{h:Nat}→T h→E
 |0,t=>t.2
 |_+1,t=>t.2.2.flatMap ents
def pgs:{h:Nat}→T h→List Nat
 |0,t=>[t.1]
 |_+1,t=>t.1::t.2.2.flatMap pgs
def zb0(p:Nat)(es:E):T 0:=(p,es)
variable{h:Nat}
def zau(p:Nat)(ks:List K)(kids:List (T h)):T (h+1):=(p,ks,kids)
def zg1(e:E)(k:K):Prop:=∀p∈e,¬kl p.1 k
def Sep:List K→List E→Prop
 | [],[_]=>True
 |k::ks,e::es=>zfo e k∧(∀e'∈es,zg1 e' k)∧Sep ks es
 |_,_=>False
def Ord:{h:Nat}→T h→Prop
 |0,t=>Es t.2
 |_+1,t=>Ks t.2.1∧Sep t.2.1 (t.2.2.map ents)∧∀x∈t.2.2,Ord x
def Wd(s:Sh):{h:Nat}→T h→Prop
 |0,t=>∀p∈t.2,p.1.length=s.kw∧p.2.length=s.vw
 |_+1,t=>(∀k∈t.2.1,k.length=s.kw)∧∀x∈t.2.2,Wd s x
def sz:{h:Nat}→T h→Nat
 |0,t=>t.2.length
 |_+1,t=>t.2.2.length
def mx(s:Sh):Nat→Nat
 |0=>s.cap
 |_+1=>s.fan
def Below(s:Sh):{h:Nat}→T h→Prop
 |0,_=>True
 |h+1,t=>∀x∈t.2.2,mx s h/2≤sz x∧sz x≤mx s h∧Below s x
theorem Sep.len:∀{ks:List K} {es:List E},Sep ks es→es.length=ks.length+1
 | [],[_],_=>rfl
 |_::ks,_::es,h=>by rw[aW,aW,Sep.len h.2.2]
theorem Sep.lt:∀{ks:List K} {es:List E},Sep ks es→∀{i j:Nat} (hi:i<ks.length) (hj:j<es.length),j≤i→zfo es[j] ks[i]→zfo es[j] ks[i]:=fun _ _ _ _ _ _ h=>h
variable{ks:List K}{es:List E}
theorem Sep.part(hk:Ks ks)(h:Sep ks es):(∀i j (hi:i<ks.length) (hj:j<es.length),j≤i→zfo es[j] ks[i])∧∀i j (hi:i<ks.length) (hj:j<es.length),i<j→zg1 es[j] ks[i]:=by
 induction ks generalizing es with
 |nil=>exact⟨fun i j hi=>absurd hi (fQ _),fun i j hi=>absurd hi (fQ _)⟩
 |cons k ks ih=>
  cases es with
  |nil=>exact absurd h (by simp[Sep])
  |cons e es=>
   obtain⟨h1,h2,h3⟩:=h
   obtain⟨k1,k2⟩:=bP.1 hk
   obtain⟨i1,i2⟩:=ih k2 h3
   refine⟨fun i j hi hj hij=>?_,fun i j hi hj hij=>?_⟩
   ·cases j with
    |zero=>
     cases i with
     |zero=>exact h1
     |succ i=>exact fun p hp=>zb9 (h1 p hp) (k1 _ (aT _))
    |succ j=>
     cases i with
     |zero=>omega
     |succ i=>exact i1 i j (by simpa using hi) (by simpa using hj) oQ
   ·cases j with
    |zero=>omega
    |succ j=>
     cases i with
     |zero=>exact h2 _ (aT _)
     |succ i=>exact i2 i j (by simpa using hi) (by simpa using hj) oQ
theorem Sep.of(hl:es.length=ks.length+1)(h1:∀i (hi:i<ks.length) (hj:i<es.length),zfo es[i] ks[i])(h2:∀i j (hi:i<ks.length) (hj:j<es.length),i<j→zg1 es[j] ks[i]):Sep ks es:=by
 induction ks generalizing es with
 |nil=>
  match es,hl with
  | [_],_=>trivial
 |cons k ks ih=>
  cases es with
  |nil=>simp at hl
  |cons e es=>
   refine⟨h1 0 sQ sQ,fun e' he=>?_,ih (by simpa using hl) (fun i hi hj=>h1 (i+1) (by simpa using hi) (by simpa using hj)) fun i j hi hj hij=>h2 (i+1) (j+1) (by simpa using hi) (by simpa using hj) oQ⟩
   obtain⟨j,hj,rfl⟩:=bL he
   exact h2 0 (j+1) sQ (by simpa using hj) oQ
variable{α:Type}{i:Nat}
theorem zh0(l:List α)(f:α→E)(hi:i<l.length):l.flatMap f=(l.take i).flatMap f++(f l[i]++(l.drop (i+1)).flatMap f):=by
 conv=>lhs;rw[←bF i l,bX hi]
 rw[bB,aV]
theorem Sep.mid{kids:List (T h)}(hk:Ks ks)(hs:Sep ks (kids.map ents))(key:K):zfo ((kids.take (dn ks key)).flatMap ents) key∧zzc ((kids.drop (dn ks key+1)).flatMap ents) key:=by
 obtain⟨p1,p2⟩:=hs.part hk
 have hl:=hs.len
 rw[aD]at hl
 refine⟨fun p hp=>?_,fun p hp=>?_⟩
 ·obtain⟨x,hx,hpx⟩:=bS.1 hp
  obtain⟨j,hj,rfl⟩:=bL hx
  rw[aM]at hj
  have hj2:j<kids.length:=oQ
  rw[eE]at hpx
  have hjk:j<ks.length:=by have:=zoh ks key;omega
  have h1:=p1 j j hjk (by rw[aD];exact hj2) (bA _)
  rw[cS]at h1
  exact zu0 (h1 p hpx) (qqq hjk oQ)
 ·obtain⟨x,hx,hpx⟩:=bS.1 hp
  obtain⟨j,hj,rfl⟩:=bL hx
  rw[aX]at hj
  rw[dW]at hpx
  have hd:dn ks key<ks.length:=oQ
  have h1:=p2 (dn ks key) (dn ks key+1+j) hd (by rw[aD];omega) oQ
  rw[cS]at h1
  exact zu0 (qqp hk hd (bA _)) (h1 p hpx)
def nw(n:Nat)(S:Nat→Bool):Nat:=((List.range n).find? fun i=> !S i).getD 0
def us(S:Nat→Bool)(i:Nat)(u:Bool):Nat→Bool:=fun j=>if j=i then u else S j
abbrev Res(h:Nat):=T h×Option (K×T h)×(Nat→Bool)
def zca(s:Sh)(n:Nat)(S:Nat→Bool):{h:Nat}→T h→Res h
 |0,t=>if t.2.length≤s.cap then(t,none,S)else
  (zb0 t.1 (t.2.take (t.2.length/2)),some (((t.2.drop (t.2.length/2)).map (·.1)).headD [],zb0 (nw n S) (t.2.drop (t.2.length/2))),us S (nw n S) true)
 |_+1,t=>if t.2.2.length≤s.fan then(t,none,S)else
  (zau t.1 (t.2.1.take (t.2.2.length/2 - 1)) (t.2.2.take (t.2.2.length/2)),some (t.2.1.getD (t.2.2.length/2 - 1) [],zau (nw n S) (t.2.1.drop (t.2.2.length/2)) (t.2.2.drop (t.2.2.length/2))),us S (nw n S) true)
structure zk1 (s:Sh) {h:Nat} (t:T h) (es:E) (r:Res h):Prop where
 page:pg r.1=pg t
 none:r.2.1=none→ents r.1=es∧Ord r.1∧Wd s r.1∧sz r.1≤mx s h∧Below s r.1
 some:∀k d,r.2.1=some (k,d)→ents r.1++ents d=es∧Ord r.1∧Ord d∧Wd s r.1∧Wd s d∧k.length=s.kw∧zfo (ents r.1) k∧zg1 (ents d) k∧mx s h/2≤sz r.1∧sz r.1≤mx s h∧mx s h/2≤sz d∧sz d≤mx s h∧Below s r.1∧Below s d
theorem Es.take{e:E}(h:Es e)(k:Nat):Es (e.take k):=by unfold Es at*;rw[eM];exact dM (fL _ _) h
theorem Es.drop{e:E}(h:Es e)(k:Nat):Es (e.drop k):=by unfold Es at*;rw[eL];exact dM (fJ _ _) h
variable{m:Nat}
theorem Sep.cut(hk:Ks ks)(h:Sep ks es)(h0:0<m)(hm:m<es.length):Sep (ks.take (m - 1)) (es.take m)∧Sep (ks.drop m) (es.drop m):=by
 obtain⟨p1,p2⟩:=h.part hk
 have hl:=h.len
 refine⟨Sep.of (by rw[aM,aM];omega) (fun i hi hj=>?_) fun i j hi hj hij=>?_,Sep.of (by rw[aX,aX];omega) (fun i hi hj=>?_) fun i j hi hj hij=>?_⟩
 ·rw[eE,eE]
  rw[aM]at hi hj
  exact p1 i i oQ oQ (bA _)
 ·rw[eE,eE]
  rw[aM]at hi hj
  exact p2 i j oQ oQ hij
 ·rw[dW,dW]
  rw[aX]at hi hj
  exact p1 (m+i) (m+i) oQ oQ (bA _)
 ·rw[dW,dW]
  rw[aX]at hi hj
  exact p2 (m+i) (m+j) oQ oQ oQ
theorem zus{a:Nat}(h:m<a):m/2≤a/2∧m/2≤a - a/2:=oQ
theorem zur{a:Nat}(h:a≤m+m/2)(h2:1≤m):a/2≤m∧a - a/2≤m:=oQ
theorem zkx{β:Type}(l:List α)(f:α→List β)(k:Nat):(l.take k).flatMap f++(l.drop k).flatMap f=l.flatMap f:=by
 rw[←bB,bF]
theorem znl(s:Sh)(n:Nat)(S:Nat→Bool)(p:Nat)(es:E):zca s n S (zb0 p es)=if es.length≤s.cap then(zb0 p es,none,S)else
  (zb0 p (es.take (es.length/2)),some (((es.drop (es.length/2)).map (·.1)).headD [],zb0 (nw n S) (es.drop (es.length/2))),us S (nw n S) true):=rfl
theorem znm(s:Sh)(n:Nat)(S:Nat→Bool)(p:Nat)(ks:List K)(kids:List (T h)):zca s n S (zau p ks kids)=if kids.length≤s.fan then(zau p ks kids,none,S)else
  (zau p (ks.take (kids.length/2 - 1)) (kids.take (kids.length/2)),some (ks.getD (kids.length/2 - 1) [],zau (nw n S) (ks.drop (kids.length/2)) (kids.drop (kids.length/2))),us S (nw n S) true):=rfl
theorem zo2(s:Sh)(n:Nat)(S:Nat→Bool):∀{h:Nat} (t:T h),Ord t→Wd s t→Below s t→sz t≤mx s h+mx s h/2→2≤mx s h→zk1 s t (ents t) (zca s n S t)
 |0,(p,es),hO,hW,hB,hm,h2=>by
  have hm:es.length≤s.cap+s.cap/2:=hm
  have h2:2≤s.cap:=h2
  change zk1 s (zb0 p es) (ents (zb0 p es)) (zca s n S (zb0 p es))
  rw[znl]
  by_cases hc:es.length≤s.cap
  ·rw[if_pos hc]
   exact⟨rfl,fun _=>⟨rfl,hO,hW,hc,trivial⟩,fun k d h=>(nomatch h)⟩
  ·rw[if_neg hc]
   refine⟨rfl,fun h=>(nomatch h),fun k d hkd=>?_⟩
   obtain⟨rfl,rfl⟩:=jU (cR hkd)
   obtain⟨l1,l2⟩:=zus (a:=es.length) (m:=s.cap) oQ
   obtain⟨l3,l4⟩:=zur hm oQ
   have hk:es.length/2<es.length:=oQ
   have hO':Es es:=hO
   have hd:((es.drop (es.length/2)).map (·.1)).headD []=es[es.length/2].1:=by rw[bX hk];rfl
   have hlt:∀i (hi:i<es.length),i<es.length/2→kl es[i].1 es[es.length/2].1:=fun i hi hik=>by
    have:=cG.1 hO' i (es.length/2) (by rw[aD];exact hi) (by rw[aD];exact hk) hik
    simpa using this
   have hge:∀i (hi:i<es.length),es.length/2≤i→¬kl es[i].1 es[es.length/2].1:=fun i hi hik=>by
    rcases gQ (es.length/2) i with h|h
    ·have:=cG.1 hO' (es.length/2) i (by rw[aD];exact hk) (by rw[aD];exact hi) h
     exact zhf (by simpa using this)
    ·obtain rfl:i=es.length/2:=oQ
     exact zh3 _
   show es.take (es.length/2)++es.drop (es.length/2)=es∧Es (es.take (es.length/2))∧Es (es.drop (es.length/2))∧_∧_∧(((es.drop (es.length/2)).map (·.1)).headD []).length=s.kw∧zfo (es.take (es.length/2)) (((es.drop (es.length/2)).map (·.1)).headD [])∧zg1 (es.drop (es.length/2)) (((es.drop (es.length/2)).map (·.1)).headD [])∧s.cap/2≤(es.take (es.length/2)).length∧(es.take (es.length/2)).length≤s.cap∧s.cap/2≤(es.drop (es.length/2)).length∧(es.drop (es.length/2)).length≤s.cap∧True∧True
   rw[hd]
   refine⟨bF _ _,hO'.take _,hO'.drop _,fun q hq=>hW q (bY hq),fun q hq=>hW q (cE hq),(hW _ (aT hk)).1,fun q hq=>?_,fun q hq=>?_,?_,?_,?_,?_,trivial,trivial⟩
   ·obtain⟨i,hi,rfl⟩:=bL hq
    rw[aM]at hi
    rw[eE]
    exact hlt i oQ oQ
   ·obtain⟨i,hi,rfl⟩:=bL hq
    rw[aX]at hi
    rw[dW]
    exact hge _ oQ oQ
   ·rw[aM];omega
   ·rw[aM];omega
   ·rw[aX];omega
   ·rw[aX];omega
 |h+1,(p,ks,kids),hO,hW,hB,hm,h2=>by
  have hm:kids.length≤s.fan+s.fan/2:=hm
  have h2:2≤s.fan:=h2
  obtain⟨o1,o2,o3⟩:Ks ks∧Sep ks (kids.map ents)∧∀x∈kids,Ord x:=hO
  obtain⟨w1,w2⟩:(∀k∈ks,k.length=s.kw)∧∀x∈kids,Wd s x:=hW
  have hB:∀x∈kids,mx s h/2≤sz x∧sz x≤mx s h∧Below s x:=hB
  have hl:=o2.len
  rw[aD]at hl
  change zk1 s (zau p ks kids) (ents (zau p ks kids)) (zca s n S (zau p ks kids))
  rw[znm]
  by_cases hc:kids.length≤s.fan
  ·rw[if_pos hc]
   exact⟨rfl,fun _=>⟨rfl,⟨o1,o2,o3⟩,⟨w1,w2⟩,hc,hB⟩,fun k d h=>(nomatch h)⟩
  ·rw[if_neg hc]
   refine⟨rfl,fun h=>(nomatch h),fun k d hkd=>?_⟩
   obtain⟨rfl,rfl⟩:=jU (cR hkd)
   obtain⟨l1,l2⟩:=zus (a:=kids.length) (m:=s.fan) oQ
   obtain⟨l3,l4⟩:=zur hm oQ
   have hk0:0<kids.length/2:=oQ
   have hk:kids.length/2<kids.length:=oQ
   have hkk:kids.length/2 - 1<ks.length:=oQ
   obtain⟨p1,p2⟩:=o2.part o1
   obtain⟨c1,c2⟩:=o2.cut o1 hk0 (by rw[aD];exact hk)
   rw[←eM]at c1
   rw[←eL]at c2
   have hd:ks.getD (kids.length/2 - 1) []=ks[kids.length/2 - 1]:=by rw[aE,aB hkk];rfl
   show(kids.take (kids.length/2)).flatMap ents++(kids.drop (kids.length/2)).flatMap ents=kids.flatMap ents∧(Ks (ks.take (kids.length/2 - 1))∧Sep (ks.take (kids.length/2 - 1)) ((kids.take (kids.length/2)).map ents)∧∀x∈kids.take (kids.length/2),Ord x)∧(Ks (ks.drop (kids.length/2))∧Sep (ks.drop (kids.length/2)) ((kids.drop (kids.length/2)).map ents)∧∀x∈kids.drop (kids.length/2),Ord x)∧((∀k∈ks.take (kids.length/2 - 1),k.length=s.kw)∧∀x∈kids.take (kids.length/2),Wd s x)∧((∀k∈ks.drop (kids.length/2),k.length=s.kw)∧∀x∈kids.drop (kids.length/2),Wd s x)∧(ks.getD (kids.length/2 - 1) []).length=s.kw∧zfo ((kids.take (kids.length/2)).flatMap ents) (ks.getD (kids.length/2 - 1) [])∧zg1 ((kids.drop (kids.length/2)).flatMap ents) (ks.getD (kids.length/2 - 1) [])∧s.fan/2≤(kids.take (kids.length/2)).length∧(kids.take (kids.length/2)).length≤s.fan∧s.fan/2≤(kids.drop (kids.length/2)).length∧(kids.drop (kids.length/2)).length≤s.fan∧(∀x∈kids.take (kids.length/2),mx s h/2≤sz x∧sz x≤mx s h∧Below s x)∧∀x∈kids.drop (kids.length/2),mx s h/2≤sz x∧sz x≤mx s h∧Below s x
   rw[hd]
   refine⟨zkx _ _ _,⟨dM (fL _ _) o1,c1,fun x hx=>o3 x (bY hx)⟩,⟨dM (fJ _ _) o1,c2,fun x hx=>o3 x (cE hx)⟩,⟨fun k hk=>w1 k (bY hk),fun x hx=>w2 x (bY hx)⟩,⟨fun k hk=>w1 k (cE hk),fun x hx=>w2 x (cE hx)⟩,w1 _ (aT hkk),fun q hq=>?_,fun q hq=>?_,?_,?_,?_,?_,fun x hx=>hB x (bY hx),fun x hx=>hB x (cE hx)⟩
   ·obtain⟨x,hx,hq⟩:=bS.1 hq
    obtain⟨i,hi,rfl⟩:=bL hx
    rw[aM]at hi
    rw[eE]at hq
    have:=p1 (kids.length/2 - 1) i hkk (by rw[aD];omega) oQ
    rw[cS]at this
    exact this q hq
   ·obtain⟨x,hx,hq⟩:=bS.1 hq
    obtain⟨i,hi,rfl⟩:=bL hx
    rw[aX]at hi
    rw[dW]at hq
    have:=p2 (kids.length/2 - 1) (kids.length/2+i) hkk (by rw[aD];omega) oQ
    rw[cS]at this
    exact this q hq
   ·rw[aM];omega
   ·rw[aM];omega
   ·rw[aX];omega
   ·rw[aX];omega
structure zy8 (n:Nat) (S:Nat→Bool) (L:List Nat) {h:Nat} (r:Res h):Prop where
 none:r.2.1=none→pgs r.1=L∧r.2.2=S
 some:∀k d,r.2.1=some (k,d)→(pgs r.1++pgs d).Perm (nw n S::L)∧pg d=nw n S∧r.2.2=us S (nw n S) true
theorem qcs(s:Sh)(n:Nat)(S:Nat→Bool):∀{h:Nat} (t:T h),zy8 n S (pgs t) (zca s n S t)
 |0,(p,es)=>by
  change zy8 n S (pgs (zb0 p es)) (zca s n S (zb0 p es))
  rw[znl]
  split
  ·exact⟨fun _=>⟨rfl,rfl⟩,fun k d h=>(nomatch h)⟩
  ·refine⟨fun h=>(nomatch h),fun k d hkd=>?_⟩
   obtain⟨rfl,rfl⟩:=jU (cR hkd)
   exact⟨.swap _ _ _,rfl,rfl⟩
 |h+1,(p,ks,kids)=>by
  change zy8 n S (pgs (zau p ks kids)) (zca s n S (zau p ks kids))
  rw[znm]
  split
  ·exact⟨fun _=>⟨rfl,rfl⟩,fun k d h=>(nomatch h)⟩
  ·refine⟨fun h=>(nomatch h),fun k d hkd=>?_⟩
   obtain⟨rfl,rfl⟩:=jU (cR hkd)
   refine⟨?_,rfl,rfl⟩
   show((p::(kids.take (kids.length/2)).flatMap pgs)++(nw n S::(kids.drop (kids.length/2)).flatMap pgs)).Perm (nw n S::p::kids.flatMap pgs)
   rw[←zkx kids pgs (kids.length/2)]
   refine bM.trans (.cons _ ?_)
   rfl
theorem Sep.dropm{ks:List K}{es:List E}:∀(m:Nat),Sep ks es→m<es.length→Sep (ks.drop m) (es.drop m)
 |0,h,_=>h
 |m+1,h,hm=>by
  match ks,es,h with
  | [],[_],_=>simp at hm
  |k::ks,e::es,h=>exact Sep.dropm m h.2.2 (by simpa using hm)
theorem Sep.takem{ks:List K}{es:List E}:∀(m:Nat),Sep ks es→m<es.length→Sep (ks.take m) (es.take (m+1))
 |0,h,hm=>by
  match ks,es,h with
  | [],[_],_=>trivial
  |k::ks,e::es,h=>trivial
 |m+1,h,hm=>by
  match ks,es,h with
  | [],[_],_=>simp at hm
  |k::ks,e::es,h=>exact⟨h.1,fun e' he=>h.2.1 e' (bY he),Sep.takem m h.2.2 (by simpa using hm)⟩
theorem Sep.join{q:K}{ks2:List K}{es2:List E}(h2:Sep ks2 es2)(hge:∀e∈es2,zg1 e q):∀{ks1:List K} {es1:List E},Sep ks1 es1→(∀k∈ks1,∀e∈es2,zg1 e k)→(∀e∈es1,zfo e q)→Sep (ks1++q::ks2) (es1++es2)
 | [],[e],_,_,hl=>⟨hl e (.head _),hge,h2⟩
 |k::ks1,e::es1,h,hc,hl=>⟨h.1,fun e' he=>by
   rcases aR.1 he with he|he
   ·exact h.2.1 e' he
   ·exact hc k (.head _) e' he,Sep.join h2 hge h.2.2 (fun k' hk=>hc k' (.tail _ hk)) fun e' he=>hl e' (.tail _ he)⟩
def Bd(ks:List K)(i:Nat)(e:E):Prop:=(∀j (hj:j<ks.length),i≤j→zfo e ks[j])∧∀j (hj:j<ks.length),j<i→zg1 e ks[j]
theorem Sep.bd(hk:Ks ks)(h:Sep ks es)(hi:i<es.length):Bd ks i es[i]:=by
 obtain⟨p1,p2⟩:=h.part hk
 exact⟨fun j hj hij=>p1 j i hj hi hij,fun j hj hij=>p2 j i hj hi hij⟩
theorem Sep.set{ks:List K}{es:List E}(hk:Ks ks)(h:Sep ks es){i:Nat}(e':E)(hb:Bd ks i e'):Sep ks (es.set i e'):=by
 obtain⟨p1,p2⟩:=h.part hk
 refine Sep.of (by rw[bE];exact h.len) (fun j hj hj2=>?_) fun j m hj hm hjm=>?_
 ·rw[gW]
  split
  ·rename_i e;subst e;exact hb.1 _ hj (bA _)
  ·exact p1 j j hj (by rw[bE]at hj2;exact hj2) (bA _)
 ·rw[gW]
  split
  ·rename_i e;subst e;exact hb.2 _ hj hjm
  ·exact p2 j m hj (by rw[bE]at hm;exact hm) hjm
def ins(l:List α)(i:Nat)(x:α):List α:=l.take i++x::l.drop i
theorem zf1(l:List α)(i:Nat)(x:α):(ins l i x).length=l.length+1:=by
 unfold ins
 rw[aA,aW,aM,aX]
 omega
theorem zf2{l:List α}{x y:α}(h:y∈ins l i x):y=x∨y∈l:=by
 unfold ins at h
 rcases aR.1 h with h|h
 ·exact .inr (bY h)
 ·rcases aL.1 h with h|h
  ·exact .inl h
  ·exact .inr (cE h)
theorem Sep.ins{ks:List K}{es:List E}(hk:Ks ks)(h:Sep ks es){i:Nat}(hi:i<es.length){e1 e2:E}{q:K}(b1:Bd ks i e1)(b2:Bd ks i e2)(l1:zfo e1 q)(l2:zg1 e2 q)
  (q1:∀j (hj:j<ks.length),j<i→kl ks[j] q) (q2:∀j (hj:j<ks.length),i≤j→kl q ks[j]):Ks (Tr.ins ks i q)∧Sep (Tr.ins ks i q) (Tr.ins (es.set i e1) (i+1) e2):=by
 obtain⟨p1,p2⟩:=h.part hk
 have hl:=h.len
 have hli:i≤ks.length:=oQ
 constructor
 ·unfold Tr.ins Ks
  rw[bN]
  refine⟨dM (fL _ _) hk,bP.2 ⟨fun y hy=>?_,dM (fJ _ _) hk⟩,fun x hx y hy=>?_⟩
  ·obtain⟨j,hj,rfl⟩:=bL hy
   rw[aX]at hj
   rw[dW]
   exact q2 _ oQ oQ
  ·obtain⟨j,hj,rfl⟩:=bL hx
   rw[aM]at hj
   rw[eE]
   rcases aL.1 hy with rfl|hy
   ·exact q1 j oQ oQ
   ·obtain⟨m,hm,rfl⟩:=bL hy
    rw[aX]at hm
    rw[dW]
    exact cG.1 hk _ _ oQ oQ oQ
 ·have s1:=(h.set hk e1 b1).takem i (by rw[bE];exact hi)
  have s2:=(h.set hk e2 b2).dropm i (by rw[bE];exact hi)
  have e2':(es.set i e2).drop i=e2::es.drop (i+1):=by
   rw[bX (by rw[bE];exact hi),dN,dO oQ]
  have e1':(es.set i e1).drop (i+1)=es.drop (i+1):=dO oQ
  rw[e2']at s2
  unfold Tr.ins
  rw[e1']
  refine Sep.join s2 (fun e he=>?_) s1 (fun k hk' e he=>?_) fun e he=>?_
  ·rcases aL.1 he with rfl|he
   ·exact l2
   ·obtain⟨j,hj,rfl⟩:=bL he
    rw[aX]at hj
    rw[dW]
    intro x hx hxq
    exact p2 (i+j) (i+1+j) oQ oQ oQ x hx (zb9 hxq (q2 _ oQ oQ))
  ·obtain⟨j,hj,rfl⟩:=bL hk'
   rw[aM]at hj
   rw[eE]
   rcases aL.1 he with rfl|he
   ·exact b2.2 j oQ oQ
   ·obtain⟨m,hm,rfl⟩:=bL he
    rw[aX]at hm
    rw[dW]
    exact p2 j _ oQ oQ oQ
  ·obtain⟨j,hj,rfl⟩:=bL he
   rw[aM,bE]at hj
   rw[eE,gW]
   split
   ·exact l1
   ·intro x hx
    exact zb9 (p1 j j oQ oQ (bA _) x hx) (q1 j oQ oQ)
def zok(s:Sh)(n:Nat):{h:Nat}→T h→K→K→(Nat→Bool)→Res h
 |0,t,k,v,S=>zca s n S (zb0 t.1 (zfx t.2 k v))
 |_+1,t,k,v,S=>match t.2.2[dn t.2.1 k]? with
  |none=>(t,none,S)
  |some c=>match zok s n c k v S with
   |(c',none,S')=>(zau t.1 t.2.1 (t.2.2.set (dn t.2.1 k) c'),none,S')
   |(c',some (q,d),S')=>zca s n S' (zau t.1 (ins t.2.1 (dn t.2.1 k) q) (ins (t.2.2.set (dn t.2.1 k) c') (dn t.2.1 k+1) d))
theorem zkm:∀{e:E} {k v:K} {q:K×K},q∈zfx e k v→q=(k,v)∨q∈e
 | [],_,_,_,h=>by rcases aL.1 h with h|h;exact .inl h;cases h
 |p::r,k,v,q,h=>by
  unfold zfx at h
  split at h
  ·rcases aL.1 h with h|h
   ·exact .inl h
   ·exact .inr (.tail _ h)
  ·split at h
   ·rcases aL.1 h with h|h
    ·exact .inl h
    ·exact .inr h
   ·rcases aL.1 h with rfl|h
    ·exact .inr (.head _)
    ·rcases zkm h with h|h
     ·exact .inl h
     ·exact .inr (.tail _ h)
theorem zvs:∀(e:E) (k v:K),e.length≤(zfx e k v).length∧(zfx e k v).length≤e.length+1
 | [],_,_=>⟨aZ _,bA _⟩
 |p::r,k,v=>by
  have:=zvs r k v
  unfold zfx
  split
  ·exact⟨bA _,Nat.le_succ _⟩
  ·split
   ·simp
   ·simp;omega
theorem zvr:∀{e:E} {k v:K},Es e→Es (zfx e k v)
 | [],_,_,_=>eB _ _
 |p::r,k,v,h=>by
  obtain⟨h1,h2⟩:(∀a∈r.map (·.1),kl p.1 a)∧Es r:=bP.1 h
  unfold zfx
  split
  ·rename_i e;subst e
   exact bP.2 ⟨h1,h2⟩
  ·split
   ·rename_i hne hlt
    refine bP.2 ⟨fun a ha=>?_,h⟩
    rcases aL.1 ha with rfl|ha
    ·exact hlt
    ·exact zb9 hlt (h1 a ha)
   ·rename_i hne hlt
    refine bP.2 ⟨fun a ha=>?_,zvr h2⟩
    obtain⟨q,hq,rfl⟩:=aS.1 ha
    rcases zkm hq with rfl|hq
    ·exact qqz hlt hne
    ·exact h1 _ (aS.2 ⟨q,hq,rfl⟩)
theorem zjp(s:Sh)(h2:∀h,2≤mx s h):∀{h:Nat} (t:T h),Below s t→1≤sz t→ents t≠[]
 |0,(p,es),_,hz,he=>by
  have he:es=[]:=he
  subst he
  exact absurd (show 1≤0 from hz) dQ
 |h+1,(p,ks,kids),hB,hz,he=>by
  have hB:∀x∈kids,mx s h/2≤sz x∧sz x≤mx s h∧Below s x:=hB
  have he:kids.flatMap ents=[]:=he
  match kids,hz with
  |x::r,_=>
   obtain⟨b1,b2,b3⟩:=hB x (.head _)
   have:=h2 h
   rw[aV,List.append_eq_nil_iff]at he
   exact zjp s h2 x b3 oQ he.1
variable{k:K}{e:E}
theorem qqf(hk:Ks ks){v:K}(hb:Bd ks (dn ks k) e):Bd ks (dn ks k) (zfx e k v):=by
 refine⟨fun j hj hij p hp=>?_,fun j hj hij p hp=>?_⟩
 ·rcases zkm hp with rfl|hp
  ·exact qqp hk hj hij
  ·exact hb.1 j hj hij p hp
 ·rcases zkm hp with rfl|hp
  ·exact qqq hj hij
  ·exact hb.2 j hj hij p hp
theorem Bd.sub{e':E}(h:Bd ks i e)(hs:∀p∈e',p∈e):Bd ks i e':=
 ⟨fun j hj hij p hp=>h.1 j hj hij p (hs p hp),fun j hj hij p hp=>h.2 j hj hij p (hs p hp)⟩
theorem qcn(l:List α)(f:α→E)(hi:i<l.length)(x:α):(l.set i x).flatMap f=(l.take i).flatMap f++(f x++(l.drop (i+1)).flatMap f):=by
 rw[zh0 (l.set i x) f (i:=i) (by rw[bE];exact hi),dN,eP oQ,dO oQ]
theorem zxi(l:List α)(f:α→E)(hi:i<l.length)(x y:α):(ins (l.set i x) (i+1) y).flatMap f=(l.take i).flatMap f++((f x++f y)++(l.drop (i+1)).flatMap f):=by
 unfold ins
 rw[dA (by rw[bE];exact hi),dN,eP oQ,dO oQ,bB,bB,aV]
 simp
theorem map_set'{β:Type}(l:List α)(f:α→β)(i:Nat)(x:α):(l.set i x).map f=(l.map f).set i (f x):=gO
theorem zp0{β:Type}(l:List α)(f:α→β)(i:Nat)(x:α):(ins l i x).map f=ins (l.map f) i (f x):=by
 unfold ins;simp
theorem zta(s:Sh)(n:Nat)(h2:∀h,2≤mx s h)(k v:K)(hk:k.length=s.kw)(hv:v.length=s.vw):∀{h:Nat} (t:T h) (S:Nat→Bool),Ord t→Wd s t→Below s t→sz t≤mx s h→zk1 s t (zfx (ents t) k v) (zok s n t k v S)∧((zok s n t k v S).2.1=none→sz t≤sz (zok s n t k v S).1)
 |0,(p,es),S,hO,hW,hB,hm=>by
  have hc:=h2 0
  have hc:2≤s.cap:=hc
  have hm:es.length≤s.cap:=hm
  have hl:=zvs es k v
  have:=zo2 s n S (zb0 p (zfx es k v)) (zvr (e:=es) hO) (fun q hq=>by
   rcases zkm hq with rfl|hq
   ·exact⟨hk,hv⟩
   ·exact hW q hq) trivial (by show(zfx es k v).length≤s.cap+s.cap/2;omega) hc
  refine⟨⟨this.page,this.none,this.some⟩,fun hn=>?_⟩
  show es.length≤sz (zca s n S (zb0 p (zfx es k v))).1
  have hn:(zca s n S (zb0 p (zfx es k v))).2.1=none:=hn
  rw[znl]at hn⊢
  split at hn
  ·rename_i hcc
   rw[if_pos hcc]
   exact hl.1
  ·cases hn
 |h+1,(p,ks,kids),S,hO,hW,hB,hm=>by
  obtain⟨o1,o2,o3⟩:Ks ks∧Sep ks (kids.map ents)∧∀x∈kids,Ord x:=hO
  obtain⟨w1,w2⟩:(∀k∈ks,k.length=s.kw)∧∀x∈kids,Wd s x:=hW
  have hB:∀x∈kids,mx s h/2≤sz x∧sz x≤mx s h∧Below s x:=hB
  have hm:kids.length≤s.fan:=hm
  have hf:2≤s.fan:=h2 (h+1)
  have hl:=o2.len
  rw[aD]at hl
  have hi:dn ks k<kids.length:=by have:=zoh ks k;omega
  have hc:kids[dn ks k]? =some kids[dn ks k]:=aB hi
  have hcm:=aT hi
  obtain⟨ih,ihm⟩:=zta s n h2 k v hk hv kids[dn ks k] S (o3 _ hcm) (w2 _ hcm) (hB _ hcm).2.2 (hB _ hcm).2.1
  obtain⟨m1,m2⟩:=Sep.mid (kids:=kids) o1 o2 k
  have hbd:=o2.bd o1 (i:=dn ks k) (by rw[aD];exact hi)
  rw[cS]at hbd
  have hbp:=qqf o1 (v:=v) hbd
  have he:zfx (kids.flatMap ents) k v=(kids.take (dn ks k)).flatMap ents++(zfx (ents kids[dn ks k]) k v++(kids.drop (dn ks k+1)).flatMap ents):=by
   rw[zh0 kids ents hi,qk8 m1 m2]
  have hput:zok s n (h:=h+1) (p,ks,kids) k v S=match zok s n kids[dn ks k] k v S with
   |(c',none,S')=>(zau p ks (kids.set (dn ks k) c'),none,S')
   |(c',some (q,d),S')=>zca s n S' (zau p (ins ks (dn ks k) q) (ins (kids.set (dn ks k) c') (dn ks k+1) d)):=by
   show(match kids[dn ks k]? with|none=>_|some c=>_)=_
   rw[hc]
  show zk1 s (zau p ks kids) (zfx (kids.flatMap ents) k v) _∧_
  rw[hput,he]
  obtain⟨⟨c',g,S'⟩,hr⟩:∃r,zok s n kids[dn ks k] k v S=r:=⟨_,rfl⟩
  rw[hr]at ih ihm⊢
  cases g with
  |none=>
   obtain⟨n1,n2,n3,n4,n5⟩:=ih.none rfl
   have hmn:sz kids[dn ks k]≤sz c':=ihm rfl
   refine⟨⟨rfl,fun _=>⟨?_,⟨o1,?_,fun x hx=>?_⟩,⟨w1,fun x hx=>?_⟩,?_,fun x hx=>?_⟩,fun k d hkd=>(nomatch hkd)⟩,fun _=>?_⟩
   ·show(kids.set (dn ks k) c').flatMap ents=_
    rw[qcn _ _ hi,n1]
   ·show Sep ks ((kids.set (dn ks k) c').map ents)
    rw[map_set',n1]
    exact o2.set o1 _ hbp
   ·rcases cF hx with hx|rfl
    ·exact o3 x hx
    ·exact n2
   ·rcases cF hx with hx|rfl
    ·exact w2 x hx
    ·exact n3
   ·show(kids.set (dn ks k) c').length≤s.fan
    rw[bE];exact hm
   ·rcases cF hx with hx|rfl
    ·exact hB x hx
    ·have:=(hB _ hcm).1
     exact⟨oQ,n4,n5⟩
   ·show kids.length≤(kids.set (dn ks k) c').length
    rw[bE];exact bA _
  |some g=>
   obtain⟨q,d⟩:=g
   obtain⟨n1,n2,n3,n4,n5,n6,n7,n8,n9,n10,n11,n12,n13,n14⟩:=ih.some q d rfl
   have hh:=h2 h
   have ne1:=zjp s h2 c' n13 (by show 1≤sz c';have:mx s h/2≤sz c':=n9;omega)
   have ne2:=zjp s h2 d n14 oQ
   obtain⟨x1,hx1⟩:=dD _ ne1
   obtain⟨x2,hx2⟩:=dD _ ne2
   have b1:Bd ks (dn ks k) (ents c'):=hbp.sub fun p hp=>by rw[←n1];exact aP _ hp
   have b2:Bd ks (dn ks k) (ents d):=hbp.sub fun p hp=>by rw[←n1];exact aU _ hp
   obtain⟨i1,i2⟩:=o2.ins o1 (i:=dn ks k) (by rw[aD];exact hi) b1 b2 n7 n8 (fun j hj hij=>zd5 (b1.2 j hj hij x1 hx1) (n7 x1 hx1)) fun j hj hij=>zd5 (n8 x2 hx2) (b2.1 j hj hij x2 hx2)
   have hst:zk1 s (zau p (ins ks (dn ks k) q) (ins (kids.set (dn ks k) c') (dn ks k+1) d)) ((ins (kids.set (dn ks k) c') (dn ks k+1) d).flatMap ents) (zca s n S' (zau p (ins ks (dn ks k) q) (ins (kids.set (dn ks k) c') (dn ks k+1) d))):=by
    refine zo2 s n S' (zau p (ins ks (dn ks k) q) (ins (kids.set (dn ks k) c') (dn ks k+1) d)) ⟨i1,?_,fun x hx=>?_⟩ ⟨fun x hx=>?_,fun x hx=>?_⟩ (fun x hx=>?_) ?_ hf
    ·show Sep _ ((ins (kids.set (dn ks k) c') (dn ks k+1) d).map ents)
     rw[zp0,map_set']
     exact i2
    ·rcases zf2 hx with rfl|hx
     ·exact n3
     ·rcases cF hx with hx|rfl
      ·exact o3 x hx
      ·exact n2
    ·rcases zf2 hx with rfl|hx
     ·exact n6
     ·exact w1 x hx
    ·rcases zf2 hx with rfl|hx
     ·exact n5
     ·rcases cF hx with hx|rfl
      ·exact w2 x hx
      ·exact n4
    ·rcases zf2 hx with rfl|hx
     ·exact⟨n11,n12,n14⟩
     ·rcases cF hx with hx|rfl
      ·exact hB x hx
      ·exact⟨n9,n10,n13⟩
    ·show(ins (kids.set (dn ks k) c') (dn ks k+1) d).length≤s.fan+s.fan/2
     rw[zf1,bE];omega
   rw[zxi _ _ hi,n1]at hst
   refine⟨⟨hst.page,hst.none,hst.some⟩,fun hn=>?_⟩
   show kids.length≤sz (zca s n S' (zau p (ins ks (dn ks k) q) (ins (kids.set (dn ks k) c') (dn ks k+1) d))).1
   have hn:(zca s n S' (zau p (ins ks (dn ks k) q) (ins (kids.set (dn ks k) c') (dn ks k+1) d))).2.1=none:=hn
   rw[znm]at hn⊢
   split at hn
   ·rename_i hcc
    rw[if_pos hcc]
    show kids.length≤(ins (kids.set (dn ks k) c') (dn ks k+1) d).length
    rw[zf1,bE];omega
   ·cases hn
structure Acc (n:Nat) (S:Nat→Bool) (L:List Nat):Prop where
 nodup:L.Nodup
 is:∀i,i<n→(S i=true↔i=0∨i∈L)
 low:∀x∈L,1≤x∧x<n
variable{n:Nat}{S:Nat→Bool}{L:List Nat}
theorem Acc.perm{L':List Nat}(h:Acc n S L)(p:L.Perm L'):Acc n S L':=
 ⟨p.nodup_iff.1 h.nodup,fun i hi=>(h.is i hi).trans ⟨fun h=>h.imp id p.mem_iff.1,fun h=>h.imp id p.mem_iff.2⟩,fun x hx=>h.low x (p.mem_iff.2 hx)⟩
theorem zve:∀{l L:List Nat},l.Nodup→(∀x∈l,x∈L)→l.length≤L.length
 | [],_,_,_=>aZ _
 |a::l,L,hn,h=>by
  obtain⟨n1,n2⟩:=cP.1 hn
  have ha:=h a (.head _)
  have:=zve (l:=l) (L:=L.erase a) n2 fun x hx=>(List.mem_erase_of_ne (fun e:x=a=>n1 (by rw[←e];exact hx))).2 (h x (.tail _ hx))
  rw[List.length_erase_of_mem ha]at this
  have:=List.length_pos_of_mem ha
  rw[aW]
  omega
theorem zjr(h:∃i,i<n∧S i=false):S (nw n S)=false∧nw n S<n∧∀j,j<nw n S→S j=true:=by
 unfold nw
 cases hf:(List.range n).find? fun i=> !S i with
 |none=>
  obtain⟨i,hi,hs⟩:=h
  have:=eF.1 hf i (dL.2 hi)
  rw[hs]at this
  exact absurd rfl this
 |some q=>
  obtain⟨h1,as1,bs,h2,h3⟩:=List.find?_eq_some_iff_append.1 hf
  have hlen:=congrArg List.length h2
  rw[fX,aA,aW]at hlen
  have hq:q=as1.length:=by
   have:(List.range n)[as1.length]? =(as1++q::bs)[as1.length]? :=by rw[h2]
   rw[eO oQ,cZ (bA _),lD]at this
   simpa using this.symm
  show S q=false∧q<n∧∀j,j<q→S j=true
  refine⟨by simpa using h1,oQ,fun j hj=>?_⟩
  have hm:j∈as1:=by
   have:(List.range n)[j]? =(as1++q::bs)[j]? :=by rw[h2]
   rw[eO oQ,cK oQ]at this
   exact bI this.symm
  simpa using h3 j hm
theorem Acc.free(h:Acc n S L)(hr:L.length+1<n):S (nw n S)=false∧nw n S<n∧(∀j,j<nw n S→S j=true)∧1≤nw n S∧nw n S∉L:=by
 have hex:∃i,i<n∧S i=false:=by
  by_cases hall:∀i,i<n→S i=true
  ·exfalso
   have:=zve (l:=List.range n) (L:=0::L) List.nodup_range fun x hx=>by
    rcases(h.is x (dL.1 hx)).1 (hall x (dL.1 hx))with rfl|h
    ·exact .head _
    ·exact .tail _ h
   rw[fX,aW]at this
   omega
  ·by_cases hne:∃i,i<n∧S i=false
   ·exact hne
   ·exfalso
    apply hall
    intro i hi
    cases hs:S i with
    |true=>rfl
    |false=>exact absurd ⟨i,hi,hs⟩ hne
 obtain⟨h1,h2,h3⟩:=zjr hex
 have h0:S 0=true:=(h.is 0 oQ).2 (.inl rfl)
 refine⟨h1,h2,h3,?_,fun hm=>?_⟩
 ·rcases fE (nw n S)with h|h
  ·rw[h,h0]at h1;cases h1
  ·exact h
 ·have:=(h.is _ h2).2 (.inr hm)
  rw[h1]at this;cases this
theorem Acc.add(h:Acc n S L)(hr:L.length+1<n):Acc n (us S (nw n S) true) (nw n S::L):=by
 obtain⟨h1,h2,h3,h4,h5⟩:=h.free hr
 refine⟨cP.2 ⟨h5,h.nodup⟩,fun i hi=>?_,fun x hx=>?_⟩
 ·unfold us
  by_cases e:i=nw n S
  ·rw[if_pos e]
   exact⟨fun _=>.inr (e▸ .head _),fun _=>rfl⟩
  ·rw[if_neg e]
   refine(h.is i hi).trans ⟨fun h=>h.imp id (fun h=>.tail _ h),fun h=>h.imp id fun h=>?_⟩
   rcases aL.1 h with h|h
   ·exact absurd h e
   ·exact h
 ·rcases aL.1 hx with rfl|hx
  ·exact⟨h4,h2⟩
  ·exact h.low x hx
theorem Acc.del{q:Nat}(h:Acc n S (q::L)):Acc n (us S q false) L:=by
 obtain⟨n1,n2⟩:=cP.1 h.nodup
 have hq:=(h.low q (.head _)).1
 refine⟨n2,fun i hi=>?_,fun x hx=>h.low x (.tail _ hx)⟩
 unfold us
 by_cases e:i=q
 ·rw[if_pos e]
  refine⟨fun h=>(nomatch h),fun h=>?_⟩
  rcases h with h|h
  ·omega
  ·exact absurd (e▸h) n1
 ·rw[if_neg e]
  refine(h.is i hi).trans ⟨fun h=>h.imp id fun h=>?_,fun h=>h.imp id fun h=>.tail _ h⟩
  rcases aL.1 h with h|h
  ·exact absurd h e
  ·exact h
def qs1(r:Res h):List Nat:=pgs r.1++(r.2.1.map fun g=>pgs g.2).getD []
structure qsg (n:Nat) (S:Nat→Bool) {h:Nat} (t:T h) (r:Res h) (N:List Nat):Prop where
 few:N.length≤h+1
 perm:(qs1 r).Perm (N++pgs t)
 acc:∀L,L.length+h+2<n→Acc n S L→Acc n r.2.2 (N++L)
theorem zyn(s:Sh)(n:Nat)(S:Nat→Bool)(t:T h):∃N,N.length≤1∧(qs1 (zca s n S t)).Perm (N++pgs t)∧∀L,L.length+1<n→Acc n S L→Acc n (zca s n S t).2.2 (N++L):=by
 obtain⟨h1,h2⟩:=qcs s n S t
 unfold qs1
 cases hg:(zca s n S t).2.1 with
 |none=>
  obtain⟨a,b⟩:=h1 hg
  exact⟨[],aZ _,by rw[a];simp,fun L _ hA=>by rw[b];exact hA⟩
 |some g=>
  obtain⟨k,d⟩:=g
  obtain⟨a, -,b⟩:=h2 k d hg
  exact⟨[nw n S],bA _,a,fun L hL hA=>by rw[b];exact hA.add hL⟩
theorem zum(l:List (T h))(hi:i<l.length)(x:T h){N:List Nat}(hp:(pgs x).Perm (N++pgs l[i])):((l.set i x).flatMap pgs).Perm (N++l.flatMap pgs):=by
 have e1:l.flatMap pgs=(l.take i).flatMap pgs++(pgs l[i]++(l.drop (i+1)).flatMap pgs):=by
  conv=>lhs;rw[←bF i l,bX hi]
  rw[bB,aV]
 have e2:(l.set i x).flatMap pgs=(l.take i).flatMap pgs++(pgs x++(l.drop (i+1)).flatMap pgs):=by
  conv=>lhs;rw[←bF i (l.set i x),bX (by rw[bE];exact hi)]
  rw[bB,aV,dN,eP oQ,dO oQ]
 rw[e1,e2]
 refine(cU _ (cM _ hp)).trans ?_
 rw[aG]
 exact bV _ _ _
theorem zl1(l:List (T h))(i:Nat)(x:T h):((ins l i x).flatMap pgs).Perm (pgs x++l.flatMap pgs):=by
 unfold ins
 rw[bB,aV]
 refine(bV _ _ _).trans ?_
 rw[←bB,bF]
theorem qcg(s:Sh)(n:Nat)(k v:K):∀{h:Nat} (t:T h) (S:Nat→Bool),(∀(h':Nat),True)→∃N,qsg n S t (zok s n t k v S) N
 |0,(p,es),S,_=>by
  obtain⟨N,h1,h2,h3⟩:=zyn s n S (zb0 p (zfx es k v))
  exact⟨N,h1,h2,fun L hL hA=>h3 L oQ hA⟩
 |h+1,(p,ks,kids),S,_=>by
  cases hc:kids[dn ks k]? with
  |none=>
   have hput:zok s n (h:=h+1) (p,ks,kids) k v S=((p,ks,kids),none,S):=by
    simp only[zok,hc]<;>rfl
   rw[hput]
   exact⟨[],aZ _,by show(pgs (zau p ks kids)++[]).Perm _;rw[bC];exact .refl _,fun L _ hA=>hA⟩
  |some c=>
   obtain⟨hi,rfl⟩:=aC.1 hc
   obtain⟨N1,f1,p1,a1⟩:=qcg s n k v kids[dn ks k] S (fun _=>trivial)
   have hput:zok s n (h:=h+1) (p,ks,kids) k v S=match zok s n kids[dn ks k] k v S with
    |(c',none,S')=>(zau p ks (kids.set (dn ks k) c'),none,S')
    |(c',some (q,d),S')=>zca s n S' (zau p (ins ks (dn ks k) q) (ins (kids.set (dn ks k) c') (dn ks k+1) d)):=by
    simp only[zok,hc]<;>rfl
   rw[hput]
   obtain⟨⟨c',g,S'⟩,hr⟩:∃r,zok s n kids[dn ks k] k v S=r:=⟨_,rfl⟩
   rw[hr]at p1 a1⊢
   cases g with
   |none=>
    have p1:(pgs c'++[]).Perm (N1++pgs kids[dn ks k]):=p1
    rw[bC]at p1
    refine⟨N1,oQ,?_,fun L hL hA=>a1 L oQ hA⟩
    show((p::(kids.set (dn ks k) c').flatMap pgs)++[]).Perm (N1++p::kids.flatMap pgs)
    rw[bC]
    exact(List.Perm.cons _ (zum kids hi c' p1)).trans bM.symm
   |some g=>
    obtain⟨q,d⟩:=g
    have p1:(pgs c'++pgs d).Perm (N1++pgs kids[dn ks k]):=p1
    obtain⟨N2,g1,g2,g3⟩:=zyn s n S' (zau p (ins ks (dn ks k) q) (ins (kids.set (dn ks k) c') (dn ks k+1) d))
    refine⟨N2++N1,by rw[aA];omega,?_,fun L hL hA=>?_⟩
    ·refine g2.trans ?_
     rw[aG]
     refine cU _ ?_
     show(p::(ins (kids.set (dn ks k) c') (dn ks k+1) d).flatMap pgs).Perm (N1++p::kids.flatMap pgs)
     refine(List.Perm.cons _ ?_).trans bM.symm
     refine(zl1 _ _ _).trans ?_
     have e1:kids.flatMap pgs=(kids.take (dn ks k)).flatMap pgs++(pgs kids[dn ks k]++(kids.drop (dn ks k+1)).flatMap pgs):=by
      conv=>lhs;rw[←bF (dn ks k) kids,bX hi]
      rw[bB,aV]
     have e2:(kids.set (dn ks k) c').flatMap pgs=(kids.take (dn ks k)).flatMap pgs++(pgs c'++(kids.drop (dn ks k+1)).flatMap pgs):=by
      conv=>lhs;rw[←bF (dn ks k) (kids.set (dn ks k) c'),bX (by rw[bE];exact hi)]
      rw[bB,aV,dN,eP oQ,dO oQ]
     rw[e1,e2]
     have hp2:(pgs d++pgs c').Perm (N1++pgs kids[dn ks k]):=cW.trans p1
     generalize (kids.take (dn ks k)).flatMap pgs=A
     generalize (kids.drop (dn ks k+1)).flatMap pgs=B
     refine(bV _ _ _).trans ?_
     refine List.Perm.trans ?_ (bV _ _ _)
     refine cU _ ?_
     rw[←aG,←aG]
     exact cM _ hp2
    ·have hA1:=a1 L oQ hA
     have:=g3 (N1++L) (by rw[aA];omega) hA1
     rwa[aG]
theorem Sep.two:∀{P:List K} {X:List E} {q:K} {R:List K} {Y:List E},P.length+1=X.length→Ks (P++q::R)→Sep (P++q::R) (X++Y)→Sep P X∧Sep R Y∧(∀e∈X,zfo e q)∧(∀e∈Y,zg1 e q)∧∀k∈P,∀e∈Y,zg1 e k
 | [],[a],q,R,Y,_,_,h=>⟨trivial,h.2.2,fun e he=>(aN.1 he)▸h.1,h.2.1,fun _ h=>nomatch h⟩
 | [],[],_,_,_,h,_,_=>absurd h sQ
 | [],_::_::_,_,_,_,h,_,_=>absurd h sQ
 |k::P,[],_,_,_,h,_,_=>absurd h sQ
 |k::P,e::X,q,R,Y,hl,hk,h=>by
  obtain⟨k1,k2⟩:=bP.1 hk
  obtain⟨h1,h2,h3⟩:zfo e k∧(∀e'∈X++Y,zg1 e' k)∧Sep (P++q::R) (X++Y):=h
  obtain⟨i1,i2,i3,i4,i5⟩:=Sep.two (by simpa using hl) k2 h3
  refine⟨⟨h1,fun e' he=>h2 e' (aP _ he),i1⟩,i2,fun e' he=>?_,i4,fun k' hk' e' he=>?_⟩
  ·rcases aL.1 he with rfl|he
   ·exact fun x hx=>zb9 (h1 x hx) (k1 q (aU _ (.head _)))
   ·exact i3 e' he
  ·rcases aL.1 hk' with rfl|hk'
   ·exact h2 e' (aU _ he)
   ·exact i5 k' hk' e' he
theorem Sep.last:∀{P:List K} {X:List E} {a l:E},Sep P (X++[a])→(∀k∈P,zg1 l k)→Sep P (X++[l])
 | [],[],_,_,_,_=>trivial
 | [],_::X,a,_,h,_=>by have:=h.len;simp at this
 |k::P,[],a,_,h,_=>by have:=h.len;simp at this
 |k::P,e::X,a,l,h,hl=>by
  refine⟨h.1,fun e' he=>?_,Sep.last h.2.2 fun k' hk=>hl k' (.tail _ hk)⟩
  rcases aR.1 he with he|he
  ·exact h.2.1 e' (aP _ he)
  ·exact(aN.1 he)▸hl k (.head _)
variable{R:List K}{Y:List E}
theorem Sep.first{b d:E}(h:Sep R (b::Y))(hd:∀k∈R,zfo d k):Sep R (d::Y):=by
 match R,Y,h with
 | [],[],_=>trivial
 |k::R,Y,h=>exact⟨hd k (.head _),h.2.1,h.2.2⟩
theorem Sep.glue:∀{P:List K} {X:List E} {e:E} {R:List K} {Y:List E},Sep P (X++[e])→Sep R (e::Y)→(∀k∈P,∀e'∈Y,zg1 e' k)→Sep (P++R) (X++e::Y)
 | [],[],_,_,_,_,h,_=>h
 | [],_::X,_,_,_,h,_,_=>by have:=h.len;simp at this
 |k::P,[],_,_,_,h,_,_=>by have:=h.len;simp at this
 |k::P,x::X,e,R,Y,h,h2,hc=>by
  refine⟨h.1,fun e' he=>?_,Sep.glue h.2.2 h2 fun k' hk=>hc k' (.tail _ hk)⟩
  rcases aR.1 he with he|he
  ·exact h.2.1 e' (aP _ he)
  ·rcases aL.1 he with rfl|he
   ·exact h.2.1 _ (aU _ (.head _))
   ·exact hc k (.head _) e' he
variable{P:List K}{q:K}
theorem Sep.keyLt{X:List E}(h:Sep P X)(hk:Ks P)(hne:∀e∈X,e≠[])(hl:∀e∈X,zfo e q):∀k∈P,kl k q:=by
 intro k hk'
 obtain⟨i,hi,rfl⟩:=bL hk'
 obtain⟨p1,p2⟩:=h.part hk
 have hlen:=h.len
 have hj:i+1<X.length:=oQ
 obtain⟨x,hx⟩:=dD _ (hne _ (aT hj))
 exact zd5 (p2 i (i+1) hi hj (eN i) x hx) (hl _ (aT hj) x hx)
theorem Sep.ltKey(h:Sep R Y)(hk:Ks R)(hne:∀e∈Y,e≠[])(hg:∀e∈Y,zg1 e q):∀k∈R,kl q k:=by
 intro k hk'
 obtain⟨i,hi,rfl⟩:=bL hk'
 obtain⟨p1,p2⟩:=h.part hk
 have hlen:=h.len
 have hj:i<Y.length:=oQ
 obtain⟨x,hx⟩:=dD _ (hne _ (aT hj))
 exact zd5 (hg _ (aT hj) x hx) (p1 i i hi hj (bA _) x hx)
theorem qgy(h1:Ks P)(h2:Ks R)(l1:∀k∈P,kl k q)(l2:∀k∈R,kl q k):Ks (P++q::R):=by
 unfold Ks
 rw[bN]
 refine⟨h1,bP.2 ⟨l2,h2⟩,fun x hx y hy=>?_⟩
 rcases aL.1 hy with rfl|hy
 ·exact l1 x hx
 ·exact zb9 (l1 x hx) (l2 y hy)
theorem qkm(h:Ks (P++q::R)):Ks P∧Ks R∧(∀k∈P,kl k q)∧(∀k∈R,kl q k)∧Ks (P++R):=by
 unfold Ks at*
 rw[bN]at h
 obtain⟨h1,h2,h3⟩:=h
 obtain⟨h4,h5⟩:=bP.1 h2
 exact⟨h1,h5,fun k hk=>h3 k hk q (.head _),h4,bN.2 ⟨h1,h5,fun x hx y hy=>h3 x hx y (.tail _ hy)⟩⟩
def zc2:{h:Nat}→T h→T h→K→T h
 |0,a,b,_=>zb0 a.1 (a.2++b.2)
 |_+1,a,b,q=>zau a.1 (a.2.1++q::b.2.1) (a.2.2++b.2.2)
theorem zg5:∀{h:Nat} (a b:T h) (q:K),sz (zc2 a b q)=sz a+sz b
 |0,(_,_),(_,_),_=>aA
 |_+1,(_,_,_),(_,_,_),_=>aA
theorem qgp:∀{h:Nat} (a b:T h) (q:K),ents (zc2 a b q)=ents a++ents b
 |0,(_,_),(_,_),_=>rfl
 |_+1,(_,_,_),(_,_,_),_=>bB
theorem zmy:∀{h:Nat} (a b:T h) (q:K),pg (zc2 a b q)=pg a
 |0,(_,_),(_,_),_=>rfl
 |_+1,(_,_,_),(_,_,_),_=>rfl
theorem qbx:∀{h:Nat} (a b:T h) (q:K),(pgs a++pgs b).Perm (pg b::pgs (zc2 a b q))
 |0,(_,_),(_,_),_=>.swap _ _ _
 |_+1,(pa,_,A),(pb,_,B),_=>by
  show((pa::A.flatMap pgs)++(pb::B.flatMap pgs)).Perm (pb::pa::(A++B).flatMap pgs)
  rw[bB]
  exact bM
theorem zsp(s:Sh):∀{h:Nat} (a b:T h) (q:K),Below s a→Below s b→Below s (zc2 a b q)
 |0,_,_,_,_,_=>trivial
 |_+1,(_,_,_),(_,_,_),_,ha,hb=>fun x hx=>(aR.1 hx).elim (ha x) (hb x)
theorem qgr(s:Sh):∀{h:Nat} (a b:T h) (q:K),Wd s a→Wd s b→q.length=s.kw→Wd s (zc2 a b q)
 |0,(_,_),(_,_),_,ha,hb,_=>fun x hx=>(aR.1 hx).elim (ha x) (hb x)
 |_+1,(_,_,_),(_,_,_),q,ha,hb,hq=>by
  refine⟨fun k hk=>?_,fun x hx=>(aR.1 hx).elim (ha.2 x) (hb.2 x)⟩
  rcases aR.1 hk with hk|hk
  ·exact ha.1 k hk
  ·rcases aL.1 hk with rfl|hk
   ·exact hq
   ·exact hb.1 k hk
theorem qbw(s:Sh)(h2:∀h,2≤mx s h):∀{h:Nat} (a b:T h) (q:K),Ord a→Ord b→Below s a→Below s b→zfo (ents a) q→zg1 (ents b) q→Ord (zc2 a b q)
 |0,(_,ea),(_,eb),q,ha,hb,_,_,la,gb=>by
  have ha:Es ea:=ha
  have hb:Es eb:=hb
  show Es (ea++eb)
  unfold Es Ks
  rw[cC,bN]
  refine⟨ha,hb,fun x hx y hy=>?_⟩
  obtain⟨p,hp,rfl⟩:=aS.1 hx
  obtain⟨r,hr,rfl⟩:=aS.1 hy
  exact zu0 (la p hp) (gb r hr)
 |h+1,(_,P,X),(_,R,Y),q,ha,hb,ba,bb,la,gb=>by
  obtain⟨a1,a2,a3⟩:Ks P∧Sep P (X.map ents)∧∀x∈X,Ord x:=ha
  obtain⟨b1,b2,b3⟩:Ks R∧Sep R (Y.map ents)∧∀x∈Y,Ord x:=hb
  have ba:∀x∈X,mx s h/2≤sz x∧sz x≤mx s h∧Below s x:=ba
  have bb:∀x∈Y,mx s h/2≤sz x∧sz x≤mx s h∧Below s x:=bb
  have hh:=h2 h
  have ne:∀Z:List (T h),(∀x∈Z,mx s h/2≤sz x∧sz x≤mx s h∧Below s x)→∀e∈Z.map ents,e≠[]:=fun Z hZ e he=>by
   obtain⟨x,hx,rfl⟩:=aS.1 he
   obtain⟨c1, -,c3⟩:=hZ x hx
   exact zjp s h2 x c3 oQ
  have la':∀e∈X.map ents,zfo e q:=fun e he p hp=>by
   obtain⟨x,hx,rfl⟩:=aS.1 he
   exact la p (bS.2 ⟨x,hx,hp⟩)
  have gb':∀e∈Y.map ents,zg1 e q:=fun e he p hp=>by
   obtain⟨x,hx,rfl⟩:=aS.1 he
   exact gb p (bS.2 ⟨x,hx,hp⟩)
  have k1:=a2.keyLt a1 (ne X ba) la'
  have k2:=b2.ltKey b1 (ne Y bb) gb'
  refine⟨qgy a1 b1 k1 k2,?_,fun x hx=>(aR.1 hx).elim (a3 x) (b3 x)⟩
  show Sep (P++q::R) ((X++Y).map ents)
  rw[cC]
  exact Sep.join b2 gb' a2 (fun k hk e he p hp h=>gb' e he p hp (zb9 h (k1 k hk))) la'
section
theorem zwm:∀(X:List α) (a:α) (Y:List α),(X++a::Y)[X.length]? =some a
 | [],_,_=>rfl
 |_::X,a,Y=>zwm X a Y
theorem zt0:∀(X:List α) (a b:α) (Y:List α),(X++a::b::Y)[X.length+1]? =some b
 | [],_,_,_=>rfl
 |_::X,a,b,Y=>zt0 X a b Y
theorem znk:∀(X:List α) (a c:α) (Y:List α),(X++a::Y).set X.length c=X++c::Y
 | [],_,_,_=>rfl
 |x::X,a,c,Y=>congrArg (x:: ·) (znk X a c Y)
theorem zo0:∀(X:List α) (a b c:α) (Y:List α),(X++a::b::Y).set (X.length+1) c=X++a::c::Y
 | [],_,_,_,_=>rfl
 |x::X,a,b,c,Y=>congrArg (x:: ·) (zo0 X a b c Y)
theorem qbk:∀(X:List α) (a:α) (Y:List α),(X++a::Y).eraseIdx X.length=X++Y
 | [],_,_=>rfl
 |x::X,a,Y=>congrArg (x:: ·) (qbk X a Y)
theorem zue:∀(X:List α) (a b:α) (Y:List α),(X++a::b::Y).eraseIdx (X.length+1)=X++a::Y
 | [],_,_,_=>rfl
 |x::X,a,b,Y=>congrArg (x:: ·) (zue X a b Y)
theorem zuo(X:List K)(a:K)(Y:List K):(X++a::Y).getD X.length []=a:=by
 rw[aE,zwm];rfl
end
def zht(s:Sh)(n:Nat)(S:Nat→Bool)(p:Nat)(ks:List K)(kids:List (T h))(i:Nat):T (h+1)×(Nat→Bool):=
 match kids[i - 1]?,kids[i - 1+1]? with
 |some a,some b=>
  if mx s h<sz (zc2 a b (ks.getD (i - 1) []))then
   match zca s n (us S (pg b) false) (zc2 a b (ks.getD (i - 1) []))with
   |(l,some (q,d),S')=>(zau p (ks.set (i - 1) q) ((kids.set (i - 1) l).set (i - 1+1) d),S')
   |(_,none,S')=>(zau p ks kids,S')
  else(zau p (ks.eraseIdx (i - 1)) ((kids.set (i - 1) (zc2 a b (ks.getD (i - 1) []))).eraseIdx (i - 1+1)),us S (pg b) false)
 |_,_=>(zau p ks kids,S)
structure qp7 (s:Sh) (n:Nat) (S:Nat→Bool) (p:Nat) {h:Nat} (kids:List (T h)) (r:T (h+1)×(Nat→Bool)):Prop where
 page:pg r.1=p
 ents:ents r.1=kids.flatMap Tr.ents
 ord:Ord r.1
 wd:Wd s r.1
 below:Below s r.1
 le:sz r.1≤kids.length
 ge:kids.length≤sz r.1+1
 acc:∀L,Acc n S (p::kids.flatMap pgs++L)→Acc n r.2 (pgs r.1++L)
theorem Acc.room(h:Acc n S L)(h0:0<n):L.length<n:=by
 have:=zve (l:=0::L) (L:=List.range n) (cP.2 ⟨fun h'=>by have:=(h.low 0 h').1;omega,h.nodup⟩) fun x hx=>by
  rcases aL.1 hx with rfl|hx
  ·exact dL.2 h0
  ·exact dL.2 (h.low x hx).2
 rw[fX,aW]at this
 omega
theorem qoj(s:Sh)(n:Nat)(hn:0<n)(h2:∀h,2≤mx s h)(S:Nat→Bool)(p:Nat){q0:K}{X Y:List (T h)}{a b:T h}(hl:X.length=P.length)(o1:Ks (P++q0::R))(o2:Sep (P++q0::R) ((X++a::b::Y).map ents))(o3:∀x∈X++a::b::Y,Ord x)
  (w1:∀k∈P++q0::R,k.length=s.kw) (w2:∀x∈X++a::b::Y,Wd s x) (hB:∀x∈X++a::b::Y,Below s x) (hX:∀x∈X++Y,mx s h/2≤sz x∧sz x≤mx s h) (hab:sz a+sz b≤mx s h+mx s h/2) (hab2:mx s h/2≤sz a+sz b) (i:Nat) (hi:i - 1=X.length):
  qp7 s n S p (X++a::b::Y) (zht s n S p (P++q0::R) (X++a::b::Y) i):=by
 have hm:zht s n S p (P++q0::R) (X++a::b::Y) i=
   if mx s h<sz a+sz b then
    match zca s n (us S (pg b) false) (zc2 a b q0)with
    |(l,some (q,d),S')=>(zau p (P++q::R) (X++l::d::Y),S')
    |(_,none,S')=>(zau p (P++q0::R) (X++a::b::Y),S')
   else(zau p (P++R) (X++zc2 a b q0::Y),us S (pg b) false):=by
  have e1:∀l,(X++a::b::Y).set X.length l=X++l::b::Y:=fun l=>znk X a l (b::Y)
  have e2:∀l d,(X++l::b::Y).set (X.length+1) d=X++l::d::Y:=fun l d=>zo0 X l b d Y
  have e3:∀q,(P++q0::R).set X.length q=P++q::R:=fun q=>by rw[hl];exact znk P q0 q R
  have e4:(P++q0::R).eraseIdx X.length=P++R:=by rw[hl];exact qbk P q0 R
  have e5:(P++q0::R).getD X.length []=q0:=by rw[hl];exact zuo P q0 R
  have e6:∀l,(X++l::b::Y).eraseIdx (X.length+1)=X++l::Y:=fun l=>zue X l b Y
  unfold zht
  rw[hi,zwm,zt0]
  simp only[e1,e2,e3,e4,e5,e6,zg5]
 rw[hm]
 obtain⟨k1,k2,k3,k4,k5⟩:=qkm o1
 have hsp:Sep (P++q0::R) ((X.map ents++[ents a])++(ents b::Y.map ents)):=by
  have:=o2
  rw[cC,bG,bG]at this
  simpa using this
 obtain⟨t1,t2,t3,t4,t5⟩:=Sep.two (P:=P) (X:=X.map ents++[ents a]) (by simp[hl]) o1 hsp
 have la:zfo (ents a) q0:=t3 _ (aU _ (.head _))
 have gb:zg1 (ents b) q0:=t4 _ (.head _)
 have ma:a∈X++a::b::Y:=aU _ (.head _)
 have mb:b∈X++a::b::Y:=aU _ (.tail _ (.head _))
 have mX:∀x∈X,x∈X++a::b::Y:=fun x hx=>aP _ hx
 have mY:∀x∈Y,x∈X++a::b::Y:=fun x hx=>aU _ (.tail _ (.tail _ hx))
 have hO:=qbw s h2 a b q0 (o3 a ma) (o3 b mb) (hB a ma) (hB b mb) la gb
 have hW:=qgr s a b q0 (w2 a ma) (w2 b mb) (w1 q0 (aU _ (.head _)))
 have hBl:=zsp s a b q0 (hB a ma) (hB b mb)
 have hents:=qgp a b q0
 have hflat:(X++a::b::Y).flatMap ents=X.flatMap ents++((ents a++ents b)++Y.flatMap ents):=by
  rw[bB,aV,aV,aG]
 -- the keys behind are greater,those ahead are not
 have gP:∀k∈P,zg1 (ents a++ents b) k:=fun k hk x hx=>by
  rcases aR.1 hx with hx|hx
  ·obtain⟨j,hj,rfl⟩:=bL hk
   obtain⟨-,p2⟩:=t1.part k1
   have hlen:=t1.len
   have:=p2 j (X.map ents).length hj sQ (by rw[aD];omega)
   rw[List.getElem_append_right (bA _)]at this
   simp only[lD,jD]at this
   exact this x hx
  ·exact t5 k hk _ (.head _) x hx
 have lR:∀k∈R,zfo (ents a++ents b) k:=fun k hk x hx=>by
  rcases aR.1 hx with hx|hx
  ·exact zb9 (la x hx) (k4 k hk)
  ·obtain⟨j,hj,rfl⟩:=bL hk
   obtain⟨p1, -⟩:=t2.part k2
   have:=p1 j 0 hj sQ (aZ _)
   exact this x hx
 have gY:∀k∈P,∀e∈Y.map ents,zg1 e k:=fun k hk e he=>t5 k hk e (.tail _ he)
 have lX:∀e∈X.map ents,zfo e q0:=fun e he=>t3 e (aP _ he)
 have hperm:(p::(X++a::b::Y).flatMap pgs).Perm (pg b::(p::(X.flatMap pgs++(pgs (zc2 a b q0)++Y.flatMap pgs)))):=by
  rw[bB,aV,aV]
  refine List.Perm.trans ?_ (.swap _ _ _)
  refine .cons _ ?_
  refine(cU _ ?_).trans bM
  rw[←aG]
  exact cM _ (qbx a b q0)
 split
 ·rename_i hbig
  have hsok:=zo2 s n (us S (pg b) false) (zc2 a b q0) hO hW hBl (by rw[zg5];exact hab) (h2 h)
  have hspg:=qcs s n (us S (pg b) false) (zc2 a b q0)
  rw[hents]at hsok
  obtain⟨⟨l,g,S'⟩,hr⟩:∃r,zca s n (us S (pg b) false) (zc2 a b q0)=r:=⟨_,rfl⟩
  have hsn:g≠none:=fun hg=>by
   subst hg
   have:=(hsok.none (by rw[hr])).2.2.2.1
   have h3:=(hspg.none (by rw[hr]))
   -- a split zdt a node as it is only if it is not too great
   have hle:∀{h:Nat} (t:T h) (S:Nat→Bool),(zca s n S t).2.1=none→sz t≤mx s h:=by
    intro h t S hnone
    cases h with
    |zero=>
     obtain⟨tp,te⟩:=t
     change (zca s n S (zb0 tp te)).2.1=none at hnone
     rw[znl]at hnone
     split at hnone
     ·rename_i hc;exact hc
     ·cases hnone
    |succ h=>
     obtain⟨tp,tk,tc⟩:=t
     change (zca s n S (zau tp tk tc)).2.1=none at hnone
     rw[znm]at hnone
     split at hnone
     ·rename_i hc;exact hc
     ·cases hnone
   have:=hle (zc2 a b q0) (us S (pg b) false) (by rw[hr])
   rw[zg5]at this
   omega
  rw[hr]at hsok hspg⊢
  match g,hsn with
  |some (q,d),_=>
   obtain⟨e1,e2,e3,e4,e5,e6,e7,e8,e9,e10,e11,e12,e13,e14⟩:=hsok.some q d rfl
   obtain⟨g1,g2,g3⟩:=hspg.some q d rfl
   simp only at e1 e2 e3 e4 e5 e6 e7 e8 e9 e10 e11 e12 e13 e14 g1 g2 g3⊢
   have hh:=h2 h
   have nl:=zjp s h2 l e13 oQ
   have nd:=zjp s h2 d e14 oQ
   obtain⟨x1,hx1⟩:=dD _ nl
   obtain⟨x2,hx2⟩:=dD _ nd
   have s1:∀x∈ents l,x∈ents a++ents b:=fun x hx=>by rw[←e1];exact aP _ hx
   have s2:∀x∈ents d,x∈ents a++ents b:=fun x hx=>by rw[←e1];exact aU _ hx
   have qP:∀k∈P,kl k q:=fun k hk=>zd5 (gP k hk x1 (s1 x1 hx1)) (e7 x1 hx1)
   have qR:∀k∈R,kl q k:=fun k hk=>zd5 (e8 x2 hx2) (lR k hk x2 (s2 x2 hx2))
   have hSep:Sep (P++q::R) ((X.map ents++[ents l])++(ents d::Y.map ents)):=by
    refine Sep.join (t2.first fun k hk x hx=>lR k hk x (s2 x hx)) (fun e he=>?_) (t1.last fun k hk x hx=>gP k hk x (s1 x hx)) (fun k hk e he=>?_) fun e he=>?_
    ·rcases aL.1 he with rfl|he
     ·exact e8
     ·intro x hx hxq
      cases hRl:R with
      |nil=> 
       have hlen:=t2.len
       rw[hRl]at hlen
       simp at hlen
       rw[hlen]at he
       cases he
      |cons r R'=>
       obtain⟨-,p2⟩:=t2.part k2
       obtain⟨j,hj,rfl⟩:=bL he
       have:=p2 0 (j+1) (by rw[hRl];simp) (by simpa using hj) (eY _)
       rw[List.getElem_cons_succ]at this
       exact this x hx (zb9 hxq (qR _ (aT _)))
    ·rcases aL.1 he with rfl|he
     ·exact fun x hx=>gP k hk x (s2 x hx)
     ·exact gY k hk e he
    ·rcases aR.1 he with he|he
     ·intro x hx
      cases hPl:P with
      |nil=>
       have hX0:X=[]:=by rw[hPl]at hl;exact bQ hl
       rw[hX0]at he
       cases he
      |cons r P'=>
       obtain⟨j,hj,rfl⟩:=bL he
       rw[aD]at hj
       obtain⟨p1, -⟩:=t1.part k1
       have:=p1 j j oQ (by simp;omega) (bA _)
       rw[List.getElem_append_left (by rw[aD];exact hj)]at this
       exact zb9 (this x hx) (qP _ (aT _))
     ·exact(aN.1 he)▸e7
   refine⟨rfl,?_,⟨qgy k1 k2 qP qR,?_,fun x hx=>?_⟩,⟨fun k hk=>?_,fun x hx=>?_⟩,fun x hx=>?_,?_,?_,fun L hA=>?_⟩
   ·show(X++l::d::Y).flatMap ents=(X++a::b::Y).flatMap ents
    rw[hflat,bB,aV,aV,←e1,aG]
   ·show Sep (P++q::R) ((X++l::d::Y).map ents)
    rw[cC,bG,bG]
    simpa using hSep
   ·rcases aR.1 hx with hx|hx
    ·exact o3 x (mX x hx)
    ·rcases aL.1 hx with rfl|hx
     ·exact e2
     ·rcases aL.1 hx with rfl|hx
      ·exact e3
      ·exact o3 x (mY x hx)
   ·rcases aR.1 hk with hk|hk
    ·exact w1 k (aP _ hk)
    ·rcases aL.1 hk with rfl|hk
     ·exact e6
     ·exact w1 k (aU _ (.tail _ hk))
   ·rcases aR.1 hx with hx|hx
    ·exact w2 x (mX x hx)
    ·rcases aL.1 hx with rfl|hx
     ·exact e4
     ·rcases aL.1 hx with rfl|hx
      ·exact e5
      ·exact w2 x (mY x hx)
   ·rcases aR.1 hx with hx|hx
    ·obtain⟨c1,c2⟩:=hX x (aP _ hx);exact⟨c1,c2,hB x (mX x hx)⟩
    ·rcases aL.1 hx with rfl|hx
     ·exact⟨e9,e10,e13⟩
     ·rcases aL.1 hx with rfl|hx
      ·exact⟨e11,e12,e14⟩
      ·obtain⟨c1,c2⟩:=hX x (aU _ hx);exact⟨c1,c2,hB x (mY x hx)⟩
   ·show(X++l::d::Y).length≤_;simp
   ·show _≤(X++l::d::Y).length+1;simp
   ·have hA1:=hA.perm ((cM L hperm))
    have hA2:Acc n (us S (pg b) false) ((p::(X.flatMap pgs++(pgs (zc2 a b q0)++Y.flatMap pgs)))++L):=hA1.del
    have hroom:=hA1.room hn
    have hA3:=hA2.add (by rw[aA]at hroom⊢;rw[aW]at hroom;omega)
    rw[g3]
    refine hA3.perm ?_
    show(nw n (us S (pg b) false)::((p::(X.flatMap pgs++(pgs (zc2 a b q0)++Y.flatMap pgs)))++L)).Perm ((p::(X++l::d::Y).flatMap pgs)++L)
    rw[←aF]
    refine cM L ?_
    refine(List.Perm.swap _ _ _).trans (.cons _ ?_)
    rw[bB,aV,aV]
    refine bM.symm.trans (cU _ ?_)
    rw[←aF,←aG]
    exact cM _ g1.symm
 ·rename_i hsmall
  have hSep:Sep (P++R) (X.map ents++(ents a++ents b)::Y.map ents):=Sep.glue (t1.last gP) (t2.first lR) gY
  refine⟨rfl,?_,⟨k5,?_,fun x hx=>?_⟩,⟨fun k hk=>?_,fun x hx=>?_⟩,fun x hx=>?_,?_,?_,fun L hA=>?_⟩
  ·show(X++zc2 a b q0::Y).flatMap ents=(X++a::b::Y).flatMap ents
   rw[hflat,bB,aV,hents]
  ·show Sep (P++R) ((X++zc2 a b q0::Y).map ents)
   rw[cC,bG,hents]
   exact hSep
  ·rcases aR.1 hx with hx|hx
   ·exact o3 x (mX x hx)
   ·rcases aL.1 hx with rfl|hx
    ·exact hO
    ·exact o3 x (mY x hx)
  ·rcases aR.1 hk with hk|hk
   ·exact w1 k (aP _ hk)
   ·exact w1 k (aU _ (.tail _ hk))
  ·rcases aR.1 hx with hx|hx
   ·exact w2 x (mX x hx)
   ·rcases aL.1 hx with rfl|hx
    ·exact hW
    ·exact w2 x (mY x hx)
  ·rcases aR.1 hx with hx|hx
   ·obtain⟨c1,c2⟩:=hX x (aP _ hx);exact⟨c1,c2,hB x (mX x hx)⟩
   ·rcases aL.1 hx with rfl|hx
    ·rw[zg5];exact⟨hab2,oQ,hBl⟩
    ·obtain⟨c1,c2⟩:=hX x (aU _ hx);exact⟨c1,c2,hB x (mY x hx)⟩
  ·show(X++zc2 a b q0::Y).length≤(X++a::b::Y).length;simp
  ·show(X++a::b::Y).length≤(X++zc2 a b q0::Y).length+1;simp;omega
  ·have hA1:=hA.perm ((cM L hperm))
   have hA2:Acc n (us S (pg b) false) ((p::(X.flatMap pgs++(pgs (zc2 a b q0)++Y.flatMap pgs)))++L):=hA1.del
   show Acc n (us S (pg b) false) ((p::(X++zc2 a b q0::Y).flatMap pgs)++L)
   rw[bB,aV]
   exact hA2
def keys(e:E):List K:=e.map (·.1)
theorem qbq:(zi6 e k).isSome=true↔k∈keys e:=by
 unfold zi6 keys
 rw[kR,List.find?_isSome]
 constructor
 ·rintro⟨p,hp,h⟩;exact aS.2 ⟨p,hp,of_decide_eq_true h⟩
 ·intro h
  obtain⟨p,hp,h⟩:=aS.1 h
  exact⟨p,hp,decide_eq_true h⟩
theorem qbi:∀{e:E} {k:K},Es e→k∈keys e→(zfy e k).length+1=e.length
 | [],_,_,h=>by cases h
 |p::r,k,h,hk=>by
  obtain⟨h1,h2⟩:(∀a∈r.map (·.1),kl p.1 a)∧Es r:=bP.1 h
  unfold zfy
  by_cases e:p.1=k
  ·have hr:r.filter (fun q=>decide (q.1≠k))=r:=cY.2 fun q hq=>by
    have:=zi8 (h1 q.1 (aS.2 ⟨q,hq,rfl⟩))
    rw[e]at this
    simpa using this.symm
   rw[eR (by simpa using e),hr,aW]
  ·have hk':k∈keys r:=by
    rcases aL.1 hk with hk|hk
    ·exact absurd hk.symm e
    ·exact hk
   rw[fF (by simpa using e),aW,aW]
   have:=qbi h2 hk'
   unfold zfy at this
   omega
theorem zzn(h:Es e):Es (zfy e k):=by
 unfold Es at*
 exact dM (List.Sublist.map _ jY) h
variable{p:K×K}
theorem zt8(h:p∈zfy e k):p∈e:=(dP.1 h).1
def zdc(s:Sh)(n:Nat):{h:Nat}→T h→K→(Nat→Bool)→T h×Bool×(Nat→Bool)
 |0,t,k,S=>if fd (keys t.2) k then(zb0 t.1 (zfy t.2 k),true,S)else(t,false,S)
 |h+1,t,k,S=>match t.2.2[dn t.2.1 k]? with
  |none=>(t,false,S)
  |some c=>match zdc s n c k S with
   |(_,false,S')=>(t,false,S')
   |(c',true,S')=>if sz c'<mx s h/2 then((zht s n S' t.1 t.2.1 (t.2.2.set (dn t.2.1 k) c') (dn t.2.1 k)).1,true,(zht s n S' t.1 t.2.1 (t.2.2.set (dn t.2.1 k) c') (dn t.2.1 k)).2)
    else(zau t.1 t.2.1 (t.2.2.set (dn t.2.1 k) c'),true,S')
structure qnf (s:Sh) (n:Nat) (S:Nat→Bool) {h:Nat} (t:T h) (k:K) (r:T h×Bool×(Nat→Bool)):Prop where
 is:r.2.1=true↔k∈keys (ents t)
 no:r.2.1=false→r.1=t∧r.2.2=S
 yes:r.2.1=true→pg r.1=pg t∧ents r.1=zfy (ents t) k∧Ord r.1∧Wd s r.1∧Below s r.1∧sz r.1≤sz t∧sz t≤sz r.1+1∧∀L,Acc n S (pgs t++L)→Acc n r.2.2 (pgs r.1++L)
variable{j:Nat}
theorem qmr(l:List α)(h:j+1<l.length):l=l.take j++l[j]::l[j+1]::l.drop (j+2):=by
 conv=>lhs;rw[←bF j l,bX (by omega:j<l.length),bX h]
theorem zob(l:List α)(h:j<l.length):l=l.take j++l[j]::l.drop (j+1):=by
 conv=>lhs;rw[←bF j l,bX h]
theorem qkl{A B:E}(hA:zfo A k)(hB:zzc B k):k∈keys (A++(e++B))↔k∈keys e:=by
 unfold keys
 rw[cC,cC,aR,aR]
 refine⟨fun h=>?_,fun h=>.inr (.inl h)⟩
 rcases h with h|h|h
 ·obtain⟨p,hp,e⟩:=aS.1 h
  exact absurd e (zi8 (hA p hp))
 ·exact h
 ·obtain⟨p,hp,e⟩:=aS.1 h
  exact absurd e.symm (zi8 (hB p hp))
theorem zmb(s:Sh)(n:Nat)(hn:0<n)(h2:∀h,2≤mx s h)(h4:4≤s.fan)(k:K):∀{h:Nat} (t:T h) (S:Nat→Bool),Ord t→Wd s t→Below s t→sz t≤mx s h→(1≤h→2≤sz t)→qnf s n S t k (zdc s n t k S)
 |0,(p,es),S,hO,hW,hB,hm,_=>by
  have hO:Es es:=hO
  have hr:zdc s n (zb0 p es) k S=if fd (keys es) k then(zb0 p (zfy es k),true,S)else(zb0 p es,false,S):=rfl
  show qnf s n S (zb0 p es) k (zdc s n (zb0 p es) k S)
  rw[hr]
  cases hf:fd (keys es) k with
  |false=>
   rw[if_neg bK]
   refine⟨⟨fun h=>(nomatch h),fun h=>?_⟩,fun _=>⟨rfl,rfl⟩,fun h=>(nomatch h)⟩
   rw[show fd (keys es) k=true from(qbl hO).2 h]at hf
   cases hf
  |true=>
   rw[if_pos rfl]
   have hk:=(qbl hO).1 hf
   have hlen:=qbi hO hk
   refine⟨⟨fun _=>hk,fun _=>rfl⟩,fun h=>(nomatch h),fun _=>⟨rfl,rfl,zzn hO,fun q hq=>hW q (zt8 hq),trivial,?_,?_,fun L hA=>hA⟩⟩
   ·show(zfy es k).length≤es.length;omega
   ·show es.length≤(zfy es k).length+1;omega
 |h+1,(p,ks,kids),S,hO,hW,hB,hm,h2k=>by
  obtain⟨o1,o2,o3⟩:Ks ks∧Sep ks (kids.map ents)∧∀x∈kids,Ord x:=hO
  obtain⟨w1,w2⟩:(∀k∈ks,k.length=s.kw)∧∀x∈kids,Wd s x:=hW
  have hB:∀x∈kids,mx s h/2≤sz x∧sz x≤mx s h∧Below s x:=hB
  have h2k:2≤kids.length:=h2k (eY _)
  have hl:=o2.len
  rw[aD]at hl
  have hi:dn ks k<kids.length:=by have:=zoh ks k;omega
  have hc:kids[dn ks k]? =some kids[dn ks k]:=aB hi
  have hcm:=aT hi
  have hh:=h2 h
  have ih:=zmb s n hn h2 h4 k kids[dn ks k] S (o3 _ hcm) (w2 _ hcm) (hB _ hcm).2.2 (hB _ hcm).2.1 (fun h1=>by
   have:=(hB _ hcm).1
   cases h with
   |zero=>omega
   |succ h=>have e:mx s (h+1)=s.fan:=rfl;omega)
  obtain⟨m1,m2⟩:=Sep.mid (kids:=kids) o1 o2 k
  have hbd:=o2.bd o1 (i:=dn ks k) (by rw[aD];exact hi)
  rw[cS]at hbd
  have hfl:=zh0 kids ents hi
  have hrem:zdc s n (zau p ks kids) k S=match zdc s n kids[dn ks k] k S with
   |(_,false,S')=>(zau p ks kids,false,S')
   |(c',true,S')=>if sz c'<mx s h/2 then((zht s n S' p ks (kids.set (dn ks k) c') (dn ks k)).1,true,(zht s n S' p ks (kids.set (dn ks k) c') (dn ks k)).2)
    else(zau p ks (kids.set (dn ks k) c'),true,S'):=by
   simp only[zdc,zau,hc]
  show qnf s n S (zau p ks kids) k (zdc s n (zau p ks kids) k S)
  have hmem:k∈keys (ents (zau p ks kids))↔k∈keys (ents kids[dn ks k]):=by
   show k∈keys (kids.flatMap ents)↔_
   rw[hfl]
   exact qkl m1 m2
  rw[hrem]
  obtain⟨⟨c',is,S'⟩,hr⟩:∃r,zdc s n kids[dn ks k] k S=r:=⟨_,rfl⟩
  rw[hr]at ih⊢
  cases is with
  |false=>
   obtain⟨-,hS⟩:=ih.no rfl
   exact⟨⟨fun h=>(nomatch h),fun h=>ih.is.2 (hmem.1 h)⟩,fun _=>⟨rfl,hS⟩,fun h=>(nomatch h)⟩
  |true=>
   obtain⟨y1,y2,y3,y4,y5,y6,y7,y8⟩:=ih.yes rfl
   simp only at y1 y2 y3 y4 y5 y6 y7 y8⊢
   have hkk:=hmem.2 (ih.is.1 rfl)
   have hcs:=hB _ hcm
   have hbp:Bd ks (dn ks k) (ents c'):=hbd.sub fun q hq=>by rw[y2]at hq;exact zt8 hq
   have hents:(kids.set (dn ks k) c').flatMap ents=zfy (kids.flatMap ents) k:=by
    rw[qcn _ _ hi,hfl,qjt m1 m2,y2]
   have hsep:Sep ks ((kids.set (dn ks k) c').map ents):=by rw[map_set'];exact o2.set o1 _ hbp
   have hord:∀x∈kids.set (dn ks k) c',Ord x:=fun x hx=>by
    rcases cF hx with hx|rfl
    ·exact o3 x hx
    ·exact y3
   have hwd:∀x∈kids.set (dn ks k) c',Wd s x:=fun x hx=>by
    rcases cF hx with hx|rfl
    ·exact w2 x hx
    ·exact y4
   have hbl:∀x∈kids.set (dn ks k) c',Below s x:=fun x hx=>by
    rcases cF hx with hx|rfl
    ·exact(hB x hx).2.2
    ·exact y5
   have hacc:∀L,Acc n S (p::kids.flatMap pgs++L)→Acc n S' (p::(kids.set (dn ks k) c').flatMap pgs++L):=fun L hA=>by
    have e1:kids.flatMap pgs=(kids.take (dn ks k)).flatMap pgs++(pgs kids[dn ks k]++(kids.drop (dn ks k+1)).flatMap pgs):=by
     conv=>lhs;rw[zob kids hi]
     rw[bB,aV]
    have e2:(kids.set (dn ks k) c').flatMap pgs=(kids.take (dn ks k)).flatMap pgs++(pgs c'++(kids.drop (dn ks k+1)).flatMap pgs):=by
     conv=>lhs;rw[zob (kids.set (dn ks k) c') (j:=dn ks k) (by rw[bE];exact hi)]
     rw[bB,aV,dN,eP oQ,dO oQ]
    have key:∀Z:List Nat,(p::((kids.take (dn ks k)).flatMap pgs++(Z++(kids.drop (dn ks k+1)).flatMap pgs))++L).Perm (Z++(p::((kids.take (dn ks k)).flatMap pgs++(kids.drop (dn ks k+1)).flatMap pgs)++L)):=fun Z=>by
     rw[aF,aF]
     refine List.Perm.trans (.cons _ ?_) bM.symm
     simp only[aG]
     exact bV _ _ _
    rw[e1]at hA
    rw[e2]
    exact(y8 _ (hA.perm (key _))).perm (key _).symm
   by_cases hpoor:sz c'<mx s h/2
   ·rw[if_pos hpoor]
    obtain⟨kids',hk'⟩:∃l,kids.set (dn ks k) c'=l:=⟨_,rfl⟩
    have hlen':kids'.length=kids.length:=by rw[←hk',bE]
    have hj:dn ks k - 1+1<kids'.length:=oQ
    have hjk:dn ks k - 1<ks.length:=oQ
    have e1:=qmr kids' hj
    have e2:=zob ks hjk
    have hsz:∀m (hm:m<kids'.length),m≠dn ks k→mx s h/2≤sz kids'[m]∧sz kids'[m]≤mx s h:=fun m hm hne=>by
     have:kids'[m]=kids[m]'oQ:=by subst hk';rw[List.getElem_set_ne (Ne.symm hne)]
     rw[this]
     have:=hB _ (aT (by omega:m<kids.length))
     exact⟨this.1,this.2.1⟩
    have hat:kids'[dn ks k]'oQ=c':=by subst hk';rw[dN]
    rw[hk']at hents hsep hord hwd hbl hacc⊢
    have hab:sz kids'[dn ks k - 1]+sz kids'[dn ks k - 1+1]≤mx s h+mx s h/2∧mx s h/2≤sz kids'[dn ks k - 1]+sz kids'[dn ks k - 1+1]:=by
     rcases fE (dn ks k)with h0|h0
     ·have a1:kids'[dn ks k - 1]'oQ=c':=by rw[←hat];congr 1;omega
      have a2:=hsz (dn ks k - 1+1) hj oQ
      rw[a1];omega
     ·have a1:kids'[dn ks k - 1+1]'oQ=c':=by rw[←hat];congr 1;omega
      have a2:=hsz (dn ks k - 1) oQ oQ
      rw[a1];omega
    have hXY:∀x∈kids'.take (dn ks k - 1)++kids'.drop (dn ks k - 1+2),mx s h/2≤sz x∧sz x≤mx s h:=fun x hx=>by
     rcases aR.1 hx with hx|hx
     ·obtain⟨m,hm,rfl⟩:=bL hx
      rw[aM]at hm
      rw[eE]
      exact hsz m oQ oQ
     ·obtain⟨m,hm,rfl⟩:=bL hx
      rw[aX]at hm
      rw[dW]
      exact hsz _ oQ oQ
    have hmend:=qoj s n hn h2 S' p (P:=ks.take (dn ks k - 1)) (R:=ks.drop (dn ks k - 1+1)) (q0:=ks[dn ks k - 1]) (X:=kids'.take (dn ks k - 1)) (Y:=kids'.drop (dn ks k - 1+2)) (a:=kids'[dn ks k - 1]) (b:=kids'[dn ks k - 1+1]) (by rw[aM,aM];omega) (by rw[←e2];exact o1) (by rw[←e2,←e1];exact hsep) (by rw[←e1];exact hord) (by rw[←e2];exact w1) (by rw[←e1];exact hwd) (by rw[←e1];exact hbl) hXY hab.1 hab.2 (dn ks k) (by rw[aM];omega)
    rw[←e1,←e2]at hmend
    refine⟨⟨fun _=>hkk,fun _=>rfl⟩,fun h=>(nomatch h),fun _=>⟨hmend.page,?_,hmend.ord,hmend.wd,hmend.below,?_,?_,fun L hA=>hmend.acc L (hacc L hA)⟩⟩
    ·show _=zfy (kids.flatMap ents) k
     rw[hmend.ents];exact hents
    ·show sz (zht s n S' p ks kids' (dn ks k)).1≤kids.length
     have:=hmend.le;omega
    ·show kids.length≤sz (zht s n S' p ks kids' (dn ks k)).1+1
     have:=hmend.ge;omega
   ·rw[if_neg hpoor]
    refine⟨⟨fun _=>hkk,fun _=>rfl⟩,fun h=>(nomatch h),fun _=>⟨rfl,hents,⟨o1,hsep,hord⟩,⟨w1,hwd⟩,fun x hx=>?_,?_,?_,hacc⟩⟩
    ·rcases cF hx with hx|rfl
     ·exact hB x hx
     ·exact⟨oQ,oQ,y5⟩
    ·show(kids.set (dn ks k) c').length≤kids.length
     rw[bE];exact bA _
    ·show kids.length≤(kids.set (dn ks k) c').length+1
     rw[bE];exact Nat.le_succ _
def lv:{h:Nat}→T h→Nat
 |0,_=>1
 |_+1,t=>(t.2.2.map lv).sum
theorem zos{β:Type}(l:List α)(f:α→List β):(l.flatMap f).length=(l.map fun x=>(f x).length).sum:=by
 induction l with
 |nil=>rfl
 |cons x l ih=>rw[aV,aA,ih,bG,gT]
theorem ztl(l:List α)(f g:α→Nat)(c:Nat)(h:∀x∈l,f x+c≤g x):(l.map f).sum+c*l.length≤(l.map g).sum:=by
 induction l with
 |nil=>simp
 |cons x l ih=>
  have h1:=h x (.head _)
  have h2:=ih fun y hy=>h y (.tail _ hy)
  rw[bG,bG,gT,gT,aW,Nat.mul_succ]
  omega
theorem zq1(l:List α)(f:α→Nat)(c:Nat):(l.map fun x=>c*f x).sum=c*(l.map f).sum:=by
 induction l with
 |nil=>simp
 |cons x l ih=>rw[bG,bG,gT,gT,ih,fP]
theorem few(s:Sh)(h4:4≤s.fan/2):∀{h:Nat} (t:T h),Below s t→mx s h/2≤sz t→3*(pgs t).length+1≤4*lv t
 |0,(_,_),_,_=>bA _
 |h+1,(p,ks,kids),hB,hz=>by
  have hB:∀x∈kids,mx s h/2≤sz x∧sz x≤mx s h∧Below s x:=hB
  have hz:s.fan/2≤kids.length:=hz
  show 3*(p::kids.flatMap pgs).length+1≤4*(kids.map lv).sum
  have:=ztl kids (fun x=>3*(pgs x).length) (fun x=>4*lv x) 1 fun x hx=>few s h4 x (hB x hx).2.2 (hB x hx).1
  rw[zq1,zq1,←zos]at this
  rw[aW]
  omega
theorem qj1(s:Sh)(h4:4≤s.fan/2):∀{h:Nat} (t:T h),Below s t→(1≤h→2≤sz t)→3*(pgs t).length≤4*lv t+1
 |0,(_,_),_,_=>by show 3*1≤4*1+1;decide
 |h+1,(p,ks,kids),hB,hz=>by
  have hB:∀x∈kids,mx s h/2≤sz x∧sz x≤mx s h∧Below s x:=hB
  have hz:2≤kids.length:=hz (eY _)
  show 3*(p::kids.flatMap pgs).length≤4*(kids.map lv).sum+1
  have:=ztl kids (fun x=>3*(pgs x).length) (fun x=>4*lv x) 1 fun x hx=>few s h4 x (hB x hx).2.2 (hB x hx).1
  rw[zq1,zq1,←zos]at this
  rw[aW]
  omega
theorem zdt(s:Sh):∀{h:Nat} (t:T h),Below s t→(h=0→s.cap/2≤sz t)→s.cap/2*lv t≤(ents t).length
 |0,(p,es),_,hz=>by
  show s.cap/2*1≤es.length
  rw[bO];exact hz rfl
 |h+1,(p,ks,kids),hB,_=>by
  have hB:∀x∈kids,mx s h/2≤sz x∧sz x≤mx s h∧Below s x:=hB
  show s.cap/2*(kids.map lv).sum≤(kids.flatMap ents).length
  rw[zos,←zq1]
  have:=ztl kids (fun x=>s.cap/2*lv x) (fun x=>(ents x).length) 0 fun x hx=>zdt s x (hB x hx).2.2 (fun h0=>by subst h0;exact(hB x hx).1)
  omega
theorem qtl(s:Sh)(h4:4≤s.fan/2):∀{h:Nat} (t:T h),Below s t→(1≤h→2≤sz t)→h+1≤lv t
 |0,_,_,_=>bA _
 |h+1,(p,ks,kids),hB,hz=>by
  have hB:∀x∈kids,mx s h/2≤sz x∧sz x≤mx s h∧Below s x:=hB
  have hz:2≤kids.length:=hz (eY _)
  show h+1+1≤(kids.map lv).sum
  have:=ztl kids (fun _=>0) lv (h+1) fun x hx=>by
   have:=qtl s h4 x (hB x hx).2.2 (fun h1=>by
    have:=(hB x hx).1
    cases h with
    |zero=>omega
    |succ h=>have e:mx s (h+1)=s.fan:=rfl;omega)
   omega
  have h5:(h+1)*2≤(h+1)*kids.length:=fN _ hz
  omega
theorem zcj:∀{h:Nat} (t:T h),pg t∈pgs t
 |0,(_,_)=>.head _
 |_+1,(_,_,_)=>.head _
abbrev Rt:=Option (Σ h,T h)
def zdb:Rt→E
 |none=>[]
 |some ⟨_,t⟩=>ents t
def zjb:Rt→List Nat
 |none=>[]
 |some ⟨_,t⟩=>pgs t
def zbj:Rt→Nat
 |none=>0
 |some ⟨_,t⟩=>pg t
structure TOk (s:Sh) {h:Nat} (t:T h):Prop where
 ord:Ord t
 wd:Wd s t
 below:Below s t
 le:sz t≤mx s h
 one:1≤sz t
 two:1≤h→2≤sz t
def qex(s:Sh):Rt→Prop
 |none=>True
 |some ⟨_,t⟩=>TOk s t
structure zwi (s:Sh):Prop where
 kw:1≤s.kw
 cap:2≤s.cap
 fan:8≤s.fan
variable{s:Sh}
theorem zwi.h2(h:zwi s):∀h,2≤mx s h
 |0=>h.cap
 |_+1=>cH dQ h.fan
theorem zwi.h4(h:zwi s):4≤s.fan/2:=by have:=h.fan;omega
def qe4(s:Sh)(n:Nat)(k v:K)(S:Nat→Bool):Rt→Rt×(Nat→Bool)
 |none=>(some ⟨0,zb0 (nw n S) [(k,v)]⟩,us S (nw n S) true)
 |some ⟨h,t⟩=>match zok s n t k v S with
  |(t',none,S')=>(some ⟨h,t'⟩,S')
  |(t',some (q,d),S')=>(some ⟨h+1,zau (nw n S') [q] [t',d]⟩,us S' (nw n S') true)
def zhs:Rt→Nat
 |none=>0
 |some ⟨h,_⟩=>h
theorem qou(hs:zwi s)(n:Nat)(k v:K)(hk:k.length=s.kw)(hv:v.length=s.vw)(r:Rt)(S:Nat→Bool)(L:List Nat)(hr:qex s r)(hA:Acc n S (zjb r++L))(hroom:(zjb r++L).length+zhs r+3<n):
  qex s (qe4 s n k v S r).1∧zdb (qe4 s n k v S r).1=zfx (zdb r) k v∧Acc n (qe4 s n k v S r).2 (zjb (qe4 s n k v S r).1++L):=by
 match r with
 |none=>
  refine⟨⟨eB _ _,fun q hq=>by rw[aN.1 hq];exact⟨hk,hv⟩,trivial,?_,bA _,fun h=>oQ⟩,rfl,?_⟩
  ·show 1≤s.cap
   have:=hs.cap;omega
  ·have hA:Acc n S L:=hA
   have hroom:L.length+0+3<n:=hroom
   exact hA.add oQ
 |some ⟨h,t⟩=>
  have hr:TOk s t:=hr
  obtain⟨hp,hmin⟩:=zta s n hs.h2 k v hk hv t S hr.ord hr.wd hr.below hr.le
  obtain⟨N,f1,f2,f3⟩:=qcg s n k v t S (fun _=>trivial)
  have hroom:(pgs t++L).length+h+3<n:=hroom
  have hA:Acc n S (pgs t++L):=hA
  have hA2:=f3 (pgs t++L) oQ hA
  have hput:qe4 s n k v S (some ⟨h,t⟩)=match zok s n t k v S with
   |(t',none,S')=>(some ⟨h,t'⟩,S')
   |(t',some (q,d),S')=>(some ⟨h+1,zau (nw n S') [q] [t',d]⟩,us S' (nw n S') true):=rfl
  rw[hput]
  obtain⟨⟨t',g,S'⟩,hq⟩:∃r,zok s n t k v S=r:=⟨_,rfl⟩
  rw[hq]at hp hmin f2 f3 hA2⊢
  cases g with
  |none=>
   obtain⟨a1,a2,a3,a4,a5⟩:=hp.none rfl
   have hm:sz t≤sz t':=hmin rfl
   have f2:(pgs t'++[]).Perm (N++pgs t):=f2
   rw[bC]at f2
   exact⟨⟨a2,a3,a5,a4,cH hr.one hm,fun h1=>cH (hr.two h1) hm⟩,a1,hA2.perm (by rw[←aG];exact cM L f2.symm)⟩
  |some g=>
   obtain⟨q,d⟩:=g
   obtain⟨e1,e2,e3,e4,e5,e6,e7,e8,e9,e10,e11,e12,e13,e14⟩:=hp.some q d rfl
   have f2:(pgs t'++pgs d).Perm (N++pgs t):=f2
   have hA3:Acc n S' (N++(pgs t++L)):=hA2
   refine⟨⟨⟨eB _ _,⟨e7,fun e he=>(aN.1 he)▸e8,trivial⟩,fun x hx=>?_⟩,⟨fun x hx=>(aN.1 hx)▸e6,fun x hx=>?_⟩,fun x hx=>?_,?_,by show 1≤2;decide,fun _=>by show 2≤2;decide⟩,?_,?_⟩
   ·rcases aL.1 hx with rfl|hx
    ·exact e2
    ·exact(aN.1 hx)▸e3
   ·rcases aL.1 hx with rfl|hx
    ·exact e4
    ·exact(aN.1 hx)▸e5
   ·rcases aL.1 hx with rfl|hx
    ·exact⟨e9,e10,e13⟩
    ·exact(aN.1 hx)▸⟨e11,e12,e14⟩
   ·show 2≤s.fan
    have:=hs.fan;omega
   ·show[t',d].flatMap ents=zfx (ents t) k v
    rw[←e1];simp
   ·have hA4:=hA3.add (by rw[aA];omega)
    refine hA4.perm ?_
    show(nw n S'::(N++(pgs t++L))).Perm ((nw n S'::[t',d].flatMap pgs)++L)
    refine .cons _ ?_
    simp only[aV,jM,bC]
    rw[←aG]
    exact cM L f2.symm
def zf4:{h:Nat}→T h→Option Rt
 |0,t=>if t.2.length=0 then some none else none
 |h+1,t=>match t.2.2 with
  | [x]=>some (some ⟨h,x⟩)
  |_=>none
def zy5(s:Sh)(n:Nat)(k:K)(S:Nat→Bool):Rt→Rt×Bool×(Nat→Bool)
 |none=>(none,false,S)
 |some ⟨h,t⟩=>match zdc s n t k S with
  |(_,false,S')=>(some ⟨h,t⟩,false,S')
  |(t',true,S')=>match zf4 t' with
   |some r=>(r,true,us S' (pg t) false)
   |none=>(some ⟨h,t'⟩,true,S')
theorem qnr(hs:zwi s)(n:Nat)(hn:0<n)(k:K)(r:Rt)(S:Nat→Bool)(L:List Nat)(hr:qex s r)(hA:Acc n S (zjb r++L)):
  qex s (zy5 s n k S r).1∧((zy5 s n k S r).2.1=true↔k∈keys (zdb r))∧zdb (zy5 s n k S r).1=zfy (zdb r) k∧Acc n (zy5 s n k S r).2.2 (zjb (zy5 s n k S r).1++L):=by
 match r with
 |none=>exact⟨trivial,⟨fun h=>(nomatch h),fun h=>(nomatch h)⟩,rfl,hA⟩
 |some ⟨h,t⟩=>
  have hr:TOk s t:=hr
  have hrem:=zmb s n hn hs.h2 (by have:=hs.fan;omega) k t S hr.ord hr.wd hr.below hr.le hr.two
  have hA:Acc n S (pgs t++L):=hA
  have hdel:zy5 s n k S (some ⟨h,t⟩)=match zdc s n t k S with
   |(_,false,S')=>(some ⟨h,t⟩,false,S')
   |(t',true,S')=>match zf4 t' with
    |some r=>(r,true,us S' (pg t) false)
    |none=>(some ⟨h,t'⟩,true,S'):=rfl
  rw[hdel]
  obtain⟨⟨t',is,S'⟩,hq⟩:∃r,zdc s n t k S=r:=⟨_,rfl⟩
  rw[hq]at hrem⊢
  cases is with
  |false=>
   obtain⟨-,hS⟩:=hrem.no rfl
   have hS:S'=S:=hS
   have hno:k∉keys (ents t):=fun hk=>by have:=hrem.is.2 hk;cases this
   refine⟨hr,hrem.is,?_,by show Acc n S' (pgs t++L);rw[hS];exact hA⟩
   show ents t=zfy (ents t) k
   unfold zfy
   rw[cY.2 fun p hp=>by
    have:p.1≠k:=fun e=>hno (aS.2 ⟨p,hp,e⟩)
    simpa using this]
  |true=>
   obtain⟨y1,y2,y3,y4,y5,y6,y7,y8⟩:=hrem.yes rfl
   simp only at y1 y2 y3 y4 y5 y6 y7 y8
   have hA2:=y8 L hA
   have his:True↔k∈keys (ents t):=by have:=hrem.is;simpa using this
   cases h with
   |zero=>
    obtain⟨p',es'⟩:=t'
    by_cases h0:es'.length=0
    ·have e0:es'=[]:=bQ h0
     subst e0
     have hsh:zf4 (h:=0) (p',[])=some none:=rfl
     simp only[hsh]
     have y1:p'=pg t:=y1
     have y2:([]:E)=zfy (ents t) k:=y2
     refine⟨trivial,⟨fun _=>his.1 trivial,fun _=>trivial⟩,y2,?_⟩
     show Acc n (us S' (pg t) false) L
     rw[←y1]
     exact Acc.del (show Acc n S' (p'::L)from hA2)
    ·have hsh:zf4 (h:=0) (p',es')=none:=if_neg h0
     simp only[hsh]
     exact⟨⟨y3,y4,y5,cH y6 hr.le,Nat.pos_of_ne_zero h0,fun h=>oQ⟩,⟨fun _=>his.1 trivial,fun _=>trivial⟩,y2,hA2⟩
   |succ h=>
    obtain⟨p',ks',kids'⟩:=t'
    have h2k:=hr.two (eY _)
    have y7:sz t≤kids'.length+1:=y7
    have y1:p'=pg t:=y1
    match kids',y7,y2,y3,y4,y5,y6,hA2 with
    | [],y7,_,_,_,_,_,_=>simp at y7;omega
    | [x],y7,y2,y3,y4,y5,y6,hA2=>
     have hsh:zf4 (h:=h+1) (p',ks',[x])=some (some ⟨h,x⟩):=rfl
     simp only[hsh]
     have y5:∀z∈[x],mx s h/2≤sz z∧sz z≤mx s h∧Below s z:=y5
     obtain⟨b1,b2,b3⟩:=y5 x (.head _)
     have hh:=hs.h2 h
     have y2:[x].flatMap ents=zfy (ents t) k:=y2
     refine⟨⟨y3.2.2 x (.head _),y4.2 x (.head _),b3,b2,oQ,fun h1=>?_⟩,⟨fun _=>his.1 trivial,fun _=>trivial⟩,?_,?_⟩
     ·cases h with
      |zero=>omega
      |succ h=>have e:mx s (h+1)=s.fan:=rfl;have:=hs.fan;omega
     ·show ents x=zfy (ents t) k
      rw[←y2];simp
     ·show Acc n (us S' (pg t) false) (pgs x++L)
      rw[←y1]
      refine Acc.del (q:=p') ?_
      have:Acc n S' (p'::([x].flatMap pgs++L)):=hA2
      simpa using this
    |x::z::l,y7,y2,y3,y4,y5,y6,hA2=>
     have hsh:zf4 (h:=h+1) (p',ks',x::z::l)=none:=rfl
     simp only[hsh]
     refine⟨⟨y3,y4,y5,cH y6 hr.le,by show 1≤(x::z::l).length;simp,fun _=>by show 2≤(x::z::l).length;simp⟩,⟨fun _=>his.1 trivial,fun _=>trivial⟩,y2,hA2⟩
theorem qq7:∀{h:Nat} (t:T h),lv t≤(pgs t).length
 |0,(_,_)=>bA _
 |h+1,(p,ks,kids)=>by
  show(kids.map lv).sum≤(p::kids.flatMap pgs).length
  rw[aW,zos]
  have:=ztl kids lv (fun x=>(pgs x).length) 0 fun x _=>qq7 x
  omega
theorem qhr(hs:zwi s)(r:Rt)(hr:qex s r):3*(zjb r).length≤4*((zdb r).length/(s.cap/2))+1+(if (zjb r).length=1 then 3 else 0)∧zhs r+1≤(zjb r).length+1∧(1<(zjb r).length→2*(s.cap/2)≤(zdb r).length):=by
 have hc:0<s.cap/2:=by have:=hs.cap;omega
 match r with
 |none=>exact⟨by simp[zjb],by simp[zhs,zjb],fun h=>by simp[zjb]at h⟩
 |some ⟨h,t⟩=>
  have hr:TOk s t:=hr
  have f1:=qj1 s hs.h4 t hr.below hr.two
  have f2:=qtl s hs.h4 t hr.below hr.two
  have hlv:=qq7 t
  show 3*(pgs t).length≤4*((ents t).length/(s.cap/2))+1+(if (pgs t).length=1 then 3 else 0)∧h+1≤(pgs t).length+1∧(1<(pgs t).length→2*(s.cap/2)≤(ents t).length)
  cases h with
  |zero=>
   obtain⟨p,es⟩:=t
   have:(pgs (h:=0) (p,es)).length=1:=rfl
   rw[this]
   exact⟨by simp,dQ,fun h=>oQ⟩
  |succ h=>
   have f3:=zdt s t hr.below (fun h=>oQ)
   have f4:lv t≤(ents t).length/(s.cap/2):=(Nat.le_div_iff_mul_le hc).2 (by rw[kA];exact f3)
   refine⟨oQ,oQ,fun _=>?_⟩
   have:s.cap/2*2≤s.cap/2*lv t:=fN _ oQ
   omega
variable{r:E}
theorem zst(h:kl p.1 k):lb (keys (p::r)) k=lb (keys r) k+1:=by simp[lb,keys,h]
theorem zss(h:¬kl p.1 k):lb (keys (p::r)) k=0:=by simp[lb,keys,h]
theorem zpm(h:Es (p::r)):(∀q∈r,kl p.1 q.1)∧Es r:=by
 obtain⟨h1,h2⟩:(∀a∈r.map (·.1),kl p.1 a)∧Es r:=bP.1 h
 exact⟨fun q hq=>h1 _ (aS.2 ⟨q,hq,rfl⟩),h2⟩
theorem zyf:∀{e:E} {k:K},Es e→(fd (keys e) k=true→∃v,e[lb (keys e) k]? =some (k,v)∧zi6 e k=some v∧(∀w,zfx e k w=e.set (lb (keys e) k) (k,w))∧zfy e k=e.eraseIdx (lb (keys e) k))∧
  (fd (keys e) k=false→zi6 e k=none∧(∀w,zfx e k w=ins e (lb (keys e) k) (k,w))∧zfy e k=e)
 | [],k,_=>⟨fun h=>by simp[fd,keys,lb]at h,fun _=>⟨rfl,fun _=>rfl,rfl⟩⟩
 |p::r,k,h=>by
  obtain⟨h1,h2⟩:=zpm h
  obtain⟨i1,i2⟩:=zyf (e:=r) (k:=k) h2
  by_cases hlt:kl p.1 k
  ·have hl:=zst (r:=r) hlt
   have hf:fd (keys (p::r)) k=fd (keys r) k:=by
    unfold fd
    rw[hl]
    rfl
   have hne:p.1≠k:=zi8 hlt
   have hg:zi6 (p::r) k=zi6 r k:=by
    unfold zi6
    rw[jC (by simpa using hne)]
   have hp:∀w,zfx (p::r) k w=p::zfx r k w:=fun w=>by
    show(if k=p.1 then _ else if kl k p.1 then _ else _)=_
    rw[if_neg hne.symm,if_neg (zhf hlt)]
   have hd:zfy (p::r) k=p::zfy r k:=by
    unfold zfy
    rw[fF (by simpa using hne)]
   rw[hf,hl,hg,hd]
   refine⟨fun hfd=>?_,fun hfd=>?_⟩
   ·obtain⟨v,a1,a2,a3,a4⟩:=i1 hfd
    exact⟨v,a1,a2,fun w=>by rw[hp,a3];rfl,by rw[a4];rfl⟩
   ·obtain⟨a1,a2,a3⟩:=i2 hfd
    exact⟨a1,fun w=>by rw[hp,a2];rfl,by rw[a3]⟩
  ·have hl:=zss (r:=r) hlt
   by_cases he:p.1=k
   ·have hf:fd (keys (p::r)) k=true:=by
     rw[zly,hl]
     show some p.1=some k
     rw[he]
    rw[hf,hl]
    refine⟨fun _=>⟨p.2,?_,?_,fun w=>?_,?_⟩,fun h=>(nomatch h)⟩
    ·show some p=some (k,p.2)
     rw[←he]
    ·unfold zi6
     rw[iC (by simpa using he)]
     rfl
    ·show(if k=p.1 then _ else _)=_
     rw[if_pos he.symm];rfl
    ·show zfy (p::r) k=r
     unfold zfy
     rw[eR (by simpa using he),cY.2 fun q hq=>by
      have:=zi8 (h1 q hq)
      rw[he]at this
      simpa using this.symm]
   ·have hf:fd (keys (p::r)) k=false:=by
     cases hfd:fd (keys (p::r)) k with
     |false=>rfl
     |true=>
      have:=zly.1 hfd
      rw[hl]at this
      exact absurd (cR this) he
    have hgt:kl k p.1:=qqz hlt he
    rw[hf,hl]
    refine⟨fun h=>(nomatch h),fun _=>⟨?_,fun w=>?_,?_⟩⟩
    ·unfold zi6
     rw[eF.2 fun q hq=>by
      rcases aL.1 hq with rfl|hq
      ·simpa using he
      ·simpa using (zi8 (zb9 hgt (h1 q hq))).symm]
     rfl
    ·show(if k=p.1 then _ else if kl k p.1 then _ else _)=_
     rw[if_neg (Ne.symm he),if_pos hgt];rfl
    ·unfold zfy
     refine cY.2 fun q hq=>?_
     rcases aL.1 hq with rfl|hq
     ·simpa using he
     ·simpa using (zi8 (zb9 hgt (h1 q hq))).symm
theorem qla{v:K}(h:Es e):zfx e k v=ins (zfy e k) (lb (keys (zfy e k)) k) (k,v):=by
 have h':Es (zfy e k):=zzn h
 have hno:fd (keys (zfy e k)) k=false:=by
  cases hf:fd (keys (zfy e k)) k with
  |false=>rfl
  |true=>
   have:=(qbl h').1 hf
   obtain⟨p,hp,he⟩:=aS.1 this
   have:=(dP.1 hp).2
   simp[he]at this
 rw[←((zyf h').2 hno).2.1]
 clear hno h'
 induction e with
 |nil=>rfl
 |cons p r ih=>
  obtain⟨h1,h2⟩:=zpm h
  by_cases he:k=p.1
  ·have hd:zfy (p::r) k=r:=by
    unfold zfy
    rw[eR (by simpa using he.symm),cY.2 fun q hq=>by
     have:=zi8 (h1 q hq)
     rw[←he]at this
     simpa using this.symm]
   have hg:zfx r k v=(k,v)::r:=qhw (fun q hq=>by rw[he];exact h1 q hq)
   rw[hd,hg]
   show(if k=p.1 then(k,v)::r else _)=(k,v)::r
   rw[if_pos he]
  ·have hd:zfy (p::r) k=p::zfy r k:=by
    unfold zfy
    rw[fF (by simpa using Ne.symm he)]
   rw[hd]
   show(if k=p.1 then _ else if kl k p.1 then(k,v)::p::r else p::zfx r k v)=(if k=p.1 then _ else if kl k p.1 then(k,v)::p::zfy r k else p::zfx (zfy r k) k v)
   rw[if_neg he,if_neg he,ih h2]
   by_cases hlt:kl k p.1
   ·rw[if_pos hlt,if_pos hlt]
    have:zfy r k=r:=by
     unfold zfy
     exact cY.2 fun q hq=>by simpa using (zi8 (zb9 hlt (h1 q hq))).symm
    rw[this]
   ·rw[if_neg hlt,if_neg hlt]
def zjx:{h:Nat}→T h→K→E
 |0,t,_=>t.2
 |_+1,t,k=>match t.2.2[dn t.2.1 k]? with
  |none=>[]
  |some c=>zjx c k
theorem zu5:∀{h:Nat} (t:T h) (k:K),Ord t→Es (zjx t k)∧zi6 (zjx t k) k=zi6 (ents t) k
 |0,(_,_),_,hO=>⟨hO,rfl⟩
 |h+1,(p,ks,kids),k,hO=>by
  obtain⟨o1,o2,o3⟩:Ks ks∧Sep ks (kids.map ents)∧∀x∈kids,Ord x:=hO
  have hl:=o2.len
  rw[aD]at hl
  have hi:dn ks k<kids.length:=by have:=zoh ks k;omega
  have hc:kids[dn ks k]? =some kids[dn ks k]:=aB hi
  obtain⟨i1,i2⟩:=zu5 kids[dn ks k] k (o3 _ (aT hi))
  obtain⟨m1,m2⟩:=Sep.mid (kids:=kids) o1 o2 k
  have he:zjx (zau p ks kids) k=zjx kids[dn ks k] k:=by simp only[zjx,zau,hc]
  show Es (zjx (zau p ks kids) k)∧zi6 (zjx (zau p ks kids) k) k=zi6 (kids.flatMap ents) k
  rw[he,zh0 kids ents hi,qwn m1 m2]
  exact⟨i1,i2⟩
def qni:{h:Nat}→T h→K→E
 |0,t,f=>t.2.drop (lb (keys t.2) f)
 |_+1,t,f=>(t.2.2.drop (dn t.2.1 f)).flatMap fun x=>qni x f
def geE(e:E)(f:K):E:=e.filter fun p=>decide (¬kl p.1 f)
theorem qfx:∀{e:E} {f:K},Es e→e.drop (lb (keys e) f)=geE e f
 | [],_,_=>rfl
 |p::r,f,h=>by
  obtain⟨h1,h2⟩:=zpm h
  unfold geE
  by_cases hlt:kl p.1 f
  ·rw[zst hlt,iO,qfx h2,eR (by simpa using hlt)]
   rfl
  ·rw[zss hlt,List.drop_zero]
   symm
   refine cY.2 fun q hq=>?_
   rcases aL.1 hq with rfl|hq
   ·simpa using hlt
   ·simpa using fun h=>hlt (zb9 (h1 q hq) h)
theorem qfa:∀{h:Nat} (t:T h) (f:K),Ord t→qni t f=geE (ents t) f
 |0,(_,es),f,hO=>qfx (e:=es) hO
 |h+1,(p,ks,kids),f,hO=>by
  obtain⟨o1,o2,o3⟩:Ks ks∧Sep ks (kids.map ents)∧∀x∈kids,Ord x:=hO
  have hl:=o2.len
  rw[aD]at hl
  have hi:dn ks f<kids.length:=by have:=zoh ks f;omega
  obtain⟨m1,m2⟩:=Sep.mid (kids:=kids) o1 o2 f
  show(kids.drop (dn ks f)).flatMap (fun x=>qni x f)=geE (kids.flatMap ents) f
  rw[zh0 kids ents hi,bX hi,aV,qfa kids[dn ks f] f (o3 _ (aT hi))]
  have f1:((kids.take (dn ks f)).flatMap ents).filter (fun p=>decide (¬kl p.1 f))=[]:=List.filter_eq_nil_iff.2 fun q hq=>by simpa using m1 q hq
  have f2:((kids.drop (dn ks f+1)).flatMap ents).filter (fun p=>decide (¬kl p.1 f))=(kids.drop (dn ks f+1)).flatMap ents:=cY.2 fun q hq=>by simpa using zhf (m2 q hq)
  unfold geE
  rw[iB,iB,f1,f2,aJ]
  congr 1
  have:∀l:List (T h),(∀x∈l,Ord x)→(∀q∈l.flatMap ents,kl f q.1)→l.flatMap (fun x=>qni x f)=l.flatMap ents:=fun l hO' hg=>by
   induction l with
   |nil=>rfl
   |cons x l ih=>
    rw[aV,aV,ih (fun y hy=>hO' y (.tail _ hy)) fun q hq=>hg q (by rw[aV];exact aU _ hq),qfa x f (hO' x (.head _))]
    unfold geE
    rw[cY.2 fun q hq=>by simpa using zhf (hg q (by rw[aV];exact aP _ hq))]
  exact this _ (fun x hx=>o3 x (cE hx)) m2
theorem qw2(e:E)(k:K)(also:Bool):(geE e k).find? (fun p=>decide (p.1≠k)||also)=zxc e k also:=by
 unfold geE zxc
 rw[List.find?_filter]
 congr 1
 funext p
 rcases zu1 p.1 k with h|h|h
 ·simp[h,zhf h,zi8 h]
 ·have h1:¬kl p.1 k:=by rw[h];exact zh3 _
  have h2:¬kl k p.1:=by rw[h];exact zh3 _
  simp[h,zh3 k]
 ·simp[h,zhf h,(zi8 h).symm]
end Go.Eng.Tr
