/- Parts: Check; forest; Keys are compared; Predicates over rows; node; strings; Maps that are keyed by hashes; Maps keyed by hashes; package pack; Whether a stream may be; Chunks; Chunks and streams. No condition. -/
import Derived.Test.YthafakdplhdfjaaGreatDoorHf04
import Derived.Test.YthafakdplhdfjaaGreatDoorHf02
import Derived.Test.YthafakdplhdfjaaGreatDoorHf01
import Derived.Test.YthafakdplhdfjaaGreatDoorProg
import Derived.Lib.FrozenHead
import Derived.Lib.MakeNoZero
import Derived.Lib.UnsafeStr
import Derived.DeepKeys3
set_option maxRecDepth 100000
set_option maxHeartbeats 40000000
namespace Go.Eng.Tr
open Go.Proofs.YthafakdplhdfjaaGreatDoor
def Bnd(fr be k:K):Prop:=¬kl k fr∧(be=[]∨kl k be)
instance(fr be k:K):Decidable (Bnd fr be k):=inferInstanceAs (Decidable (_∧_))
structure Prt where
 keys:Nat
 pages:Nat
 deep:Nat
def loF(fr:K)(keys:List K)(i:Nat):K:=if 0<i then keys.getD (i - 1) []else fr
def hiF(be:K)(keys:List K)(i:Nat):K:=if i<keys.length then keys.getD i []else be
def zlf(ck:Nat→K→K→Except Nat Prt)(keys:List K)(fr be:K):List Nat→Nat→Prt→Except Nat Prt
 | [],_,out=>.ok out
 |kid::l,i,out=>do
  let p←ck kid (loF fr keys i) (hiF be keys i)
  if i≠0∧out.deep≠p.deep+1 then .error 12
  else zlf ck keys fr be l (i+1) ⟨out.keys+p.keys,out.pages+p.pages,p.deep+1⟩
noncomputable section
def zga(s:Sh)(N:Nat)(g:Sg):Nat→Int→K→K→Bool→Except Nat Prt
 |0,_,_,_,_=>.error 12
 |d+1,at_,fr,be,root=>do
  let n←zfs s N g at_
  if root=false∧zqj s n=true then .error 12
  else if∀k∈n.keys,Bnd fr be k then
   if n.leaf=true then
    if n.keys.length=0 then .error 12 else .ok ⟨n.keys.length,1,1⟩
   else zlf (fun at_ fr be=>zga s N g d (at_:Nat) fr be false) n.keys fr be n.kids 0 ⟨0,1,0⟩
  else .error 12
end
theorem qg0{s:Sh}{h:Nat}(ck:Nat→K→K→Except Nat Prt)(keys:List K)(fr be:K):∀(l:List (T h)) (i:Nat) (out:Prt),(i≠0→out.deep=h+2)→(∀j (hj:j<l.length),ck (pg l[j]) (loF fr keys (i+j)) (hiF be keys (i+j))= .ok ⟨(ents l[j]).length,(pgs l[j]).length,h+1⟩)→
  zlf ck keys fr be (l.map pg) i out= .ok ⟨out.keys+(l.flatMap ents).length,out.pages+(l.flatMap pgs).length,if l=[]then out.deep else h+2⟩
 | [],i,out,_,_=>rfl
 |x::l,i,out,hd,hk=>by
  have h0:=hk 0 (eY _)
  rw[bG,zlf]
  have h0:ck (pg x) (loF fr keys i) (hiF be keys i)= .ok ⟨(ents x).length,(pgs x).length,h+1⟩:=h0
  rw[h0]
  have hn:¬(i≠0∧out.deep≠h+1+1):=fun h=>h.2 (hd h.1)
  show(if i≠0∧out.deep≠h+1+1 then _ else zlf ck keys fr be (l.map pg) (i+1) ⟨out.keys+(ents x).length,out.pages+(pgs x).length,h+1+1⟩)=_
  rw[if_neg hn,qg0 (s:=s) ck keys fr be l (i+1) _ (fun _=>rfl) fun j hj=>by
   have:=hk (j+1) (Nat.succ_lt_succ hj)
   rw[show i+(j+1)=i+1+j by omega]at this
   exact this]
  rw[if_neg (List.cons_ne_nil x l),aV,aV,aA,aA]
  by_cases hl:l=[]
  ·rw[if_pos hl,eV,eV]
  ·rw[if_neg hl,eV,eV]
theorem zsc{s:Sh}(hs:zwi s){N:Nat}(hN:N≤1024)(g:Sg):∀{h:Nat} (t:T h) (d:Nat) (fr be:K) (root:Bool),h<d→Ord t→Wd s t→Below s t→sz t≤mx s h→1≤sz t→(1≤h→2≤sz t)→(root=false→mx s h/2≤sz t)→(∀q∈ents t,Bnd fr be q.1)→Rep g.W t→(∀x∈pgs t,1≤x∧x<N)→
  zga s N g d (pg t:Nat) fr be root= .ok ⟨(ents t).length,(pgs t).length,h+1⟩
 |0,(p,es),d+1,fr,be,root,_,hO,hW,hB,hm,h1,_,hpo,hb,hrep,hp=>by
  obtain⟨hp1,hp2⟩:=hp p (.head _)
  have hmay:zf8 s (zaj (zb0 p es)):=zcu (zb0 p es) hO hW hm (fun h=>oQ) fun x hx=>by rw[aN.1 hx];exact⟨hp1,aY hp2 hN⟩
  have hload:zfs s N g (p:Nat)= .ok (zaj (zb0 p es)):=zfl (t:=zb0 p es) hs.kw hrep hmay hp1 hp2
  have hl:(zaj (zb0 p es)).keys.length=es.length:=aD _
  have h1:1≤es.length:=h1
  have hpoor:¬(root=false∧zqj s (zaj (zb0 p es))=true):=fun hq=>by
   have h3:=hpo hq.1
   have h4:=hq.2
   rw[qhv]at h4
   exact Nat.not_lt.2 h3 (of_decide_eq_true h4)
  have hbn:∀k∈(zaj (zb0 p es)).keys,Bnd fr be k:=fun k hk=>by
   obtain⟨q,hq,rfl⟩:=aS.1 hk
   exact hb q hq
  show zga s N g (d+1) (p:Nat) fr be root=_
  rw[zga,hload]
  show(if root=false∧zqj s (zaj (zb0 p es))=true then _ else _)=_
  rw[if_neg hpoor,if_pos hbn,if_pos (show(zaj (zb0 p es)).leaf=true from rfl),if_neg oQ,hl]
  rfl
 |h+1,(p,ks,kids),d+1,fr,be,root,hd,hO,hW,hB,hm,h1,h2k,hpo,hb,hrep,hp=>by
  obtain⟨hp1,hp2⟩:=hp p (.head _)
  have hB':∀x∈kids,mx s h/2≤sz x∧sz x≤mx s h∧Below s x:=hB
  obtain⟨hks,hsep,hOk⟩:=hO
  have hks:Ks ks:=hks
  have hsep:Sep ks (kids.map ents):=hsep
  have hl:=hsep.len
  rw[aD]at hl
  obtain⟨p1,p2⟩:=hsep.part hks
  have h2:2≤kids.length:=h2k (eY _)
  have hh:=hs.h2 h
  have hfan:=hs.fan
  have hne:∀i (hi:i<kids.length),ents kids[i]≠[]:=fun i hi=>by
   have hb:=hB' _ (aT hi)
   exact zjp s hs.h2 _ hb.2.2 oQ
  have hent:∀i (hi:i<kids.length),∀q∈ents kids[i],Bnd fr be q.1:=fun i hi q hq=>hb q (bS.2 ⟨_,aT hi,hq⟩)
  have hmay:zf8 s (zaj (zau p ks kids)):=zcu (zau p ks kids) ⟨hks,hsep,hOk⟩ hW hm h2k fun x hx=>⟨(hp x hx).1,aY (hp x hx).2 hN⟩
  have hload:zfs s N g (p:Nat)= .ok (zaj (zau p ks kids)):=zfl (t:=zau p ks kids) hs.kw hrep hmay hp1 hp2
  have hkl:(zaj (zau p ks kids)).kids.length=kids.length:=aD _
  have hpoor:¬(root=false∧zqj s (zaj (zau p ks kids))=true):=fun hq=>by
   have h3:=hpo hq.1
   have h4:=hq.2
   rw[qhv]at h4
   exact Nat.not_lt.2 h3 (of_decide_eq_true h4)
  have hlt:∀i (hi:i<ks.length) (hj:i<kids.length),∀q∈ents kids[i],kl q.1 ks[i]:=fun i hi hj q hq=>by
   have:=p1 i i hi (by rw[aD];exact hj) (bA _)
   rw[cS]at this
   exact this q hq
  have hge:∀i (hi:i<ks.length) (hj:i+1<kids.length),∀q∈ents kids[i+1],¬kl q.1 ks[i]:=fun i hi hj q hq=>by
   have:=p2 i (i+1) hi (by rw[aD];exact hj) (eN _)
   rw[cS]at this
   exact this q hq
  have hbn:∀k∈(zaj (zau p ks kids)).keys,Bnd fr be k:=fun k hk=>by
   have hk:k∈ks:=hk
   obtain⟨i,hi,rfl⟩:=bL hk
   obtain⟨a,ha⟩:=dD _ (hne i oQ)
   obtain⟨b,hb'⟩:=dD _ (hne (i+1) oQ)
   have a1:=hlt i hi oQ a ha
   have b1:=hge i hi oQ b hb'
   have a2:=hent i oQ a ha
   have b2:=hent (i+1) oQ b hb'
   exact⟨fun hc=>a2.1 (zb9 a1 hc),b2.2.imp id fun hc=>zd5 b1 hc⟩
  show zga s N g (d+1) (p:Nat) fr be root=_
  rw[zga,hload]
  show(if root=false∧zqj s (zaj (zau p ks kids))=true then _ else _)=_
  rw[if_neg hpoor,if_pos hbn,if_neg (show¬(zaj (zau p ks kids)).leaf=true from bK)]
  show zlf _ ks fr be (kids.map pg) 0 ⟨0,1,0⟩=_
  rw[qg0 (s:=s) (h:=h) _ ks fr be kids 0 _ (fun h=>absurd rfl h) fun j hj=>?_]
  ·have hnk:¬kids=[]:=fun e=>by rw[e,eI]at h2;omega
   rw[if_neg hnk]
   show Except.ok _=Except.ok (⟨(kids.flatMap ents).length,(p::kids.flatMap pgs).length,h+1+1⟩:Prt)
   rw[aW,aH,fT 1]
  ·rw[aH]
   have hcm:=aT hj
   have hb':=hB' _ hcm
   refine zsc hs hN g kids[j] d _ _ false oQ (hOk _ hcm) (hW.2 _ hcm) hb'.2.2 hb'.2.1 oQ (fun h1=>by
    have:=hb'.1
    cases h with
    |zero=>omega
    |succ h=>have e:mx s (h+1)=s.fan:=rfl;omega) (fun _=>hb'.1) (fun q hq=>?_) (hrep.2 _ hcm) fun x hx=>hp x (.tail _ (bS.2 ⟨_,hcm,hx⟩))
   have hq0:=hent j hj q hq
   refine⟨?_,?_⟩
   ·unfold loF
    by_cases h0:0<j
    ·obtain⟨i,rfl⟩:∃i,j=i+1:=⟨j - 1,oQ⟩
     rw[if_pos h0,Nat.add_sub_cancel,aE,aB (by omega:i<ks.length)]
     exact hge i oQ hj q hq
    ·rw[if_neg h0];exact hq0.1
   ·unfold hiF
    by_cases h0:j<ks.length
    ·rw[if_pos h0,aE,aB h0]
     exact .inr (hlt j h0 hj q hq)
    ·rw[if_neg h0];exact hq0.2
theorem qvj(a:K):¬kl a []:=fun h=>by unfold kl at h;cases a<;>cases h
noncomputable def zls(s:Sh)(N:Nat)(g:Sg)(root:Int):Except Nat (Nat×Nat):=
 if root=0 then .ok (0,0)else do
  let p←zga s N g 16 root [] [] true
  return (p.keys,p.pages)
theorem qhp{s:Sh}(hs:zwi s){N:Nat}(hN:N≤1024)(r:Rt)(g:Sg)(hr:qex s r)(hrep:qew g.W r)(hp:∀x∈zjb r,1≤x∧x<N)(hh:zhs r<16):zls s N g (zbj r:Nat)= .ok ((zdb r).length,(zjb r).length):=by
 match r with
 |none=>rfl
 |some ⟨h,t⟩=>
  have hr:TOk s t:=hr
  have hne0:¬((pg t:Nat):Int)=0:=by have:=(hp (pg t) (zcj t)).1;omega
  show zls s N g ((pg t:Nat):Int)= .ok ((ents t).length,(pgs t).length)
  unfold zls
  rw[if_neg hne0,zsc hs hN g t 16 [] [] true hh hr.ord hr.wd hr.below hr.le hr.one hr.two (fun h=>nomatch h) (fun q _=>And.intro (qvj q.1) (Or.inl rfl)) hrep hp]
  rfl
end Go.Eng.Tr
namespace Go.Eng.Tr
theorem qrs(s:Sh)(h4:4≤s.fan/2)(h0:1≤s.cap/2):∀{h:Nat} (t:T h),Below s t→(1≤h→2≤sz t)→2^h≤lv t
 |0,_,_,_=>bA _
 |h+1,(p,ks,kids),hB,hz=>by
  have hB:∀x∈kids,mx s h/2≤sz x∧sz x≤mx s h∧Below s x:=hB
  have hz:2≤kids.length:=hz (eY _)
  show 2^(h+1)≤(kids.map lv).sum
  have:=ztl kids (fun _=>0) lv (2^h) fun x hx=>by
   have:=qrs s h4 h0 x (hB x hx).2.2 (fun h1=>by
    have:=(hB x hx).1
    cases h with
    |zero=>omega
    |succ h=>have e:mx s (h+1)=s.fan:=rfl;omega)
   omega
  have h5:2^h*2≤2^h*kids.length:=fN _ hz
  rw[gR]
  omega
variable{k:Nat}
theorem zsl{s:Sh}(hs:zwi s)(h5:5≤s.cap/2){r:Rt}(hr:qex s r)(he:(zdb r).length≤5*2^k):zhs r≤k∧3*(zjb r).length≤4*((zdb r).length/5)+4:=by
 obtain⟨f1, -, -⟩:=qhr hs r hr
 have f2:3*(zjb r).length≤4*((zdb r).length/5)+4:=by
  have:=Nat.div_le_div_left h5 dQ (a:=(zdb r).length)
  split at f1<;>omega
 refine⟨?_,f2⟩
 match r,hr,he with
 |none,_,_=>exact aZ _
 |some ⟨0,t⟩,_,_=>exact aZ _
 |some ⟨h+1,t⟩,hr,he=>
  have hr:TOk s t:=hr
  have he:(ents t).length≤5*2^k:=he
  have f3:=zdt s t hr.below (fun h=>oQ)
  have f4:=qrs s hs.h4 oQ t hr.below hr.two
  show h+1≤k
  refine gK fun hn=>?_
  have f5:2^(k+1)≤2^(h+1):=dK dQ oQ
  have f6:5*lv t≤s.cap/2*lv t:=fH _ h5
  have f7:0<2^k:=iS k
  rw[gR]at f5
  omega
def fSh(i:Nat):Sh:=[(⟨32,4⟩:Sh),⟨32,6⟩,⟨4,4⟩,⟨17,33⟩,⟨1,1⟩,⟨32,5⟩,⟨33,4⟩,⟨2,5⟩].getD i ⟨1,1⟩
theorem zjq:∀i,i<8→1≤(fSh i).kw∧(fSh i).kw≤64∧(fSh i).vw≤64∧2≤(fSh i).cap∧8≤(fSh i).fan∧5≤(fSh i).cap/2:=dQ
variable{i:Nat}
theorem znw(h:i<8):zwi (fSh i):=⟨(zjq i h).1,(zjq i h).2.2.2.1,(zjq i h).2.2.2.2.1⟩
structure FoV (n:Nat) (g:Sg) (r:List Rt):Prop where
 len:r.length=8
 ok:∀i x,r[i]? =some x→qex (fSh i) x∧qew g.W x∧Es (zdb x)
 acc:Acc n g.S (1::r.flatMap zjb)
def zq9(r:List Rt):Nat:=(r.map fun x=>(zdb x).length).sum
def zne(r:List Rt)(i:Nat):List Nat:=1::((r.take i).flatMap zjb++(r.drop (i+1)).flatMap zjb)
variable{α:Type}{r:List α}{x:α}
theorem zqv(h:r[i]? =some x)(y:α):r.set i y=r.take i++y::r.drop (i+1):=by
 obtain⟨hi,rfl⟩:=aC.1 h
 rw[jA,if_pos hi]
theorem zt1(h:r[i]? =some x):r=r.take i++x::r.drop (i+1):=by
 have:=zqv h x
 rwa[show r.set i x=r by obtain⟨hi,rfl⟩:=aC.1 h;exact jJ hi]at this
theorem zw6(A B:List Rt)(y:Rt):(1::(A++y::B).flatMap zjb).Perm (zjb y++(1::(A.flatMap zjb++B.flatMap zjb))):=by
 rw[bB,aV]
 refine List.Perm.trans ?_ bM.symm
 refine .cons _ ?_
 rw[←aG,←aG]
 exact cW.append_right _
variable{r:List Rt}{x:Rt}
theorem qht(h:r[i]? =some x):(1::r.flatMap zjb).Perm (zjb x++zne r i):=by
 have e:=zt1 h
 have:=zw6 (r.take i) (r.drop (i+1)) x
 rwa[←e]at this
theorem qk5(h:r[i]? =some x)(y:Rt):(1::(r.set i y).flatMap zjb).Perm (zjb y++zne r i):=by
 rw[zqv h y]
 exact zw6 _ _ y
theorem qmt(h:r[i]? =some x):(zdb x).length≤zq9 r:=by
 unfold zq9
 rw[zt1 h,cC,bG,List.sum_append,gT]
 omega
theorem qpb(h:r[i]? =some x)(y:Rt):zq9 (r.set i y)+(zdb x).length=zq9 r+(zdb y).length:=by
 have e:=zt1 h
 unfold zq9
 rw[zqv h y]
 conv=>rhs;rw[e]
 simp only[cC,bG,List.sum_append,gT]
 omega
theorem qbo:∀(r:List Rt) (i:Nat),(∀j x,r[j]? =some x→qex (fSh (i+j)) x)→i+r.length≤8→3*(r.flatMap zjb).length≤4*(zq9 r/5)+4*r.length
 | [],_,_,_=>aZ _
 |x::r,i,h,hl=>by
  rw[aW]at hl
  have h1:=(zsl (znw (i:=i) oQ) (zjq i oQ).2.2.2.2.2 (h 0 x rfl) (k:=(zdb x).length) (by
   have:(zdb x).length<2^(zdb x).length:=Nat.lt_two_pow_self
   omega)).2
  have h2:=qbo r (i+1) (fun j y hy=>by have:=h (j+1) y (by rw[fW];exact hy);rwa[show i+(j+1)=i+1+j by omega]at this) oQ
  have h3:zq9 (x::r)=(zdb x).length+zq9 r:=by unfold zq9;rw[bG,gT]
  rw[aV,aA,aW,h3]
  omega
variable{n:Nat}{g:Sg}
theorem FoV.room(h:FoV n g r){K:Nat}(hk:zq9 r≤K)(hK:K≤5*2^k)(hn:(4*(K/5)+32)/3+k+4<n)(h16:k<16)(hx:r[i]? =some x):
  (zjb x++zne r i).length+zhs x+3<n∧zhs x<16:=by
 have hi:i<8:=by rw[←h.len];exact(aC.1 hx).1
 have f1:=qbo r 0 (fun j y hy=>by rw[aH];exact(h.ok j y hy).1) (by rw[h.len];decide)
 have f2:=(zsl (znw hi) (zjq i hi).2.2.2.2.2 (h.ok i x hx).1 (k:=k) (cH (qmt hx) (cH hk hK))).1
 have f3:=(qht hx).length_eq
 rw[aW]at f3
 have f4:zq9 r/5≤K/5:=Nat.div_le_div_right hk
 rw[h.len]at f1
 exact⟨oQ,oQ⟩
theorem FoV.acc_at(h:FoV n g r)(hx:r[i]? =some x):Acc n g.S (zjb x++zne r i):=h.acc.perm (qht hx)
theorem FoV.low{n:Nat}{g:Sg}{r:List Rt}(h:FoV n g r){i:Nat}{x:Rt}(hx:r[i]? =some x):∀y∈zjb x,1≤y∧y<n:=fun y hy=>(h.acc_at hx).low y (aP _ hy)
theorem qew.frame{W W':Nat→List UInt8}:∀{r:Rt},qew W r→(∀x∈zjb r,W' x=W x)→qew W' r
 |none,_,_=>trivial
 |some ⟨_,_⟩,h,he=>Rep.frame h he
theorem qox{j:Nat}{y:Rt}(hy:r[j]? =some y)(hij:j≠i):∀x∈zjb y,x∈zne r i:=fun x hx=>by
 unfold zne
 refine jP _ ?_
 rw[aR,bS,bS]
 rcases iU hij with h|h
 ·exact .inl ⟨y,bI (i:=j) (by rw[kH,if_pos h];exact hy),hx⟩
 ·exact .inr ⟨y,bI (i:=j - (i+1)) (by rw[eG,show i+1+(j - (i+1))=j by omega];exact hy),hx⟩
theorem FoV.turn{g':Sg}(h:FoV n g r){x':Rt}(hx:r[i]? =some x)(h1:qex (fSh i) x')(h2:qew g'.W x')(h3:Es (zdb x'))(h4:Acc n g'.S (zjb x'++zne r i))(h5:∀y∈zne r i,g'.W y=g.W y):FoV n g' (r.set i x'):=by
 refine⟨by rw[bE];exact h.len,fun j y hy=>?_,h4.perm (qk5 hx x').symm⟩
 have hi:=(aC.1 hx).1
 by_cases e:j=i
 ·subst e
  rw[dS hi]at hy
  cases hy
  exact⟨h1,h2,h3⟩
 ·rw[fG (fun h=>e h.symm)]at hy
  obtain⟨k1,k2,k3⟩:=h.ok j y hy
  exact⟨k1,k2.frame fun z hz=>h5 z (qox hy e z hz),k3⟩
theorem qci(r:List Rt)(i:Nat):1∈zne r i:=.head _
theorem FoV.put(h:FoV n g r)(hN:n≤1024){K:Nat}(hk:zq9 r≤K)(hK:K≤5*2^k)(hn:(4*(K/5)+32)/3+k+4<n)(h16:k<16)(hx:r[i]? =some x)(key val:List UInt8)(hkl:key.length=(fSh i).kw)(hvl:val.length=(fSh i).vw):
  ∃x' g',zoj (fSh i) n key val g (zbj x:Nat)= .ok ((zbj x':Nat),g')∧zdb x'=zfx (zdb x) key val∧FoV n g' (r.set i x')∧g'.W 1=g.W 1:=by
 have hi:i<8:=by rw[←h.len];exact(aC.1 hx).1
 obtain⟨q1,q2⟩:=h.room hk hK hn h16 hx
 obtain⟨k1,k2,k3⟩:=h.ok i x hx
 obtain⟨g',a1,a2,a3,a4⟩:=qk9 (znw hi) hN key val hkl hvl x g (zne r i) k1 k2 (h.acc_at hx) q1 q2
 obtain⟨b1,b2,b3⟩:=qou (znw hi) n key val hkl hvl x g.S (zne r i) k1 (h.acc_at hx) q1
 rw[←a3]at b3
 exact⟨_,g',a1,b2,h.turn hx b1 a2 (by rw[b2];exact zvr k3) b3 a4,a4 1 (qci r i)⟩
theorem FoV.del(h:FoV n g r)(hn0:0<n)(hN:n≤1024){K:Nat}(hk:zq9 r≤K)(hK:K≤5*2^k)(hn:(4*(K/5)+32)/3+k+4<n)(h16:k<16)(hx:r[i]? =some x)(key:List UInt8):
  ∃x' g',zrp (fSh i) n key g (zbj x:Nat)= .ok (((zbj x':Nat),(zi6 (zdb x) key).isSome),g')∧zdb x'=zfy (zdb x) key∧FoV n g' (r.set i x')∧g'.W 1=g.W 1:=by
 have hi:i<8:=by rw[←h.len];exact(aC.1 hx).1
 obtain⟨-,q2⟩:=h.room hk hK hn h16 hx
 obtain⟨k1,k2,k3⟩:=h.ok i x hx
 obtain⟨g',a1,a2,a3,a4⟩:=qju (znw hi) hn0 hN key x g (zne r i) k1 k2 (h.acc_at hx) q2
 obtain⟨b1,b0,b2,b3⟩:=qnr (znw hi) n hn0 key x g.S (zne r i) k1 (h.acc_at hx)
 rw[←a3]at b3
 have hb:(zy5 (fSh i) n key g.S x).2.1=(zi6 (zdb x) key).isSome:=by rw[eA,b0,qbq]
 rw[hb]at a1
 exact⟨_,g',a1,b2,h.turn hx b1 a2 (by rw[b2];exact zzn k3) b3 a4,a4 1 (qci r i)⟩
theorem FoV.get(h:FoV n g r)(hN:n≤1024){K:Nat}(hk:zq9 r≤K)(hK:K≤5*2^k)(hn:(4*(K/5)+32)/3+k+4<n)(h16:k<16)(hx:r[i]? =some x)(key:List UInt8):quj (fSh i) n g key (zbj x:Nat)= .ok (zi6 (zdb x) key):=by
 have hi:i<8:=by rw[←h.len];exact(aC.1 hx).1
 obtain⟨k1,k2, -⟩:=h.ok i x hx
 exact qwp (znw hi) hN key x g k1 k2 (h.low hx) (h.room hk hK hn h16 hx).2
theorem FoV.check(h:FoV n g r)(hN:n≤1024){K:Nat}(hk:zq9 r≤K)(hK:K≤5*2^k)(hn:(4*(K/5)+32)/3+k+4<n)(h16:k<16)(hx:r[i]? =some x):zls (fSh i) n g (zbj x:Nat)= .ok ((zdb x).length,(zjb x).length):=by
 have hi:i<8:=by rw[←h.len];exact(aC.1 hx).1
 obtain⟨k1,k2, -⟩:=h.ok i x hx
 exact qhp (znw hi) hN x g k1 k2 (h.low hx) (h.room hk hK hn h16 hx).2
end Go.Eng.Tr
namespace Go.Proofs.YthafakdplhdfjaaGreatDoor
open Go.RowKit Go.Eng Go.Eng.Tr
def kB(k:K):ByteArray:=⟨k.toArray⟩
def kV(k:K):Value:=.string (kB k)
theorem zjt(k:K):(kB k).toList=k:=by rw[ByteArray.toList_eq];simp[kB]
theorem qqy{a b:K}:kB a=kB b↔a=b:=⟨fun h=>by rw[←zjt a,h,zjt],fun h=>by rw[h]⟩
theorem qmh(a b:K):seq (kB a) (kB b)=decide (a=b):=by rw[eA,qat,decide_eq_true_iff,qqy]
theorem qgw(a b:K):Op.bytesLess a b=decide (kl a b):=by rw[eA,decide_eq_true_iff];exact Iff.rfl
theorem qg7(a:ByteArray)(w:World):Pu Tryz.prog 224 #[.string a] w (.bool false):=by
 refine zbn [_] Tryz.func224 rfl rfl ?_
 simp only[zaa]
 (repeat refine s_ ?_)
 exact zdk rfl rfl (by simp[seq])
theorem qd0(a:ByteArray)(w:World):Pu Tryz.prog 198 #[.string a] w (.bool false):=by
 refine zbn [_] Tryz.func198 rfl rfl ?_
 simp only[zaa]
 (repeat refine s_ ?_)
 exact zdk rfl rfl (by simp[seq])
theorem qds(a b:K)(w:World):Pu Tryz.prog 197 #[kV a,kV b] w (.bool (decide (kl a b))):=by
 refine zbn [_,_] Tryz.func197 rfl rfl ?_
 unfold kV
 simp only[zaa,Nat.reduceAdd]
 (repeat refine s_ ?_)
 refine lPu rfl (fun w1 hw1=>qg7 _ w1) ?_
 (repeat refine s_ ?_)
 exact zdk rfl rfl (by rw[zjt,zjt,qgw])
theorem zyj(a:Option Addr)(ns:List K)(c:Nat)(hs:Ks ns)(hL:ns.length≤1000000)(k:K)(w:World)(hr:Rd w a (ns.map kV)):
  Pu Tryz.prog 153 #[.slice a ns.length c,kV k] w (.tuple #[.int .i64 (lb ns k:Nat),.bool (fd ns k)]):=by
 refine zbn [_,_] Tryz.func153 rfl rfl ?_
 simp only[zaa,Nat.reduceAdd]
 (repeat refine s_ ?_)
 refine zc0 (α:=Nat×Nat) (fun y=>[(0,.slice a ns.length c),(1,kV k),(6,.int .i64 ns.length),(7,.int .i64 y.1),(8,.int .i64 y.2)])
  (fun y=>y.1≤y.2∧y.2≤ns.length∧(∀j (h:j<ns.length),j<y.1→kl ns[j] k)∧∀j (h:j<ns.length),y.2≤j→¬kl ns[j] k) (fun _=>[]) (fun y=>y.2 - y.1) (0,ns.length) ⟨rfl,rfl,rfl,rfl,rfl,trivial⟩ ⟨aZ _,bA _,fun k _ h=>absurd h (fQ _),fun k h h'=>by simp only at h';omega⟩ (fun _ h=>h) fun⟨i,j⟩ ⟨h1,h2,h3,h4⟩=>?_
 simp only at h1 h2 h3 h4⊢
 by_cases hij:i<j
 ·obtain⟨b',off,rfl,hr'⟩:=hr.at_ (by intro h;have:=congrArg List.length h;rw[aD,eI]at this;omega)
  obtain⟨q,hq⟩:∃q,(i+j)/2^1=q:=⟨_,rfl⟩
  have hql:q<ns.length:=oQ
  obtain⟨kq,hkq⟩:∃x,ns[q]=x:=⟨_,rfl⟩
  have hget:(ns.map kV)[q]? =some (kV kq):=by rw[aO,aB hql,hkq];rfl
  (repeat refine s_ ?_)
  refine l_w rfl (qrt rfl rfl rfl oQ) ?_
  (repeat refine s_ ?_)
  refine l_w rfl (qrt rfl rfl rfl oQ) ?_
  rw[hq]
  (repeat refine s_ ?_)
  refine l_w rfl (za0 rfl rfl (fun w' hw'=>za5 hr' (fun h=>h) hw' q (kV kq) hget)) ?_
  (repeat refine s_ ?_)
  refine lPu rfl (fun w1 hw1=>qds _ _ w1) ?_
  (repeat refine s_ ?_)
  subst hkq
  refine qp3 rfl rfl (fun hl=>?_) (fun hl=>?_)
  ·(repeat refine s_ ?_)
   refine zaw (q+1,j) ⟨rfl,rfl,rfl,rfl,rfl,trivial⟩ ⟨by simp only;omega,h2,fun e he heq=>?_,h4⟩ (fun _ h=>h) (by simp only;omega)
   simp only at heq
   by_cases e':e=q
   ·subst e';exact hl
   ·exact zb9 (cG.1 hs e q he hql oQ) hl
  ·(repeat refine s_ ?_)
   refine zaw (i,q) ⟨rfl,rfl,rfl,rfl,rfl,trivial⟩ ⟨by simp only;omega,by simp only;omega,h3,fun e he heq=>?_⟩ (fun _ h=>h) (by simp only;omega)
   simp only at heq
   by_cases e':e=q
   ·subst e';exact hl
   ·exact fun h=>hl (zb9 (cG.1 hs q e hql he oQ) h)
 ·obtain rfl:i=j:=oQ
  have hlb:lb ns k=i:=qq6 oQ h3 (fun h=>h4 i h (bA _))
  rw[hlb]
  by_cases hi:i<ns.length
  ·obtain⟨b',off,rfl,hr'⟩:=hr.at_ (by intro h;have:=congrArg List.length h;rw[aD,eI]at this;omega)
   have hfd:fd ns k=decide (ns[i]=k):=by unfold fd;rw[hlb,aB hi];simp
   rw[hfd]
   obtain⟨kq,hkq⟩:∃x,ns[i]=x:=⟨_,rfl⟩
   have hget:(ns.map kV)[i]? =some (kV kq):=by rw[aO,aB hi,hkq];rfl
   rw[hkq]
   (repeat refine s_ ?_)
   refine l_w rfl (za0 rfl rfl (fun w' hw'=>za5 hr' (fun h=>h) hw' i (kV kq) hget)) ?_
   (repeat refine s_ ?_)
   unfold kV
   refine l_w rfl (qpf rfl rfl) ?_
   rw[qmh]
   by_cases he:kq=k
   ·rw[decide_eq_true he]
    (repeat refine s_ ?_)
    exact zie rfl rfl rfl rfl
   ·rw[decide_eq_false he]
    (repeat refine s_ ?_)
    refine l_w rfl (za0 rfl rfl (fun w' hw'=>za5 hr' (fun h=>h) hw' i (kV kq) hget)) ?_
    (repeat refine s_ ?_)
    refine lPu rfl (fun w1 hw1=>qd0 _ w1) ?_
    (repeat refine s_ ?_)
    exact zie rfl rfl rfl rfl
  ·have hf:fd ns k=false:=by
    unfold fd;rw[hlb,dG oQ];rfl
   rw[hf]
   (repeat refine s_ ?_)
   exact zie rfl rfl rfl rfl
theorem zkh{w w1 w2:World}(h:Fr none' w w1)(g:Fr none' w1 w2):Fr none' w w2:=⟨g.os.trans h.os,g.tape.trans h.tape,g.output.trans h.output,cH h.size g.size,fun k hk hF=>(g.block k (aY hk h.size) hF).trans (h.block k hk hF)⟩
def iV(k:Nat):Value:=.int .i64 (k:Nat)
variable{α:Type}
def qpy(g:FuncId)(cs:List Value)(enc:α→Value)(l:List α)(p:α→Bool)(w:World):Prop:=za7 Tryz.prog g=true∧∀x∈l,∀w',Fr none' w w'→Pu Tryz.prog g ([enc x]++cs).toArray w' (.bool (p x))
theorem qbd(l:List α)(p:α→Bool)(i:Nat)(hi:i<l.length)(h:∀j (hj:j<l.length),j<i→p l[j]=false)(hp:p l[i]=true):l.any p=true:=List.any_eq_true.2 ⟨_,aT hi,hp⟩
theorem zxh(a:Option Addr)(ns:List K)(c:Nat)(g:FuncId)(cs:List Value)(p:K→Bool)(hL:ns.length≤1000000)(w:World)(hr:Rd w a (ns.map kV))(hg:qpy g cs kV ns p w):
  Ct Tryz.prog 270 #[.slice a ns.length c,.func (.func g) #[] cs.toArray] w none' (fun i:Int=>.int .i64 i) (fun i=>decide (0≤i)=ns.any p∧ -1≤i∧i≤1000000) (fun _=>[]):=by
 refine zes [_,_] Tryz.func270 rfl rfl ?_
 simp only[zaa,Nat.reduceAdd]
 (repeat refine s_ ?_)
 refine zc0 (α:=Nat) (fun i=>[(0,.slice a ns.length c),(1,.func (.func g) #[] cs.toArray),(7,.int .i64 ns.length),(8,.int .i64 i)]) (fun i=>i≤ns.length∧∀j (h:j<ns.length),j<i→p ns[j]=false) (fun _=>[]) (fun i=>ns.length - i) 0 ⟨rfl,rfl,rfl,rfl,trivial⟩ ⟨aZ _,fun j _ h=>absurd h (fQ _)⟩ (fun _ h=>h) fun i ⟨h1,h2⟩=>?_
 by_cases hi:i<ns.length
 ·obtain⟨b',off,rfl,hr'⟩:=hr.at_ (by intro h;have:=congrArg List.length h;rw[aD,eI]at this;omega)
  obtain⟨kq,hkq⟩:∃x,ns[i]=x:=⟨_,rfl⟩
  have hget:(ns.map kV)[i]? =some (kV kq):=by rw[aO,aB hi,hkq];rfl
  (repeat refine s_ ?_)
  refine l_w rfl (za0 rfl rfl (fun w' hw'=>za5 hr' (fun h=>h) hw' i (kV kq) hget)) ?_
  (repeat refine s_ ?_)
  refine zeh rfl (zm6 (fs:=[]) rfl hg.1 rfl rfl rfl fun w1 hw1=>hg.2 kq (hkq▸aT hi) w1 hw1.fr) fun _=>?_
  (repeat refine s_ ?_)
  refine qp3 rfl rfl (fun hl=>?_) (fun hl=>?_)
  ·(repeat refine s_ ?_)
   exact zbd (i:Int) rfl rfl rfl ⟨by rw[qbd ns p i hi h2 (hkq▸hl)];exact decide_eq_true oQ,oQ,oQ⟩ (aK _) (fun _ h=>nomatch h)
  ·(repeat refine s_ ?_)
   refine zaw (i+1) ⟨rfl,rfl,rfl,rfl,trivial⟩ ⟨hi,fun j hj hji=>?_⟩ (fun _ h=>h) oQ
   by_cases e:j=i
   ·subst e;rw[hkq];simpa using hl
   ·exact h2 j hj oQ
 ·(repeat refine s_ ?_)
  refine zbd (-1:Int) rfl rfl rfl ⟨?_,oQ,oQ⟩ (aK _) (fun _ h=>nomatch h)
  rw[decide_eq_false oQ]
  refine(jB.2 fun x hx=>?_).symm
  obtain⟨j,hj,rfl⟩:=bL hx
  rw[h2 j hj oQ]
  exact bK
theorem zpi(a:Option Addr)(ns:List K)(c:Nat)(g:FuncId)(cs:List Value)(p:K→Bool)(hL:ns.length≤1000000)(w:World)(hr:Rd w a (ns.map kV))(hg:qpy g cs kV ns p w):
  Pu Tryz.prog 261 #[.slice a ns.length c,.func (.func g) #[] cs.toArray] w (.bool (ns.any p)):=by
 refine zbn [_,_] Tryz.func261 rfl rfl ?_
 simp only[zaa,Nat.reduceAdd]
 (repeat refine s_ ?_)
 refine zdy rfl rfl kQ rfl (fun w1 hw1=>zxh a ns c g cs p hL w1 (hr.keep hw1) ⟨hg.1,fun x hx w' hf=>hg.2 x hx w' (zkh hw1.fr hf)⟩) fun x hx=>?_
 obtain⟨e1,e2,e3⟩:=hx
 (repeat refine s_ ?_)
 exact zdk rfl rfl (by rw[e1])
theorem zug(k:K)(g:FuncId)(cs:List Value)(b:Nat)(v:Bool)(w:World)(hb:za7 Tryz.prog g=true)(hc:w.cell? ⟨b,0,none⟩=some (.func (.func g) #[] cs.toArray))(hg:∀w',Fr none' w w'→Pu Tryz.prog g ([kV k]++cs).toArray w' (.bool v)):
  Pu Tryz.prog 262 #[kV k,.pointer (some ⟨b,0,none⟩)] w (.bool (!v)):=by
 refine zbn [_,_] Tryz.func262 rfl rfl ?_
 simp only[zaa,Nat.reduceAdd]
 (repeat refine s_ ?_)
 refine l_w rfl (ze3 rfl rfl (fun h=>h) hc) ?_
 (repeat refine s_ ?_)
 refine zeh rfl (zm6 (fs:=[]) rfl hb rfl rfl rfl fun w1 hw1=>hg w1 hw1.fr) fun _=>?_
 (repeat refine s_ ?_)
 exact zdk rfl rfl rfl
theorem zw4(a:Option Addr)(ns:List K)(c:Nat)(g:FuncId)(cs:List Value)(p:K→Bool)(hL:ns.length≤1000000)(w:World)(hr:Rd w a (ns.map kV))(hg:qpy g cs kV ns p w):
  Pu Tryz.prog 243 #[.slice a ns.length c,.func (.func g) #[] cs.toArray] w (.bool (ns.all p)):=by
 refine zbn [_,_] Tryz.func243 rfl rfl ?_
 simp only[zaa,Nat.reduceAdd]
 (repeat refine s_ ?_)
 refine zc9 rfl rfl rfl fun b1 _=>?_
 (repeat refine s_ ?_)
 refine l_w rfl (zhw rfl) ?_
 (repeat refine s_ ?_)
 refine lPu rfl (fun w1 hw1=>zpi a ns c 262 [.pointer (some ⟨b1,0,none⟩)] (fun x=> !p x) hL w1 (hr.keep hw1) ⟨kQ,fun x hx w' hf=>zug x g cs b1 (p x) w' hg.1 (((Hp.start w1 none').keep hf).old (fun h=>h) (zd4 (hw1.get (.head _)) rfl)) fun w'' hf'=>hg.2 x hx w'' (zkh hw1.fr (zkh hf hf'))⟩) ?_
 (repeat refine s_ ?_)
 exact zdk rfl rfl (by rw[List.not_any_eq_all_not];simp)
theorem zxg(a:Option Addr)(ns:List Nat)(c:Nat)(g:FuncId)(cs:List Value)(p:Nat→Bool)(hL:ns.length≤1000000)(w:World)(hr:Rd w a (ns.map iV))(hg:qpy g cs iV ns p w):
  Ct Tryz.prog 263 #[.slice a ns.length c,.func (.func g) #[] cs.toArray] w none' (fun i:Int=>.int .i64 i) (fun i=>decide (0≤i)=ns.any p∧ -1≤i∧i≤1000000) (fun _=>[]):=by
 refine zes [_,_] Tryz.func263 rfl rfl ?_
 simp only[zaa,Nat.reduceAdd]
 (repeat refine s_ ?_)
 refine zc0 (α:=Nat) (fun i=>[(0,.slice a ns.length c),(1,.func (.func g) #[] cs.toArray),(7,.int .i64 ns.length),(8,.int .i64 i)]) (fun i=>i≤ns.length∧∀j (h:j<ns.length),j<i→p ns[j]=false) (fun _=>[]) (fun i=>ns.length - i) 0 ⟨rfl,rfl,rfl,rfl,trivial⟩ ⟨aZ _,fun j _ h=>absurd h (fQ _)⟩ (fun _ h=>h) fun i ⟨h1,h2⟩=>?_
 by_cases hi:i<ns.length
 ·obtain⟨b',off,rfl,hr'⟩:=hr.at_ (by intro h;have:=congrArg List.length h;rw[aD,eI]at this;omega)
  obtain⟨kq,hkq⟩:∃x,ns[i]=x:=⟨_,rfl⟩
  have hget:(ns.map iV)[i]? =some (iV kq):=by rw[aO,aB hi,hkq];rfl
  (repeat refine s_ ?_)
  refine l_w rfl (za0 rfl rfl (fun w' hw'=>za5 hr' (fun h=>h) hw' i (iV kq) hget)) ?_
  (repeat refine s_ ?_)
  refine zeh rfl (zm6 (fs:=[]) rfl hg.1 rfl rfl rfl fun w1 hw1=>hg.2 kq (hkq▸aT hi) w1 hw1.fr) fun _=>?_
  (repeat refine s_ ?_)
  refine qp3 rfl rfl (fun hl=>?_) (fun hl=>?_)
  ·(repeat refine s_ ?_)
   exact zbd (i:Int) rfl rfl rfl ⟨by rw[qbd ns p i hi h2 (hkq▸hl)];exact decide_eq_true oQ,oQ,oQ⟩ (aK _) (fun _ h=>nomatch h)
  ·(repeat refine s_ ?_)
   refine zaw (i+1) ⟨rfl,rfl,rfl,rfl,trivial⟩ ⟨hi,fun j hj hji=>?_⟩ (fun _ h=>h) oQ
   by_cases e:j=i
   ·subst e;rw[hkq];simpa using hl
   ·exact h2 j hj oQ
 ·(repeat refine s_ ?_)
  refine zbd (-1:Int) rfl rfl rfl ⟨?_,oQ,oQ⟩ (aK _) (fun _ h=>nomatch h)
  rw[decide_eq_false oQ]
  refine(jB.2 fun x hx=>?_).symm
  obtain⟨j,hj,rfl⟩:=bL hx
  rw[h2 j hj oQ]
  exact bK
theorem zph(a:Option Addr)(ns:List Nat)(c:Nat)(g:FuncId)(cs:List Value)(p:Nat→Bool)(hL:ns.length≤1000000)(w:World)(hr:Rd w a (ns.map iV))(hg:qpy g cs iV ns p w):
  Pu Tryz.prog 245 #[.slice a ns.length c,.func (.func g) #[] cs.toArray] w (.bool (ns.any p)):=by
 refine zbn [_,_] Tryz.func245 rfl rfl ?_
 simp only[zaa,Nat.reduceAdd]
 (repeat refine s_ ?_)
 refine zdy rfl rfl kQ rfl (fun w1 hw1=>zxg a ns c g cs p hL w1 (hr.keep hw1) ⟨hg.1,fun x hx w' hf=>hg.2 x hx w' (zkh hw1.fr hf)⟩) fun x hx=>?_
 obtain⟨e1,e2,e3⟩:=hx
 (repeat refine s_ ?_)
 exact zdk rfl rfl (by rw[e1])
theorem zuf(k:Nat)(g:FuncId)(cs:List Value)(b:Nat)(v:Bool)(w:World)(hb:za7 Tryz.prog g=true)(hc:w.cell? ⟨b,0,none⟩=some (.func (.func g) #[] cs.toArray))(hg:∀w',Fr none' w w'→Pu Tryz.prog g ([iV k]++cs).toArray w' (.bool v)):
  Pu Tryz.prog 246 #[iV k,.pointer (some ⟨b,0,none⟩)] w (.bool (!v)):=by
 refine zbn [_,_] Tryz.func246 rfl rfl ?_
 simp only[zaa,Nat.reduceAdd]
 (repeat refine s_ ?_)
 refine l_w rfl (ze3 rfl rfl (fun h=>h) hc) ?_
 (repeat refine s_ ?_)
 refine zeh rfl (zm6 (fs:=[]) rfl hb rfl rfl rfl fun w1 hw1=>hg w1 hw1.fr) fun _=>?_
 (repeat refine s_ ?_)
 exact zdk rfl rfl rfl
theorem zw3(a:Option Addr)(ns:List Nat)(c:Nat)(g:FuncId)(cs:List Value)(p:Nat→Bool)(hL:ns.length≤1000000)(w:World)(hr:Rd w a (ns.map iV))(hg:qpy g cs iV ns p w):
  Pu Tryz.prog 228 #[.slice a ns.length c,.func (.func g) #[] cs.toArray] w (.bool (ns.all p)):=by
 refine zbn [_,_] Tryz.func228 rfl rfl ?_
 simp only[zaa,Nat.reduceAdd]
 (repeat refine s_ ?_)
 refine zc9 rfl rfl rfl fun b1 _=>?_
 (repeat refine s_ ?_)
 refine l_w rfl (zhw rfl) ?_
 (repeat refine s_ ?_)
 refine lPu rfl (fun w1 hw1=>zph a ns c 246 [.pointer (some ⟨b1,0,none⟩)] (fun x=> !p x) hL w1 (hr.keep hw1) ⟨kQ,fun x hx w' hf=>zuf x g cs b1 (p x) w' hg.1 (((Hp.start w1 none').keep hf).old (fun h=>h) (zd4 (hw1.get (.head _)) rfl)) fun w'' hf'=>hg.2 x hx w'' (zkh hw1.fr (zkh hf hf'))⟩) ?_
 (repeat refine s_ ?_)
 exact zdk rfl rfl (by rw[List.not_any_eq_all_not];simp)
theorem qa2(k:K)(n:Int)(b:Nat)(w:World)(hc:w.cell? ⟨b,0,none⟩=some (.int .i64 n))(hk:k.length≤1000000):
  Pu Tryz.prog 244 #[kV k,.pointer (some ⟨b,0,none⟩)] w (.bool (decide ((k.length:Int)=n))):=by
 refine zbn [_,_] Tryz.func244 rfl rfl ?_
 unfold kV
 simp only[zaa,Nat.reduceAdd]
 (repeat refine s_ ?_)
 refine l_w rfl (ze3 rfl rfl (fun h=>h) hc) ?_
 (repeat refine s_ ?_)
 refine zdk rfl rfl ?_
 rw[show(kB k).size=k.length from aI]
 exact congrArg Value.bool (by rw[eA];simp)
theorem zp5(a:Option Addr)(ns:List K)(c:Nat)(n:Int)(hL:ns.length≤1000000)(hk:∀k∈ns,k.length≤1000000)(w:World)(hr:Rd w a (ns.map kV)):
  Pu Tryz.prog 227 #[.slice a ns.length c,.int .i64 n] w (.bool (ns.all fun k=>decide ((k.length:Int)=n))):=by
 refine zbn [_,_] Tryz.func227 rfl rfl ?_
 simp only[zaa,Nat.reduceAdd]
 (repeat refine s_ ?_)
 refine zc9 rfl rfl rfl fun b1 _=>?_
 (repeat refine s_ ?_)
 refine l_w rfl (zhw rfl) ?_
 (repeat refine s_ ?_)
 refine lPu rfl (fun w1 hw1=>zw4 a ns c 244 [.pointer (some ⟨b1,0,none⟩)] (fun k=>decide ((k.length:Int)=n)) hL w1 (hr.keep hw1) ⟨kQ,fun x hx w' hf=>qa2 x n b1 w' (((Hp.start w1 none').keep hf).old (fun h=>h) (zd4 (hw1.get (.head _)) rfl)) (hk x hx)⟩) ?_
 (repeat refine s_ ?_)
 exact zdk rfl rfl rfl
theorem qdw(k:Nat)(w:World):Pu Tryz.prog 229 #[iV k] w (.bool (decide (1≤k∧k<1024))):=by
 refine zbn [_] Tryz.func229 rfl rfl ?_
 unfold iV
 simp only[zaa]
 by_cases h1:1≤(k:Int)
 ·(repeat refine s_ ?_)
  refine zdk rfl rfl (congrArg Value.bool ?_)
  rw[eA,decide_eq_true_iff,decide_eq_true_iff]
  omega
 ·(repeat refine s_ ?_)
  refine zdk rfl rfl (congrArg Value.bool ?_)
  rw[decide_eq_false oQ]
structure ShB (s:Sh):Prop where
 k1:1≤s.kw
 k2:s.kw≤64
 v2:s.vw≤64
def shI(k v:Int):Value:=.agg #[.int .i64 k,.int .i64 v]
def shV(s:Sh):Value:=shI s.kw s.vw
structure Pl where
 k:Option Addr×Nat
 v:Option Addr×Nat
 d:Option Addr×Nat
def ndV(n:Nd)(a:Pl):Value:=.agg #[.bool n.leaf,.slice a.k.1 n.keys.length a.k.2,.slice a.v.1 n.vals.length a.v.2,.slice a.d.1 n.kids.length a.d.2]
structure NdR (w:World) (n:Nd) (a:Pl):Prop where
 k:Rd w a.k.1 (n.keys.map kV)
 v:Rd w a.v.1 (n.vals.map kV)
 d:Rd w a.d.1 (n.kids.map iV)
structure NdB (n:Nd):Prop where
 k:n.keys.length≤100000
 v:n.vals.length≤100000
 d:n.kids.length≤100000
 kl:∀k∈n.keys,k.length≤1000000
 vl:∀k∈n.vals,k.length≤1000000
theorem qd2(k v:Int)(w:World):Pu Tryz.prog 146 #[shI k v] w (.bool (decide (1≤k∧k≤64∧0≤v∧v≤64))):=by
 refine zbn [_] Tryz.func146 rfl rfl ?_
 unfold shI
 simp only[zaa]
 refine goA ?_
 refine zbp rfl rfl fun b1 hb1=>?_
 by_cases h1:1≤k
 ·by_cases h2:k≤64
  ·by_cases h3:0≤v
   ·refine goA ?_
    exact zdk rfl rfl (congrArg Value.bool (by rw[eA,decide_eq_true_iff,decide_eq_true_iff];omega))
   ·refine goA ?_
    exact zdk rfl rfl (congrArg Value.bool (by rw[decide_eq_false oQ]))
  ·refine goA ?_
   exact zdk rfl rfl (congrArg Value.bool (by rw[decide_eq_false oQ]))
 ·refine goA ?_
  exact zdk rfl rfl (congrArg Value.bool (by rw[decide_eq_false oQ]))
variable{s:Sh}
theorem zh4(hs:ShB s)(w:World):Pu Tryz.prog 146 #[shV s] w (.bool true):=by
 have h:=qd2 s.kw s.vw w
 rw[decide_eq_true ⟨by have:=hs.k1;omega,by have:=hs.k2;omega,oQ,by have:=hs.v2;omega⟩]at h
 exact h
theorem zjl(hs:ShB s)(w:World):Pu Tryz.prog 195 #[shV s] w (.int .i64 s.cap):=by
 have h1:=hs.k1
 have h2:=hs.k2
 have h3:=hs.v2
 refine zbn [_] Tryz.func195 rfl rfl ?_
 unfold shV shI
 simp only[zaa]
 refine goA ?_
 refine zbp rfl rfl fun b1 hb1=>?_
 refine goA ?_
 refine lPu rfl (fun w1 hw1=>zh4 hs w1) ?_
 refine goA ?_
 exact zdk rfl rfl rfl
theorem zhz(hs:ShB s)(w:World):Pu Tryz.prog 196 #[shV s] w (.int .i64 s.fan):=by
 have h1:=hs.k1
 have h2:=hs.k2
 have h3:=hs.v2
 refine zbn [_] Tryz.func196 rfl rfl ?_
 unfold shV shI
 simp only[zaa]
 refine goA ?_
 refine zbp rfl rfl fun b1 hb1=>?_
 refine goA ?_
 refine lPu rfl (fun w1 hw1=>zh4 hs w1) ?_
 refine goA ?_
 exact zdk rfl rfl rfl
theorem zsi(n:Nd)(a:Pl)(hs:Ks n.keys)(hb:n.keys.length≤1000000)(k:K)(w:World)(hr:Rd w a.k.1 (n.keys.map kV)):Pu Tryz.prog 104 #[ndV n a,kV k] w (.tuple #[.int .i64 (lb n.keys k:Nat),.bool (fd n.keys k)]):=by
 refine zbn [_,_] Tryz.func104 rfl rfl ?_
 unfold ndV
 simp only[zaa,Nat.reduceAdd]
 refine goA ?_
 refine zbp rfl rfl fun b1 hb1=>?_
 refine goA ?_
 refine lPu rfl (fun w1 hw1=>zyj a.k.1 n.keys a.k.2 hs hb k w1 (hr.keep hw1)) ?_
 refine goA ?_
 exact zie rfl rfl rfl rfl
theorem qde(n:Nd)(a:Pl)(hs:Ks n.keys)(hb:n.keys.length≤1000000)(k:K)(w:World)(hr:Rd w a.k.1 (n.keys.map kV)):Pu Tryz.prog 152 #[ndV n a,kV k] w (.int .i64 (dn n.keys k:Nat)):=by
 have hl:=qkn n.keys k
 refine zbn [_,_] Tryz.func152 rfl rfl ?_
 unfold dn
 unfold ndV
 simp only[zaa,Nat.reduceAdd]
 refine goA ?_
 refine zbp rfl rfl fun b1 hb1=>?_
 refine goA ?_
 refine lPu rfl (fun w1 hw1=>zsi n a hs hb k w1 (hr.keep hw1)) ?_
 refine goA ?_
 cases fd n.keys k with
 |true=>
  refine goA ?_
  exact zdk rfl rfl rfl
 |false=>
  refine goA ?_
  exact zdk rfl rfl rfl
theorem qmi:∀{l:List K},(∀j (h:j+1<l.length),kl l[j] l[j+1])→Ks l
 | [],_=>.nil
 | [a],_=>eB _ _
 |a::b::l,h=>by
  have h1:kl a b:=h 0 sQ
  have h2:Ks (b::l):=qmi fun j hj=>h (j+1) (by simpa using hj)
  refine bP.2 ⟨fun x hx=>?_,h2⟩
  rcases aL.1 hx with rfl|hx
  ·exact h1
  ·exact zb9 h1 ((bP.1 h2).1 x hx)
open Classical in
theorem qdv(hs:ShB s)(n:Nd)(a:Pl)(hb:NdB n)(w:World)(hr:NdR w n a):Pu Tryz.prog 201 #[shV s,ndV n a] w (.bool (decide (zf8 s n))):=by
 have h1:=hs.k1
 have h2:=hs.k2
 have h3:=hs.v2
 have hbk:=hb.k
 have hbv:=hb.v
 have hbd:=hb.d
 refine zbn [_,_] Tryz.func201 rfl rfl ?_
 obtain⟨⟨ka,kc⟩,⟨va,vc⟩,⟨da,dc⟩⟩:=a
 obtain⟨rk,rv,rd⟩:=hr
 simp only at rk rv rd
 have hcap:=zjl hs
 have hfan:=zhz hs
 unfold shV shI at hcap hfan⊢
 unfold ndV
 obtain⟨lf,hlf⟩:∃x,n.leaf=x:=⟨_,rfl⟩
 obtain⟨nk,hnk⟩:∃x,n.keys.length=x:=⟨_,rfl⟩
 obtain⟨nv,hnv⟩:∃x,n.vals.length=x:=⟨_,rfl⟩
 obtain⟨nd,hnd⟩:∃x,n.kids.length=x:=⟨_,rfl⟩
 rw[hlf,hnk,hnv,hnd]
 rw[hnk]at hbk
 rw[hnv]at hbv
 rw[hnd]at hbd
 simp only[zaa,Nat.reduceAdd]
 refine goA ?_
 refine zbp rfl rfl fun b1 hb1=>?_
 refine goA ?_
 refine zbp rfl rfl fun b2 hb2=>?_
 refine goA ?_
 refine zc0 (α:=Nat) (fun i=>[(2,.pointer (some ⟨b1,0,none⟩)),(3,.pointer (some ⟨b2,0,none⟩)),(4,.bool false),(5,.int .i64 i)]) (fun i=>1≤i∧(i≤nk∨i=1)∧∀j (h:j+1<n.keys.length),j+1<i→kl n.keys[j] n.keys[j+1]) (fun _=>_) (fun i=>nk+1 - i) 1 ⟨rfl,rfl,rfl,rfl,trivial⟩ ⟨bA _,.inr rfl,fun j _ h=>absurd h oQ⟩ (fun _ h=>h) fun i ⟨i1,i2,i3⟩=>?_
 by_cases hi:i<nk
 ·obtain⟨b',off,rfl,hr'⟩:=rk.at_ (by intro h;have:=congrArg List.length h;rw[aD,eI]at this;omega)
  obtain⟨j,rfl⟩:∃j,i=j+1:=⟨i - 1,oQ⟩
  have hj1:j+1<n.keys.length:=oQ
  obtain⟨kp,hkp⟩:∃x,n.keys[j]=x:=⟨_,rfl⟩
  obtain⟨kq,hkq⟩:∃x,n.keys[j+1]=x:=⟨_,rfl⟩
  have g1:(n.keys.map kV)[j]? =some (kV kp):=by rw[aO,aB (Nat.lt_of_succ_lt hj1),hkp];rfl
  have g2:(n.keys.map kV)[j+1]? =some (kV kq):=by rw[aO,aB hj1,hkq];rfl
  refine goA ?_
  refine ziw kQ ?_
  refine goE ?_
  refine goV rfl rfl (za0 rfl rfl (fun w' hw'=>za5 hr' (fun h=>h) hw' (j+1 - 1) (kV kp) g1)) ?_
  refine goE ?_
  refine goV rfl rfl (za0 rfl rfl (fun w' hw'=>za5 hr' (fun h=>h) hw' (j+1) (kV kq) g2)) ?_
  unfold kV
  refine goX ?_
  rw[zjt,zjt,qgw]
  refine qp3 rfl rfl (fun hl=>?_) (fun hl=>?_)
  ·have hnl:¬kl kp kq:=hl
   refine goA ?_
   refine zdk rfl rfl (congrArg Value.bool (decide_eq_false fun hm=>hnl ?_).symm)
   have:=cG.1 hm.sorted j (j+1) oQ oQ (eN j)
   rw[hkp,hkq]at this
   exact this
  ·have hnl:kl kp kq:=Classical.not_not.1 hl
   refine goA ?_
   refine zaw (j+2) ⟨rfl,rfl,rfl,rfl,trivial⟩ ⟨oQ,oQ,fun e he hej=>?_⟩ (fun _ h=>h) oQ
   by_cases e':e=j
   ·subst e';rw[hkp,hkq];exact hnl
   ·exact i3 e he oQ
 ·have hks:Ks n.keys:=qmi fun j hj=>i3 j hj oQ
  refine goA ?_
  obtain⟨wk,hwk⟩:∃x,(n.keys.all fun k=>decide ((k.length:Int)=s.kw))=x:=⟨_,rfl⟩
  refine lPu rfl (fun w1 hw1=>(by have:=zp5 ka n.keys kc s.kw oQ hb.kl w1 (rk.keep hw1);rw[hnk,hwk]at this;exact this)) ?_
  cases wk with
  |false=>
   refine goA ?_
   refine zdk rfl rfl (congrArg Value.bool (decide_eq_false fun hm=>?_).symm)
   have:(n.keys.all fun k=>decide ((k.length:Int)=s.kw))=true:=eJ.2 fun k hk=>decide_eq_true (by have:=hm.wide k hk;omega)
   rw[hwk]at this
   cases this
  |true=>
   have hwk:∀k∈n.keys,k.length=s.kw:=fun k hk=>by
    have:=of_decide_eq_true (eJ.1 hwk k hk)
    omega
   refine goA ?_
   cases lf with
   |true=>
    obtain⟨wv,hwv⟩:∃x,(n.vals.all fun k=>decide ((k.length:Int)=s.vw))=x:=⟨_,rfl⟩
    have hiff:zf8 s n↔nd=0∧nk=nv∧wv=true∧nk≤s.cap:=by
     refine⟨fun hm=>?_,fun⟨e1,e2,e3,e4⟩=>⟨hks,hwk,fun _=>⟨bQ oQ,oQ,fun v hv=>?_,oQ⟩,fun h=>by rw[hlf]at h;cases h⟩⟩
     ·obtain⟨f1,f2,f3,f4⟩:=hm.leaf hlf
      rw[f1]at hnd
      exact⟨hnd.symm,oQ,by rw[←hwv];exact eJ.2 fun k hk=>decide_eq_true (by have:=f3 k hk;omega),oQ⟩
     ·rw[←hwv]at e3
      have:=of_decide_eq_true (eJ.1 e3 v hv)
      omega
    have hw2:∀w',Fr none' w w'→Pu Tryz.prog 227 #[.slice va nv vc,.int .i64 s.vw] w' (.bool wv):=fun w' hw'=>by
     have:=zp5 va n.vals vc s.vw oQ hb.vl w' (rv.fr hw')
     rw[hnv,hwv]at this
     exact this
    by_cases c1:nd=0
    ·by_cases c2:nk=nv
     ·refine goA ?_
      refine ziw kQ ?_
      refine goE ?_
      refine dPu 18 rfl rfl (fun w1 hw1=>hw2 w1 hw1.fr) ?_
      cases wv with
      |true=>
       refine goE ?_
       refine dPu 25 rfl rfl (fun w1 hw1=>hcap w1) ?_
       refine goX ?_
       exact zdk rfl rfl (congrArg Value.bool (by rw[eA,decide_eq_true_iff,decide_eq_true_iff,hiff];exact⟨fun h=>⟨c1,c2,rfl,oQ⟩,fun h=>oQ⟩))
      |false=>
       refine goX ?_
       exact zdk rfl rfl (congrArg Value.bool (decide_eq_false fun hm=>by have:=(hiff.1 hm).2.2.1;cases this).symm)
     ·refine goA ?_
      refine goY ?_
      refine goA ?_
      exact zdk rfl rfl (congrArg Value.bool (decide_eq_false fun hm=>by have:=hiff.1 hm;omega).symm)
    ·refine goA ?_
     refine goY ?_
     refine goA ?_
     exact zdk rfl rfl (congrArg Value.bool (decide_eq_false fun hm=>by have:=hiff.1 hm;omega).symm)
   |false=>
    obtain⟨wd,hwd⟩:∃x,(n.kids.all fun k=>decide (1≤k∧k<1024))=x:=⟨_,rfl⟩
    have hiff:zf8 s n↔wd=true∧nv=0∧nd=nk+1∧1≤nk∧nd≤s.fan:=by
     refine⟨fun hm=>?_,fun⟨e1,e2,e3,e4,e5⟩=>⟨hks,hwk,fun h=>by(rw[hlf]at h;cases h),fun _=>⟨fun k hk=>?_,bQ oQ,oQ,oQ,oQ⟩⟩⟩
     ·obtain⟨f1,f2,f3,f4,f5⟩:=hm.inner hlf
      rw[f2]at hnv
      exact⟨by rw[←hwd];exact eJ.2 fun k hk=>decide_eq_true (f1 k hk),hnv.symm,oQ,oQ,oQ⟩
     ·rw[←hwd]at e1
      exact of_decide_eq_true (eJ.1 e1 k hk)
    have hw2:∀w',Fr none' w w'→Pu Tryz.prog 228 #[.slice da nd dc,.func (.func 229) #[] #[]] w' (.bool wd):=fun w' hw'=>by
     have:=zw3 da n.kids dc 229 [] (fun k=>decide (1≤k∧k<1024)) oQ w' (rd.fr hw') ⟨kQ,fun x _ w'' _=>qdw x w''⟩
     rw[hnd,hwd]at this
     exact this
    refine goA ?_
    refine lPu rfl (fun w1 hw1=>hw2 w1 hw1.fr) ?_
    cases wd with
    |false=>
     refine goA ?_
     refine goY ?_
     refine goA ?_
     exact zdk rfl rfl (congrArg Value.bool (decide_eq_false fun hm=>by have:=(hiff.1 hm).1;cases this).symm)
    |true=>
     by_cases c1:nv=0
     ·by_cases c2:nd=nk+1
      ·by_cases c3:1≤nk
       ·refine goA ?_
        refine ziw kQ ?_
        refine goE ?_
        refine dPu 28 rfl rfl (fun w1 hw1=>hfan w1) ?_
        refine goX ?_
        exact zdk rfl rfl (congrArg Value.bool (by rw[eA,decide_eq_true_iff,decide_eq_true_iff,hiff];exact⟨fun h=>⟨rfl,c1,c2,c3,oQ⟩,fun h=>oQ⟩))
       ·refine goA ?_
        refine goY ?_
        refine goA ?_
        exact zdk rfl rfl (congrArg Value.bool (decide_eq_false fun hm=>by have:=hiff.1 hm;omega).symm)
      ·refine goA ?_
       refine goY ?_
       refine goA ?_
       exact zdk rfl rfl (congrArg Value.bool (decide_eq_false fun hm=>by have:=hiff.1 hm;omega).symm)
     ·refine goA ?_
      refine goY ?_
      refine goA ?_
      exact zdk rfl rfl (congrArg Value.bool (decide_eq_false fun hm=>by have:=hiff.1 hm;omega).symm)
end Go.Proofs.YthafakdplhdfjaaGreatDoor
namespace Go.Eng
open Go.RowKit Go.Lib
variable{P:Program}{Q:Exit→Act→World→Prop}{N:Fm}{l:zav}{ops:Array Oper}{rest:List Oper}{w0:World}{F:Nat→Prop}{m:List Item}{pos:String}{after:Array Edge}{g:Option (Nat×Bool)}{d:Nat}
def zrz(e:TypeId)(o:Option (Nat×Nat))(n:Nat)(xs:List Value):Item:=
 ⟨fun k=>∃c,o=some (k,c),fun w=>w.ownsRowF 0 e 1 (slV o n) n xs⟩
theorem zbh(ro:Nat→Prop)(e:TypeId)(o:Option (Nat×Nat))(n:Nat)(xs:List Value):(zrz e o n xs).Stable ro:=by
 intro w w' h ⟨h1,h2⟩
 refine⟨h1,?_⟩
 rcases h2 with h2|⟨b,cap,cur,fz,hv,hb,hg,h3⟩
 ·exact .inl h2
 ·refine .inr ⟨b,cap,cur,fz,hv,hb,?_,h3⟩
  match o,hv with
  |none,hv=>cases hv
  |some (k,c),hv=>
   cases hv
   rw[h b (.inr ⟨_,rfl⟩)];exact hg
variable{w:World}{e:TypeId}{o:Option (Nat×Nat)}{n:Nat}{xs:List Value}
theorem zoy(h:(own e 1 o n xs).prop w):(zrz e o n xs).prop w:=World.ownsRowF_of (zvn h)
theorem zvm(h:(zrz e o n xs).prop w):xs.length=n:=by have:=h.1;simpa using this
theorem zot{w':World}{o':Option (Nat×Nat)}(hp:(zrz e o' n xs).prop w')(hf:Fr (fun k=>∃c,o=some (k,c)) w w')(hn:∀b c,o'=some (b,c)→w.heap.size≤b∨∃c',o=some (b,c')):Its (fun k=>∃c,o=some (k,c)) w [zrz e o' n xs] w':=by
 refine⟨hf,fun it hm=>?_,.cons (fun _ h=>nomatch h) .nil⟩
 rw[aN]at hm
 subst hm
 refine⟨hp,zbh _ _ _ _ _,fun k ⟨c,hk⟩=>⟨?_,fun hlt=>?_⟩⟩
 ·subst hk
  rcases hp.2 with ⟨h, -⟩ |⟨b,cap,cur,fz,hv, -,hg, -⟩
  ·cases h
  ·cases hv
   exact(bR.1 hg).1
 ·rcases hn k c hk with h|h
  ·omega
  ·exact h
theorem qjl{t u ty':TypeId}{i:TypeInfo}(ht:P.underlying t=some (.slice e))(hu:P.underlying u=some .string)(hi:P.info? e=some i)(hz:i.zero=some (.int .u8 0))(hs1:i.size=1)(hby:i.bytes=1)(hown:(zrz e o n xs).prop w)(s:ByteArray)(h63:n+s.size≤140737488355328):
  ∃o' w',(Builtin.append_ #[t,u] ty' #[slV o n,.string s]).run P w= .ok (slV o' (n+s.size)) w'∧Its (fun k=>∃c,o=some (k,c)) w [zrz e o' (n+s.size) (xs++strCells s)] w':=by
 match o,hown with
 |none,hown=>
  obtain rfl:n=0:=by
   rcases hown.2 with ⟨-,h⟩ |⟨b,cap,cur,fz,hv, -⟩
   ·exact h
   ·cases hv
  have hx0:xs=[]:=bQ (zvm hown)
  subst hx0
  obtain⟨o',w',hr,hits⟩:=qfc (P:=P) (ty':=ty') ht hu hi hz hs1 hby (o:=none) (n:=0) (xs:=[]) (w:=w) ⟨rfl,rfl⟩ s h63
  refine⟨o',w',hr,zot (zoy (hits.item _ (.head _)).1) hits.fr fun b c hb=>?_⟩
  have h:=(hits.item _ (.head _)).2.2 b ⟨c,hb⟩
  rcases gQ b w.heap.size with hl|hl
  ·obtain⟨c',h'⟩:=h.2 hl
   cases h'
  ·exact .inl hl
 |some (b,cap),hown=>
  have hxl:=zvm hown
  rcases hown.2 with ⟨h, -⟩ |⟨b2,cap2,cur,fz,hv, -,h4,hfz,h2,h3,h5,h6⟩
  ·cases h
  cases hv
  rw[bO]at h5 h6 hfz
  have hlen:(xs++strCells s).length=(n+s.size)*1:=by rw[aA,hxl,strCells_length,bO]
  have hmx:n+s.size≤maxLen:=by unfold maxLen;omega
  by_cases hroom:n+s.size≤cap
  ·have hr:=Lib.run_append_room_stringF (P:=P) w t u ty' e i ht hu hi hs1 b n cap cur fz h4 hfz s hroom oQ
   refine⟨some (b,cap),_,hr,zot ⟨hlen,.inr ⟨b,cap,_,fz,rfl,aZ _,setRow_heap w b cur _ e _ h4,oQ,hroom,h3,?_,?_⟩⟩ (zk8 rfl rfl rfl sQ fun j _ hj=>setRow_other w b j _ (fun e=>hj ⟨cap,by rw[e]⟩)) (fun b' c' h=>.inr ⟨c',h⟩)⟩
   ·simp only[aI,aA,aM,aX,gA,strCells_length]
    omega
   ·rw[h6,←hlen]
    exact gX
  ·have hr:=run_append_grow_string (P:=P) w t u ty' e i (.int .u8 0) ht hu hi hz ⟨b,0,none⟩ n cap xs (by rw[hs1];simpa using hxl) (hown.cells (g:=b) rfl) s oQ oQ (by rw[hby];exact growslice_fits oQ oQ)
   have hge:=grownCap_ge w (n+s.size) cap e
   refine⟨some (w.heap.size,grownCap w (n+s.size) cap e),_,hr,zot ⟨hlen,.inr ⟨w.heap.size,_,_,(0,0),rfl,aZ _,heap_alloc_new w.drew _,aZ _,hge,grownCap_le_maxLen w (n+s.size) cap e hmx,?_,?_⟩⟩ (zk8 rfl rfl rfl sQ fun j hj _=>Below.heap_alloc w.drew _ j hj) (fun b c' h=>.inl (by cases h;exact bA _))⟩
   ·have hz1:(Value.int IntKind.u8 0).cells.size=1:=rfl
    simp only[kM,aI,size_zeroCells,hz1,hxl,strCells_length]
    omega
   ·simp only[iN,aG]
    rw[←aG,←hlen]
    exact gX
variable{s:ByteArray}
theorem qhc{T U T':TypeId}{x y:Operand}(hok:zee N l (.call ⟨.builtin .append, #[x,y], #[T,U]⟩) d=true)(hx:evO l x=some (slV o n))(hy:evO l y=some (.string s))
  (hT:zmi P T=some e) (hU:P.underlying U=some .string) (he:qjq P e=true) (hn:n+s.size≤140737488355328):
  HO P ⟨some d,.call ⟨.builtin .append, #[x,y], #[T,U]⟩,T',pos,after,g⟩ Q N l (Hp w0 F (zrz e o n xs::m)) (α:=Option (Nat×Nat)) (fun o'=>(d,slV o' (n+s.size))::l) (fun o'=>Hp w0 F (zrz e o' (n+s.size) (xs++zae s.data.toList)::m)):=
 zh6 (val:=fun o'=>slV o' (n+s.size)) hok (fun w hw=>by
  obtain⟨i,h1,h2,h3,h4⟩:=zsb he
  obtain⟨o',w',hr,hits⟩:=qjl (P:=P) (ty':=T') (zbs hT) hU h1 h2 h3 h4 (hw.item (zrz e o n xs) (.head _)).1 s hn
  rw[zq0]at hits
  refine⟨o',w',?_,Hp.call (m:=[zrz e o n xs]) hw hits (fun k' _ hk=>⟨zrz e o n xs,by simp,hk⟩)⟩
  simp only[execOp,resolve,invoke,builtin]
  simp[zar hx,zar hy,hr])
theorem zzv{b:Nat}{cur:Array Value}{fz:Nat×Nat}(h:w.heap[b]? =some (.cells cur e fz))(h2:fz.2≤n):∃fz',(w.freeze ⟨b,0,none⟩ n).heap[b]? =some (.cells cur e fz')∧fz'.2≤n:=by
 unfold World.freeze
 split
 ·exact⟨fz,h,h2⟩
 ·obtain⟨lo,hi⟩:=fz
  refine⟨if lo==hi then(0,0+n)else(min lo 0,max hi (0+n)),?_,?_⟩
  ·simp only[fA,h,if_true,bZ]
  ·split
   ·simp
   ·simp only at h2⊢
    omega
theorem qoo{pt' it' T':TypeId}{x y:Operand}{b c:Nat}{k:Int}[h:NatOf k n](hok:zee N l (.call ⟨.builtin .unsafeString, #[x,y], #[pt',it']⟩) d=true)(hx:evO l x=some (.pointer (some ⟨b,0,none⟩)))(hy:evO l y=some (.int .i64 k))(hT:qmo P pt'=some e)(hc:P.cellsOf e=1)(h0:0<n)(hn:n=s.size):
  HO P ⟨some d,.call ⟨.builtin .unsafeString, #[x,y], #[pt',it']⟩,T',pos,after,g⟩ Q N l (Hp w0 F (zrz e (some (b,c)) n (zae s.data.toList)::m)) (α:=Unit) (fun _=>(d,.string s)::l) (fun _=>Hp w0 F (zrz e (some (b,c)) n (zae s.data.toList)::m)):=by
 obtain rfl:=h.eq
 exact zh6 (val:=fun _=>.string s) hok (fun w hw=>by
  have hp:=(hw.item (zrz e (some (b,c)) n (zae s.data.toList)) (.head _)).1
  have hlen:=zvm hp
  rcases hp.2 with ⟨h, -⟩ |⟨b2,cap2,cur,fz,hv, -,h3,hfz,h2,h4,h5,h6⟩
  ·cases h
  cases hv
  rw[bO]at h5 h6 hfz
  have hsh:w.shape? b=some (e,cur.size):=by simp[World.shape?,h3]
  have hsl:s.data.toList.length=n:=by rw[zo9];exact hn.symm
  have hr:=Lib.run_unsafeString_row (P:=P) w pt' it' T' e (zh9 hT).1 hc b cur.size hsh s.data.toList (by intro h;rw[h]at hsl;simp at hsl;omega) oQ (by unfold maxLen at h4;omega) (fun j x hx=>by
   exact hp.cells (g:=b) rfl j _ (by simp[zae,hx]))
  obtain⟨fz',hf1,hf2⟩:=zzv h3 hfz
  refine⟨(),w.freeze ⟨b,0,none⟩ n,?_,?_⟩
  ·simp only[execOp,resolve,invoke,builtin]
   rw[hsl]at hr
   simp[zar hx,zar hy,hr]
  ·obtain⟨f1,f2,f3⟩:=zzu (w:=w) (b:=b) (n:=n)
   refine Hp.call (m:=[zrz e (some (b,c)) n (zae s.data.toList)]) hw (zot (o:=some (b,c)) ⟨by rw[bO];exact hlen,.inr ⟨b,c,cur,fz',rfl,aZ _,hf1,by rw[bO];exact hf2,h2,h4,by rw[bO];exact h5,by rw[bO];exact h6⟩⟩ ⟨f1,f2,f3,jF zzw.symm,fun k _ hk=>zw9 fun e=>hk ⟨c,by rw[e]⟩⟩ (fun b' c' h=>.inr ⟨c',h⟩)) (fun k' _ hk=>⟨_,.head _,hk⟩))
end Go.Eng
namespace Go.Proofs.YthafakdplhdfjaaGreatDoor
open Go.RowKit Go.Eng
abbrev zof(b:Nat)(p:Option Addr)(o:Option (Nat×Nat))(n:Nat):Eng.Item:=pt b (.cells #[.pointer p,slV o n] 273 (0,0))
theorem zjm(b:Nat)(p:Option Addr)(o:Option (Nat×Nat))(n:Nat)(hp:p=none∨p=some ⟨b,0,none⟩)(w:World)(hw:zbq (zof b p o n) w):
  Ct Tryz.prog 222 #[.pointer (some ⟨b,0,none⟩)] w (za4 [zof b p o n]) (fun _:Unit=>.tuple #[]) (fun _=>True) (fun _=>[zof b (some ⟨b,0,none⟩) o n]):=by
 unfold zof at*
 refine za2 [_] [_] Tryz.func222 rfl rfl (by simpa using hw) (.cons (fun _ h=>by cases h) .nil) ?_
 simp only[zaa]
 refine goA ?_
 rcases hp with rfl|rfl
 ·refine goA ?_
  refine l_w rfl (qps rfl rfl rfl rfl (.head _) sQ) ?_
  refine goA ?_
  refine l_w rfl (qs7 Tryz.func239 kQ kQ kQ kQ rfl (fun w=>Lib.run_noEscape w _)) ?_
  refine goA ?_
  refine l_w rfl (qpm rfl rfl rfl rfl (.head _) kQ) ?_
  refine goA ?_
  refine za1 rfl (zai rfl rfl rfl rfl rfl rfl sQ) fun _=>?_
  refine goA ?_
  exact zk0 () rfl rfl trivial (.refl _) (by simp[zab])
 ·refine goA ?_
  exact zk0 () rfl rfl trivial (.refl _) (by simp[zab])
theorem zzy(b:Nat)(n:Nat)(hn:n≤140737488355328)(w:World)(hw:zbq (zof b (some ⟨b,0,none⟩) none 0) w):
  Ct Tryz.prog 223 #[.pointer (some ⟨b,0,none⟩),.int .i64 n] w (za4 [zof b (some ⟨b,0,none⟩) none 0]) (fun _:Nat×Nat=>.tuple #[]) (fun _=>True) (fun o=>[zof b (some ⟨b,0,none⟩) (some o) 0,own 5 1 (some o) 0 []]):=by
 refine za2 [_,_] [_] Tryz.func223 rfl rfl (by simpa using hw) (.cons (fun _ h=>by cases h) .nil) ?_
 simp only[zaa,Nat.reduceAdd]
 unfold zof
 refine goA ?_
 refine ziw kQ ?_
 refine goE ?_
 refine zat 8 ⟨kQ,dQ⟩ rfl rfl (qsz (t:=63) (e:=5) rfl Tryz.func240 kQ kQ kQ kQ kQ rfl rfl oQ) (fun _ _ h=>goH h) fun⟨⟨b2,cs⟩,h2,h3⟩=>?_
 refine goX ?_
 refine za1 rfl (ziq (cs:=[]) (cur:=cs.toList) rfl rfl rfl rfl rfl sQ (fun _ _=>.inl rfl) (fun _=>rfl) sQ rfl) fun _=>?_
 rw[qov]
 refine goA ?_
 refine za1 rfl (zah (zcg _ _ _) (zai rfl rfl rfl rfl rfl rfl sQ)) fun _=>?_
 refine goA ?_
 refine zbr (fun w hw=>((hw.perm (zcg _ _ _)).ownOf (n:=0) (c:=cs.size) (sz:=1) (aZ _) h3 sQ).perm (zcg _ _ _)) ?_
 rw[lE,kJ]
 exact zk0 (b2,cs.size) rfl rfl trivial (.refl _) (by simp[zab,zac])
theorem qdn(b:Nat)(n:Nat)(h0:0<n)(hn:n≤140737488355328)(w:World)(hw:zbq (zof b none none 0) w):
  Ct Tryz.prog 190 #[.pointer (some ⟨b,0,none⟩),.int .i64 n] w (za4 [zof b none none 0]) (fun _:Nat×Nat=>.tuple #[]) (fun _=>True) (fun o=>[zof b (some ⟨b,0,none⟩) (some o) 0,own 5 1 (some o) 0 []]):=by
 refine za2 [_,_] [_] Tryz.func190 rfl rfl (by simpa using hw) (.cons (fun _ h=>by cases h) .nil) ?_
 simp only[zaa,Nat.reduceAdd]
 unfold zof
 refine goA ?_
 refine lCu [zof b none none 0] rfl (by first|(simp[zab,zac,mp_stable];done) |(intro it hm;(iterate 6 (all_goals try (rcases hm with _|⟨_,hm⟩)))<;>first|exact zad _|exact zab _ _ _|exact zac _ _ _ _ _ _)) (fun w1 hw1 hh1 ha1=>zjm b _ none 0 (.inl rfl) w1 (hh1 _ (.head _))) fun⟨x,hx⟩=>?_
 unfold zof
 refine goA ?_
 refine goY ?_
 refine goA ?_
 refine lCu [zof b (some ⟨b,0,none⟩) none 0] rfl (by first|(simp[zab,zac,mp_stable];done) |(intro it hm;(iterate 6 (all_goals try (rcases hm with _|⟨_,hm⟩)))<;>first|exact zad _|exact zab _ _ _|exact zac _ _ _ _ _ _)) (fun w1 hw1 hh1 ha1=>zzy b n hn w1 (hh1 _ (.head _))) fun⟨x,hx⟩=>?_
 refine goA ?_
 exact zk0 x rfl rfl trivial (.refl _) (by simp[zab,zac])
abbrev blS(b:Nat)(p:Option Addr)(o:Option (Nat×Nat))(s:Bys):List Eng.Item:=[zof b p o s.length,zrz 5 o s.length (zae s)]
theorem zjk(b:Nat)(p:Option Addr)(hp:p=none∨p=some ⟨b,0,none⟩)(o:Option (Nat×Nat))(t s:Bys)(hn:t.length+s.length≤140737488355328):
  Cw Tryz.prog 191 #[.pointer (some ⟨b,0,none⟩),.string ⟨s.toArray⟩] (blS b p o t) (fun _:Option (Nat×Nat)=>.tuple #[.int .i64 s.length,.nilIface]) (fun _=>True) (fun o'=>blS b (some ⟨b,0,none⟩) o' (t++s)):=by
 intro w hw ha
 refine za2 [_,_] _ Tryz.func191 rfl rfl hw ha ?_
 simp only[zaa,Nat.reduceAdd]
 have hsl:=bal s
 unfold blS zof
 refine goA ?_
 refine lCu [zof b p o t.length] rfl (by first|(simp[zab,zac,mp_stable];done) |(intro it hm;(iterate 6 (all_goals try (rcases hm with _|⟨_,hm⟩)))<;>first|exact zad _|exact zab _ _ _|exact zac _ _ _ _ _ _)) (fun w1 hw1 hh1 ha1=>zjm b p o t.length hp w1 (hh1 _ (.head _))) fun⟨x,hx⟩=>?_
 unfold zof
 refine goA ?_
 refine za1 rfl (zah (zcg _ _ _) (qhc rfl rfl rfl rfl rfl rfl (by rw[hsl];exact hn))) fun o'=>?_
 refine goA ?_
 refine za1 rfl (zah (zcg _ _ _) (zai rfl rfl rfl rfl (zct _ _) (zc3 _ _) sQ)) fun _=>?_
 refine goA ?_
 have e1:t.length+(⟨s.toArray⟩:ByteArray).size=(t++s).length:=by rw[hsl,aA]
 have e2:zae t++zae (⟨s.toArray⟩:ByteArray).data.toList=zae (t++s):=by rw[zke]
 rw[e1,e2]
 exact zc1 o' rfl rfl rfl (by rw[hsl]) trivial (.refl _) (by simp[zab,zbh])
theorem qho{w:World}{e:TypeId}{o:Option (Nat×Nat)}{s:Bys}(h:(zrz e o s.length (zae s)).prop w)(h0:s≠[]):∃b c,o=some (b,c)∧s.length≤c:=by
 rcases h.2 with ⟨h1,h2⟩ |⟨b,c,cur,fz,hv, -, -, -,h2, -⟩
 ·exact absurd (bQ h2) h0
 ·match o,hv with
  |none,hv=>cases hv
  |some (b',c'),hv=>cases hv;exact⟨_,_,rfl,h2⟩
theorem zii(b:Nat)(p:Option Addr)(o:Option (Nat×Nat))(s:Bys)(h0:s≠[]):
  Cw Tryz.prog 193 #[.pointer (some ⟨b,0,none⟩)] (blS b p o s) (fun _:Unit=>.string ⟨s.toArray⟩) (fun _=>True) (fun _=>blS b p o s):=by
 intro w hw ha
 obtain⟨ob,oc,rfl,hoc⟩:=qho (hw _ (.tail _ (.head _))).1 h0
 refine za2 [_] _ Tryz.func193 rfl rfl hw ha ?_
 simp only[zaa]
 have hsl:=bal s
 have hlp:0<s.length:=by cases s with|nil=>exact absurd rfl h0|cons a l=>simp
 unfold blS zof
 refine goA ?_
 refine ztn (zcg _ _ _) (qo3 kQ ?_)
 refine goE ?_
 refine zat 4 ⟨kQ,dQ⟩ rfl rfl (zx2 rfl (qtb rfl oQ)) (fun _ _ h=>goH h) fun _=>?_
 refine goE ?_
 refine zat 10 ⟨kQ,dQ⟩ rfl rfl (qoo (s:=⟨s.toArray⟩) rfl rfl rfl rfl kQ hlp hsl.symm) (fun _ _ h=>goH h) fun _=>?_
 refine goX ?_
 refine zgf [1,0] rfl rfl ?_
 exact zbd () rfl rfl rfl trivial (.refl _) (by simp[zab,zbh])
theorem zkd(b:Nat)(p:Option Addr)(o:Option (Nat×Nat))(s:Bys)(w:World)(hw:∀it∈blS b p o s,zbq it w):
  Pu Tryz.prog 192 #[.pointer (some ⟨b,0,none⟩)] w (.int .i64 s.length):=by
 refine zbn [_] Tryz.func192 rfl rfl ?_
 simp only[zaa]
 have hvv:∃a c,slV o s.length= .slice a s.length c:=by
  rcases(hw _ (.tail _ (.head _))).1.2 with ⟨h1,h2⟩ |⟨b,c,cur,fz,hv, -⟩
  ·rw[h1,h2];exact⟨_,_,rfl⟩
  ·exact⟨_,_,hv⟩
 obtain⟨va,vc,hv⟩:=hvv
 refine goA ?_
 refine l_w rfl (za0 (v:=slV o s.length) rfl rfl (fun w' hw'=>zd4 (i:=1) (((hw _ (.head _)).keep hw').1) rfl)) ?_
 rw[hv]
 refine goA ?_
 exact zdk rfl rfl rfl
theorem zwn(b:Nat)(p:Option Addr)(o:Option (Nat×Nat))(s:Bys):
  Cw Tryz.prog 205 #[.pointer (some ⟨b,0,none⟩)] (blS b p o s) (fun _:Unit=>.tuple #[]) (fun _=>True) (fun _=>blS b none none []):=by
 intro w hw ha
 refine za2 [_] _ Tryz.func205 rfl rfl hw ha ?_
 simp only[zaa]
 unfold blS zof
 refine goA ?_
 refine za1 rfl (zai rfl rfl rfl rfl rfl rfl sQ) fun _=>?_
 refine goA ?_
 refine za1 rfl (zai rfl rfl rfl rfl rfl rfl sQ) fun _=>?_
 refine goA ?_
 refine zbr (m':=blS b none none []) (fun w' hw'=>?_) (zk0 () rfl rfl trivial (.refl _) (by simp[zab,zbh]))
 have h1:Hp w _ [zof b none none ([]:Bys).length] w':=hw'.sub (.cons_cons _ (.cons _ (.refl _)))
 have h2:Hp w _ [own 5 1 none 0 [],zof b none none ([]:Bys).length] w':=zd1 _ _ h1
 have h3:Hp w _ [zrz 5 none 0 [],zof b none none ([]:Bys).length] w':=h2.imp (fun k h=>h) (fun h=>zoy h) (zbh _ _ _ _ _)
 exact h3.perm (zcg _ _ _)
end Go.Proofs.YthafakdplhdfjaaGreatDoor
namespace Go.Eng
open Go.RowKit
theorem Hp.here{w0 w:World}{F:Nat→Prop}{pre m:List Item}(h:Hp w0 F (pre++m) w)(hs:∀it∈pre,it.Stable none'):∀it∈pre,zbq it w:=fun it hm=>zbq.of (h.item it (aP _ hm)) (hs it hm)
theorem qrx{P:Program}{l:zav}{H:World→Prop}{T:Array TypeId}{ty:TypeId}{x y z:Operand}{k:IntKind}{a b c:Int}{i j q:Nat}[h:NatOf a i][h':NatOf b j][h'':NatOf c q](hx:evO l x=some (.int k a))(hy:evO l y=some (.int k b))(hz:evO l z=some (.int k c)):OV P (.call ⟨.builtin .min, #[x,y,z],T⟩) ty l H (.int k (min (min i j) q:Nat)):=ov fun _ _ _ w _=>by
 obtain rfl:=h.eq;obtain rfl:=h'.eq;obtain rfl:=h''.eq
 simp only[execOp,resolve,invoke,builtin]
 simp only[zar hx,zar hy,zar hz,Array.map,List.map]
 have h1:(Builtin.min_ T ty #[.int k (i:Int),.int k (j:Int),.int k (q:Int)]).run P w= .ok (.int k ((min (min i j) q:Nat):Int)) w:=by
  simp only[Builtin.min_,List.foldlM,Builtin.min2]
  by_cases h1:(j:Int)<i
  ·by_cases h2:(q:Int)<j
   ·simp[h1,h2];omega
   ·simp[h1,h2];omega
  ·by_cases h2:(q:Int)<i
   ·simp[h1,h2];omega
   ·simp[h1,h2];omega
 simp[zar hx,zar hy,zar hz,h1]
end Go.Eng
namespace Go.Proofs.YthafakdplhdfjaaGreatDoor
open Go.RowKit Go.Eng
theorem qqe(x:Nat)(h:x<4294967296):x&&& 4294967295=x:=by
 rw[show(4294967295:Nat)=2^32 - 1 from rfl,eX]
 exact bD h
theorem qab(n:Nat)(hn:n<65536)(w:World):Pu Tryz.prog 220 #[.int .u64 1,.int .u64 n] w (.tuple #[.int .u64 0,.int .u64 n]):=by
 refine zbn [_,_] Tryz.func220 rfl rfl ?_
 simp only[zaa,Nat.reduceAdd]
 have h1:=qqe 1 dQ
 have h2:=qqe n oQ
 have h3:n/2^32=0:=jN oQ
 have e1:1/2^32*(n&&& 4294967295)+1*(n&&& 4294967295)/2^32=0:=by
  rw[h2,jR,h3]
  omega
 refine goA ?_
 rw[h1]
 refine goA ?_
 rw[e1,Nat.zero_and]
 refine goA ?_
 rw[h3]
 refine goA ?_
 refine zie rfl rfl rfl ?_
 simp
theorem zvb(n:Nat)(hn:n<65536)(w:World):Pu Tryz.prog 188 #[.int .u64 1,.int .u64 n] w (.tuple #[.int .u64 0,.int .u64 n]):=by
 refine zbn [_,_] Tryz.func188 rfl rfl ?_
 simp only[zaa,Nat.reduceAdd]
 refine goA ?_
 refine lPu rfl (fun w1 hw1=>qab n hn w1) ?_
 refine goA ?_
 exact zie rfl rfl rfl rfl
theorem zhj(n:Nat)(hn:n≤8192)(w:World):Pu Tryz.prog 143 #[.string ⟨#[0]⟩,.int .i64 n] w (.string ⟨(List.replicate n (0:UInt8)).toArray⟩):=by
 refine zbn [_,_] Tryz.func143 rfl rfl ?_
 simp only[zaa,Nat.reduceAdd]
 refine goA ?_
 by_cases h0:n=0
 ·subst h0
  refine goA ?_
  exact zdk rfl rfl rfl
 by_cases h1:n=1
 ·subst h1
  refine goA ?_
  exact zdk rfl rfl rfl
 have hs:(⟨#[0]⟩:ByteArray).size=1:=rfl
 refine goA ?_
 rw[hs]
 refine lPu rfl (fun w1 hw1=>zvb n oQ w1) ?_
 refine goA ?_
 have hz:∀h,((⟨#[0]⟩:ByteArray)[0]'h).toNat=0:=fun _=>rfl
 simp only[hz]
 refine goA ?_
 refine zam rfl rfl fun b9 hb9=>?_
 refine goA ?_
 refine lCu [zof b9 none none 0] rfl (by first|(simp[zab,zac,mp_stable];done) |(intro it hm;(iterate 6 (all_goals try (rcases hm with _|⟨_,hm⟩)))<;>first|exact zad _|exact zab _ _ _|exact zac _ _ _ _ _ _)) (fun w1 hw1 hh1 ha1=>qdn b9 n oQ oQ w1 (hh1 _ (.head _))) fun⟨x,hx⟩=>?_
 obtain⟨o0,ho0⟩:∃o:Option (Nat×Nat),some x=o:=⟨_,rfl⟩
 rw[ho0]
 refine zcy (m':=blS b9 (some ⟨b9,0,none⟩) o0 []) (fun w' hw'=>(Hp.imp (it':=zrz 5 o0 0 []) (hw'.perm (zcg _ _ _)) (fun k h=>h) (fun h=>zoy h) (zbh _ _ _ _ _)).perm (zcg _ _ _)) ?_
 refine goA ?_
 refine lCu (blS b9 (some ⟨b9,0,none⟩) o0 []) rfl (by simp[zab,zbh]) (fun w1 hw1 hh1 ha1=>zjk b9 _ (.inr rfl) o0 [] [0] sQ w1 hh1 ha1) fun⟨x,hx⟩=>?_
 refine goA ?_
 refine zc0 (α:=Nat×Option (Nat×Nat)) (fun y=>[(7,.int .i64 n),(8,.int .i64 n),(9,.pointer (some ⟨b9,0,none⟩))]) (fun y=>1≤y.1∧y.1≤n)
  (fun y=>blS b9 (some ⟨b9,0,none⟩) y.2 (List.replicate y.1 0)) (fun y=>n - y.1) (1,x) ⟨rfl,rfl,rfl,trivial⟩ ⟨bA _,by simp only;omega⟩ (fun w' hw'=>hw') fun⟨j,o⟩ ⟨h2,h3⟩=>?_
 simp only at h2 h3⊢
 have hne:List.replicate j (0:UInt8)≠[]:=fun e=>by have:=congrArg List.length e;simp at this;omega
 have hlr:(List.replicate j (0:UInt8)).length=j:=cD ..
 have hbr:=bal (List.replicate j (0:UInt8))
 rw[hlr]at hbr
 by_cases hj:j<n
 ·refine goA ?_
  refine lPu rfl (fun w1 hw1=>zkd b9 _ o _ w1 (hw1.here (m:=[]) (by simp[zab,zbh]))) ?_
  rw[hlr]
  refine goA ?_
  refine lPu rfl (fun w1 hw1=>zkd b9 _ o _ w1 (hw1.here (m:=[]) (by simp[zab,zbh]))) ?_
  rw[hlr]
  refine goA ?_
  refine lPu rfl (fun w1 hw1=>zkd b9 _ o _ w1 (hw1.here (m:=[]) (by simp[zab,zbh]))) ?_
  rw[hlr]
  refine goA ?_
  refine l_w rfl (qrx rfl rfl rfl) ?_
  refine goA ?_
  refine lCu (blS b9 (some ⟨b9,0,none⟩) o (List.replicate j 0)) rfl (by simp[zab,zbh]) (fun w1 hw1 hh1 ha1=>zii b9 _ o _ hne w1 hh1 ha1) fun⟨x,hx⟩=>?_
  refine goA ?_
  generalize hc:min (min (n - j) j) n=c
  have hex:(⟨(List.replicate j (0:UInt8)).toArray⟩:ByteArray).extract 0 c=⟨(List.replicate c (0:UInt8)).toArray⟩:=qbf (by
   rw[ByteArray.data_extract]
   simp[iM,List.take_replicate]
   omega)
  rw[hex]
  refine lCu (blS b9 (some ⟨b9,0,none⟩) o (List.replicate j 0)) rfl (by simp[zab,zbh]) (fun w1 hw1 hh1 ha1=>zjk b9 _ (.inr rfl) o _ (List.replicate c 0) (by simp;omega) w1 hh1 ha1) fun⟨o',hx⟩=>?_
  rw[jI]
  refine goA ?_
  exact zaw (j+c,o') ⟨rfl,rfl,rfl,trivial⟩ ⟨by simp only;omega,by simp only;omega⟩ (fun w' hw'=>hw') (by simp only;omega)
 ·obtain rfl:j=n:=oQ
  refine goA ?_
  refine lPu rfl (fun w1 hw1=>zkd b9 _ o _ w1 (hw1.here (m:=[]) (by simp[zab,zbh]))) ?_
  rw[hlr]
  refine goA ?_
  refine lCu (blS b9 (some ⟨b9,0,none⟩) o (List.replicate j 0)) rfl (by simp[zab,zbh]) (fun w1 hw1 hh1 ha1=>zii b9 _ o _ hne w1 hh1 ha1) fun⟨x,hx⟩=>?_
  refine goA ?_
  exact zdk rfl rfl rfl
end Go.Proofs.YthafakdplhdfjaaGreatDoor
namespace Go.Eng
open Go.RowKit
variable{P:Program}{Q:Exit→Act→World→Prop}{N:Fm}{l:zav}{H:World→Prop}{ops:Array Oper}{rest:List Oper}{w0:World}{F:Nat→Prop}{m m':List Item}{ty:TypeId}{pos:String}{after:Array Edge}{g:Option (Nat×Bool)}{d:Nat}
section look
variable{x y z:Operand}{T k e:TypeId}{b:Nat}{A:List (List UInt8×Value)}{h:List UInt8}{zv v:Value}
end look
end Go.Eng
namespace Go.Proofs.YthafakdplhdfjaaGreatDoor
open Go.RowKit Go.Eng
theorem zpg(a:Option Addr)(n c:Nat)(bs:List UInt8)(hn:bs.length=n)(hz:n≤1000000000)(w:World)(hr:Rd w a (zae bs)):
  Ct Tryz.prog 87 #[.slice a n c] w none' (fun o:Option (Nat×Nat)=>slV o n) (fun _=>True) (fun o=>[own 5 1 o n (zae bs)]):=by
 refine zes [_] Tryz.func87 rfl rfl ?_
 simp only[zaa]
 refine goA ?_
 refine l_w rfl (qrv rfl rfl rfl) ?_
 cases a with
 |none=>
  have hz:bs=[]:=by
   rcases hr with h|⟨b,off,h, -⟩
   ·cases bs with|nil=>rfl|cons x r=>simp[zae]at h
   ·cases h
  subst hz
  subst hn
  refine goA ?_
  refine zbr (fun w hw=>zd1 5 1 hw) ?_
  exact zbd none rfl rfl rfl trivial (.cons_cons _ (aK _)) (by simp[zac])
 |some a=>
  refine goA ?_
  refine za1 rfl (qky (e:=5) (sz:=1) rfl rfl rfl) fun⟨b,hb⟩=>?_
  refine goA ?_
  refine za1 rfl (zdh (o:=some (b,0)) (n:=0) (news:=zae bs) rfl rfl rfl rfl rfl rfl (by rw[zan,hn,bO]) (zdd _) oQ (fun w' hw' j v hj=>?_)) fun o=>?_
  ·rcases hr with h|⟨b2,off,h,h2⟩
   ·rw[h]at hj;simp at hj
   ·cases h
    rw[zde]
    exact hw'.old (fun h=>h) (h2 j v hj)
  rw[aH,aJ]
  refine goA ?_
  exact zbd o rfl rfl rfl trivial (.cons_cons _ (aK _)) (by simp[zac])
abbrev pks(b:Nat)(o:Option (Nat×Nat))(xs:List UInt8):List Eng.Item:=[own 5 1 o xs.length (zae xs),pt b (.cells #[slV o xs.length,.int .i64 0] 156 (0,0))]
theorem zg6(w:World):Ct Tryz.prog 49 #[] w none' (fun b:Nat=>.pointer (some ⟨b,0,none⟩)) (fun _=>True) (fun b=>pks b none []):=by
 refine zes [] Tryz.func49 rfl rfl ?_
 simp only[zaa]
 refine goA ?_
 refine zbp rfl rfl fun b hb=>?_
 refine goA ?_
 refine zbr (fun w hw=>zd1 5 1 hw) ?_
 exact zbd b rfl rfl rfl trivial (.refl _) (by simp[zac,zab])
theorem zkt(n:Nat)(h:n=1∨n=2∨n=4∨n=8)(w:World):Pu Tryz.prog 85 #[.int .i64 n] w (.bool true):=by
 refine zbn [_] Tryz.func85 rfl rfl ?_
 simp only[zaa]
 rcases h with rfl|rfl|rfl|rfl
 all_goals
  refine goA ?_
  exact zdk rfl rfl rfl
theorem zkn{α:Type}(b:Nat)(o:Option (Nat×Nat))(xs bs:List UInt8)(f:FuncId)(cs:List Value)(ad:α→Addr)(cp:α→Nat)(it:α→Eng.Item)(hst:∀x,(it x).Stable none')(hf:za7 Tryz.prog f=true)(hz:xs.length+bs.length≤1000000000)(w:World)
  (hw:∀it∈pks b o xs,zbq it w) (ha:(pks b o xs).Pairwise Eng.Item.Apart)
  (hmk:∀w1,Hp w (za4 (pks b o xs)) (pks b o xs) w1→Ct Tryz.prog f cs.toArray w1 none' (fun x:α=>.slice (some (ad x)) bs.length (cp x)) (fun _=>True) (fun x=>[it x]))
  (hrd:∀x w1,(it x).prop w1→Fr (za4 (pks b o xs)) w w1→∀(j:Nat) (u:Value),(zae bs)[j]? =some u→w1.cell? ((ad x).add j)=some u):
  Ct Tryz.prog 84 #[.pointer (some ⟨b,0,none⟩),.bool true,.func (.func f) #[] cs.toArray] w (za4 (pks b o xs)) (fun _:Option (Nat×Nat)=>.pointer (some ⟨b,0,none⟩)) (fun _=>True) (fun o'=>pks b o' (xs++bs)):=by
 refine za2 [_,_,_] _ Tryz.func84 rfl rfl hw ha ?_
 simp only[zaa,Nat.reduceAdd]
 refine goA ?_
 refine zap [1] 10 rfl rfl kQ ?_
 refine goE ?_
 refine zat 6 ⟨kQ,dQ⟩ rfl rfl (qsy (fs:=[]) (cs:=cs) rfl hf rfl rfl rfl (fun w1 hw1=>hmk w1 hw1)) (fun _ _ h=>goH h) fun⟨x,hx⟩=>?_
 refine goE ?_
 refine zat 7 ⟨kQ,dQ⟩ rfl rfl (zah (zcg _ _ _) (zdh (news:=zae bs) rfl rfl rfl rfl rfl rfl (by rw[zan,bO]) (zdd _) oQ (fun w' hw' j v hj=>hrd x w' (hw'.item (it x) sQ).1 hw'.fr j v hj))) (fun _ _ h=>goH h) fun o'=>?_
 refine goE ?_
 refine zet ⟨kQ,kQ⟩ rfl rfl (zah (zdf _ _ _ _) (zai rfl rfl rfl rfl (zct _ _) (zc3 _ _) sQ)) fun _=>?_
 rw[←zke,←aA]
 refine goA ?_
 refine zgf [1,0] rfl rfl ?_
 exact zbd o' rfl rfl rfl trivial (.refl _) (by simp[zac,zab])
theorem zs6{w0 w:World}{F:Nat→Prop}{pre m:List Eng.Item}(hw:Hp w0 F (pre++m) w){b:Nat}{o:Obj}(hm:pt b o∈m):¬za4 pre b:=fun⟨it,h1,h2⟩=>(bN.1 hw.apart).2.2 it h1 _ hm b h2 rfl
theorem qay(bx:Nat)(s:ByteArray)(w:World)(hc:w.cell? ⟨bx,0,none⟩=some (.string s)):
  Ct Tryz.prog 179 #[.pointer (some ⟨bx,0,none⟩)] w none' (fun p:Nat×Nat=>.slice (some ⟨p.1,0,none⟩) s.data.toList.length p.2) (fun _=>True) (fun p=>[zmk 5 s.data.toList p.1 p.2]):=by
 refine zes [_] Tryz.func179 rfl rfl ?_
 simp only[zaa]
 refine goA ?_
 refine l_w rfl (ze3 rfl rfl (fun h=>h) hc) ?_
 refine za1 rfl (zs3 rfl rfl rfl rfl) fun⟨p,h1,h2⟩=>?_
 refine goA ?_
 rw[zo9]
 exact zbd p rfl rfl rfl trivial (.cons_cons _ (aK _)) (by simp[zab])
theorem zen(b:Nat)(o:Option (Nat×Nat))(xs:List UInt8)(s:ByteArray)(hz:xs.length+s.size≤1000000000):
  Cw Tryz.prog 127 #[.pointer (some ⟨b,0,none⟩),.string s] (pks b o xs) (fun _:Option (Nat×Nat)=>.pointer (some ⟨b,0,none⟩)) (fun _=>True) (fun o'=>pks b o' (xs++s.data.toList)):=by
 intro w hw ha
 refine za2 [_,_] _ Tryz.func127 rfl rfl hw ha ?_
 simp only[zaa,Nat.reduceAdd]
 refine goA ?_
 refine zc9 rfl rfl rfl fun bx hbx=>?_
 refine goA ?_
 refine l_w rfl (zhw rfl) ?_
 refine zgb (zdf _ _ _ _) ?_
 refine zgb (zdf _ _ _ _) ?_
 refine lCu [own _ _ _ _ _,pt b _] rfl (by first|(simp[zab,zac,mp_stable];done) |(intro it hm;(iterate 6 (all_goals try (rcases hm with _|⟨_,hm⟩)))<;>first|exact zad _|exact zab _ _ _|exact zac _ _ _ _ _ _)) (fun w1 hw1 hh1 ha1=>zkn b o xs s.data.toList 179 [.pointer (some ⟨bx,0,none⟩)] (fun p:Nat×Nat=>⟨p.1,0,none⟩) (fun p=>p.2) (fun p=>zmk 5 s.data.toList p.1 p.2) (fun p=>zab _ _ _) kQ (by rw[zo9];exact hz) w1 hh1 ha1 (fun w2 hw2=>qay bx s w2 (hw2.old (zs6 hw1 (.head _)) (zd4 (hw1.get (.tail _ (.tail _ (.head _)))) rfl))) (fun p w2 hp _ j v hj=>by rw[zde,aH];have:=zib hp j v hj;rwa[aH]at this)) fun⟨x,hx⟩=>?_
 refine goA ?_
 exact zbd x rfl rfl rfl trivial (.cons_cons _ (.cons_cons _ (aK _))) (by simp[zac,zab])
theorem ql6:∀(w n k:Nat),k<w→(beN w n)[k]? =some (UInt8.ofNat (n/256^(w - 1 - k)))
 |0,_,_,h=>oQ
 |w+1,n,k,h=>by
  rw[beN]
  by_cases hk:k<w
  ·rw[cK (by rw[zal];exact hk),ql6 w (n/256) k hk,Nat.div_div_eq_div_mul,show w+1 - 1 - k=(w - 1 - k)+1 by omega,gR,kA]
  ·obtain rfl:k=w:=oQ
   rw[cZ (by rw[zal];omega),zal,show k+1 - 1 - k=0 by omega,lD]
   simp
theorem qjm{w n k:Nat}(h:k<w):(beN w n).take (k+1)=(beN w n).take k++[UInt8.ofNat (n/256^(w - 1 - k))]:=by
 rw[cV,ql6 w n k h];rfl
theorem qmn(j:Nat):2^(8*j)=256^j:=by rw[Nat.pow_mul]
theorem zs9(b4 b5 wd n:Nat)(h:1≤wd∧wd≤8)(w:World)(h4:w.cell? ⟨b4,0,none⟩=some (.int .i64 wd))(h5:w.cell? ⟨b5,0,none⟩=some (.int .u64 n)):
  Ct Tryz.prog 86 #[.pointer (some ⟨b4,0,none⟩),.pointer (some ⟨b5,0,none⟩)] w none' (fun p:Nat×Nat=>.slice (some ⟨p.1,0,none⟩) wd p.2) (fun _=>True) (fun p=>[own 5 1 (some p) wd (zae (beN wd n))]):=by
 refine zes [_,_] Tryz.func86 rfl rfl ?_
 simp only[zaa,Nat.reduceAdd]
 refine goA ?_
 refine l_w rfl (ze3 rfl rfl (fun h=>h) h4) ?_
 refine goA ?_
 refine zc0 (α:=Nat×Option (Nat×Nat)) (fun y=>[(0,.pointer (some ⟨b4,0,none⟩)),(1,.pointer (some ⟨b5,0,none⟩)),(3,slV y.2 y.1),(4,.int .i64 ((wd:Int) - 1 - y.1))]) (fun y=>y.1≤wd) (fun y=>[own 5 1 y.2 y.1 (zae ((beN wd n).take y.1))]) (fun y=>wd - y.1) (0,none) ⟨rfl,rfl,rfl,by show some (Value.int .i64 (((wd - 1:Nat):Int)))=some (Value.int .i64 ((wd:Int) - 1 - (0:Nat)));congr 2;omega,trivial⟩ (aZ _) (fun w' hw'=>zd1 5 1 hw') fun⟨k,o⟩ hk=>?_
 simp only at hk⊢
 by_cases hk2:k<wd
 ·obtain⟨j,hj⟩:∃j:Nat,(wd:Int) - 1 - k=j:=⟨wd - 1 - k,oQ⟩
  rw[hj]
  have hjw:wd - 1 - k=j:=oQ
  have hj8:j≤7:=oQ
  refine goA ?_
  refine l_w rfl (ze3 rfl rfl (fun h=>h) h5) ?_
  refine goA ?_
  refine l_w rfl (qs6 rfl rfl rfl) ?_
  have hb:(Value.int .u8 ((n/2^(8*j)%256:Nat):Int))= .int .u8 ((UInt8.ofNat (n/256^j)).toNat:Int):=by rw[qmn];simp
  rw[hb]
  refine za1 rfl (za3 rfl rfl rfl rfl rfl rfl) fun⟨bq,hbq⟩=>?_
  refine goA ?_
  refine za1 rfl (zah (zcg _ _ _) (zdh (news:=zae [UInt8.ofNat (n/256^j)]) rfl rfl rfl rfl rfl rfl rfl rfl oQ (fun w' hw' i v hi=>by rw[zde,aH];exact zby (hw'.item _ (.tail _ (.head _))).1 i v hi))) fun o'=>?_
  refine goA ?_
  refine l_w rfl (ztv rfl rfl oQ) ?_
  refine goA ?_
  refine zaw (k+1,o') ⟨rfl,rfl,rfl,by show some (Value.int .i64 ((j:Int) - 1))=some (Value.int .i64 ((wd:Int) - 1 - ((k+1:Nat):Int)));congr 2;omega,trivial⟩ hk2 (fun w' hw'=>?_) (by simp only;omega)
  rw[qjm hk2,hjw,zke]
  exact hw'.sub (.cons_cons _ (aK _))
 ·obtain rfl:k=wd:=oQ
  refine goA ?_
  have ht:(beN k n).take k=beN k n:=bJ (by rw[zal];exact bA _)
  rw[ht]
  match o with
  |none=>exact qi7 (fun w hw=>show False by have h1:k=0:=(hw.item _ (.head _)).1.2;omega) fun h=>h.elim
  |some o=>exact zbd o rfl rfl rfl trivial (.refl _) (by simp[zac])
theorem zdr(b:Nat)(o:Option (Nat×Nat))(xs:List UInt8)(wd n:Nat)(hd:wd=1∨wd=2∨wd=4)(hn:n<256^wd)(hz:xs.length≤900000000):
  Cw Tryz.prog 50 #[.pointer (some ⟨b,0,none⟩),.int .i64 wd,.int .u64 n] (pks b o xs) (fun _:Option (Nat×Nat)=>.pointer (some ⟨b,0,none⟩)) (fun _=>True) (fun o'=>pks b o' (xs++beN wd n)):=by
 intro w hw ha
 refine za2 [_,_,_] _ Tryz.func50 rfl rfl hw ha ?_
 simp only[zaa,Nat.reduceAdd]
 have hd8:1≤wd∧wd≤8:=oQ
 have hne:¬(wd:Int)=8:=oQ
 have hsh:n/2^(8*min 7 wd)=0:=by
  rw[show min 7 wd=wd by omega,qmn]
  exact jN hn
 have h7:8*min 7 wd<64:=oQ
 refine goA ?_
 refine zc9 rfl rfl rfl fun b4 hb4=>?_
 refine goA ?_
 refine zc9 rfl rfl rfl fun b5 hb5=>?_
 refine goA ?_
 refine lPu rfl (fun w1 hw1=>zkt wd oQ w1) ?_
 refine goA ?_
 refine l_w rfl (qs8 rfl rfl) ?_
 refine goA ?_
 rw[hsh]
 refine goA ?_
 refine l_w rfl (zhw rfl) ?_
 refine zay [2,3,1,0] rfl rfl ?_
 refine lCu [own _ _ _ _ _,pt b _] rfl (by first|(simp[zab,zac,mp_stable];done) |(intro it hm;(iterate 6 (all_goals try (rcases hm with _|⟨_,hm⟩)))<;>first|exact zad _|exact zab _ _ _|exact zac _ _ _ _ _ _)) (fun w1 hw1 hh1 ha1=>zkn b o xs (beN wd n) 86 [.pointer (some ⟨b4,0,none⟩),.pointer (some ⟨b5,0,none⟩)] (fun p:Nat×Nat=>⟨p.1,0,none⟩) (fun p=>p.2) (fun p=>own 5 1 (some p) wd (zae (beN wd n))) (fun p=>zac _ _ _ _ _ _) kQ (by rw[zal];omega) w1 hh1 ha1 (fun w2 hw2=>by rw[zal];exact zs9 b4 b5 wd n hd8 w2 (hw2.old (zs6 hw1 (.head _)) (zd4 (hw1.get (.tail _ (.tail _ (.head _)))) rfl)) (hw2.old (zs6 hw1 (.tail _ (.head _))) (zd4 (hw1.get (.tail _ (.tail _ (.tail _ (.head _))))) rfl))) (fun p w2 hp _ j v hj=>by rw[zde,aH];exact zby hp j v hj)) fun⟨x,hx⟩=>?_
 refine goA ?_
 exact zbd x rfl rfl rfl trivial (.cons_cons _ (.cons_cons _ (aK _))) (by simp[zac,zab])
theorem qac(bx:Nat)(s:ByteArray)(hs:s.size<256)(w:World)(hc:w.cell? ⟨bx,0,none⟩=some (.string s)):
  Ct Tryz.prog 258 #[.pointer (some ⟨bx,0,none⟩)] w none' (fun p:Nat×Nat=>.slice (some ⟨p.1,0,none⟩) (1+s.size) p.2) (fun _=>True) (fun p=>[own 5 1 (some p) (1+s.size) (zae (beN 1 s.size++s.data.toList))]):=by
 refine zes [_] Tryz.func258 rfl rfl ?_
 simp only[zaa]
 refine goA ?_
 refine l_w rfl (ze3 rfl rfl (fun h=>h) hc) ?_
 refine goA ?_
 have hb:(Value.int .u8 (s.size:Int))= .int .u8 ((UInt8.ofNat s.size).toNat:Int):=by simp;omega
 rw[hb]
 refine za1 rfl (za3 rfl rfl rfl rfl rfl rfl) fun⟨bq,hbq⟩=>?_
 refine goA ?_
 refine l_w rfl (ze3 rfl rfl (fun h=>h) hc) ?_
 refine za1 rfl (qb5 (o:=some (bq,1)) rfl rfl rfl rfl rfl rfl oQ) fun o'=>?_
 refine goA ?_
 match o' with
 |none=>exact qi7 (fun w hw=>show False by have h1:1+s.size=0:=(hw.item _ (.head _)).1.2;omega) fun h=>h.elim
 |some o=>
  exact zbd o rfl rfl rfl trivial (.refl _) (by simp[zac])
theorem qdz(b:Nat)(o:Option (Nat×Nat))(xs:List UInt8)(s:ByteArray)(hs:s.size<256)(hz:xs.length≤900000000):
  Cw Tryz.prog 234 #[.pointer (some ⟨b,0,none⟩),.string s] (pks b o xs) (fun _:Option (Nat×Nat)=>.pointer (some ⟨b,0,none⟩)) (fun _=>True) (fun o'=>pks b o' (xs++(beN 1 s.size++s.data.toList))):=by
 intro w hw ha
 refine za2 [_,_] _ Tryz.func234 rfl rfl hw ha ?_
 simp only[zaa,Nat.reduceAdd]
 have hl:(beN 1 s.size++s.data.toList).length=1+s.size:=by rw[aA,zal,zo9]
 refine goA ?_
 refine zc9 rfl rfl rfl fun bx hbx=>?_
 refine goA ?_
 refine zd2 8 _ (.bool true) rfl (by rw[decide_eq_true];omega) ?_
 refine l_w rfl (zhw rfl) ?_
 refine zgb (zdf _ _ _ _) ?_
 refine zgb (zdf _ _ _ _) ?_
 refine lCu [own _ _ _ _ _,pt b _] rfl (by first|(simp[zab,zac,mp_stable];done) |(intro it hm;(iterate 6 (all_goals try (rcases hm with _|⟨_,hm⟩)))<;>first|exact zad _|exact zab _ _ _|exact zac _ _ _ _ _ _)) (fun w1 hw1 hh1 ha1=>zkn b o xs (beN 1 s.size++s.data.toList) 258 [.pointer (some ⟨bx,0,none⟩)] (fun p:Nat×Nat=>⟨p.1,0,none⟩) (fun p=>p.2) (fun p=>own 5 1 (some p) (1+s.size) (zae (beN 1 s.size++s.data.toList))) (fun p=>zac _ _ _ _ _ _) kQ (by rw[hl];omega) w1 hh1 ha1 (fun w2 hw2=>by rw[hl];exact qac bx s hs w2 (hw2.old (zs6 hw1 (.head _)) (zd4 (hw1.get (.tail _ (.tail _ (.head _)))) rfl))) (fun p w2 hp _ j v hj=>by rw[zde,aH];exact zby hp j v hj)) fun⟨x,hx⟩=>?_
 refine goA ?_
 exact zbd x rfl rfl rfl trivial (.cons_cons _ (.cons_cons _ (aK _))) (by simp[zac,zab])
theorem zdv(b:Nat)(o:Option (Nat×Nat))(xs:List UInt8)(hz:xs.length≤900000000):
  Cw Tryz.prog 51 #[.pointer (some ⟨b,0,none⟩)] (pks b o xs) (fun o':Option (Nat×Nat)=>.tuple #[slV o' xs.length,.int .i64 0]) (fun _=>True) (fun o'=>own 5 1 o' xs.length (zae xs)::pks b o xs):=by
 intro w hw ha
 refine za2 [_] _ Tryz.func51 rfl rfl hw ha ?_
 simp only[zaa]
 refine goA ?_
 refine zch (fun w hw=>(zas (hw.item (own 5 1 o xs.length (zae xs)) sQ).1)) fun⟨hsl,hcap⟩=>?_
 rw[hsl]
 refine zdy rfl rfl kQ rfl (fun w1 hw1=>zpg (slA o) xs.length (slC o) xs rfl oQ w1 (za8 (hw1.item (own 5 1 o xs.length (zae xs)) sQ).1)) fun x hx=>?_
 refine goA ?_
 rw[←hsl]
 exact zc1 x rfl rfl rfl rfl trivial (.refl _) (by simp[zac,zab])
end Go.Proofs.YthafakdplhdfjaaGreatDoor
namespace Go.Proofs.YthafakdplhdfjaaGreatDoor
open Go.Eng
end Go.Proofs.YthafakdplhdfjaaGreatDoor
namespace Go.Proofs.YthafakdplhdfjaaGreatDoor
open Go.Eng
def zgd(o:Opn):Bys×Opn:=if o.2 then([],o)else match o.1 with
 | []=>([],([],true))
 |c::r=>if r.length<c.toNat then([],(c::r,true))else(r.take c.toNat,(r.drop c.toNat,false))
end Go.Proofs.YthafakdplhdfjaaGreatDoor
