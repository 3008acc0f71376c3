/- Parts: package wal; node; Functions of three results. No condition. -/
import Derived.Test.YthafakdplhdfjaaGreatDoorHf06
import Derived.Test.YthafakdplhdfjaaGreatDoorHf02
import Derived.Test.YthafakdplhdfjaaGreatDoorHf05
import Derived.Test.YthafakdplhdfjaaGreatDoorHf01
import Derived.Scope
set_option maxRecDepth 100000
set_option maxHeartbeats 40000000
namespace Go.Eng
variable{w0:World}{F:Nat→Prop}{m:List Item}
theorem Hp.still{x y:Item}{w w':World}(hw:Hp w0 F (x::m) w)(hm:y∈m)(hs:y.Stable none')(hf:Fr (za4 [x]) w w'):y.prop w':=
 hs w w' (fun k hk=>by
  rcases hk with hk|hk
  ·exact hk.elim
  ·refine hf.block k ((hw.item y (.tail _ hm)).2.2 k hk).1 (fun hx=>?_)
   obtain⟨it,hit,hik⟩:=hx
   rw[aN]at hit
   subst hit
   exact(bP.1 hw.apart).1 y hm k hik hk) (hw.item y (.tail _ hm)).1
theorem zoc{P:Program}{l:zav}{H:World→Prop}{ty:TypeId}{T:Array TypeId}{x y:Operand}{k k':IntKind}{a b c:Int}(hx:evO l x=some (.int k a))(hy:evO l y=some (.int k' b))(he:max a b=c):OV P (.call ⟨.builtin .max, #[x,y],T⟩) ty l H (.int k c):=ov fun _ _ _ w _=>by
 subst he
 simp only[execOp,resolve,invoke,builtin]
 simp[zar hx,zar hy,run_max_int2]
 split<;>omega
end Go.Eng
namespace Go.Proofs.YthafakdplhdfjaaGreatDoor
open Go.RowKit Go.Eng
def za9(seq n:Nat):Nat:=2+seq%n
theorem zqi(seq n:Nat)(hs:seq<18446744073709551616)(hn0:0<n)(hn:n<1000000)(w:World):Pu Tryz.prog 186 #[.int .u64 seq,.int .i64 n] w (.int .i64 (za9 seq n:Nat)):=by
 refine zbn [_,_] Tryz.func186 rfl rfl ?_
 simp only[zaa,Nat.reduceAdd]
 refine goA ?_
 obtain⟨r,hr⟩:∃r,seq%n=r:=⟨_,rfl⟩
 have hrn:r<n:=by rw[←hr];exact dY _ hn0
 have hp:za9 seq n=2+r:=by rw[za9,hr]
 rw[hr,hp]
 refine goA ?_
 exact zdk rfl rfl rfl
def zaz(i:Int):Nat:=if i≤0 then 1 else 0
theorem zli(i:Int)(hi:i= -1∨i=0∨i=1)(w:World):Pu Tryz.prog 173 #[.int .i64 i] w (.int .i64 (zaz i:Nat)):=by
 refine zbn [_] Tryz.func173 rfl rfl ?_
 simp only[zaa]
 rcases hi with rfl|rfl|rfl
 ·refine goA ?_
  refine l_w rfl (zoc (c:=0) rfl rfl dQ) ?_
  refine goA ?_
  refine l_w rfl (zoc (c:=1) rfl rfl dQ) ?_
  refine goA ?_
  exact zdk rfl rfl rfl
 ·refine goA ?_
  refine l_w rfl (zoc (c:=0) rfl rfl dQ) ?_
  refine goA ?_
  refine l_w rfl (zoc (c:=1) rfl rfl dQ) ?_
  refine goA ?_
  exact zdk rfl rfl rfl
 ·refine goA ?_
  refine l_w rfl (zoc (c:=1) rfl rfl dQ) ?_
  refine goA ?_
  refine l_w rfl (zoc (c:=0) rfl rfl dQ) ?_
  refine goA ?_
  exact zdk rfl rfl rfl
def ctI:Eng.Item:=⟨fun k=>k=1,fun w=>zo8 w⟩
theorem zcb(ro:Nat→Prop):ctI.Stable ro:=fun _ _ h ht=>⟨(h _ (.inr rfl)).trans ht.obj⟩
theorem zuc(d:Dk)(ok:d.D.Ok)(hkl:d.D.keep.length≤1000000)(hwl:d.D.wait.length≤1000000)(at_:Nat)(hat:at_<9223372036854775808)(s:Bys)(n:Nat)(hn:s.length=n)(a:Option Addr)(c:Nat)(hsl:n≤1000000)(w:World)(hw:∀it∈[dkI d],zbq it w)(hr:∀w',Fr (za4 [dkI d]) w w'→Rd w' a (zae s)):
  Ct Tryz.prog 126 #[.pointer (some ⟨d.b,0,none⟩),.int .i64 at_,.slice a n c] w (za4 [dkI d]) (fun _:Dk=>.int .i64 ((zbz d.D at_ s).1:Nat)) (zfz d (zbz d.D at_ s).2) (fun d'=>[dkI d']):=by
 subst hn
 exact zwy d ok hkl hwl at_ hat s a c hsl w hw hr
theorem zj9{D:Dsk}(ok:D.Ok)(at_:Nat)(s:Bys)(h0:(zbz D at_ s).1=0):(zbz D at_ s).2.Ok∧(zbz D at_ s).2.keep=D.keep∧(zbz D at_ s).2.wait=D.wait++[(s,at_)]∧(zbz D at_ s).2.on=D.on∧s.length=512∧at_<D.on.length:=by
 unfold zbz at h0⊢
 by_cases hd:D.dead=true
 ·rw[if_pos hd]at h0;cases h0
 ·rw[if_neg hd]at h0⊢
  by_cases ha:at_<D.on.length
  ·rw[if_neg (fun h=>h ha)]at h0⊢
   by_cases hl:s.length=512
   ·rw[if_neg (fun h=>h hl)]at h0⊢
    by_cases he:(zhb D).1=0
    ·obtain⟨hw,ho,hdd,hk⟩:=zkb he
     rw[if_pos he]
     have hok:=zr7 ok
     refine⟨⟨hok.size,fun p hp=>?_,hok.many,hok.left⟩,hk,by simp only;rw[hw],ho,hl,ha⟩
     rcases aR.1 hp with hp|hp
     ·exact hok.wsize p hp
     ·rw[aN]at hp
      subst hp
      exact⟨hl,by simp only;rw[ho];exact ha⟩
    ·rw[if_neg he]at h0;exact absurd h0 he
   ·rw[if_pos hl]at h0;cases h0
  ·rw[if_pos ha]at h0;cases h0
def zbc(D:Dsk)(at_:Nat)(h:Hd):Nat×Dsk:=if (zbz D at_ (hdP h)).1=0 then zbi (zbz D at_ (hdP h)).2 else zbz D at_ (hdP h)
theorem zrf(d:Dk)(ok:d.D.Ok)(hkl:d.D.keep.length≤1000000)(hwl:d.D.wait.length≤1000000)(at_:Nat)(hat:at_<9223372036854775808)(s:Hd)(hs:s.Ok):
  Cw Tryz.prog 172 #[.pointer (some ⟨d.b,0,none⟩),.int .i64 at_,.agg (hdA s)] [dkI d,ctI] (fun _:Dk=>.int .i64 ((zbc d.D at_ s).1:Nat)) (zfz d (zbc d.D at_ s).2) (fun d'=>[dkI d',ctI]):=by
 intro w hw ha
 refine za2 [_,_,_] _ Tryz.func172 rfl rfl hw ha ?_
 simp only[zaa,Nat.reduceAdd]
 refine goA ?_
 refine zbp rfl rfl fun b5 hb5=>?_
 refine goA ?_
 refine zdy rfl rfl kQ rfl (fun w1 hw1=>zsm s hs w1 (hw1.item ctI (.tail _ (.tail _ (.head _)))).1) fun x hx=>?_
 refine goA ?_
 refine zch (fun w hw=>(zas (hw.item (own 5 1 x 512 (zae (hdP s))) (.head _)).1)) fun⟨hsl,hcap⟩=>?_
 rw[hsl]
 refine zeh rfl (zah (zdf _ _ _ _) (zfb (pre:=[dkI d]) rfl kQ rfl (by first|(simp[zab,zac,mp_stable];done) |(intro it hm;(iterate 6 (all_goals try (rcases hm with _|⟨_,hm⟩)))<;>first|exact zad _|exact zab _ _ _|exact zac _ _ _ _ _ _)) (fun w1 hw1 hh1 ha1=>zuc d ok hkl hwl at_ hat (hdP s) 512 (zut hs.note) (slA x) (slC x) dQ w1 hh1 (fun w2 hw2=>za8 (hw1.still (.head _) (zac _ _ _ _ _ _) hw2))))) fun⟨x,hx⟩=>?_
 refine goA ?_
 unfold zbc
 by_cases he:(zbz d.D at_ (hdP s)).1=0
 ·obtain⟨hok,hk,hwt, -⟩:=zj9 ok at_ (hdP s) he
  rw[if_pos he,he]
  dsimp only
  obtain⟨h1,h2,h3⟩:=hx
  rw[←h3]at hok hk hwt⊢
  refine goA ?_
  rw[←h1]
  refine lCu [dkI x] rfl (by intro it hm;rcases hm with _|⟨_,hm⟩<;>first|exact zad _|exact(nomatch hm)) (fun w1 hw1 hh1 ha1=>zg4 x hok (by rw[hk];exact hkl) (by rw[hwt,aA];exact cH (Nat.add_le_add_right hwl 1) dQ) w1 hh1) fun⟨y,hy⟩=>?_
  dsimp only
  refine goA ?_
  exact zbd y rfl rfl rfl ⟨hy.1.trans h1,hy.2.1.trans h2,hy.2.2⟩ (.cons_cons _ (.cons _ (.cons _ (.refl _)))) (by intro it hm;rcases hm with _|⟨_,_|⟨_,hm⟩⟩<;>first|exact zad _|exact zcb _|exact(nomatch hm))
 ·rw[if_neg he]
  dsimp only
  have hne:(((zbz d.D at_ (hdP s)).1:Int) != 0)=true:=by simp[he]
  rw[hne]
  refine goA ?_
  exact zbd x rfl rfl rfl hx (.cons_cons _ (.cons _ (.cons _ (.refl _)))) (by intro it hm;rcases hm with _|⟨_,_|⟨_,hm⟩⟩<;>first|exact zad _|exact zcb _|exact(nomatch hm))
end Go.Proofs.YthafakdplhdfjaaGreatDoor
namespace Go.Proofs.YthafakdplhdfjaaGreatDoor
open Go.RowKit Go.Eng Go.Eng.Tr
def zw0(n:Nd):List Bys:=if n.leaf then(n.keys.zip n.vals).map fun p=>p.1++p.2 else n.keys
theorem qfy(n:Nd):(zw0 n).flatten=qe0 n:=by
 unfold zw0 qe0
 cases n.leaf with
 |true=>simp only[if_true];rw[List.flatMap_def]
 |false=>simp only[bT,if_false];rw[List.flatMap_id]
theorem zyr{L:List Bys}{i:Nat}{x:Bys}(h:L[i]? =some x):(L.take (i+1)).flatten=(L.take i).flatten++x:=by
 rw[cV,h,List.flatten_append]
 simp
theorem qim{L:List Nat}{i x:Nat}(h:L[i]? =some x):(L.take (i+1)).flatMap (beN 2)=(L.take i).flatMap (beN 2)++beN 2 x:=by
 rw[cV,h,bB]
 simp
theorem qf2:∀(L:List Bys) (c:Nat),(∀x∈L,x.length≤c)→L.flatten.length≤L.length*c
 | [],_,_=>by simp
 |x::L,c,h=>by
  have h1:=h x (.head _)
  have h2:=qf2 L c fun y hy=>h y (.tail _ hy)
  rw[List.flatten_cons,aA,aW,Nat.succ_mul]
  omega
theorem zju(k:K):(kB k).size=k.length:=aI
theorem qgs(k:K):(kB k).data.toList=k:=rfl
open Classical in
theorem zsy{s:Sh}(hs:ShB s)(n:Nd)(a:Pl)(hb:NdB n)(w:World)(hr:NdR w n a):Ct Tryz.prog 159 #[shV s,ndV n a] w none'
  (fun x:Option (Option (Nat×Nat))=>match x with|none=>.tuple #[.slice none 0 0,.int .i64 2] |some o=>.tuple #[slV o 512,.int .i64 0]) (fun x=>x.isSome=decide (zf8 s n)) (fun x=>match x with|none=>[] |some o=>[own 5 1 o 512 (zae (zcl n))]):=by
 have hmay:=zh4 hs
 have hmn:=fun w' (h:Fr none' w w')=>qdv hs n a hb w' ⟨hr.k.fr h,hr.v.fr h,hr.d.fr h⟩
 have hbk:=hb.k
 have hbv:=hb.v
 have hbd:=hb.d
 obtain⟨⟨ka,kc⟩,⟨va,vc⟩,⟨da,dc⟩⟩:=a
 obtain⟨rk,rv,rd⟩:=hr
 simp only at rk rv rd
 refine zes [_,_] Tryz.func159 rfl rfl ?_
 unfold shV shI at hmay hmn⊢
 unfold ndV at hmn⊢
 simp only at hmn⊢
 obtain⟨lf,hlf⟩:∃x,n.leaf=x:=⟨_,rfl⟩
 obtain⟨nk,hnk⟩:∃x,n.keys.length=x:=⟨_,rfl⟩
 obtain⟨nv,hnv⟩:∃x,n.vals.length=x:=⟨_,rfl⟩
 obtain⟨nd,hnd⟩:∃x,n.kids.length=x:=⟨_,rfl⟩
 rw[hlf,hnk,hnv,hnd]at hmn⊢
 rw[hnk]at hbk
 rw[hnv]at hbv
 rw[hnd]at hbd
 simp only[zaa,Nat.reduceAdd]
 refine goA ?_
 refine zbp rfl rfl fun b1 hb1=>?_
 refine goA ?_
 refine zbp rfl rfl fun b2 hb2=>?_
 refine goA ?_
 refine lPu rfl (fun w1 hw1=>hmay w1) ?_
 refine goA ?_
 refine lPu rfl (fun w1 hw1=>hmn w1 hw1.fr) ?_
 refine goA ?_
 by_cases hm:zf8 s n
 ·rw[decide_eq_true hm]
  obtain⟨kd,hkd⟩:∃k,(if lf then 1 else 2:Nat)=k:=⟨_,rfl⟩
  have hk2:kd<256:=by rw[←hkd];split<;>omega
  have hkid:∀k∈n.kids,k<1024:=fun k hk=>by
   cases hl:n.leaf with
   |true=>rw[(hm.leaf hl).1]at hk;cases hk
   |false=>exact((hm.inner hl).1 k hk).2
  have hnk1:nk≤1024:=by
   have h2:=hs.k1
   have h3:=hs.k2
   have e1:s.cap≤508:=eW _ _
   have e2:s.fan≤508+s.kw:=eW _ _
   cases lf with
   |true=>have:=(hm.leaf hlf).2.2.2;omega
   |false=>have h5:=(hm.inner hlf).2.2;omega
  refine goA ?_
  refine zq3 (w0:=w) (F:=none') (α:=Unit) (fun _=>[(2,.pointer (some ⟨b1,0,none⟩)),(3,.pointer (some ⟨b2,0,none⟩)),(6,.int .u64 kd)]) (fun _=>True) (fun _=>[pt b2 (.cells #[.bool lf,.slice ka nk kc,.slice va nv vc,.slice da nd dc] 185 (0,0)),pt b1 (.cells #[.int .i64 s.kw,.int .i64 s.vw] 79 (0,0))]) ?_ fun _ _=>?_
  ·cases lf with
   |true=>
    rw[if_pos rfl]at hkd
    subst hkd
    refine goA ?_
    exact zep () ⟨rfl,rfl,rfl,trivial⟩ trivial (fun w' hw'=>hw')
   |false=>
    rw[if_neg dQ]at hkd
    subst hkd
    refine goA ?_
    exact zep () ⟨rfl,rfl,rfl,trivial⟩ trivial (fun w' hw'=>hw')
  ·refine goA ?_
   refine zap [0,1] 10 rfl rfl kQ ?_
   refine goE ?_
   refine zat 0 ⟨kQ,dQ⟩ rfl rfl (qhd rfl kQ rfl (fun w1 hw1=>zg6 w1)) (fun _ _ h=>goH h) fun⟨b,hb0⟩=>?_
   refine goE ?_
   refine zat 2 ⟨kQ,dQ⟩ rfl rfl (zfb (pre:=pks b none []) rfl kQ rfl (by simp[zab,zac]) (fun w1 hw1 hh1 ha1=>zdr b none [] 1 kd (.inl rfl) oQ dQ w1 hh1 ha1)) (fun _ _ h=>goH h) fun⟨o1,_⟩=>?_
   rw[aJ]
   refine goE ?_
   refine zat 3 ⟨kQ,dQ⟩ rfl rfl (zfb (pre:=pks b o1 (beN 1 kd)) rfl kQ rfl (by simp[zab,zac]) (fun w1 hw1 hh1 ha1=>zdr b o1 _ 1 0 (.inl rfl) oQ (by rw[zal];decide) w1 hh1 ha1)) (fun _ _ h=>goH h) fun⟨o2,_⟩=>?_
   refine goE ?_
   refine zat 8 ⟨kQ,dQ⟩ rfl rfl (zfb (pre:=pks b o2 (beN 1 kd++beN 1 0)) rfl kQ rfl (by simp[zab,zac]) (fun w1 hw1 hh1 ha1=>zdr b o2 _ 2 nk (.inr (.inl rfl)) oQ (by rw[aA,zal,zal];decide) w1 hh1 ha1)) (fun _ _ h=>goH h) fun⟨o3,_⟩=>?_
   refine goX ?_
   obtain⟨X0,hX0⟩:∃x,beN 1 kd++beN 1 0++beN 2 nk=x:=⟨_,rfl⟩
   have hX0l:X0.length=4:=by rw[←hX0];simp only[aA,zal]
   refine zc0 (α:=Nat×Option (Nat×Nat)) (fun y=>[(2,.pointer (some ⟨b1,0,none⟩)),(3,.pointer (some ⟨b2,0,none⟩)),(7,.pointer (some ⟨b,0,none⟩)),(35,.slice da nd dc),(36,.int .i64 nd),(37,.int .i64 y.1)]) (fun y=>y.1≤nd) (fun y=>pks b y.2 (X0++(n.kids.take y.1).flatMap (beN 2))++[pt b2 (.cells #[.bool lf,.slice ka nk kc,.slice va nv vc,.slice da nd dc] 185 (0,0)),pt b1 (.cells #[.int .i64 s.kw,.int .i64 s.vw] 79 (0,0))]) (fun y=>nd - y.1) (0,o3) ⟨rfl,rfl,rfl,rfl,rfl,rfl,trivial⟩ (aZ _) (fun w' hw'=>by rw[kJ,jM,bC,←hX0];exact hw') fun⟨i,o⟩ h1=>?_
   simp only at h1⊢
   have hfl:((n.kids.take i).flatMap (beN 2)).length=(n.kids.take i).length*2:=zkg _ _ 2 fun x _=>zal 2 x
   rw[aM]at hfl
   by_cases hi:i<nd
   ·obtain⟨b',off,rfl,hr'⟩:=rd.at_ (by intro h;have:=congrArg List.length h;rw[aD,eI]at this;omega)
    have hi':i<n.kids.length:=oQ
    obtain⟨kq,hkq⟩:∃x,n.kids[i]? =some x:=⟨_,aB hi'⟩
    have hget:(n.kids.map iV)[i]? =some (iV kq):=by rw[aO,hkq];rfl
    have hk1:kq<1024:=hkid kq (bI hkq)
    refine goA ?_
    refine l_w rfl (za0 rfl rfl (fun w' hw'=>za5 hr' (fun h=>h) hw' i (iV kq) hget)) ?_
    unfold iV
    refine goA ?_
    refine lCu (pks b o (X0++(n.kids.take i).flatMap (beN 2))) rfl (by simp[zab,zac]) (fun w1 hw1 hh1 ha1=>zdr b o _ 2 kq (.inr (.inl rfl)) oQ (by rw[aA,hfl,hX0l];omega) w1 hh1 ha1) fun⟨o',_⟩=>?_
    dsimp only
    rw[aG,←qim hkq]
    refine goA ?_
    exact zaw (i+1,o') ⟨rfl,rfl,rfl,rfl,rfl,rfl,trivial⟩ hi (fun w' hw'=>hw') (by simp only;omega)
   ·have he:n.kids.take i=n.kids:=bJ oQ
    rw[he]
    rw[he]at hfl
    refine goA ?_
    obtain⟨X1,hX1⟩:∃x,X0++n.kids.flatMap (beN 2)=x:=⟨_,rfl⟩
    have hX1l:X1.length≤300000:=by rw[←hX1,aA,hfl,hX0l];omega
    rw[hX1]
    have hEl:(zw0 n).length=nk:=by
     unfold zw0
     rw[hlf]
     cases lf with
     |true=>
      have:=(hm.leaf hlf).2.1
      rw[if_pos rfl,aD,jX,←this,hnk,lB]
     |false=>rw[if_neg bK];exact hnk
    have hEc:∀x∈zw0 n,x.length≤128:=fun x hx=>by
     have q2:=hs.k2
     have q3:=hs.v2
     unfold zw0 at hx
     rw[hlf]at hx
     cases lf with
     |true=>
      rw[if_pos rfl]at hx
      obtain⟨q,hq,rfl⟩:=aS.1 hx
      obtain⟨g1,g2⟩:=iR hq
      rw[aA,hm.wide _ g1,(hm.leaf hlf).2.2.1 _ g2]
      omega
     |false=>
      rw[if_neg bK]at hx
      rw[hm.wide x hx]
      omega
    refine zc0 (α:=Nat×Option (Nat×Nat)) (fun y=>[(2,.pointer (some ⟨b1,0,none⟩)),(3,.pointer (some ⟨b2,0,none⟩)),(7,.pointer (some ⟨b,0,none⟩)),(47,.slice ka nk kc),(48,.int .i64 nk),(49,.int .i64 y.1)]) (fun y=>y.1≤nk) (fun y=>pks b y.2 (X1++((zw0 n).take y.1).flatten)++[pt b2 (.cells #[.bool lf,.slice ka nk kc,.slice va nv vc,.slice da nd dc] 185 (0,0)),pt b1 (.cells #[.int .i64 s.kw,.int .i64 s.vw] 79 (0,0))]) (fun y=>nk - y.1) (0,o) ⟨rfl,rfl,rfl,rfl,rfl,rfl,trivial⟩ (aZ _) (fun w' hw'=>by rw[kJ,List.flatten_nil,bC];exact hw') fun⟨i,o⟩ h1=>?_
    simp only at h1⊢
    have hfl:=qf2 ((zw0 n).take i) 128 fun x hx=>hEc x (bY hx)
    rw[aM]at hfl
    obtain⟨Y,hY⟩:∃y,X1++((zw0 n).take i).flatten=y:=⟨_,rfl⟩
    have hYl:Y.length≤500000:=by rw[←hY,aA];omega
    by_cases hi:i<nk
    ·obtain⟨b',off,rfl,hr'⟩:=rk.at_ (by intro h;have:=congrArg List.length h;rw[aD,eI]at this;omega)
     have hi':i<n.keys.length:=oQ
     obtain⟨kq,hkq⟩:∃x,n.keys[i]? =some x:=⟨_,aB hi'⟩
     have hget:(n.keys.map kV)[i]? =some (kV kq):=by rw[aO,hkq];rfl
     have hk64:=hb.kl kq (bI hkq)
     rw[hY]
     refine goA ?_
     refine l_w rfl (za0 rfl rfl (fun w' hw'=>za5 hr' (fun h=>h) hw' i (kV kq) hget)) ?_
     unfold kV
     refine goA ?_
     refine lCu (pks b o Y) rfl (by simp[zab,zac]) (fun w1 hw1 hh1 ha1=>zen b o Y (kB kq) (by rw[zju];omega) w1 hh1 ha1) fun⟨o',_⟩=>?_
     dsimp only
     rw[qgs]
     cases lf with
     |true=>
      have hvn:=(hm.leaf hlf).2.1
      obtain⟨c',off2,rfl,hr2⟩:=rv.at_ (by intro h;have:=congrArg List.length h;rw[aD,eI]at this;omega)
      have hi2:i<n.vals.length:=oQ
      obtain⟨vq,hvq⟩:∃x,n.vals[i]? =some x:=⟨_,aB hi2⟩
      have hget2:(n.vals.map kV)[i]? =some (kV vq):=by rw[aO,hvq];rfl
      have hv64:=hb.vl vq (bI hvq)
      refine goA ?_
      refine l_w rfl (za0 rfl rfl (fun w' hw'=>za5 hr2 (fun h=>h) hw' i (kV vq) hget2)) ?_
      unfold kV
      refine goA ?_
      refine lCu (pks b o' (Y++kq)) rfl (by simp[zab,zac]) (fun w1 hw1 hh1 ha1=>zen b o' (Y++kq) (kB vq) (by rw[zju,aA];omega) w1 hh1 ha1) fun⟨o'',_⟩=>?_
      dsimp only
      rw[qgs]
      have hE:(zw0 n)[i]? =some (kq++vq):=by
       unfold zw0
       rw[hlf,if_pos rfl,aO,show(n.keys.zip n.vals)[i]? =some (kq,vq)from List.getElem?_zip_eq_some.2 ⟨hkq,hvq⟩]
       rfl
      have hZ:Y++kq++vq=X1++((zw0 n).take (i+1)).flatten:=by rw[zyr hE,←hY,aG,aG]
      rw[hZ]
      refine goA ?_
      exact zaw (i+1,o'') ⟨rfl,rfl,rfl,rfl,rfl,rfl,trivial⟩ hi (fun w' hw'=>hw') (by simp only;omega)
     |false=>
      have hE:(zw0 n)[i]? =some kq:=by
       unfold zw0
       rw[hlf,if_neg bK]
       exact hkq
      have hZ:Y++kq=X1++((zw0 n).take (i+1)).flatten:=by rw[zyr hE,←hY,aG]
      rw[hZ]
      refine goA ?_
      exact zaw (i+1,o') ⟨rfl,rfl,rfl,rfl,rfl,rfl,trivial⟩ hi (fun w' hw'=>hw') (by simp only;omega)
    ·have he:(zw0 n).take i=zw0 n:=bJ oQ
     rw[he,qfy]at hY⊢
     have hbody:Y=zog n:=by
      rw[←hY,←hX1,←hX0,←hkd]
      unfold zog
      rw[hlf,hnk]
      simp only[aG]
     rw[hY,hbody]
     have hbl:(zog n).length≤512:=zzg hs.k1 hm
     obtain⟨B,hB⟩:∃x,zog n=x:=⟨_,rfl⟩
     have hP:zcl n=B++List.replicate (512 - B.length) 0:=by rw[←hB];rfl
     rw[hB]at hbl⊢
     rw[hP]
     refine goA ?_
     refine lCu (pks b o B) rfl (by simp[zab,zac]) (fun w1 hw1 hh1 ha1=>zdv b o B oQ w1 hh1 ha1) fun⟨o6,_⟩=>?_
     dsimp only
     refine zch (fun w hw=>(zas (hw.item (own 5 1 o6 B.length (zae B)) (.head _)).1)) fun⟨hsl,hcap⟩=>?_
     rw[hsl]
     refine goA ?_
     refine l_w rfl (zoc (c:=((512 - B.length:Nat):Int)) rfl rfl oQ) ?_
     refine goA ?_
     refine lPu rfl (fun w1 hw1=>zhj (512 - B.length) oQ w1) ?_
     have hrl:(⟨(List.replicate (512 - B.length) (0:UInt8)).toArray⟩:ByteArray).size=512 - B.length:=by rw[bal,cD]
     rw[←hsl]
     refine za1 rfl (qb5 (e:=5) rfl rfl rfl rfl rfl rfl (by rw[hrl];omega)) fun o'=>?_
     rw[hrl,show B.length+(512 - B.length)=512 by omega,←zke]
     refine goA ?_
     exact zc1 (some o') rfl rfl rfl rfl rfl (.cons_cons _ (aK _)) (by simp[zac])
 ·rw[decide_eq_false hm]
  refine goA ?_
  exact zc1 none rfl rfl rfl rfl rfl (aK _) (fun _ h=>nomatch h)
end Go.Proofs.YthafakdplhdfjaaGreatDoor
namespace Go.Eng
open Go.RowKit
theorem qcu{P:Program}{Q:Exit→Act→World→Prop}{l:zav}{w0:World}{F:Nat→Prop}{m:List Item}{n id:Nat}{ds:List Deferred}{r:Option Nat}{x y:Code}{α:Type}(L:α→zav)(φ:α→Prop)(M:α→List Item)
  (h:HT P x (Exit.inBlock id (Exit.then (fun a w=>∃z,φ z∧St ⟨n,ds,r⟩ (L z) a∧Hp w0 F (M z) w) Q)) ⟨n,ds,r⟩ l (Hp w0 F m)) (k:∀z,φ z→HT P y Q ⟨n,ds,r⟩ (L z) (Hp w0 F (M z))):HT P x (Exit.inBlock id (Exit.then (WP P r y Q) Q)) ⟨n,ds,r⟩ l (Hp w0 F m):=by
 unfold HT at*
 refine fun a w s hw=>WP.mono (fun e a' w' q=>?_) (h a w s hw)
 have hn:∀a' w',(∃z,φ z∧St ⟨n,ds,r⟩ (L z) a'∧Hp w0 F (M z) w')→WP P r y Q a' w':=fun a' w' ⟨z,h1,h2,h3⟩=>k z h1 a' w' h2 h3
 cases e with
 |normal=>exact hn a' w' q
 |exit i=>
  simp only[Exit.inBlock]at q⊢
  split
  ·rename_i hi
   rw[if_pos hi]at q
   exact hn a' w' q
  ·rename_i hi
   rw[if_neg hi]at q
   exact q
 |_=>exact q
end Go.Eng
namespace Go.Proofs.YthafakdplhdfjaaGreatDoor
open Go.RowKit Go.Eng Go.Eng.Tr
structure Po where
 k:Option (Nat×Nat)
 v:Option (Nat×Nat)
 d:Option (Nat×Nat)
def ndO(n:Nd)(o:Po):Array Value:= #[.bool n.leaf,slV o.k n.keys.length,slV o.v n.vals.length,slV o.d n.kids.length]
def ndI(n:Nd)(o:Po):List Eng.Item:=[own 9 1 o.k n.keys.length (n.keys.map kV),own 9 1 o.v n.vals.length (n.vals.map kV),own 3 1 o.d n.kids.length (n.kids.map iV)]
def nd0:Nd:=⟨false,[],[],[]⟩
theorem zz6(s:Sh):∀(m:Nat) (st:Opn),(zer s false m st).2.1=[]
 |0,_=>rfl
 |m+1,(r,bad)=>by
  rw[zer]
  cases bad<;>simp
theorem zxl(s:Sh)(lf:Bool):∀(m:Nat) (st:Opn),(∀k∈(zer s lf m st).1,k.length≤s.kw)∧∀k∈(zer s lf m st).2.1,k.length≤s.vw
 |0,_=>⟨fun _ h=>(nomatch h),fun _ h=>(nomatch h)⟩
 |m+1,(r,bad)=>by
  rw[zer]
  cases bad with
  |true=>exact⟨fun _ h=>(nomatch h),fun _ h=>(nomatch h)⟩
  |false=>
   obtain⟨a1,a2⟩:=zxl s lf m (qe2 s lf (r,false)).2.2
   rw[if_neg bK]
   refine⟨fun k hk=>?_,fun k hk=>?_⟩
   ·rcases aL.1 hk with rfl|hk
    ·exact zqa s.kw (r,false)
    ·exact a1 k hk
   ·cases lf with
    |false=>cases hk
    |true=>
     rcases aL.1 hk with rfl|hk
     ·exact zqa s.vw _
     ·exact a2 k hk
theorem qaf{s:Sh}(hs:ShB s)(a:Option Addr)(n c:Nat)(bs:Bys)(hn:bs.length=n)(hz:n≤100000)(w:World)(hr:Rd w a (zae bs)):
  Ct Tryz.prog 194 #[shV s,.slice a n c] w none' (fun x:Option (Nd×Po)=>match x with|none=>.tuple #[.agg (ndO nd0 ⟨none,none,none⟩),.int .i64 3] |some p=>.tuple #[.agg (ndO p.1 p.2),.int .i64 0])
   (fun x=>x.map (·.1)=zq5 s bs) (fun x=>match x with|none=>[] |some p=>ndI p.1 p.2):=by
 have hmay:=zh4 hs
 refine zes [_,_] Tryz.func194 rfl rfl ?_
 unfold shV shI at hmay⊢
 simp only[zaa,Nat.reduceAdd]
 refine goA ?_
 refine zbp rfl rfl fun b1 hb1=>?_
 refine goA ?_
 refine zam rfl rfl fun b2 hb2=>?_
 refine goA ?_
 refine lPu rfl (fun w1 hw1=>hmay w1) ?_
 refine goA ?_
 refine zdy rfl rfl kQ rfl (fun w1 hw1=>zih a n c bs hn oQ w1 (hr.keep hw1)) fun x hx=>?_
 obtain⟨b,oD⟩:=x
 simp only at hx⊢
 refine goA ?_
 obtain⟨v1,s1,h1⟩:∃v s,opN 1 (bs,false)=(v,s):=⟨_,_,rfl⟩
 obtain⟨v2,s2,h2⟩:∃v s,opN 1 s1=(v,s):=⟨_,_,rfl⟩
 obtain⟨v3,s3,h3⟩:∃v s,opN 2 s2=(v,s):=⟨_,_,rfl⟩
 have l1:s1.1.length≤n:=by have:=zf3 1 (bs,false);have e:(opT 1 (bs,false)).2=s1:=congrArg Prod.snd h1;rw[e]at this;rw[←hn];exact this
 have l2:s2.1.length≤n:=by have:=zf3 1 s1;have e:(opT 1 s1).2=s2:=congrArg Prod.snd h2;rw[e]at this;omega
 have l3:s3.1.length≤n:=by have:=zf3 2 s2;have e:(opT 2 s2).2=s3:=congrArg Prod.snd h3;rw[e]at this;omega
 have b1':v1<256:=by have:=zrx 1 (bs,false);rw[h1]at this;exact this
 have b3:v3<65536:=by have:=zrx 2 s2;rw[h3]at this;exact this
 have hsD:(own 5 1 oD n (zae bs)).Stable none':=zac _ _ _ _ _ _
 generalize own 5 1 oD n (zae bs)=D at hx hsD
 refine lCu [opI b (slA oD) (slC oD) (bs,false),D] rfl (by simp[zak,hsD]) (fun w1 hw1 hh1 ha1=>zhh v1 s1 h1 hsD hx (.inl rfl) (by simp only;omega) hh1 ha1) fun⟨y1,hy1⟩=>?_
 refine goA ?_
 obtain⟨lf,hlf⟩:∃x,decide (v1=1)=x:=⟨_,rfl⟩
 refine zd2 22 _ (.agg #[.bool lf,.slice none 0 0,.slice none 0 0,.slice none 0 0]) rfl ?_ ?_
 ·have e:((v1:Int)==1)=lf:=by rw[←hlf];by_cases h:v1=1<;>simp[h];omega
  rw[e];rfl
 dsimp only
 refine zam rfl rfl fun b5 hb5=>?_
 refine za1 rfl (zaf (cs':= #[.bool lf,.slice none 0 0,.slice none 0 0,.slice none 0 0]) rfl rfl rfl rfl rfl rfl) fun _=>?_
 refine goA ?_
 refine zay [1,2,0,3,4] rfl rfl ?_
 refine lCu [opI b y1.1 y1.2 s1,D] rfl (by simp[zak,hsD]) (fun w1 hw1 hh1 ha1=>zhh v2 s2 h2 hsD hy1 (.inl rfl) oQ hh1 ha1) fun⟨y2,hy2⟩=>?_
 refine goA ?_
 refine lCu [opI b y2.1 y2.2 s2,D] rfl (by simp[zak,hsD]) (fun w1 hw1 hh1 ha1=>zhh v3 s3 h3 hsD hy2 (.inr (.inl rfl)) oQ hh1 ha1) fun⟨y3,hy3⟩=>?_
 dsimp only
 refine goA ?_
 obtain⟨KF,hKF⟩:∃x,(if lf then(([]:List Nat),s3)else Tr.kidsF (v3+1) s3)=x:=⟨_,rfl⟩
 refine qcu (w0:=w) (F:=none') (α:=List Nat×Option (Nat×Nat)×(Option Addr×Nat)×Opn) (fun y=>[(2,.pointer (some ⟨b1,0,none⟩)),(4,.pointer (some ⟨b2,0,none⟩)),(6,.pointer (some ⟨b,0,none⟩)),(7,.pointer (some ⟨b5,0,none⟩)),(8,.int .i64 v3),(1,.slice a n c)]) (fun y=>zjg D y.2.2.1.1 y.2.2.1.2 y.2.2.2.1∧y.2.2.2.1.length≤n∧KF=(y.1,y.2.2.2)∧y.1.length≤70000)
  (fun y=>[opI b y.2.2.1.1 y.2.2.1.2 y.2.2.2,D,own 3 1 y.2.1 y.1.length (y.1.map iV),pt b5 (.cells #[.bool lf,.slice none 0 0,.slice none 0 0,slV y.2.1 y.1.length] 185 (0,0)),pt b2 (.cells #[.bool false,.slice none 0 0,.slice none 0 0,.slice none 0 0] 185 (0,0)),pt b1 (.cells #[.int .i64 s.kw,.int .i64 s.vw] 79 (0,0))]) ?_ fun⟨kd,od,y,st⟩ ⟨j1,j2,j3,j4⟩=>?_
 refine zc0 (α:=List Nat×Option (Nat×Nat)×(Option Addr×Nat)×Opn) (fun y=>[(2,.pointer (some ⟨b1,0,none⟩)),(4,.pointer (some ⟨b2,0,none⟩)),(6,.pointer (some ⟨b,0,none⟩)),(7,.pointer (some ⟨b5,0,none⟩)),(8,.int .i64 v3),(9,.int .i64 y.1.length),(1,.slice a n c)])
  (fun y=>y.1.length≤v3+1∧zjg D y.2.2.1.1 y.2.2.1.2 y.2.2.2.1∧y.2.2.2.1.length≤n∧KF=(if lf then([],s3)else(y.1++(Tr.kidsF (v3+1 - y.1.length) y.2.2.2).1,(Tr.kidsF (v3+1 - y.1.length) y.2.2.2).2))∧(lf=true→y.1=[]∧y.2.2.2=s3))
  (fun y=>[opI b y.2.2.1.1 y.2.2.1.2 y.2.2.2,D,own 3 1 y.2.1 y.1.length (y.1.map iV),pt b5 (.cells #[.bool lf,.slice none 0 0,.slice none 0 0,slV y.2.1 y.1.length] 185 (0,0)),pt b2 (.cells #[.bool false,.slice none 0 0,.slice none 0 0,.slice none 0 0] 185 (0,0)),pt b1 (.cells #[.int .i64 s.kw,.int .i64 s.vw] 79 (0,0))])
  (fun y=>v3+1 - y.1.length) ([],none,y3,s3) ⟨rfl,rfl,rfl,rfl,rfl,rfl,rfl,trivial⟩ ⟨aZ _,hy3,l3,?_,fun h=>⟨rfl,rfl⟩⟩ (fun w' hw'=>(zd1 3 1 hw').pick [1,2,0,3,4,5] rfl rfl) fun⟨kd,od,y,st⟩ ⟨i1,i2,i3,i4,i5⟩=>?_
 ·rw[←hKF]
  cases lf<;>simp
 simp only at i1 i2 i3 i4 i5⊢
 cases lf with
 |true=>
  obtain⟨rfl,rfl⟩:=i5 rfl
  refine goA ?_
  exact zep (([]:List Nat),od,y,st) ⟨rfl,rfl,rfl,rfl,rfl,rfl,trivial⟩ ⟨i2,i3,i4,aZ _⟩ (fun w' hw'=>hw')
 |false=>
  rw[if_neg bK]at i4
  by_cases h:kd.length≤v3
  ·obtain⟨r,bad⟩:=st
   obtain⟨m,hm⟩:∃m,v3+1 - kd.length=m+1:=⟨v3 - kd.length,oQ⟩
   rw[hm]at i4
   refine goA ?_
   refine lPu rfl (fun w1 hw1=>zev b y.1 y.2 (r,bad) w1 (zbq.of (hw1.item _ (.head _)) (zak _ _ _ _))) ?_
   cases bad with
   |true=>
    simp only[if_true]
    refine goA ?_
    exact zep (kd,od,y,(r,true)) ⟨rfl,rfl,rfl,rfl,rfl,rfl,trivial⟩ ⟨i2,i3,by rw[i4,Tr.kidsF,if_pos rfl,bC],oQ⟩ (fun w' hw'=>hw')
   |false=>
    simp only[bT,if_false]
    obtain⟨kv,s4,h4⟩:∃v s,opN 2 (r,false)=(v,s):=⟨_,_,rfl⟩
    have l4:s4.1.length≤r.length:=by have:=zf3 2 (r,false);have e:(opT 2 (r,false)).2=s4:=congrArg Prod.snd h4;rw[e]at this;exact this
    have b4:kv<65536:=by have:=zrx 2 (r,false);rw[h4]at this;exact this
    have hKn:Tr.kidsF (m+1) (r,false)=(kv::(Tr.kidsF m s4).1,(Tr.kidsF m s4).2):=by rw[Tr.kidsF,if_neg bK,h4]
    rw[hKn]at i4
    refine goA ?_
    refine zap [3,4,5] 8 rfl rfl kQ ?_
    refine goE ?_
    refine zat 3 ⟨kQ,dQ⟩ rfl rfl (zfb (pre:=[opI b y.1 y.2 (r,false),D]) rfl kQ rfl (by simp[zak,hsD]) (fun w1 hw1 hh1 ha1=>zhh kv s4 h4 hsD i2 (.inr (.inl rfl)) (by simp only at i3⊢;omega) hh1 ha1)) (fun _ _ h=>goH h) fun⟨y4,hy4⟩=>?_
    refine goE ?_
    refine zat 5 ⟨kQ,dQ⟩ rfl rfl (za3 (L:=[(0,1,.int .i64 (kv:Int))]) rfl rfl rfl rfl rfl (by simp[zdi,Value.cells])) (fun _ _ h=>goH h) fun⟨bp,hbp⟩=>?_
    refine goE ?_
    refine zat 6 ⟨kQ,dQ⟩ rfl rfl (zah (zfq _ _ _ _ _) (zdh (news:=[iV kv]) rfl rfl rfl rfl rfl rfl rfl rfl oQ (fun w' hw' j v hj=>by rw[zde,aH];exact zby (hw'.item _ (.tail _ (.head _))).1 j v hj))) (fun _ _ h=>goH h) fun o'=>?_
    refine goE ?_
    refine zfa [4,0,1,2,3,5,6] rfl rfl ?_
    refine zet ⟨kQ,kQ⟩ rfl rfl (zai rfl rfl rfl rfl (zct _ _) (zc3 _ _) (show(3:Nat)<4 from dQ)) fun _=>?_
    refine goA ?_
    refine zaw (kd++[kv],o',y4,s4) ⟨rfl,rfl,rfl,rfl,rfl,by rw[aA];rfl,rfl,trivial⟩ ⟨by rw[aA];simp only[cA];omega,hy4,by simp only at i3⊢;omega,?_,fun h=>nomatch h⟩ (fun w' hw'=>?_) (by simp only[aA,cA];omega)
    ·rw[i4]
     simp only[aA,cA,aG,jK,show v3+1 - (kd.length+1)=m by omega]
    ·simp only[aA,cA,cC,bG,jZ]
     exact hw'.pick [3,4,1,0,5,6] rfl rfl
  ·have hz0:v3+1 - kd.length=0:=oQ
   rw[hz0]at i4
   refine goA ?_
   exact zep (kd,od,y,st) ⟨rfl,rfl,rfl,rfl,rfl,rfl,trivial⟩ ⟨i2,i3,by rw[i4,Tr.kidsF,bC],oQ⟩ (fun w' hw'=>hw')
 simp only at j1 j2 j3 j4⊢
 have j3k:=j3
 obtain⟨st0,hst0⟩:∃x,st=x:=⟨_,rfl⟩
 rw[hst0]at j3k
 -- the keys,and a leaf's values
 obtain⟨NF,hNF⟩:∃x,zer s lf v3 st0=x:=⟨_,rfl⟩
 refine goA ?_
 refine qcu (w0:=w) (F:=none') (α:=List K×List K×Option (Nat×Nat)×Option (Nat×Nat)×(Option Addr×Nat)×Opn) (fun y=>[(2,.pointer (some ⟨b1,0,none⟩)),(4,.pointer (some ⟨b2,0,none⟩)),(6,.pointer (some ⟨b,0,none⟩)),(7,.pointer (some ⟨b5,0,none⟩)),(8,.int .i64 v3),(1,.slice a n c)]) (fun y=>zjg D y.2.2.2.2.1.1 y.2.2.2.2.1.2 y.2.2.2.2.2.1∧y.2.2.2.2.2.1.length≤n∧NF=(y.1,y.2.1,y.2.2.2.2.2)∧y.1.length≤70000∧y.2.1.length≤70000)
  (fun y=>[opI b y.2.2.2.2.1.1 y.2.2.2.2.1.2 y.2.2.2.2.2,D,own 9 1 y.2.2.1 y.1.length (y.1.map kV),own 9 1 y.2.2.2.1 y.2.1.length (y.2.1.map kV),own 3 1 od kd.length (kd.map iV),pt b5 (.cells #[.bool lf,slV y.2.2.1 y.1.length,slV y.2.2.2.1 y.2.1.length,slV od kd.length] 185 (0,0)),pt b2 (.cells #[.bool false,.slice none 0 0,.slice none 0 0,.slice none 0 0] 185 (0,0)),pt b1 (.cells #[.int .i64 s.kw,.int .i64 s.vw] 79 (0,0))]) ?_ fun⟨ks,vs,ok,ov,y,st⟩ ⟨j1,j2,j3,j4,j5⟩=>?_
 refine zc0 (α:=List K×List K×Option (Nat×Nat)×Option (Nat×Nat)×(Option Addr×Nat)×Opn) (fun y=>[(2,.pointer (some ⟨b1,0,none⟩)),(4,.pointer (some ⟨b2,0,none⟩)),(6,.pointer (some ⟨b,0,none⟩)),(7,.pointer (some ⟨b5,0,none⟩)),(8,.int .i64 v3),(1,.slice a n c),(10,.int .i64 y.1.length)]) (fun y=>y.1.length≤v3∧zjg D y.2.2.2.2.1.1 y.2.2.2.2.1.2 y.2.2.2.2.2.1∧y.2.2.2.2.2.1.length≤n∧NF=(y.1++(zer s lf (v3 - y.1.length) y.2.2.2.2.2).1,y.2.1++(zer s lf (v3 - y.1.length) y.2.2.2.2.2).2.1,(zer s lf (v3 - y.1.length) y.2.2.2.2.2).2.2)∧y.2.1.length≤y.1.length)
  (fun y=>[opI b y.2.2.2.2.1.1 y.2.2.2.2.1.2 y.2.2.2.2.2,D,own 9 1 y.2.2.1 y.1.length (y.1.map kV),own 9 1 y.2.2.2.1 y.2.1.length (y.2.1.map kV),own 3 1 od kd.length (kd.map iV),pt b5 (.cells #[.bool lf,slV y.2.2.1 y.1.length,slV y.2.2.2.1 y.2.1.length,slV od kd.length] 185 (0,0)),pt b2 (.cells #[.bool false,.slice none 0 0,.slice none 0 0,.slice none 0 0] 185 (0,0)),pt b1 (.cells #[.int .i64 s.kw,.int .i64 s.vw] 79 (0,0))]) (fun y=>v3 - y.1.length) ([],[],none,none,y,st) ⟨rfl,rfl,rfl,rfl,rfl,rfl,rfl,trivial⟩ ⟨aZ _,j1,j2,by rw[←hNF,←hst0];rfl,bA _⟩ (fun w' hw'=>(zd1 9 1 (zd1 9 1 hw')).pick [2,3,0,1,4,5,6,7] rfl rfl) fun⟨ks,vs,ok,ov,y,st⟩ ⟨i1,i2,i3,i4,i5⟩=>?_
 ·simp only at i1 i2 i3 i4 i5⊢
  by_cases h:ks.length<v3
  ·obtain⟨r,bad⟩:=st
   obtain⟨m,hm⟩:∃m,v3 - ks.length=m+1:=⟨v3 - ks.length - 1,oQ⟩
   rw[hm]at i4
   refine goA ?_
   refine lPu rfl (fun w1 hw1=>zev b y.1 y.2 (r,bad) w1 (zbq.of (hw1.item _ (.head _)) (zak _ _ _ _))) ?_
   cases bad with
   |true=>
    simp only[if_true]
    refine goA ?_
    exact zep (ks,vs,ok,ov,y,(r,true)) ⟨rfl,rfl,rfl,rfl,rfl,rfl,trivial⟩ ⟨i2,i3,by rw[i4,zer,if_pos rfl,bC,bC],by show ks.length≤70000;omega,by show vs.length≤70000;omega⟩ (fun w' hw'=>hw')
   |false=>
    simp only[bT,if_false]
    obtain⟨t1,s4,h4⟩:∃v s',opT s.kw (r,false)=(v,s'):=⟨_,_,rfl⟩
    obtain⟨t2,s5,h5⟩:∃v s',opT s.vw s4=(v,s'):=⟨_,_,rfl⟩
    have l4:s4.1.length≤r.length:=by have:=zf3 s.kw (r,false);rw[h4]at this;exact this
    have l5:s5.1.length≤s4.1.length:=by have:=zf3 s.vw s4;rw[h5]at this;exact this
    simp only at i3
    refine goA ?_
    refine zap [5,6,7] 9 rfl rfl kQ ?_
    refine goE ?_
    refine zat 5 ⟨kQ,dQ⟩ rfl rfl (zfb (pre:=[opI b y.1 y.2 (r,false),D]) rfl kQ rfl (by simp[zak,hsD]) (fun w1 hw1 hh1 ha1=>zp7 (n:=s.kw) t1 s4 h4 hsD i2 (by simp only;omega) hh1 ha1)) (fun _ _ h=>goH h) fun⟨ys4,hys4⟩=>?_
    refine goE ?_
    refine zat 6 ⟨kQ,dQ⟩ rfl rfl (za3 (L:=[(0,1,kV t1)]) rfl rfl rfl rfl rfl (by simp[zdi,Value.cells,kV])) (fun _ _ h=>goH h) fun⟨bp,hbp⟩=>?_
    refine goE ?_
    refine zat 7 ⟨kQ,dQ⟩ rfl rfl (zah (zfq _ _ _ _ _) (zdh (news:=[kV t1]) rfl rfl rfl rfl rfl rfl rfl rfl oQ (fun w' hw' j v hj=>by rw[zde,aH];exact zby (hw'.item _ (.tail _ (.head _))).1 j v hj))) (fun _ _ h=>goH h) fun ok'=>?_
    refine goE ?_
    refine zfa [6,0,1,2,3,4,5,7,8] rfl rfl ?_
    refine zet ⟨kQ,kQ⟩ rfl rfl (zai rfl rfl rfl rfl (zct _ _) (zc3 _ _) (show(1:Nat)<4 from dQ)) fun _=>?_
    refine goA ?_
    cases lf with
    |true=>
     have hKn:zer s true (m+1) (r,false)=(t1::(zer s true m s5).1,t2::(zer s true m s5).2.1,(zer s true m s5).2.2):=by
      rw[zer,if_neg bK]
      simp only[qe2,if_true,h4,h5]
     rw[hKn]at i4
     refine goA ?_
     refine zcx [3,4,5,1,6,0,7,8] rfl rfl ?_
     refine zap [5,6,7] 9 rfl rfl kQ ?_
     refine goE ?_
     refine zat 5 ⟨kQ,dQ⟩ rfl rfl (zfb (pre:=[opI b ys4.1 ys4.2 s4,D]) rfl kQ rfl (by simp[zak,hsD]) (fun w1 hw1 hh1 ha1=>zp7 (n:=s.vw) t2 s5 h5 hsD hys4 oQ hh1 ha1)) (fun _ _ h=>goH h) fun⟨ys5,hys5⟩=>?_
     refine goE ?_
     refine zat 6 ⟨kQ,dQ⟩ rfl rfl (za3 (L:=[(0,1,kV t2)]) rfl rfl rfl rfl rfl (by simp[zdi,Value.cells,kV])) (fun _ _ h=>goH h) fun⟨bp,hbp⟩=>?_
     refine goE ?_
     refine zat 7 ⟨kQ,dQ⟩ rfl rfl (zah (zfq _ _ _ _ _) (zdh (news:=[kV t2]) rfl rfl rfl rfl rfl rfl rfl rfl oQ (fun w' hw' j v hj=>by rw[zde,aH];exact zby (hw'.item _ (.tail _ (.head _))).1 j v hj))) (fun _ _ h=>goH h) fun ov'=>?_
     refine goE ?_
     refine zfa [6,0,1,2,3,4,5,7,8] rfl rfl ?_
     refine zet ⟨kQ,kQ⟩ rfl rfl (zai rfl rfl rfl rfl (zct _ _) (zc3 _ _) (show(2:Nat)<4 from dQ)) fun _=>?_
     refine goA ?_
     refine zaw (ks++[t1],vs++[t2],ok',ov',ys5,s5) ⟨rfl,rfl,rfl,rfl,rfl,rfl,by rw[aA];rfl,trivial⟩ ⟨by rw[aA];simp only[cA];omega,hys5,by simp only;omega,?_,by simp only[aA,cA];omega⟩ (fun w' hw'=>?_) (by simp only[aA,cA];omega)
     ·rw[i4]
      simp only[aA,cA,aG,jK,show v3 - (ks.length+1)=m by omega]
     ·simp only[aA,cA,cC,bG,jZ]
      exact hw'.pick [3,4,5,1,6,0,7,8] rfl rfl
    |false=>
     have hKn:zer s false (m+1) (r,false)=(t1::(zer s false m s4).1,[],(zer s false m s4).2.2):=by
      rw[zer,if_neg bK]
      simp only[qe2,bT,if_false,h4]
     rw[hKn]at i4
     refine goA ?_
     refine zaw (ks++[t1],vs,ok',ov,ys4,s4) ⟨rfl,rfl,rfl,rfl,rfl,rfl,by rw[aA];rfl,trivial⟩ ⟨by rw[aA];simp only[cA];omega,hys4,by simp only;omega,?_,by simp only[aA,cA];omega⟩ (fun w' hw'=>?_) (by simp only[aA,cA];omega)
     ·rw[i4]
      simp only[aA,cA,aG,jK,show v3 - (ks.length+1)=m by omega,zz6]
     ·simp only[aA,cA,cC,bG,jZ]
      exact hw'.pick [3,4,1,5,6,0,7,8] rfl rfl
  ·have hz0:v3 - ks.length=0:=oQ
   rw[hz0]at i4
   refine goA ?_
   exact zep (ks,vs,ok,ov,y,st) ⟨rfl,rfl,rfl,rfl,rfl,rfl,trivial⟩ ⟨i2,i3,by rw[i4,zer,bC,bC],by show ks.length≤70000;omega,by show vs.length≤70000;omega⟩ (fun w' hw'=>hw')
 ·simp only at j1 j2 j3 j4 j5⊢
  obtain⟨N,hN⟩:∃x:Nd,(⟨lf,ks,vs,kd⟩:Nd)=x:=⟨_,rfl⟩
  have hP:zn5 s bs=(N,st):=by
   have e1:Tr.hdF bs=(lf,v3,s3):=by unfold Tr.hdF;rw[h1];simp only;rw[h2];simp only;rw[h3];simp only;rw[hlf]
   unfold zn5
   rw[e1]
   simp only
   have e2:(if lf=true then([],s3)else Tr.kidsF (v3+1) s3)=(kd,st0):=hKF.trans j3k
   rw[e2]
   simp only
   rw[hNF,j3,←hN]
  refine zhm (fun w hw=>And.intro (zas (hw.item (own 9 1 ok ks.length (ks.map kV)) (.tail _ (.tail _ (.head _)))).1) (And.intro (zas (hw.item (own 9 1 ov vs.length (vs.map kV)) (.tail _ (.tail _ (.tail _ (.head _))))).1) (zas (hw.item (own 3 1 od kd.length (kd.map iV)) (.tail _ (.tail _ (.tail _ (.tail _ (.head _)))))).1))) fun⟨f1,f2,f3⟩=>?_
  rw[f1.1,f2.1,f3.1]
  have hkl:=zxl s lf v3 st0
  rw[hNF,j3]at hkl
  simp only at hkl
  have k2:=hs.k2
  have v2':=hs.v2
  have hNB:NdB N:=by
   rw[←hN]
   exact⟨by show ks.length≤_;omega,by show vs.length≤_;omega,by show kd.length≤_;omega,fun k hk=>by have:=hkl.1 k hk;omega,fun k hk=>by have:=hkl.2 k hk;omega⟩
  refine goA ?_
  subst hN
  refine zdy rfl rfl kQ rfl (fun w1 hw1=>zsy hs ⟨lf,ks,vs,kd⟩ ⟨(slA ok,slC ok),(slA ov,slC ov),(slA od,slC od)⟩ hNB w1 ⟨za8 (hw1.item (own 9 1 ok ks.length (ks.map kV)) sQ).1,za8 (hw1.item (own 9 1 ov vs.length (vs.map kV)) sQ).1,za8 (hw1.item (own 3 1 od kd.length (kd.map iV)) sQ).1⟩) fun x hx=>?_
  obtain⟨r,bad⟩:=st
  have hTn:(bad=true∨¬zf8 s ⟨lf,ks,vs,kd⟩∨zcl ⟨lf,ks,vs,kd⟩≠bs)→none=zq5 s bs:=fun h=>by
   unfold zq5
   rw[hP,if_neg (fun h'=>by
    rcases h with h|h|h
    ·have:=h'.1;rw[h]at this;cases this
    ·exact h h'.2.1
    ·exact h h'.2.2)]
  cases x with
  |none=>
   have hnm:¬zf8 s ⟨lf,ks,vs,kd⟩:=fun h=>by simp[h]at hx
   refine goA ?_
   refine lPu rfl (fun w1 hw1=>zev b y.1 y.2 (r,bad) w1 (zbq.of (hw1.item _ (.head _)) (zak _ _ _ _))) ?_
   cases bad with
   |true=>
    simp only[if_true]
    refine goA ?_
    refine za1 rfl (zah (znu _ _ _ _ _ _ _ _) (zaf rfl rfl rfl rfl rfl rfl)) fun _=>?_
    refine goA ?_
    exact zc1 none rfl ⟨_,rfl,zaq rfl (.head _)⟩ rfl rfl (hTn (.inr (.inl hnm))) (aK _) (fun _ h=>nomatch h)
   |false=>
    simp only[bT,if_false]
    refine goA ?_
    refine za1 rfl (zah (znu _ _ _ _ _ _ _ _) (zaf rfl rfl rfl rfl rfl rfl)) fun _=>?_
    refine goA ?_
    exact zc1 none rfl ⟨_,rfl,zaq rfl (.head _)⟩ rfl rfl (hTn (.inr (.inl hnm))) (aK _) (fun _ h=>nomatch h)
  |some o=>
   have hm:zf8 s ⟨lf,ks,vs,kd⟩:=gK fun h=>by simp[h]at hx
   have hPl:=zxv hs.k1 hm
   refine zch (fun w hw=>zas (hw.item (own 5 1 o 512 (zae (zcl ⟨lf,ks,vs,kd⟩))) (.head _)).1) fun⟨hsl,_⟩=>?_
   simp only
   rw[hsl]
   refine goA ?_
   refine lPu rfl (fun w1 hw1=>zev b y.1 y.2 (r,bad) w1 (zbq.of (hw1.item (opI b y.1 y.2 (r,bad)) (.tail _ (.head _))) (zak _ _ _ _))) ?_
   cases bad with
   |true=>
    simp only[if_true]
    refine goA ?_
    refine za1 rfl (zah (zwo _ _ _ _ _ _ _ _ _) (zaf rfl rfl rfl rfl rfl rfl)) fun _=>?_
    refine goA ?_
    exact zc1 none rfl ⟨_,rfl,zaq rfl (.head _)⟩ rfl rfl (hTn (.inl rfl)) (aK _) (fun _ h=>nomatch h)
   |false=>
    simp only[bT,if_false]
    refine goA ?_
    refine lPu rfl (fun w1 hw1=>zfp (slA o) a 512 n (slC o) c (zcl ⟨lf,ks,vs,kd⟩) bs hPl hn w1 (za8 (hw1.item (own 5 1 o 512 (zae (zcl ⟨lf,ks,vs,kd⟩))) (.head _)).1) (hr.keep hw1)) ?_
    by_cases heq:zcl ⟨lf,ks,vs,kd⟩=bs
    ·rw[decide_eq_true heq]
     refine goA ?_
     refine za1 rfl (zah (zwo _ _ _ _ _ _ _ _ _) (zaf rfl rfl rfl rfl rfl rfl)) fun _=>?_
     refine goA ?_
     refine zc1 (some (⟨lf,ks,vs,kd⟩,⟨ok,ov,od⟩)) rfl ⟨_,rfl,zaq rfl (.head _)⟩ rfl (by simp only[ndO];rw[f1.1,f2.1,f3.1]) ?_ (.cons _ (.cons _ (.cons _ (.cons _ (.cons_cons _ (.cons_cons _ (.cons_cons _ (aK _)))))))) (by simp[ndI,zac])
     unfold zq5
     rw[hP,if_pos ⟨rfl,hm,heq⟩]
     rfl
    ·rw[decide_eq_false heq]
     refine goA ?_
     refine za1 rfl (zah (zwo _ _ _ _ _ _ _ _ _) (zaf rfl rfl rfl rfl rfl rfl)) fun _=>?_
     refine goA ?_
     exact zc1 none rfl ⟨_,rfl,zaq rfl (.head _)⟩ rfl rfl (hTn (.inr (.inr heq))) (aK _) (fun _ h=>nomatch h)
end Go.Proofs.YthafakdplhdfjaaGreatDoor
namespace Go.Proofs.YthafakdplhdfjaaGreatDoor
open Go.RowKit Go.Eng
def nxt(p:Nat):Nat:=(p+1)%18446744073709551616
def ze8:zcs→Nat→Nat
 | [],v=>v
 |p::L,v=>ze8 L (max v (nxt p.1))
theorem zio(L:zcs)(v k:Nat):ze8 L v≤k↔v≤k∧∀p∈L,nxt p.1≤k:=by
 induction L generalizing v with
 |nil=>simp[ze8]
 |cons p L ih=>
  rw[ze8,ih,Nat.max_le]
  simp only[aL,forall_eq_or_imp]
  exact⟨fun⟨⟨h1,h2⟩,h3⟩=>⟨h1,h2,h3⟩,fun⟨h1,h2,h3⟩=>⟨⟨h1,h2⟩,h3⟩⟩
variable{L:zcs}
theorem qg9{L':zcs}{v v':Nat}(h:∀k,(v≤k∧∀p∈L,nxt p.1≤k)↔(v'≤k∧∀p∈L',nxt p.1≤k)):ze8 L v=ze8 L' v':=
 Nat.le_antisymm ((zio _ _ _).2 ((h _).2 ((zio _ _ _).1 (bA _)))) ((zio _ _ _).2 ((h _).1 ((zio _ _ _).1 (bA _))))
variable{p:Nat×Value}
theorem qha(hp:p∈L)(v:Nat):ze8 (qca L p) (max v (nxt p.1))=ze8 L v:=by
 refine qg9 fun k=>?_
 rw[Nat.max_le]
 constructor
 ·rintro⟨⟨h1,h2⟩,h3⟩
  refine⟨h1,fun x hx=>?_⟩
  by_cases he:x.1=p.1
  ·rw[he];exact h2
  ·exact h3 x (dP.2 ⟨hx,by simp[he]⟩)
 ·rintro⟨h1,h2⟩
  exact⟨⟨h1,h2 p hp⟩,fun x hx=>h2 x (dP.1 hx).1⟩
theorem zow(hp:p∈L):(qca L p).length<L.length:=by
 refine Nat.lt_of_le_of_ne (gI _ _) (fun h=>?_)
 have:=jE.1 h p hp
 simp at this
theorem zsx(b:Nat)(A:zcs)(hA:∀p∈A,p.1<18446744073709551616)(first:Nat)(hf:first<18446744073709551616):
  Cv Tryz.prog 162 #[.map (some b),.int .u64 first] [zck .u64 b A] (fun _:Unit=>.int .u64 (ze8 A first:Nat)) (fun _=>True) (fun _=>[zck .u64 b A]):=by
 intro w hw
 refine za2 [_,_] _ Tryz.func162 rfl rfl hw (.cons (fun _ h=>nomatch h) .nil) ?_
 simp only[zaa,Nat.reduceAdd]
 refine goA ?_
 refine za1 rfl (zov rfl rfl rfl) fun⟨r,hr⟩=>?_
 refine goA ?_
 refine zc0 (α:=zcs×Nat×Option (Nat×Value)) (fun y=>[(1,.int .u64 y.2.1),(4,.int .u64 0),(7,.pointer (some ⟨r,0,none⟩))]) (fun y=>y.2.1<18446744073709551616∧(∀p∈y.1,p.1<18446744073709551616)∧ze8 y.1 y.2.1=ze8 A first) (fun y=>[itN .u64 r b A y.1 y.2.2]) (fun y=>y.1.length) (A,first,none) ⟨rfl,rfl,rfl,trivial⟩ ⟨hf,hA,rfl⟩ (fun w h=>h) fun⟨L,v,c⟩ ⟨hv,hL,hE⟩=>?_
 simp only at hv hL hE⊢
 refine goA ?_
 refine za1 rfl (zvh rfl rfl) fun⟨y,hy⟩=>?_
 cases y with
 |none=>
  simp only at hy⊢
  refine goA ?_
  subst hy
  refine zbr (m':=[zck .u64 b A]) (fun w' hw'=>zpu hw') (zbd () rfl rfl (by rw[←hE];rfl) trivial (.refl _) (by intro it hm;rcases hm with _|⟨_,hm⟩<;>first|exact zax _ _ _ _|exact(nomatch hm)))
 |some p=>
  simp only at hy⊢
  have hp2:=hL p hy
  refine goA ?_
  refine l_w rfl (zo6 rfl (.head _)) ?_
  refine goA ?_
  refine l_w rfl (zj8 (a:=p.1) (b:=1) rfl rfl) ?_
  have hn:(p.1+1)%18446744073709551616=nxt p.1:=rfl
  rw[hn]
  have hnl:nxt p.1<18446744073709551616:=dY _ dQ
  have hlt:=zow hy
  have hno:=qha hy v
  generalize nxt p.1=z at hnl hno
  refine goA ?_
  refine l_w rfl (qpi (i:=v) (j:=z) rfl rfl) ?_
  refine goA ?_
  refine zaw (qca L p,max v z,some p) ⟨rfl,rfl,rfl,trivial⟩ ⟨Nat.max_lt.2 ⟨hv,hnl⟩,fun x hx=>hL x (dP.1 hx).1,hno.trans hE⟩ (fun w h=>h) hlt
end Go.Proofs.YthafakdplhdfjaaGreatDoor
namespace Go.Proofs.YthafakdplhdfjaaGreatDoor
open Go.RowKit Go.Eng
theorem zt6{D:Dsk}(ok:D.Ok){i:Nat}(hi:i<D.on.length):(zcn D i).length=512:=by
 unfold zcn
 cases h:D.wait.reverse.find? (fun p=>decide (p.2=i))with
 |none=>
  show(D.on.getD i []).length=512
  rw[aE,aB hi]
  exact ok.size _ (aT hi)
 |some p=>
  have hm:=List.mem_of_find?_eq_some h
  exact(ok.wsize p (kW.1 hm)).1
def zi9(b:Bys)(i:Nat)(p:Hd×Int):Hd×Int:=if zrt b&&(decide (p.2<0)||decide (p.1.gen<(hdT b).gen))then(hdT b,i)else p
def zxp(bx ba bb:Nat)(d:Dk)(p:Hd×Int):List Eng.Item:=[pt ba (.cells #[.int .i64 p.2] 3 (0,0)),pt bb (.cells (hdA p.1) 238 (0,0)),pt bx (.cells #[.pointer (some ⟨d.b,0,none⟩)] 33 (0,0)),dkI d,ctI]
theorem zn0(bx ba bb:Nat)(d:Dk)(p:Hd×Int):∀it∈zxp bx ba bb d p,it.Stable none':=by
 simp only[zxp,aL,List.mem_nil_iff,or_false,forall_eq_or_imp,forall_eq]
 exact⟨zab _ _ _,zab _ _ _,zab _ _ _,zad _,zcb _⟩
theorem qdt(d:Dk)(ok:d.D.Ok)(hlive:d.D.dead=false)(hwl:d.D.wait.length≤1000000000)(i:Nat)(hi:i<d.D.on.length)(bx ba bb:Nat)(p:Hd×Int):
  Cw Tryz.prog 202 #[.int .i64 i,.pointer (some ⟨bx,0,none⟩),.pointer (some ⟨ba,0,none⟩),.pointer (some ⟨bb,0,none⟩)] (zxp bx ba bb d p) (fun _:Unit=>.int .i64 0) (fun _=>True) (fun _=>zxp bx ba bb d (zi9 (zcn d.D i) i p)):=by
 intro w hw ha
 refine za2 [_,_,_,_] _ Tryz.func202 rfl rfl hw ha ?_
 have hst:=zn0 bx ba bb d (zi9 (zcn d.D i) i p)
 unfold zxp
 simp only[zaa,Nat.reduceAdd]
 refine goA ?_
 refine zdy rfl rfl kQ rfl (fun w1 hw1=>znc d ok hlive i hi hwl w1 (zbq.of (hw1.item (dkI d) (.tail _ (.tail _ (.tail _ (.head _))))) (zad _))) fun x hx=>?_
 refine goA ?_
 have hcl:=zt6 ok hi
 refine lPu rfl (fun w1 hw1=>zzz (some ⟨x,0,none⟩) 512 512 (zcn d.D i) hcl dQ w1 (Rd.mk (hw1.item (rdI x (zcn d.D i)) (.head _)).1.1) (hw1.item ctI (.tail _ (.tail _ (.tail _ (.tail _ (.tail _ (.head _))))))).1) ?_
 generalize hT:hdT (zcn d.D i)=h
 have hlk:zi9 (zcn d.D i) i p=if zrt (zcn d.D i)&&(decide (p.2<0)||decide (p.1.gen<h.gen))then(h,(i:Int))else p:=by rw[zi9,hT]
 rw[hlk]at hst⊢
 generalize zrt (zcn d.D i)=k at hst⊢
 refine goA ?_
 refine zam rfl rfl fun b8 hb8=>?_
 refine za1 rfl (zaf (cs':=hdA h) rfl rfl rfl rfl rfl rfl) fun _=>?_
 refine goA ?_
 cases k with
 |false=>
  rw[eH,if_neg dQ]at hst⊢
  refine goA ?_
  exact zbd () rfl rfl rfl trivial (.cons _ (.cons _ (.refl _))) hst
 |true=>
  by_cases h1:p.2<0
  ·rw[gC,decide_eq_true h1,Bool.true_or,if_pos rfl]at hst⊢
   refine goA ?_
   rw[decide_eq_true h1]
   refine goA ?_
   refine za1 rfl (zah (zfq _ _ _ _ _) (zaf (cs':=hdA h) rfl rfl rfl rfl rfl rfl)) fun _=>?_
   refine za1 rfl (zah (zfq _ _ _ _ _) (zai rfl rfl rfl rfl rfl rfl sQ)) fun _=>?_
   refine goA ?_
   exact zbd () rfl rfl rfl trivial (.cons_cons _ (.cons_cons _ (.cons _ (.cons _ (.refl _))))) hst
  ·rw[gC,decide_eq_false h1,gS]at hst⊢
   refine goA ?_
   rw[decide_eq_false h1]
   by_cases h2:p.1.gen<h.gen
   ·rw[decide_eq_true h2,if_pos rfl]at hst⊢
    refine goA ?_
    refine za1 rfl (zah (zfq _ _ _ _ _) (zaf (cs':=hdA h) rfl rfl rfl rfl rfl rfl)) fun _=>?_
    refine za1 rfl (zah (zfq _ _ _ _ _) (zai rfl rfl rfl rfl rfl rfl sQ)) fun _=>?_
    refine goA ?_
    exact zbd () rfl rfl rfl trivial (.cons_cons _ (.cons_cons _ (.cons _ (.cons _ (.refl _))))) hst
   ·rw[decide_eq_false h2,if_neg dQ]at hst⊢
    refine goA ?_
    exact zbd () rfl rfl rfl trivial (.cons _ (.cons _ (.refl _))) hst
end Go.Proofs.YthafakdplhdfjaaGreatDoor
namespace Go.Eng
open Go Go.RowKit
variable{P:Program}{N:Fm}{l:zav}{H:World→Prop}{w0:World}{F:Nat→Prop}{m:List Item}
variable{n:Nat}{fn:Func}
theorem qr9{R:Ending→World→Prop}{r q p:ResultVar}{v u t:Value}(hf:fn.results= #[r,q,p])(h1:zhu P l H r v)(h2:zhu P l H q u)(h3:zhu P l H p t)(h:∀w,H w→R (.returned (.tuple #[v,u,t])) w):HX (bodyPost P fn R) .ret ⟨n,[],none⟩ l H:=by
 unfold HX
 intro a w s hw
 have e1:=zia h1 s hw
 have e2:=zia h2 s hw
 have e3:=zia h3 s hw
 refine bodyPost_ret (v:=.tuple #[v,u,t]) ?_ s.defers (h w hw)
 cases r with
 |tmp t1=>
  simp only[]at e1
  cases q with
  |tmp t2=>
   simp only[]at e2
   cases p with
   |tmp t3=>simp only[]at e3;simp[results,hf,e1,e2,e3]
   |cell t3 ty3=>obtain⟨z,ez,e3⟩:=e3;simp[results,hf,e1,e2,ez,asAddr,e3]
  |cell t2 ty2=>
   obtain⟨y,ey,e2⟩:=e2
   cases p with
   |tmp t3=>simp only[]at e3;simp[results,hf,e1,ey,asAddr,e2,e3]
   |cell t3 ty3=>obtain⟨z,ez,e3⟩:=e3;simp[results,hf,e1,ey,e2,ez,asAddr,e3]
 |cell t1 ty1=>
  obtain⟨x,ex,e1⟩:=e1
  cases q with
  |tmp t2=>
   simp only[]at e2
   cases p with
   |tmp t3=>simp only[]at e3;simp[results,hf,ex,asAddr,e1,e2,e3]
   |cell t3 ty3=>obtain⟨z,ez,e3⟩:=e3;simp[results,hf,ex,e1,e2,ez,asAddr,e3]
  |cell t2 ty2=>
   obtain⟨y,ey,e2⟩:=e2
   cases p with
   |tmp t3=>simp only[]at e3;simp[results,hf,ex,e1,ey,asAddr,e2,e3]
   |cell t3 ty3=>obtain⟨z,ez,e3⟩:=e3;simp[results,hf,ex,e1,ey,e2,ez,asAddr,e3]
theorem qa6{r q p:ResultVar}{α:Type}{val:α→Value}{φ:α→Prop}{its:α→List Item}{u t v:Value}(x:α)(hf:fn.results= #[r,q,p])(h1:zhu P l (Hp w0 F m) r u)(h2:zhu P l (Hp w0 F m) q t)(h3:zhu P l (Hp w0 F m) p v)(e: .tuple #[u,t,v]=val x)(hφ:φ x)(hs:(its x).Sublist m)(hst:∀it∈its x,it.Stable none'):HX (bodyPost P fn (zjn w0 F val φ its)) .ret ⟨n,[],none⟩ l (Hp w0 F m):=
 qr9 hf h1 h2 h3 fun _ hw=>⟨x,by rw[e],hφ,hw.its hs hst⟩
end Go.Eng
namespace Go.Proofs.YthafakdplhdfjaaGreatDoor
open Go.RowKit Go.Eng
def zdo(D:Dsk):Nat→Hd×Int
 |0=>(qae, -1)
 |i+1=>zi9 (zcn D i) i (zdo D i)
theorem znv(d:Dk)(ok:d.D.Ok)(hlive:d.D.dead=false)(hwl:d.D.wait.length≤1000000000)(h2:2≤d.D.on.length):
  Cw Tryz.prog 160 #[.pointer (some ⟨d.b,0,none⟩)] [dkI d,ctI] (fun _:Unit=>.tuple #[.agg (hdA (zdo d.D 2).1),.int .i64 (zdo d.D 2).2,.int .i64 0]) (fun _=>True) (fun _=>[dkI d,ctI]):=by
 intro w hw ha
 refine za2 [_] _ Tryz.func160 rfl rfl hw ha ?_
 simp only[zaa]
 refine goA ?_
 refine zc9 rfl rfl rfl fun bx _=>?_
 refine goA ?_
 refine zam rfl rfl fun b2 hb2=>?_
 refine goA ?_
 refine zam rfl rfl fun b5 hb5=>?_
 refine goA ?_
 refine zdg rfl rfl rfl fun b6 hb6=>?_
 refine goA ?_
 refine za1 rfl (zah (zcg _ _ _) (zaf (cs':=hdA qae) rfl rfl rfl rfl rfl rfl)) fun _=>?_
 refine goA ?_
 refine za1 rfl (zah (zcg _ _ _) (zai rfl rfl rfl rfl rfl rfl sQ)) fun _=>?_
 refine goA ?_
 refine l_w rfl (zhw rfl) ?_
 refine goA ?_
 have hL:∀i,zxp bx b6 b5 d (zdo d.D i)=[pt b6 (.cells #[.int .i64 (zdo d.D i).2] 3 (0,0)),pt b5 (.cells (hdA (zdo d.D i).1) 238 (0,0)),pt bx (.cells #[.pointer (some ⟨d.b,0,none⟩)] 33 (0,0)),dkI d,ctI]:=fun _=>rfl
 refine zc0 (α:=Nat) (fun i=>[(2,.pointer (some ⟨b2,0,none⟩)),(3,.int .i64 0),(4,.int .i64 0),(5,.pointer (some ⟨b5,0,none⟩)),(6,.pointer (some ⟨b6,0,none⟩)),(7,.func (.func 202) #[] #[.pointer (some ⟨bx,0,none⟩),.pointer (some ⟨b6,0,none⟩),.pointer (some ⟨b5,0,none⟩)]),(12,.int .i64 i)]) (fun i=>i≤2)
  (fun i=>zxp bx b6 b5 d (zdo d.D i)++[pt b2 (.cells (hdA qae) 238 (0,0))]) (fun i=>2 - i) 0 ⟨rfl,rfl,rfl,rfl,rfl,rfl,rfl,trivial⟩ (aZ _) (fun w' hw'=>hw'.pick [0,1,3,4,5,2] rfl rfl) fun i hi=>?_
 by_cases hi2:i<2
 ·have hl:zdo d.D (i+1)=zi9 (zcn d.D i) i (zdo d.D i):=rfl
  refine goA ?_
  refine zeh rfl (zx1 (pre:=zxp bx b6 b5 d (zdo d.D i)) (fs:=[]) (cs:=[.pointer (some ⟨bx,0,none⟩),.pointer (some ⟨b6,0,none⟩),.pointer (some ⟨b5,0,none⟩)]) rfl kQ rfl rfl rfl (zn0 _ _ _ _ _) (fun w1 hw1 hh1 ha1=>qdt d ok hlive hwl i oQ bx b6 b5 (zdo d.D i) w1 hh1 ha1)) fun⟨_,_⟩=>?_
  rw[←hl]
  refine goA ?_
  exact zaw (i+1) ⟨rfl,rfl,rfl,rfl,rfl,rfl,rfl,trivial⟩ (show i+1≤2 by omega) (fun w' hw'=>hw') (by show 2 - (i+1)<2 - i;omega)
 ·obtain rfl:i=2:=oQ
  refine goA ?_
  refine zg8 (m':=[pt b2 (.cells (hdA qae) 238 (0,0)),pt b6 (.cells #[.int .i64 (zdo d.D 2).2] 3 (0,0)),pt b5 (.cells (hdA (zdo d.D 2).1) 238 (0,0)),pt bx (.cells #[.pointer (some ⟨d.b,0,none⟩)] 33 (0,0)),dkI d,ctI]) (fun w' hw'=>hw'.pick [5,0,1,2,3,4] rfl rfl) ?_
  generalize zdo d.D 2=q
  refine zap [1,2,3,4,5] 5 rfl rfl kQ ?_
  refine goE ?_
  refine zat 2 ⟨kQ,dQ⟩ rfl rfl (zaf (cs':=hdA q.1) rfl rfl rfl rfl rfl rfl) (fun _ _ h=>goH h) fun _=>?_
  refine goX ?_
  exact qa6 () rfl ⟨_,rfl,zaq rfl (.head _)⟩ rfl rfl rfl trivial (.cons _ (.cons _ (.cons _ (.cons _ (.refl _))))) (by intro it hm;rcases hm with _|⟨_,_|⟨_,hm⟩⟩<;>first|exact zad _|exact zcb _|exact(nomatch hm))
def qef(b:Bys)(n i:Nat)(A:zcs):zcs:=if zjc b&&decide (za9 (zgl b).seq n=2+i)then zjs A (zgl b).seq (.agg (zjf (zgl b)))else A
def zg7(D:Dsk)(n:Nat):Nat→zcs
 |0=>[]
 |i+1=>qef (zcn D (2+i)) n i (zg7 D n i)
theorem qcq(b:Bys):(zgl b).seq<18446744073709551616:=by
 unfold zgl
 split
 ·exact zrx 8 (b,false)
 ·decide
theorem okU{n:Nat}(h:n<18446744073709551616):okN .u64 n:=by
 simp[okN,Lit.wf,IntKind.min,IntKind.max,IntKind.signed,IntKind.bits]
 omega
theorem zre(d:Dk)(ok:d.D.Ok)(hlive:d.D.dead=false)(hwl:d.D.wait.length≤1000000000)(n:Nat)(hn0:0<n)(hn:2+n≤d.D.on.length)(w:World)(hd:zbq (dkI d) w)(ht:zo8 w):
  Ct Tryz.prog 161 #[.pointer (some ⟨d.b,0,none⟩),.int .i64 n] w none' (fun b:Nat=>.tuple #[.map (some b),.int .i64 0]) (fun _=>True) (fun b=>[zck .u64 b (zg7 d.D n n)]):=by
 refine zes [_,_] Tryz.func161 rfl rfl ?_
 have hmany:=ok.many
 simp only[zaa,Nat.reduceAdd]
 refine goA ?_
 refine za1 rfl (zgu (q:=.u64) rfl) fun⟨b,hb⟩=>?_
 dsimp only
 refine goA ?_
 refine zc0 (α:=Nat) (fun i=>[(0,.pointer (some ⟨d.b,0,none⟩)),(1,.int .i64 n),(6,.map (some b)),(13,.int .i64 n),(14,.int .i64 i)]) (fun i=>i≤n) (fun i=>[zck .u64 b (zg7 d.D n i)]) (fun i=>n - i) 0 ⟨rfl,rfl,rfl,rfl,rfl,trivial⟩ (aZ _) (fun w' hw'=>hw') fun i hi=>?_
 by_cases hi2:i<n
 ·have hl:zg7 d.D n (i+1)=qef (zcn d.D (2+i)) n i (zg7 d.D n i):=rfl
  generalize zg7 d.D n i=A at hl
  refine goA ?_
  refine zdy rfl rfl kQ rfl (fun w1 hw1=>znc d ok hlive (2+i) oQ hwl w1 (hd.keep hw1)) fun x hx=>?_
  have hcl:=zt6 ok (i:=2+i) oQ
  refine goA ?_
  refine lPu rfl (fun w1 hw1=>zym (some ⟨x,0,none⟩) 512 512 (zcn d.D (2+i)) hcl dQ w1 (Rd.mk (hw1.item (rdI x (zcn d.D (2+i))) (.head _)).1.1) (ht.keep hw1)) ?_
  have hsq:=qcq (zcn d.D (2+i))
  unfold qef at hl
  generalize zgl (zcn d.D (2+i))=s at hl hsq
  generalize zjc (zcn d.D (2+i))=k at hl
  refine goA ?_
  refine zam rfl rfl fun b10 hb10=>?_
  refine za1 rfl (zaf (cs':=zjf s) rfl rfl rfl rfl rfl rfl) fun _=>?_
  refine goA ?_
  cases k with
  |false=>
   rw[eH,if_neg dQ]at hl
   simp only[bT,if_false]
   refine goA ?_
   refine zaw (i+1) ⟨rfl,rfl,rfl,rfl,rfl,trivial⟩ (show i+1≤n by omega) (fun w' hw'=>by rw[hl];exact hw'.sub (.cons _ (.cons _ (.refl _)))) (by show n - (i+1)<n - i;omega)
  |true=>
   rw[gC]at hl
   simp only[if_true]
   refine goA ?_
   refine lPu rfl (fun w1 hw1=>zqi s.seq n hsq hn0 oQ w1) ?_
   refine goA ?_
   have e:(((za9 s.seq n:Nat):Int)==((2+i:Nat):Int))=decide (za9 s.seq n=2+i):=by
    by_cases h:za9 s.seq n=2+i
    ·rw[h,decide_eq_true rfl];exact beq_self_eq_true _
    ·rw[decide_eq_false h];exact beq_eq_false_iff_ne.2 (fun hh=>h (Int.ofNat.inj hh))
   rw[e]
   by_cases hq:za9 s.seq n=2+i
   ·rw[decide_eq_true hq,if_pos rfl]at hl
    rw[decide_eq_true hq]
    refine goA ?_
    refine za1 rfl (zah (zdf _ _ _ _) (zir (q:=.u64) (h:=s.seq) rfl rfl rfl rfl rfl rfl (okU hsq))) fun _=>?_
    refine goA ?_
    refine zaw (i+1) ⟨rfl,rfl,rfl,rfl,rfl,trivial⟩ (show i+1≤n by omega) (fun w' hw'=>by rw[hl];exact hw'.sub (.cons_cons _ (aK _))) (by show n - (i+1)<n - i;omega)
   ·rw[decide_eq_false hq,if_neg dQ]at hl
    rw[decide_eq_false hq]
    refine goA ?_
    refine zaw (i+1) ⟨rfl,rfl,rfl,rfl,rfl,trivial⟩ (show i+1≤n by omega) (fun w' hw'=>by rw[hl];exact hw'.sub (.cons _ (.cons _ (.refl _)))) (by show n - (i+1)<n - i;omega)
 ·obtain rfl:i=n:=oQ
  refine goA ?_
  exact zc1 b rfl rfl rfl rfl trivial (.refl _) (by intro it hm;rcases hm with _|⟨_,hm⟩<;>first|exact zax _ _ _ _|exact(nomatch hm))
end Go.Proofs.YthafakdplhdfjaaGreatDoor
namespace Go.Eng
variable{P:Program}{l:zav}{H:World→Prop}{Q:Exit→Act→World→Prop}{N:Fm}
theorem qo6{n:Nat}{ds:List Deferred}{c:Code}(h:HT P c (Exit.noGoto Q) ⟨n,ds,none⟩ l H):HT P (.scope c) Q ⟨n,ds,none⟩ l H:=by
 unfold HT at*
 exact fun a w s hw=>wpIn_wide.2 (wp_scope_straight (wpIn_wide.1 (h a w s hw)))
theorem qo5{i:Nat}(h:HX Q .normal N l H):HT P (.label i) Q N l H:=by
 unfold HT HX at*
 exact fun a w s hw=>wpIn_label (h a w s hw)
theorem qba(h:HX Q .ret N l H):HX (Exit.noGoto Q) .ret N l H:=by
 unfold HX at*
 exact h
end Go.Eng
namespace Go.Proofs.YthafakdplhdfjaaGreatDoor
open Go.RowKit Go.Eng
abbrev zfn:=List (Nat×Sht)
def toN(B:zfn):zcs:=B.map fun p=>(p.1,.agg (zjf p.2))
theorem ztr(B:zfn)(n:Nat):(toN B).lookup n=(B.lookup n).map (fun s=>Value.agg (zjf s)):=by
 induction B with
 |nil=>rfl
 |cons p B ih=>
  obtain⟨k,s⟩:=p
  show List.lookup n ((k,Value.agg (zjf s))::toN B)=_
  rw[cJ,cJ]
  by_cases h:n=k
  ·subst h;simp
  ·rw[show(n==k)=false from beq_eq_false_iff_ne.2 h];exact ih
variable{B:zfn}{s:Sht}
theorem zim{n:Nat}(h:B.lookup n=some s):(n,s)∈B:=by
 induction B with
 |nil=>cases h
 |cons p B ih=>
  obtain⟨k,t⟩:=p
  rw[cJ]at h
  by_cases hk:n=k
  ·subst hk;simp at h;subst h;exact .head _
  ·rw[show(n==k)=false from beq_eq_false_iff_ne.2 hk]at h
   exact .tail _ (ih h)
def zda(B:zfn):Nat→Nat→Bys→List Bys→List Bys
 |0,_,_,acc=>acc
 |f+1,n,cur,acc=>match B.lookup n with
  |none=>acc
  |some s=>if s.last then zda B f (nxt n) [] (acc++[cur++s.text])else zda B f (nxt n) (cur++s.text) acc
def qj0(B:zfn)(first k:Nat):zfn:=B.filter fun p=>decide (k≤(p.1+18446744073709551616 - first)%18446744073709551616)
theorem qqr{first k:Nat}(hf:first<18446744073709551616)(hk:k<18446744073709551616)(h:B.lookup ((first+k)%18446744073709551616)=some s):(qj0 B first (k+1)).length<(qj0 B first k).length:=by
 have hm:=zim h
 have e:qj0 B first (k+1)=(qj0 B first k).filter fun p=>decide (k+1≤(p.1+18446744073709551616 - first)%18446744073709551616):=by
  unfold qj0
  rw[kG]
  refine kN fun p _=>?_
  by_cases h1:k+1≤(p.1+18446744073709551616 - first)%18446744073709551616
  ·simp[h1];omega
  ·simp[h1]
 have ho:((first+k)%18446744073709551616+18446744073709551616 - first)%18446744073709551616=k:=oQ
 rw[e]
 refine Nat.lt_of_le_of_ne (gI _ _) (fun hh=>?_)
 have:=jE.1 hh ((first+k)%18446744073709551616,s) (dP.2 ⟨hm,by rw[decide_eq_true_eq,ho];exact bA _⟩)
 rw[decide_eq_true_eq,ho]at this
 omega
structure TxS where
 k:Nat
 n:Nat
 cur:Bys
 acc:List Bys
 p:Option Addr
 ob:Option (Nat×Nat)
 o:Option (Nat×Nat)
def zr4(l:List Bys):List Value:=l.map fun s=>.string ⟨s.toArray⟩
theorem zq8(b:Nat)(B:zfn)(hB:∀p∈B,p.2.text.length≤497∧p.2.text≠[])(hBl:B.length≤4096)(first:Nat)(hf:first<18446744073709551616):
  Cv Tryz.prog 163 #[.map (some b),.int .u64 first] [zck .u64 b (toN B)] (fun o:Option (Nat×Nat)=>slV o (zda B (B.length+1) first [] []).length) (fun _=>True) (fun o=>[own 9 1 o (zda B (B.length+1) first [] []).length (zr4 (zda B (B.length+1) first [] [])),zck .u64 b (toN B)]):=by
 intro w hw
 refine za2 [_,_] _ Tryz.func163 rfl rfl hw (.cons (fun _ h=>nomatch h) .nil) ?_
 simp only[zaa,Nat.reduceAdd]
 refine goA ?_
 refine qo6 ?_
 refine goA ?_
 refine zam rfl rfl fun b6 hb6=>?_
 refine goA ?_
 refine qo5 ?_
 refine goA ?_
 obtain⟨R,hR⟩:∃R,zda B (B.length+1) first [] []=R:=⟨_,rfl⟩
 rw[hR]
 refine zc0 (α:=TxS) (fun y=>[(0,.map (some b)),(5,slV y.o y.acc.length),(6,.pointer (some ⟨b6,0,none⟩)),(7,.int .u64 y.n)]) (fun y=>y.n=(first+y.k)%18446744073709551616∧y.k+(qj0 B first y.k).length≤B.length∧zda B (B.length+1 - y.k) y.n y.cur y.acc=R∧y.cur.length≤497*y.k∧y.acc.length≤y.k∧(y.p=none∨y.p=some ⟨b6,0,none⟩))
  (fun y=>blS b6 y.p y.ob y.cur++[own 9 1 y.o y.acc.length (zr4 y.acc),zck .u64 b (toN B)]) (fun y=>(qj0 B first y.k).length) ⟨0,first,[],[],none,none,none⟩ ⟨rfl,rfl,rfl,rfl,trivial⟩ ⟨(bD hf).symm,by rw[aH];exact gI _ _,hR,aZ _,aZ _,.inl rfl⟩ (fun w' hw'=>?_) fun⟨k,n,cur,acc,p,ob,o⟩ ⟨h1,h2,h3,h4,h5,h6⟩=>?_
 ·have g1:=zd1 9 1 hw'
  have g2:=(zd1 5 1 g1).imp (it':=zrz 5 none 0 []) (fun k h=>h) (fun h=>zoy h) (zbh _ _ _ _ _)
  exact g2.pick [2,0,1,3] rfl rfl
 simp only at h1 h2 h3 h4 h5 h6⊢
 have hn:n<18446744073709551616:=by rw[h1];exact dY _ dQ
 have hfu:B.length+1 - k=(B.length - k)+1:=oQ
 rw[hfu,zda]at h3
 refine goA ?_
 refine l_w rfl (qiw (q:=.u64) (h:=n) rfl rfl rfl rfl rfl (okU hn) (.tail _ (.tail _ (.tail _ (.head _))))) ?_
 rw[ztr]
 cases hlk:B.lookup n with
 |none=>
  rw[hlk]at h3
  simp only[fZ,kX,iW]at h3⊢
  subst h3
  refine goA ?_
  refine zam rfl rfl fun b8 hb8=>?_
  refine za1 rfl (zaf (cs':= #[.int .u64 0,.bool false,.string ⟨#[]⟩]) rfl rfl rfl rfl rfl rfl) fun _=>?_
  refine goA ?_
  refine qba ?_
  exact zbd o rfl rfl rfl trivial (.cons _ (.cons _ (.cons _ (.refl _)))) (by intro it hm;rcases hm with _|⟨_,_|⟨_,hm⟩⟩<;>first|exact zac _ _ _ _ _ _|exact zax _ _ _ _|exact(nomatch hm))
 |some s=>
  rw[hlk]at h3
  simp only[bZ,eD,gH]at h3⊢
  obtain⟨hs1,hs2⟩:s.text.length≤497∧s.text≠[]:=hB _ (zim hlk)
  refine goA ?_
  refine zam rfl rfl fun b8 hb8=>?_
  refine za1 rfl (zaf (cs':=zjf s) rfl rfl rfl rfl rfl rfl) fun _=>?_
  refine goA ?_
  refine zay [1,2,3,4,0] rfl rfl ?_
  refine lCu (blS b6 p ob cur) rfl (by simp[zab,zbh]) (fun w1 hw1 hh1 ha1=>zjk b6 p h6 ob cur s.text oQ w1 hh1 ha1) fun⟨ob2,_⟩=>?_
  dsimp only
  have hk64:k<18446744073709551616:=oQ
  have hlt:=qqr hf hk64 (by rw[←h1];exact hlk)
  have hnx:nxt n=(first+(k+1))%18446744073709551616:=by rw[nxt,h1];omega
  have hnl:nxt n<18446744073709551616:=dY _ dQ
  have hfu2:B.length+1 - (k+1)=B.length - k:=oQ
  have hnd:(n+1)%18446744073709551616=nxt n:=rfl
  have hcl:(cur++s.text).length≤497*(k+1):=by rw[aA];omega
  have hne:cur++s.text≠[]:=fun h=>hs2 (List.append_eq_nil_iff.1 h).2
  generalize cur++s.text=C at h3 hcl hne⊢
  rw[←hfu2]at h3
  refine goA ?_
  cases hls:s.last with
  |false=>
   rw[hls,if_neg dQ]at h3
   refine goA ?_
   refine l_w rfl (zj8 (a:=n) (b:=1) rfl rfl) ?_
   rw[hnd]
   generalize nxt n=z at h3 hnx hnl
   refine goA ?_
   exact zaw ⟨k+1,z,C,acc,some ⟨b6,0,none⟩,ob2,o⟩ ⟨rfl,rfl,rfl,rfl,trivial⟩ ⟨hnx,by show k+1+(qj0 B first (k+1)).length≤B.length;omega,h3,hcl,Nat.le_succ_of_le h5,.inr rfl⟩ (fun w' hw'=>hw'.sub (.cons_cons _ (.cons_cons _ (.cons_cons _ (.cons_cons _ (aK _)))))) hlt
  |true=>
   rw[hls,if_pos rfl]at h3
   refine goA ?_
   refine lCu (blS b6 (some ⟨b6,0,none⟩) ob2 C) rfl (by simp[zab,zbh]) (fun w1 hw1 hh1 ha1=>zii b6 _ ob2 C hne w1 hh1 ha1) fun⟨_,_⟩=>?_
   refine goA ?_
   refine za1 rfl (za3 rfl rfl rfl rfl rfl rfl) fun⟨bq,hbq⟩=>?_
   refine goA ?_
   refine za1 rfl (zah (zfq _ _ _ _ _) (zdh (news:=[.string ⟨C.toArray⟩]) rfl rfl rfl rfl rfl rfl rfl rfl oQ (fun w' hw' j v hj=>by rw[zde,aH];exact zby (hw'.item _ (.tail _ (.head _))).1 j v hj))) fun o'=>?_
   have hal:(acc++[C]).length=acc.length+1:=by simp
   have hsv:zr4 (acc++[C])=zr4 acc++[.string ⟨C.toArray⟩]:=by simp[zr4]
   rw[←hal,←hsv]
   refine goA ?_
   refine zay [2,3,0,4] rfl rfl ?_
   refine lCu (blS b6 (some ⟨b6,0,none⟩) ob2 C) rfl (by simp[zab,zbh]) (fun w1 hw1 hh1 ha1=>zwn b6 _ ob2 C w1 hh1 ha1) fun⟨_,_⟩=>?_
   refine goA ?_
   refine l_w rfl (zj8 (a:=n) (b:=1) rfl rfl) ?_
   rw[hnd]
   generalize nxt n=z at h3 hnx hnl
   have hal2:(acc++[C]).length≤k+1:=oQ
   generalize acc++[C]=E at h3 hal2
   refine goA ?_
   exact zaw ⟨k+1,z,[],E,none,none,o'⟩ ⟨rfl,rfl,rfl,rfl,trivial⟩ ⟨hnx,by show k+1+(qj0 B first (k+1)).length≤B.length;omega,h3,aZ _,hal2,.inl rfl⟩ (fun w' hw'=>hw') hlt
theorem qoh(D:Dsk):(zdo D 2).2= -1∨(zdo D 2).2=0∨(zdo D 2).2=1:=by
 have h1:(zdo D 1).2= -1∨(zdo D 1).2=0:=by
  have e:zdo D 1=zi9 (zcn D 0) 0 (qae, -1):=rfl
  rw[e]
  unfold zi9
  split
  ·exact .inr rfl
  ·exact .inl rfl
 show(zi9 _ 1 (zdo D 1)).2=_∨(zi9 _ 1 (zdo D 1)).2=_∨(zi9 _ 1 (zdo D 1)).2=_
 unfold zi9
 split
 ·exact .inr (.inr rfl)
 ·rcases h1 with h|h
  ·exact .inl h
  ·exact .inr (.inl h)
theorem qb1{L:zcs}{v:Nat}(hv:v<18446744073709551616):ze8 L v<18446744073709551616:=by
 have:=(zio L v 18446744073709551615).2 ⟨oQ,fun p _=>by have:nxt p.1<18446744073709551616:=dY _ dQ;omega⟩
 omega
variable{h:Nat}{v:Value}
theorem zl3{A:zcs}(hA:∀p∈A,p.1<18446744073709551616)(hh:h<18446744073709551616):∀p∈zjs A h v,p.1<18446744073709551616:=by
 intro p hp
 unfold zjs at hp
 split at hp
 ·obtain⟨q,hq,rfl⟩:=aS.1 hp
  split
  ·exact hh
  ·exact hA q hq
 ·rcases aR.1 hp with hp|hp
  ·exact hA p hp
  ·rw[aN]at hp;subst hp;exact hh
theorem ztd(D:Dsk)(n i:Nat):∀p∈zg7 D n i,p.1<18446744073709551616:=by
 induction i with
 |zero=>exact fun _ h=>nomatch h
 |succ i ih=>
  show∀p∈qef _ n i _,_
  unfold qef
  split
  ·exact zl3 ih (qcq _)
  ·exact ih
def qd1(D:Dsk)(n:Nat)(note:Bys):Hd:=⟨((zdo D 2).1.gen+1)%18446744073709551616,ze8 (zg7 D n n) 1,n,note⟩
theorem zbo(d:Dk):∀it∈[dkI d,ctI],it.Stable none':=by
 intro it hm
 rcases hm with _|⟨_,_|⟨_,hm⟩⟩
 ·exact zad _
 ·exact zcb _
 ·exact nomatch hm
theorem zw8(d:Dk)(ok:d.D.Ok)(hlive:d.D.dead=false)(hkl:d.D.keep.length≤1000000)(hwl:d.D.wait.length≤1000000)(n:Nat)(hn0:96≤n)(hn1:n≤512)(hn:2+n≤d.D.on.length)(note:Bys)(hno:note.length≤64):
  Cw Tryz.prog 128 #[.pointer (some ⟨d.b,0,none⟩),.int .i64 n,.string ⟨note.toArray⟩] [dkI d,ctI] (fun _:Dk=>.int .i64 ((zbc d.D (zaz (zdo d.D 2).2) (qd1 d.D n note)).1:Nat)) (zfz d (zbc d.D (zaz (zdo d.D 2).2) (qd1 d.D n note)).2) (fun d'=>[dkI d',ctI]):=by
 intro w hw ha
 refine za2 [_,_,_] _ Tryz.func128 rfl rfl hw ha ?_
 have hmany:=ok.many
 have hnl:=bal note
 simp only[zaa,Nat.reduceAdd]
 refine goA ?_
 refine lPu rfl (fun w1 hw1=>zhy d w1 (zbq.of (hw1.item _ (.head _)) (zad _))) ?_
 refine goA ?_
 rw[hnl]
 refine goA ?_
 refine lCu [dkI d,ctI] rfl (zbo d) (fun w1 hw1 hh1 ha1=>znv d ok hlive oQ oQ w1 hh1 ha1) fun⟨_,_⟩=>?_
 have hl2:=qoh d.D
 have hq:qd1 d.D n note=⟨((zdo d.D 2).1.gen+1)%18446744073709551616,ze8 (zg7 d.D n n) 1,n,note⟩:=rfl
 rw[hq]
 generalize zdo d.D 2=q at hl2⊢
 refine goA ?_
 refine zam rfl rfl fun b7 hb7=>?_
 refine za1 rfl (zaf (cs':=hdA q.1) rfl rfl rfl rfl rfl rfl) fun _=>?_
 refine goA ?_
 refine zdy rfl rfl kQ rfl (fun w1 hw1=>zre d ok hlive oQ n oQ oQ w1 (zbq.of (hw1.item (dkI d) (.tail _ (.head _))) (zad _)) (hw1.item ctI (.tail _ (.tail _ (.head _)))).1) fun x hx=>?_
 refine goA ?_
 refine zcx [2,3,0,1] rfl rfl ?_
 have hrk:=ztd d.D n n
 generalize zg7 d.D n n=A at hrk⊢
 refine zap [3] 13 rfl rfl kQ ?_
 (repeat first|refine dAv [2,5] rfl rfl rfl ?_ |refine dno [2,5] rfl rfl rfl ?_ |refine dT [2,5] rfl rfl rfl rfl ?_ |refine dF [2,5] rfl rfl rfl rfl ?_)
 refine d_v [2] rfl rfl kQ (fun _ h=>goH h) rfl rfl (zj8 (a:=q.1.gen) (b:=1) rfl rfl) ?_
 (repeat first|refine dAv [2] rfl rfl rfl ?_ |refine dno [2] rfl rfl rfl ?_ |refine dT [2] rfl rfl rfl rfl ?_ |refine dF [2] rfl rfl rfl rfl ?_)
 refine zat 2 ⟨kQ,dQ⟩ rfl rfl (zfc rfl kQ rfl (fun w1 hw1=>zli q.2 hl2 w1)) (fun _ _ h=>goH h) fun _=>?_
 refine goE ?_
 refine zat 7 ⟨kQ,dQ⟩ rfl rfl (zah (zdf _ _ _ _) (zfb (pre:=[zck .u64 x A]) rfl kQ rfl (by intro it hm;rcases hm with _|⟨_,hm⟩<;>first|exact zax _ _ _ _|exact(nomatch hm)) (fun w1 hw1 hh1 ha1=>zsx x A hrk 1 dQ w1 hh1))) (fun _ _ h=>goH h) fun⟨_,_⟩=>?_
 have hnn:=qb1 (L:=A) (v:=1) dQ
 generalize ze8 A 1=f at hnn⊢
 refine goE ?_
 have hg:(q.1.gen+1)%18446744073709551616<18446744073709551616:=dY _ dQ
 generalize (q.1.gen+1)%18446744073709551616=g at hg⊢
 refine zro 61 _ (.agg (hdA ⟨g,f,n,note⟩)) rfl rfl ?_
 have hof:zaz q.2<9223372036854775808:=by unfold zaz;split<;>decide
 generalize zaz q.2=at_ at hof⊢
 refine zat 11 ⟨kQ,dQ⟩ rfl rfl (zah (bM (a:=zck .u64 x A) (l₁:=[dkI d,ctI]) (l₂:=[pt b7 (.cells (hdA q.1) 238 (0,0))])).symm (zfb (pre:=[dkI d,ctI]) rfl kQ rfl (zbo d) (fun w1 hw1 hh1 ha1=>zrf d ok hkl hwl at_ hof ⟨g,f,n,note⟩ ⟨hg,hnn,by show n<65536;omega,hno⟩ w1 hh1 ha1))) (fun _ _ h=>goH h) fun⟨d',hd'⟩=>?_
 refine goX ?_
 exact zbd d' rfl rfl rfl hd' (.cons_cons _ (.cons_cons _ (aK _))) (zbo d')
def qgl(B:zfn)(h:Nat)(s:Sht):zfn:=if (B.lookup h).isSome then B.map (fun p=>if p.1=h then(h,s)else p)else B++[(h,s)]
theorem qpa(B:zfn)(h:Nat)(s:Sht):toN (qgl B h s)=zjs (toN B) h (.agg (zjf s)):=by
 unfold qgl zjs
 rw[ztr,kR]
 split
 ·unfold toN
  rw[dJ,dJ]
  refine cT fun p _=>?_
  show(_,_)=_
  by_cases hp:p.1=h
  ·simp[hp]
  ·simp[hp]
 ·unfold toN
  rw[cC];rfl
def zbm(D:Dsk)(n:Nat):Nat→zfn
 |0=>[]
 |i+1=>if zjc (zcn D (2+i))&&decide (za9 (zgl (zcn D (2+i))).seq n=2+i)then qgl (zbm D n i) (zgl (zcn D (2+i))).seq (zgl (zcn D (2+i)))else zbm D n i
theorem zo4(D:Dsk)(n i:Nat):toN (zbm D n i)=zg7 D n i:=by
 induction i with
 |zero=>rfl
 |succ i ih=>
  rw[zbm,zg7,qef]
  split
  ·rw[qpa,ih]
  ·exact ih
theorem qke(B:zfn)(h:Nat)(s:Sht):(qgl B h s).length≤B.length+1:=by
 unfold qgl
 split
 ·rw[aD];omega
 ·rw[aA];exact bA _
theorem qeg(D:Dsk)(n i:Nat):(zbm D n i).length≤i:=by
 induction i with
 |zero=>exact bA _
 |succ i ih=>
  rw[zbm]
  split
  ·have:=qke (zbm D n i) (zgl (zcn D (2+i))).seq (zgl (zcn D (2+i)))
   omega
  ·omega
theorem qkd{Φ:Sht→Prop}(hB:∀p∈B,Φ p.2)(hs:Φ s):∀p∈qgl B h s,Φ p.2:=by
 intro p hp
 unfold qgl at hp
 split at hp
 ·obtain⟨q,hq,rfl⟩:=aS.1 hp
  split
  ·exact hs
  ·exact hB q hq
 ·rcases aR.1 hp with hp|hp
  ·exact hB p hp
  ·rw[aN]at hp;subst hp;exact hs
structure Lg where
 h:Hd
 at_:Nat
 next:Nat
 used:Nat
 dead:Bool
abbrev lgA(d:Dk)(g:Lg):Array Value:= #[.pointer (some ⟨d.b,0,none⟩),.int .u64 (g.h.gen:Int),.int .u64 (g.h.first:Int),.int .i64 (g.h.secs:Int),.string ⟨g.h.note.toArray⟩,.int .i64 (g.at_:Int),.int .u64 (g.next:Int),.int .i64 (g.used:Int),.bool g.dead]
abbrev lgI(b:Nat)(d:Dk)(g:Lg):Eng.Item:=pt b (.cells (lgA d g) 246 (0,0))
theorem qog{b:Nat}{d:Dk}{g:Lg}{w:World}(h:zbq (lgI b d g) w)(i:Nat)(hv:(lgA d g)[i]? =some v):w.cell? ⟨b,i,none⟩=some v:=by
 rw[cell_of_row w b i _ _ _ h.1];exact hv
theorem zd6(b:Nat)(d:Dk)(g:Lg)(w:World)(h:zbq (lgI b d g) w):Pu Tryz.prog 133 #[.pointer (some ⟨b,0,none⟩)] w (.int .i64 g.h.secs):=by
 refine zbn [_] Tryz.func133 rfl rfl ?_
 simp only[zaa]
 refine goA ?_
 refine l_w rfl (za0 rfl rfl (fun w' hw'=>qog (h.keep hw') 3 rfl)) ?_
 refine goA ?_
 exact zdk rfl rfl rfl
theorem zu6(b:Nat)(d:Dk)(g:Lg)(w:World)(h:zbq (lgI b d g) w):Pu Tryz.prog 181 #[.pointer (some ⟨b,0,none⟩)] w (.int .i64 g.used):=by
 refine zbn [_] Tryz.func181 rfl rfl ?_
 simp only[zaa]
 refine goA ?_
 refine l_w rfl (za0 rfl rfl (fun w' hw'=>qog (h.keep hw') 7 rfl)) ?_
 refine goA ?_
 exact zdk rfl rfl rfl
theorem zxo(b:Nat)(d:Dk)(g:Lg)(w:World)(h:zbq (lgI b d g) w):Pu Tryz.prog 110 #[.pointer (some ⟨b,0,none⟩)] w (.string ⟨g.h.note.toArray⟩):=by
 refine zbn [_] Tryz.func110 rfl rfl ?_
 simp only[zaa]
 refine goA ?_
 refine l_w rfl (za0 rfl rfl (fun w' hw'=>qog (h.keep hw') 4 rfl)) ?_
 refine goA ?_
 exact zdk rfl rfl rfl
theorem znz(b:Nat)(d:Dk)(g:Lg)(hs:g.h.secs<65536)(hu:g.used≤g.h.secs)(w:World)(h:zbq (lgI b d g) w):Pu Tryz.prog 134 #[.pointer (some ⟨b,0,none⟩)] w (.int .i64 (g.h.secs - g.used:Nat)):=by
 refine zbn [_] Tryz.func134 rfl rfl ?_
 simp only[zaa]
 refine goA ?_
 refine lPu rfl (fun w1 hw1=>zd6 b d g w1 (h.keep hw1)) ?_
 refine goA ?_
 refine lPu rfl (fun w1 hw1=>zu6 b d g w1 (h.keep hw1)) ?_
 refine goA ?_
 exact zdk rfl rfl rfl
def zvk(D:Dsk)(h:Hd):List Bys:=zda (zbm D h.secs h.secs) ((zbm D h.secs h.secs).length+1) h.first [] []
def zcz(D:Dsk)(h:Hd)(c:Nat):Lg:=⟨h,c,ze8 (zg7 D h.secs h.secs) h.first,h.secs,false⟩
theorem qa3(d:Dk)(ok:d.D.Ok)(hlive:d.D.dead=false)(hwl:d.D.wait.length≤1000000)(h2:2≤d.D.on.length)(h:Hd)(c:Nat)(hlk:zdo d.D 2=(h,(c:Int)))(hf:h.first<18446744073709551616)(hs1:1≤h.secs)(hs2:2+h.secs≤d.D.on.length)
  (hne:∀p∈zbm d.D h.secs h.secs,p.2.text.length≤497∧p.2.text≠[]):
  Cw Tryz.prog 109 #[.pointer (some ⟨d.b,0,none⟩)] [dkI d,ctI] (fun y:Nat×Option (Nat×Nat)=>.tuple #[.pointer (some ⟨y.1,0,none⟩),slV y.2 (zvk d.D h).length,.int .i64 0]) (fun _=>True) (fun y=>[lgI y.1 d (zcz d.D h c),own 9 1 y.2 (zvk d.D h).length (zr4 (zvk d.D h)),dkI d,ctI]):=by
 intro w hw ha
 refine za2 [_] _ Tryz.func109 rfl rfl hw ha ?_
 have hmany:=ok.many
 simp only[zaa]
 refine goA ?_
 refine lCu [dkI d,ctI] rfl (zbo d) (fun w1 hw1 hh1 ha1=>znv d ok hlive oQ h2 w1 hh1 ha1) fun⟨_,_⟩=>?_
 rw[hlk]
 refine goA ?_
 refine zam rfl rfl fun b5 hb5=>?_
 refine za1 rfl (zaf (cs':=hdA h) rfl rfl rfl rfl rfl rfl) fun _=>?_
 refine goA ?_
 refine zap [0,1,2] 16 rfl rfl kQ ?_
 refine goE ?_
 refine zat 12 ⟨kQ,dQ⟩ rfl rfl (zfc rfl kQ rfl (fun w1 hw1=>zhy d w1 (zbq.of (hw1.item (dkI d) (.tail _ (.head _))) (zad _)))) (fun _ _ h=>goH h) fun _=>?_
 refine goX ?_
 refine zdy rfl rfl kQ rfl (fun w1 hw1=>zre d ok hlive oQ h.secs oQ hs2 w1 (zbq.of (hw1.item (dkI d) (.tail _ (.head _))) (zad _)) (hw1.item ctI (.tail _ (.tail _ (.head _)))).1) fun x hx=>?_
 have hrk:=ztd d.D h.secs h.secs
 have htn:=zo4 d.D h.secs h.secs
 have hln:=qeg d.D h.secs h.secs
 have hG:zcz d.D h c=⟨h,c,ze8 (zg7 d.D h.secs h.secs) h.first,h.secs,false⟩:=rfl
 have hT:zvk d.D h=zda (zbm d.D h.secs h.secs) ((zbm d.D h.secs h.secs).length+1) h.first [] []:=rfl
 rw[hG,hT]
 generalize zbm d.D h.secs h.secs=B at hne htn hln⊢
 rw[←htn]at hrk⊢
 refine goA ?_
 refine zcx [0,2,3,1] rfl rfl ?_
 refine zap [3] 18 rfl rfl kQ ?_
 (repeat first|refine dAv [6] rfl rfl rfl ?_ |refine dno [6] rfl rfl rfl ?_ |refine dT [6] rfl rfl rfl rfl ?_ |refine dF [6] rfl rfl rfl rfl ?_)
 refine zat 6 ⟨kQ,dQ⟩ rfl rfl (zfb (pre:=[zck .u64 x (toN B)]) rfl kQ rfl (by intro it hm;rcases hm with _|⟨_,hm⟩<;>first|exact zax _ _ _ _|exact(nomatch hm)) (fun w1 hw1 hh1 ha1=>zsx x (toN B) hrk h.first hf w1 hh1)) (fun _ _ h=>goH h) fun⟨_,_⟩=>?_
 (repeat first|refine dAv [10,14] rfl rfl rfl ?_ |refine dno [10,14] rfl rfl rfl ?_ |refine dT [10,14] rfl rfl rfl rfl ?_ |refine dF [10,14] rfl rfl rfl rfl ?_)
 generalize ze8 (toN B) h.first=f
 refine zro 56 _ (.agg (lgA d ⟨h,c,f,h.secs,false⟩)) rfl rfl ?_
 refine zt7 10 14 ⟨kQ,dQ,dQ⟩ rfl rfl rfl rfl (qkx (v:=.agg (lgA d ⟨h,c,f,h.secs,false⟩)) rfl rfl) (zfb (pre:=[zck .u64 x (toN B)]) rfl kQ rfl (by intro it hm;rcases hm with _|⟨_,hm⟩<;>first|exact zax _ _ _ _|exact(nomatch hm)) (fun w1 hw1 hh1 ha1=>zq8 x B hne oQ h.first hf w1 hh1)) (fun _ _ h=>goH h) (fun _ _ h=>goH h) (fun⟨b57,hb57⟩=>?_) (fun⟨o,ho⟩=>?_)
 ·(repeat first|refine dAv [14] rfl rfl rfl ?_ |refine dno [14] rfl rfl rfl ?_ |refine dT [14] rfl rfl rfl rfl ?_ |refine dF [14] rfl rfl rfl rfl ?_)
  refine zat 14 ⟨kQ,dQ⟩ rfl rfl (zah (zcg _ _ _) (zfb (pre:=[zck .u64 x (toN B)]) rfl kQ rfl (by intro it hm;rcases hm with _|⟨_,hm⟩<;>first|exact zax _ _ _ _|exact(nomatch hm)) (fun w1 hw1 hh1 ha1=>zq8 x B hne oQ h.first hf w1 hh1))) (fun _ _ h=>goH h) fun⟨o,ho⟩=>?_
  refine goX ?_
  refine zbr (m':=[lgI b57 d ⟨h,c,f,h.secs,false⟩,own 9 1 o (zda B (B.length+1) h.first [] []).length (zr4 (zda B (B.length+1) h.first [] [])),dkI d,ctI]) (fun w' hw'=>hw'.pick [2,0,3,4] rfl rfl) (qa6 (b57,o) rfl rfl rfl rfl rfl trivial (.refl _) ?_)
  intro it hm
  rcases hm with _|⟨_,_|⟨_,hm⟩⟩
  ·exact zab _ _ _
  ·exact zac _ _ _ _ _ _
  ·exact zbo d it hm
 ·(repeat first|refine dAv [10] rfl rfl rfl ?_ |refine dno [10] rfl rfl rfl ?_ |refine dT [10] rfl rfl rfl rfl ?_ |refine dF [10] rfl rfl rfl rfl ?_)
  refine zat 10 ⟨kQ,dQ⟩ rfl rfl (qkx (v:=.agg (lgA d ⟨h,c,f,h.secs,false⟩)) rfl rfl) (fun _ _ h=>goH h) fun⟨b57,hb57⟩=>?_
  refine goX ?_
  refine zbr (m':=[lgI b57 d ⟨h,c,f,h.secs,false⟩,own 9 1 o (zda B (B.length+1) h.first [] []).length (zr4 (zda B (B.length+1) h.first [] [])),dkI d,ctI]) (fun w' hw'=>hw'.pick [0,1,3,4] rfl rfl) (qa6 (b57,o) rfl rfl rfl rfl rfl trivial (.refl _) ?_)
  intro it hm
  rcases hm with _|⟨_,_|⟨_,hm⟩⟩
  ·exact zab _ _ _
  ·exact zac _ _ _ _ _ _
  ·exact zbo d it hm
theorem zsh{α:Type}{f:FuncId}{cs:List Value}(hb:za7 Tryz.prog f=true)(b:Nat)(d:Dk)(g:Lg)(hg:g.dead=false)(rest:List Eng.Item)(e:α→Nat)(φ:α→Prop)(d':α→Dk)(g':α→Lg)(its:α→List Eng.Item)
  (hrs:∀it∈rest,it.Stable none') (his:∀x,∀it∈its x,it.Stable none')
  (hc:∀w1,(∀it∈lgI b d g::rest,zbq it w1)→(lgI b d g::rest).Pairwise Eng.Item.Apart→Ct Tryz.prog f cs.toArray w1 (za4 (lgI b d g::rest)) (fun x=>.int .i64 (e x:Nat)) φ (fun x=>lgI b (d' x) (g' x)::its x)):
  Cw Tryz.prog 170 #[.pointer (some ⟨b,0,none⟩),.func (.func f) #[] cs.toArray] (lgI b d g::rest) (fun x=>.int .i64 (e x:Nat)) φ (fun x=>lgI b (d' x) { g' x with dead:=decide (e x=4) }::its x):=by
 intro w hw ha
 refine za2 [_,_] _ Tryz.func170 rfl rfl hw ha ?_
 have hst:∀it∈lgI b d g::rest,it.Stable none':=by
  intro it hm
  rcases hm with _|⟨_,hm⟩
  ·exact zab _ _ _
  ·exact hrs it hm
 simp only[zaa,Nat.reduceAdd]
 refine goA ?_
 rw[hg]
 refine goA ?_
 refine zcy (m':=(lgI b d g::rest)++[]) (fun w' hw'=>by rw[bC];exact hw') ?_
 refine zeh rfl (zx1 (pre:=lgI b d g::rest) (fs:=[]) (cs:=cs) (vs:=[]) rfl hb rfl rfl rfl hst (fun w1 hw1 hh1 ha1=>hc w1 hh1 ha1)) fun⟨x,hx⟩=>?_
 dsimp only
 refine goA ?_
 have e14:(((e x:Nat):Int)==4)=decide (e x=4):=by
  by_cases h:e x=4
  ·rw[h,decide_eq_true rfl];rfl
  ·rw[decide_eq_false h];exact beq_eq_false_iff_ne.2 (fun hh=>h oQ)
 rw[e14]
 refine zcy (m':=lgI b (d' x) (g' x)::its x) (fun w' hw'=>by rw[bC]at hw';exact hw') ?_
 refine za1 rfl (zai rfl rfl rfl rfl rfl rfl (show(8:Nat)<9 from dQ)) fun _=>?_
 refine goA ?_
 exact zbd x rfl rfl rfl hx (.refl _) (by
  intro it hm
  rcases hm with _|⟨_,hm⟩
  ·exact zab _ _ _
  ·exact his x it hm)
abbrev qfj(bl b:Nat):Eng.Item:=pt bl (.cells #[.pointer (some ⟨b,0,none⟩)] 164 (0,0))
def zbk(g:Lg):Hd:=⟨(g.h.gen+1)%18446744073709551616,g.next,g.h.secs,g.h.note⟩
def zjd(g:Lg)(D:Dsk):Lg:=if (zbc D (zaz g.at_) (zbk g)).1=0 then { g with h:=zbk g,at_:=zaz g.at_,used:=0 } else g
theorem qa0(bl b:Nat)(d:Dk)(g:Lg)(ok:d.D.Ok)(hkl:d.D.keep.length≤1000000)(hwl:d.D.wait.length≤1000000)(hg:g.h.Ok)(hnx:g.next<18446744073709551616)(hat:g.at_=0∨g.at_=1):
  Cw Tryz.prog 171 #[.pointer (some ⟨bl,0,none⟩)] [lgI b d g,qfj bl b,dkI d,ctI] (fun _:Dk=>.int .i64 ((zbc d.D (zaz g.at_) (zbk g)).1:Nat)) (zfz d (zbc d.D (zaz g.at_) (zbk g)).2) (fun d'=>[lgI b d' (zjd g d.D),qfj bl b,dkI d',ctI]):=by
 intro w hw ha
 refine za2 [_] _ Tryz.func171 rfl rfl hw ha ?_
 obtain⟨⟨gen,first,secs,note⟩,at_,next,used,dead⟩:=g
 obtain⟨hgen,hfirst,hsecs,hnote⟩:=hg
 simp only at hgen hfirst hsecs hnote hnx hat
 simp only[zaa]
 refine goA ?_
 refine zap [0,1,2,3] 23 rfl rfl kQ ?_
 (repeat first|refine dAv [5] rfl rfl rfl ?_ |refine dno [5] rfl rfl rfl ?_ |refine dT [5] rfl rfl rfl rfl ?_ |refine dF [5] rfl rfl rfl rfl ?_)
 refine d_v [21] rfl rfl kQ (fun _ h=>goH h) rfl rfl (zj8 (a:=gen) (b:=1) rfl rfl) ?_
 (repeat first|refine dAv [21] rfl rfl rfl ?_ |refine dno [21] rfl rfl rfl ?_ |refine dT [21] rfl rfl rfl rfl ?_ |refine dF [21] rfl rfl rfl rfl ?_)
 refine zro 24 _ (.agg (hdA ⟨(gen+1)%18446744073709551616,next,secs,note⟩)) rfl rfl ?_
 have hgm:(gen+1)%18446744073709551616<18446744073709551616:=dY _ dQ
 have htH:zbk ⟨⟨gen,first,secs,note⟩,at_,next,used,dead⟩=⟨(gen+1)%18446744073709551616,next,secs,note⟩:=rfl
 simp only[zjd,htH]
 generalize (gen+1)%18446744073709551616=gm at hgm⊢
 refine zat 21 ⟨kQ,dQ⟩ rfl rfl (zlg rfl rfl) (fun _ _ h=>goH h) fun⟨b2,hb2⟩=>?_
 refine goE ?_
 refine zat 22 ⟨kQ,dQ⟩ rfl rfl (zaf (cs':=hdA ⟨gm,next,secs,note⟩) rfl rfl rfl rfl rfl rfl) (fun _ _ h=>goH h) fun _=>?_
 refine zdn kQ ?_
 refine goA ?_
 refine zcx [3,4,0,1,2] rfl rfl ?_
 refine zap [2,3,4] 12 rfl rfl kQ ?_
 refine goE ?_
 refine zat 8 ⟨kQ,dQ⟩ rfl rfl (zfc rfl kQ rfl (fun w1 hw1=>zli (at_:Int) oQ w1)) (fun _ _ h=>goH h) fun _=>?_
 refine goE ?_
 have hof:zaz (at_:Int)<9223372036854775808:=by unfold zaz;split<;>decide
 simp only
 generalize hoe:zaz (at_:Int)=oa at hof⊢
 refine zat 10 ⟨kQ,dQ⟩ rfl rfl (zfb (pre:=[dkI d,ctI]) rfl kQ rfl (zbo d) (fun w1 hw1 hh1 ha1=>zrf d ok hkl hwl oa hof ⟨gm,next,secs,note⟩ ⟨hgm,hnx,hsecs,hnote⟩ w1 hh1 ha1)) (fun _ _ h=>goH h) fun⟨d',hd'⟩=>?_
 refine goE ?_
 refine zdn kQ ?_
 dsimp only
 generalize hwr:zbc d.D oa ⟨gm,next,secs,note⟩=r at hd'⊢
 obtain⟨hd1,hd2,hd3⟩:=hd'
 refine goA ?_
 have hlg:∀g:Lg,lgI b d g=lgI b d' g:=fun g=>by unfold lgI lgA;rw[hd1]
 have hsts:∀g:Lg,∀it∈[lgI b d' g,qfj bl b,dkI d',ctI],it.Stable none':=by
  intro g it hm
  rcases hm with _|⟨_,_|⟨_,hm⟩⟩
  ·exact zab _ _ _
  ·exact zab _ _ _
  ·exact zbo d' it hm
 by_cases he:r.1=0
 ·rw[he]
  refine goA ?_
  refine zcx [3,2,4,0,1] rfl rfl ?_
  refine zap [1,2,3,4] 18 rfl rfl kQ ?_
  refine goE ?_
  refine zat 7 ⟨kQ,dQ⟩ rfl rfl (zx2 rfl (zc5 rfl rfl (.head _) rfl)) (fun _ _ h=>goH h) fun _=>?_
  refine goE ?_
  refine zat 8 ⟨kQ,dQ⟩ rfl rfl (zfc rfl kQ rfl (fun w1 hw1=>zli (at_:Int) oQ w1)) (fun _ _ h=>goH h) fun _=>?_
  rw[hoe]
  refine goE ?_
  refine zat 11 ⟨kQ,dQ⟩ rfl rfl (zjz (V:=[.int .u64 (gm:Int),.int .u64 (next:Int),.int .i64 (secs:Int),.string ⟨note.toArray⟩]) rfl rfl rfl rfl rfl rfl (show(1+4:Nat)≤9 from dQ)) (fun _ _ h=>goH h) fun _=>?_
  refine goE ?_
  refine zat 14 ⟨kQ,dQ⟩ rfl rfl (zai rfl rfl rfl rfl rfl rfl (show(5:Nat)<9 from dQ)) (fun _ _ h=>goH h) fun _=>?_
  refine goE ?_
  refine zat 17 ⟨kQ,dQ⟩ rfl rfl (zai rfl rfl rfl rfl rfl rfl (show(7:Nat)<9 from dQ)) (fun _ _ h=>goH h) fun _=>?_
  refine zdn kQ ?_
  simp only[if_true]
  refine goA ?_
  refine zbr (m':=[lgI b d' ⟨⟨gm,next,secs,note⟩,oa,next,0,dead⟩,qfj bl b,dkI d',ctI]) (fun w' hw'=>by rw[←hlg];exact hw'.pick [0,2,3,4] rfl rfl) (zbd d' rfl rfl rfl ⟨hd1,hd2,hd3⟩ (.refl _) (hsts _))
 ·have hne:((r.1:Int) != 0)=true:=by simp[he]
  rw[hne]
  simp only[if_neg he]
  refine goA ?_
  refine zbr (m':=[lgI b d' ⟨⟨gen,first,secs,note⟩,at_,next,used,dead⟩,qfj bl b,dkI d',ctI]) (fun w' hw'=>by rw[←hlg];exact hw'.pick [3,4,0,1] rfl rfl) (zbd d' rfl rfl rfl ⟨hd1,hd2,hd3⟩ (.refl _) (hsts _))
theorem zts(b:Nat)(d:Dk)(g:Lg)(ok:d.D.Ok)(hkl:d.D.keep.length≤1000000)(hwl:d.D.wait.length≤1000000)(hg:g.h.Ok)(hnx:g.next<18446744073709551616)(hat:g.at_=0∨g.at_=1)(hdead:g.dead=false):
  Cw Tryz.prog 119 #[.pointer (some ⟨b,0,none⟩)] [lgI b d g,dkI d,ctI] (fun _:Dk=>.int .i64 ((zbc d.D (zaz g.at_) (zbk g)).1:Nat)) (zfz d (zbc d.D (zaz g.at_) (zbk g)).2) (fun d'=>[lgI b d' { zjd g d.D with dead:=decide ((zbc d.D (zaz g.at_) (zbk g)).1=4) },dkI d',ctI]):=by
 intro w hw ha
 refine za2 [_] _ Tryz.func119 rfl rfl hw ha ?_
 simp only[zaa]
 refine goA ?_
 refine zc9 rfl rfl rfl fun bl _=>?_
 refine goA ?_
 refine l_w rfl (zhw rfl) ?_
 refine zay [1,0,2,3] rfl rfl ?_
 have hst:∀(d1:Dk) (g1:Lg),∀it∈[lgI b d1 g1,qfj bl b,dkI d1,ctI],it.Stable none':=by
  intro d1 g1 it hm
  rcases hm with _|⟨_,_|⟨_,hm⟩⟩
  ·exact zab _ _ _
  ·exact zab _ _ _
  ·exact zbo d1 it hm
 refine lCu [lgI b d g,qfj bl b,dkI d,ctI] rfl (hst d g) (fun w1 hw1 hh1 ha1=>zsh (f:=171) (cs:=[.pointer (some ⟨bl,0,none⟩)]) kQ b d g hdead [qfj bl b,dkI d,ctI] (fun _:Dk=>(zbc d.D (zaz g.at_) (zbk g)).1) (zfz d (zbc d.D (zaz g.at_) (zbk g)).2) (fun d'=>d') (fun _=>zjd g d.D) (fun d'=>[qfj bl b,dkI d',ctI]) (fun it hm=>hst d g it (.tail _ hm)) (fun d' it hm=>hst d' g it (.tail _ hm)) (fun w2 hh2 ha2=>qa0 bl b d g ok hkl hwl hg hnx hat w2 hh2 ha2) w1 hh1 ha1) fun⟨d',hd'⟩=>?_
 refine goA ?_
 exact zbd d' rfl rfl rfl hd' (.cons_cons _ (.cons _ (.refl _))) (fun it hm=>hst d' _ it (by
  rcases hm with _|⟨_,hm⟩
  ·exact .head _
  ·exact .tail _ (.tail _ hm)))
end Go.Proofs.YthafakdplhdfjaaGreatDoor
