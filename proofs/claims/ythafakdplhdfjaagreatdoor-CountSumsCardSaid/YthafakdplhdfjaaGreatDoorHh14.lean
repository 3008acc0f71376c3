/- Parts: tree; A range over a function whose iterator gives items back that are not zec before; loops that hold such ranges; forest; What stays as it is while nobody writes it; What cards share; law 8. No condition. -/
import Derived.Test.YthafakdplhdfjaaGreatDoorHh13
import Derived.Test.YthafakdplhdfjaaGreatDoorHh08
import Derived.Test.YthafakdplhdfjaaGreatDoorHh05
import Derived.Test.YthafakdplhdfjaaGreatDoorHh03
import Derived.Test.YthafakdplhdfjaaGreatDoorCards
import Derived.Test.YthafakdplhdfjaaGreatDoorTie
import Derived.WalkKit
import Derived.ProofKit
import Derived.OpenShut
import Derived.Below
import Derived.Carry
import Derived.SliceStrings
import Derived.ChangeMaps5
import Derived.Deep.DeepHandedRow
import Derived.Lay
import Derived.LaidMore
import Derived.LaidSub
import Derived.Lib.LaidU8
import Derived.Test.YthafakdplhdfjaaGreatDoorHh06
import Derived.Test.YthafakdplhdfjaaGreatDoorHh07
set_option maxRecDepth 100000
set_option maxHeartbeats 40000000
namespace Go.Proofs.YthafakdplhdfjaaGreatDoor
open Go.RowKit Go.Eng Go.Eng.Bm Go.Eng.Tr
variable{N:Nat}{key:K}{root':Int}
theorem qaq{s:Sh}{val:K}{g g':Sg}{root:Int}(hl:zoj s N key val g root= .ok (root',g')):
  (root=0∧∃q g1,zh8 N g= .ok (q,g1)∧zb8 s N g1 q (lNd [key] [val])= .ok g'∧root'=(q:Int))∨
  (root≠0∧∃k q1 g1,Tr.putF s N key val 16 g root= .ok ((k,q1),g1)∧((q1=0∧root'=root∧g'=g1)∨(q1≠0∧∃q g2,zh8 N g1= .ok (q,g2)∧zb8 s N g2 q (iNd [k] [root.toNat,q1])= .ok g'∧root'=(q:Int)))):=by
 unfold zoj at hl
 by_cases h0:root=0
 ·rw[if_pos h0]at hl
  obtain⟨⟨q,g1⟩,h1,h2⟩:=zb6 hl
  obtain⟨g2,h3,h4⟩:=zb6 h2
  cases h4
  exact .inl ⟨h0,q,g1,h1,h3,rfl⟩
 ·rw[if_neg h0]at hl
  obtain⟨⟨⟨k,q1⟩,g1⟩,h1,h2⟩:=zb6 hl
  refine .inr ⟨h0,k,q1,g1,h1,?_⟩
  by_cases hq:q1=0
  ·simp only[hq,if_true]at h2
   cases h2
   exact .inl ⟨hq,rfl,rfl⟩
  ·simp only[hq,if_false]at h2
   obtain⟨⟨q,g2⟩,h3,h4⟩:=zb6 h2
   obtain⟨g3,h5,h6⟩:=zb6 h4
   cases h6
   exact .inr ⟨hq,q,g2,h3,h5,rfl⟩
variable{c:Tc}
theorem zta{g g':Sg}{s:Pg}(h:Tok c g s)(root:Int)(key val:K)(hk:key.length=c.sh.kw)(hv:val.length=c.sh.vw)(hl:zoj c.sh c.N key val g root= .ok (root',g')):
  Cv Tryz.prog 76 #[.pointer (some ⟨c.t,c.o,none⟩),kV key,kV val] [tmI c root s] (fun _:Pg=>.int .i64 0) (fun s'=>Tok c g' s') (fun s'=>[tmI c root' s']):=by
 intro w hw
 have hsh:ShB c.sh:=h.sh
 have hkl:key.length≤1000000:=by have:=hsh.k2;omega
 have hvl:val.length≤1000000:=by have:=hsh.v2;omega
 refine qfq [_,_,_] _ Tryz.func76 rfl rfl hw (.cons (fun _ h=>nomatch h) .nil) ?_
 simp only[zaa,Nat.reduceAdd]
 refine goA ?_
 refine zdg rfl rfl rfl fun b6 hb6=>?_
 refine goA ?_
 refine zu2 (xs:=[.tmp 6]) rfl rfl ?_
 refine goA ?_
 refine lPu rfl (fun w1 hw1=>zo3 h root w1 (zbq.of (hw1.item (tmI c root s) mm) (zad _))) ?_
 refine goA ?_
 refine l_w rfl (zv6 rfl mm rfl) ?_
 refine goA ?_
 rw[zju,hk]
 refine zd2 19 _ (.bool true) rfl sQ ?_
 refine goA ?_
 refine l_v rfl rfl (zv6 (j:=2) rfl mm rfl) ?_
 rw[zju,hv]
 simp only[beq_self_eq_true]
 refine goA ?_
 simp only[beq_self_eq_true]
 refine lPu rfl (fun w1 hw1=>zin _ w1) ?_
 refine goA ?_
 refine l_w rfl (zfg rfl mm) ?_
 refine goA ?_
 rcases qaq hl with ⟨rfl,q,g1,hp,hsv,rfl⟩ |⟨h0,k,q1,g1,hp,hcase⟩
 ·refine goA ?_
  refine zay [1,0] rfl rfl ?_
  refine lCu [tmI c 0 s] rfl (zag c 0 s) (fun w1 hw1 hh1 ha1=>zvo h 0 hp w1 hh1) fun⟨s1,h1⟩=>?_
  have h1:Tok c g1 s1:=h1
  dsimp only
  refine goA ?_
  refine za1 rfl (zrw (v:=kV key) rfl rfl rfl rfl rfl) fun⟨x1,_⟩=>?_
  refine goA ?_
  refine za1 rfl (zrw (v:=kV val) rfl rfl rfl rfl rfl) fun⟨x2,_⟩=>?_
  refine goA ?_
  refine zay [2,0,1,3] rfl rfl ?_
  refine lCu [tmI c 0 s1] rfl (zag c 0 s1) (fun w1 hw1 hh1 ha1=>zcv h1 0 q (lNd [key] [val]) rfl rfl rfl rfl (NdB.mk' sQ sQ dQ (fun k hm=>by rw[aK.1 hm];exact hkl) (fun k hm=>by rw[aK.1 hm];exact hvl)) hsv w1 ⟨za8 (hw1.item (own 9 1 (some (x1,1)) 1 [kV key]) mm).1,za8 (hw1.item (own 9 1 (some (x2,1)) 1 [kV val]) mm).1,.inl rfl⟩ ⟨zbx hw1 (o:=some (x1,1)) mm,zbx hw1 (o:=some (x2,1)) mm,(fun _ h=>nomatch h)⟩ hh1) fun⟨s2,h2⟩=>?_
  have h2:Tok c g' s2:=h2
  dsimp only
  simp only[aC,aE]
  refine goA ?_
  refine zcy (fun w h=>zj6 h) ?_
  unfold tmL
  refine za1 rfl (zvj rfl rfl rfl) fun _=>?_
  refine goA ?_
  try simp only[aC,aE]
  refine za1 rfl (zah (znu _ _ _ _ _ _ _ _) (zai rfl rfl rfl rfl rfl rfl sQ)) fun _=>?_
  refine goA ?_
  refine zi5 kQ (fun w hw=>zcr _ w) ?_
  refine zbr (m':=[tmI c (q:Int) s2,pt b6 (.cells #[.int .i64 0] 47 (0,0))]) (fun w hw=>zho (c:=c) (root:=(q:Int)) (s:=s2) (m:=[pt b6 (.cells #[.int .i64 0] 47 (0,0))]) (hw.pick [1,2,3,4,0] rfl rfl)) ?_
  exact zbd s2 rfl ⟨_,rfl,zb5 rfl mm⟩ rfl h2 (.cons_cons _ (aG _)) (zag _ _ _)
 ·refine goA ?_
  refine l_w rfl (zfg rfl mm) ?_
  refine goA ?_
  refine zay [1,0] rfl rfl ?_
  refine lCu [tmI c root s] rfl (zag c root s) (fun w1 hw1 hh1 ha1=>qow c root key val hkl hvl 16 g s root h oQ hp w1 hh1) fun⟨s1,h1⟩=>?_
  have h1:Tok c g1 s1:=h1
  dsimp only
  simp only[aC,aE]
  refine goA ?_
  refine zam rfl rfl fun b8 hb8=>?_
  refine za1 rfl (zaf rfl rfl rfl rfl rfl rfl) fun _=>?_
  refine goA ?_
  rcases hcase with ⟨rfl,rfl,rfl⟩ |⟨hq,q,g2,hp2,hsv,rfl⟩
  ·refine goA ?_
   refine za1 rfl (zah (zdf _ _ _ _) (zai rfl rfl rfl rfl rfl rfl sQ)) fun _=>?_
   refine goA ?_
   refine zi5 kQ (fun w hw=>zcr _ w) ?_
   exact zbd s1 rfl ⟨_,rfl,zb5 rfl mm⟩ rfl h1 (.cons _ (.cons _ (.cons_cons _ (aG _)))) (zag _ _ _)
  ·obtain⟨rn,hrn⟩:∃rn:Nat,root=(rn:Int):=by
    obtain⟨n,hld, -⟩:=zql hp
    obtain⟨-,i0,e, -, -⟩:=zgi hld
    exact⟨i0,e⟩
   subst hrn
   rw[cA]at hsv
   have hkb:k.length≤1000000:=zvt hsh hkl 16 g _ hp
   refine goA ?_
   refine zay [1,0,2] rfl rfl ?_
   refine lCu [tmI c (rn:Int) s1] rfl (zag c (rn:Int) s1) (fun w1 hw1 hh1 ha1=>zvo h1 (rn:Int) hp2 w1 hh1) fun⟨s2,h2⟩=>?_
   have h2:Tok c g2 s2:=h2
   dsimp only
   simp only[aC,aE]
   refine goA ?_
   refine zap [0,1,2] 13 rfl rfl kQ ?_
   (repeat first|refine dAv [8] rfl rfl rfl ?_ |refine dno [8] rfl rfl rfl ?_ |refine dT [8] rfl rfl rfl rfl ?_ |refine dF [8] rfl rfl rfl rfl ?_)
   refine goV rfl rfl (zfg rfl mm) ?_
   refine goE ?_
   refine zzm (n':=2) (listed':= #[true,true,true,true,true,true,true,true,true,true,true,true,false,false]) (fun y:Nat×Nat=>[(0,.pointer (some ⟨c.t,c.o,none⟩)),(6,.pointer (some ⟨b6,0,none⟩)),(9,.int .i64 (q:Int)),(63,.pointer (some ⟨c.t,c.o,none⟩)),(64,.int .i64 (q:Int)),(67,.slice (some ⟨y.1,0,none⟩) 1 1),(74,.slice (some ⟨y.2,0,none⟩) 2 2)]) (fun y=>[own 9 1 (some (y.1,1)) 1 [kV k],own 3 1 (some (y.2,2)) 2 [.int .i64 (rn:Int),.int .i64 (q1:Int)],tmI c (rn:Int) s2,pt b8 (.cells #[kV k,.int .i64 (q1:Int)] 204 (0,0)),pt b6 (.cells #[.int .i64 0] 47 (0,0))]) ?_ (fun hk=>?_)
   rotate_left
   ·refine zt7 4 11 ⟨kQ,dQ,dQ⟩ rfl rfl rfl rfl (zrw (v:=kV k) rfl rfl rfl rfl rfl) (qd4 (v:=.int .i64 (rn:Int)) (u:=.int .i64 (q1:Int)) rfl rfl rfl rfl rfl rfl rfl) (fun _ _ h=>goH h) (fun _ _ h=>goH h) (fun⟨x1,_⟩=>?_) (fun⟨x2,_⟩=>?_)
    ·refine zat 11 ⟨kQ,dQ⟩ rfl rfl (qd4 (v:=.int .i64 (rn:Int)) (u:=.int .i64 (q1:Int)) rfl rfl rfl rfl rfl rfl rfl) (fun _ _ h=>goH h) fun⟨x2,_⟩=>?_
     refine zfa [1,0,2,3,4] rfl rfl ?_
     exact hk (x1,x2) _ ⟨rfl,rfl,rfl,rfl,rfl,rfl,rfl,trivial⟩
    ·refine zat 4 ⟨kQ,dQ⟩ rfl rfl (zrw (v:=kV k) rfl rfl rfl rfl rfl) (fun _ _ h=>goH h) fun⟨x1,_⟩=>?_
     exact hk (x1,x2) _ ⟨rfl,rfl,rfl,rfl,rfl,rfl,rfl,trivial⟩
   ·intro ⟨x1,x2⟩
    simp only
    refine goE ?_
    refine zfa [2,0,1,3,4] rfl rfl ?_
    refine zet ⟨kQ,kQ⟩ rfl rfl (zfb (pre:=[tmI c (rn:Int) s2]) rfl kQ rfl (zag c (rn:Int) s2) (fun w1 hw1 hh1 ha1=>zcv h2 (rn:Int) q (iNd [k] [rn,q1]) rfl rfl rfl rfl (NdB.mk' sQ dQ sQ (fun k hm=>by rw[aK.1 hm];exact hkb) (fun _ h=>nomatch h)) hsv w1 ⟨za8 (hw1.item (own 9 1 (some (x1,1)) 1 [kV k]) mm).1,.inl rfl,za8 (hw1.item (own 3 1 (some (x2,2)) 2 [.int .i64 (rn:Int),.int .i64 (q1:Int)]) mm).1⟩ ⟨zbx hw1 (o:=some (x1,1)) mm,(fun _ h=>nomatch h),zbx hw1 (o:=some (x2,2)) mm⟩ hh1)) fun⟨s3,h3⟩=>?_
    have h3:Tok c g' s3:=h3
    dsimp only
    simp only[aC,aE]
    refine goA ?_
    refine zcy (fun w h=>zj6 h) ?_
    unfold tmL
    refine za1 rfl (zvj rfl rfl rfl) fun _=>?_
    refine goA ?_
    try simp only[aC,aE]
    refine za1 rfl (zah (zwo _ _ _ _ _ _ _ _ _) (zai rfl rfl rfl rfl rfl rfl sQ)) fun _=>?_
    refine goA ?_
    refine zi5 kQ (fun w hw=>zcr _ w) ?_
    refine zbr (m':=[tmI c (q:Int) s3,pt b6 (.cells #[.int .i64 0] 47 (0,0))]) (fun w hw=>zho (c:=c) (root:=(q:Int)) (s:=s3) (m:=[pt b6 (.cells #[.int .i64 0] 47 (0,0))]) (hw.pick [1,2,3,4,0] rfl rfl)) ?_
    exact zbd s3 rfl ⟨_,rfl,zb5 rfl mm⟩ rfl h3 (.cons_cons _ (aG _)) (zag _ _ _)
variable{b:Bool}
theorem zzo{s:Sh}{g g':Sg}{root:Int}(hl:zrp s N key g root= .ok ((root',b),g')):
  (root=0∧root'=0∧b=false∧g'=g)∨(root≠0∧∃r is g1,zd8 s N key 16 g root= .ok ((r,is),g1)∧((is=false∧root'=root∧b=false∧g'=g1)∨(is=true∧b=true∧
   ((r.leaf=true∧r.keys.length=0∧zf0 N g1 root.toNat= .ok g'∧root'=0)∨(r.leaf=false∧r.kids.length=1∧zf0 N g1 root.toNat= .ok g'∧root'=(r.kids.getD 0 0:Nat))∨(¬(r.leaf=true∧r.keys.length=0)∧¬(r.leaf=false∧r.kids.length=1)∧zb8 s N g1 root.toNat r= .ok g'∧root'=root))))):=by
 unfold zrp at hl
 by_cases h0:root=0
 ·rw[if_pos h0]at hl;cases hl;exact .inl ⟨h0,rfl,rfl,rfl⟩
 ·rw[if_neg h0]at hl
  obtain⟨⟨⟨r,is⟩,g1⟩,h1,h2⟩:=zb6 hl
  refine .inr ⟨h0,r,is,g1,h1,?_⟩
  cases is with
  |false=>
   simp only[if_true]at h2
   cases h2
   exact .inl ⟨rfl,rfl,rfl,rfl⟩
  |true=>
   simp only[jV,if_false]at h2
   by_cases c1:r.leaf=true∧r.keys.length=0
   ·rw[if_pos c1]at h2
    obtain⟨g2,h3,h4⟩:=zb6 h2
    cases h4
    exact .inr ⟨rfl,rfl,.inl ⟨c1.1,c1.2,h3,rfl⟩⟩
   ·rw[if_neg c1]at h2
    by_cases c2:r.leaf=false∧r.kids.length=1
    ·rw[if_pos c2]at h2
     obtain⟨g2,h3,h4⟩:=zb6 h2
     cases h4
     exact .inr ⟨rfl,rfl,.inr (.inl ⟨c2.1,c2.2,h3,rfl⟩)⟩
    ·rw[if_neg c2]at h2
     obtain⟨g2,h3,h4⟩:=zb6 h2
     cases h4
     exact .inr ⟨rfl,rfl,.inr (.inr ⟨c1,c2,h3,rfl⟩)⟩
theorem qfu{g g':Sg}{s:Pg}(h:Tok c g s)(root:Int)(key:K)(hk:key.length=c.sh.kw)(hl:zrp c.sh c.N key g root= .ok ((root',b),g')):
  Cv Tryz.prog 73 #[.pointer (some ⟨c.t,c.o,none⟩),kV key] [tmI c root s] (fun _:Pg=>.tuple #[.bool b,.int .i64 0]) (fun s'=>Tok c g' s') (fun s'=>[tmI c root' s']):=by
 intro w hw
 have hsh:ShB c.sh:=h.sh
 refine qfq [_,_] _ Tryz.func73 rfl rfl hw (.cons (fun _ h=>nomatch h) .nil) ?_
 simp only[zaa,Nat.reduceAdd]
 refine goA ?_
 refine zdg rfl rfl rfl fun b5 hb5=>?_
 refine goA ?_
 refine zu2 (xs:=[.tmp 5]) rfl rfl ?_
 refine goA ?_
 refine lPu rfl (fun w1 hw1=>zo3 h root w1 (zbq.of (hw1.item (tmI c root s) mm) (zad _))) ?_
 refine goA ?_
 refine l_w rfl (zv6 rfl mm rfl) ?_
 refine goA ?_
 rw[zju,hk]
 refine lPu rfl (fun w1 hw1=>qb0 _ _ w1) ?_
 refine goA ?_
 refine l_w rfl (zfg rfl mm) ?_
 refine goA ?_
 rcases zzo hl with ⟨rfl,rfl,rfl,rfl⟩ |⟨h0,r,is,g1,hp,hcase⟩
 ·refine goA ?_
  refine za1 rfl (zai rfl rfl rfl rfl rfl rfl sQ) fun _=>?_
  refine goA ?_
  refine zi5 kQ (fun w hw=>zcr _ w) ?_
  exact zc1 s rfl rfl ⟨_,rfl,zb5 rfl mm⟩ rfl h (.cons _ (.refl _)) (zag _ _ _)
 ·obtain⟨rn,hrn⟩:∃rn:Nat,root=(rn:Int):=by
   obtain⟨n,hld, -⟩:=zn9 hp
   obtain⟨-,i0,e, -, -⟩:=zgi hld
   exact⟨i0,e⟩
  subst hrn
  rw[cA]at hcase
  refine goA ?_
  refine l_w rfl (zfg rfl mm) ?_
  refine goA ?_
  refine zay [1,0] rfl rfl ?_
  refine lCu [tmI c (rn:Int) s] rfl (zag c (rn:Int) s) (fun w1 hw1 hh1 ha1=>qeh c (rn:Int) key 16 g s (rn:Int) h oQ hp w1 hh1) fun⟨⟨s1,o⟩,h1⟩=>?_
  have h1:Tok c g1 s1:=h1
  dsimp only
  unfold ndI
  simp only[aC,aE]
  refine goA ?_
  refine zam rfl rfl fun b6 hb6=>?_
  refine za1 rfl (zaf (cs':=ndO r o) rfl rfl rfl rfl (zdl r o) rfl) fun _=>?_
  refine goA ?_
  rcases hcase with ⟨rfl,rfl,rfl,rfl⟩ |⟨rfl,rfl,hcase⟩
  ·refine goA ?_
   refine za1 rfl (zah (zjj _ _ _ _ _ _ _) (zai rfl rfl rfl rfl rfl rfl sQ)) fun _=>?_
   refine goA ?_
   refine zi5 kQ (fun w hw=>zcr _ w) ?_
   exact zc1 s1 rfl rfl ⟨_,rfl,zb5 rfl mm⟩ rfl h1 (.cons _ (.cons _ (.cons_cons _ (aG _)))) (zag _ _ _)
  ·refine zhm (fun w hw=>And.intro (zas (hw.item (own 9 1 o.k r.keys.length (r.keys.map kV)) mm).1).1 (And.intro (zas (hw.item (own 9 1 o.v r.vals.length (r.vals.map kV)) mm).1).1 (zas (hw.item (own 3 1 o.d r.kids.length (r.kids.map iV)) mm).1).1)) fun⟨f1,f2,f3⟩=>?_
   unfold ndO
   rw[f1,f2,f3]
   rcases hcase with ⟨hlf,hkl,hd,rfl⟩ |⟨hlf,hkl,hd,rfl⟩ |⟨hc1,hc2,hsv,rfl⟩
   ·rw[hlf,hkl]
    refine goA ?_
    refine l_w rfl (zfg rfl mm) ?_
    refine goA ?_
    refine zay [1,5] rfl rfl ?_
    refine lCu [tmI c (rn:Int) s1] rfl (zag c (rn:Int) s1) (fun w1 hw1 hh1 ha1=>zub h1 (rn:Int) rn hd w1 hh1) fun⟨s2,h2⟩=>?_
    have h2:Tok c g' s2:=h2
    dsimp only
    simp only[aC,aE]
    refine goA ?_
    refine zcy (fun w h=>zj6 h) ?_
    unfold tmL
    refine za1 rfl (zvj rfl rfl rfl) fun _=>?_
    refine goA ?_
    refine za1 rfl (zah (zji _ _ _ _ _ _) (zai rfl rfl rfl rfl rfl rfl sQ)) fun _=>?_
    refine goA ?_
    refine zi5 kQ (fun w hw=>zcr _ w) ?_
    refine zbr (m':=[tmI c 0 s2,pt b5 (.cells #[.int .i64 0] 47 (0,0))]) (fun w hw=>zho (c:=c) (root:=0) (s:=s2) (m:=[pt b5 (.cells #[.int .i64 0] 47 (0,0))]) (hw.pick [1,2,3,4,0] rfl rfl)) ?_
    exact zc1 s2 rfl rfl ⟨_,rfl,zb5 rfl mm⟩ rfl h2 (.cons_cons _ (aG _)) (zag _ _ _)
   ·refine zhm (fun w hw=>zdj (hw.item (own 3 1 o.d r.kids.length (r.kids.map iV)) mm).1 oQ) fun⟨db,dc,e⟩=>?_
    obtain⟨kq,hkq⟩:∃x,r.kids[0]? =some x:=⟨_,aB oQ⟩
    rw[show r.kids.getD 0 0=kq by rw[aH,hkq];rfl]
    rw[hlf,hkl,e]
    simp only[qtz,qt0]
    refine goA ?_
    refine l_w rfl (zfg rfl mm) ?_
    refine goA ?_
    refine zay [1,0,4,5] rfl rfl ?_
    refine lCu [tmI c (rn:Int) s1] rfl (zag c (rn:Int) s1) (fun w1 hw1 hh1 ha1=>zub h1 (rn:Int) rn hd w1 hh1) fun⟨s2,h2⟩=>?_
    have h2:Tok c g' s2:=h2
    dsimp only
    simp only[aC,aE]
    refine goA ?_
    refine l_w rfl (za0 (v:=.int .i64 (kq:Int)) rfl rfl (fun w' hw'=>zby (hw'.item (own 3 1 (some (db,dc)) 1 (r.kids.map iV)) mm).1 _ _ (by simp only[aL];rw[aP,hkq];rfl))) ?_
    refine goA ?_
    refine zcy (fun w h=>zj6 h) ?_
    unfold tmL
    refine za1 rfl (zvj rfl rfl rfl) fun _=>?_
    refine goA ?_
    refine za1 rfl (zah (znu _ _ _ _ _ _ _ _) (zai rfl rfl rfl rfl rfl rfl sQ)) fun _=>?_
    refine goA ?_
    refine zi5 kQ (fun w hw=>zcr _ w) ?_
    refine zbr (m':=[tmI c (kq:Int) s2,pt b5 (.cells #[.int .i64 0] 47 (0,0))]) (fun w hw=>zho (c:=c) (root:=(kq:Int)) (s:=s2) (m:=[pt b5 (.cells #[.int .i64 0] 47 (0,0))]) (hw.pick [1,2,3,4,0] rfl rfl)) ?_
    exact zc1 s2 rfl rfl ⟨_,rfl,zb5 rfl mm⟩ rfl h2 (.cons_cons _ (aG _)) (zag _ _ _)
   ·obtain⟨lf,hlf⟩:∃b,r.leaf=b:=⟨_,rfl⟩
    rw[hlf]at hc1 hc2⊢
    cases lf with
    |true=>
     have hk0:r.keys.length≠0:=fun e=>hc1 ⟨rfl,e⟩
     refine goA ?_
     refine zcx [1,0,2,3,4,5] rfl rfl ?_
     refine zap [0,1,2,3,4,5] 6 rfl rfl kQ ?_
     (repeat first|refine dAv [4] rfl rfl rfl ?_ |refine dno [4] rfl rfl rfl ?_ |refine dT [4] rfl rfl rfl rfl ?_ |refine dF [4] rfl rfl rfl rfl ?_)
     refine goV rfl rfl (zfg rfl mm) ?_
     refine goE ?_
     refine zet ⟨kQ,kQ⟩ rfl rfl (zfb (pre:=[tmI c (rn:Int) s1]) rfl kQ rfl (zag c (rn:Int) s1) (fun w1 hw1 hh1 ha1=>zcv h1 (rn:Int) rn r hlf rfl rfl rfl (zku hsh (zmd hsv)).1 hsv w1 ⟨za8 (hw1.item (own 9 1 o.k r.keys.length (r.keys.map kV)) mm).1,za8 (hw1.item (own 9 1 o.v r.vals.length (r.vals.map kV)) mm).1,za8 (hw1.item (own 3 1 o.d r.kids.length (r.kids.map iV)) mm).1⟩ ⟨zbx hw1 (o:=o.k) mm,zbx hw1 (o:=o.v) mm,zbx hw1 (o:=o.d) mm⟩ hh1)) fun⟨s2,h2⟩=>?_
     have h2:Tok c g' s2:=h2
     dsimp only
     simp only[aC,aE]
     refine goA ?_
     refine za1 rfl (zah (zjj _ _ _ _ _ _ _) (zai rfl rfl rfl rfl rfl rfl sQ)) fun _=>?_
     refine goA ?_
     refine zi5 kQ (fun w hw=>zcr _ w) ?_
     exact zc1 s2 rfl rfl ⟨_,rfl,zb5 rfl mm⟩ rfl h2 (.cons _ (.cons_cons _ (aG _))) (zag _ _ _)
    |false=>
     have hk0:r.kids.length≠1:=fun e=>hc2 ⟨rfl,e⟩
     refine goA ?_
     refine zcx [1,0,2,3,4,5] rfl rfl ?_
     refine zap [0,1,2,3,4,5] 6 rfl rfl kQ ?_
     (repeat first|refine dAv [4] rfl rfl rfl ?_ |refine dno [4] rfl rfl rfl ?_ |refine dT [4] rfl rfl rfl rfl ?_ |refine dF [4] rfl rfl rfl rfl ?_)
     refine goV rfl rfl (zfg rfl mm) ?_
     refine goE ?_
     refine zet ⟨kQ,kQ⟩ rfl rfl (zfb (pre:=[tmI c (rn:Int) s1]) rfl kQ rfl (zag c (rn:Int) s1) (fun w1 hw1 hh1 ha1=>zcv h1 (rn:Int) rn r hlf rfl rfl rfl (zku hsh (zmd hsv)).1 hsv w1 ⟨za8 (hw1.item (own 9 1 o.k r.keys.length (r.keys.map kV)) mm).1,za8 (hw1.item (own 9 1 o.v r.vals.length (r.vals.map kV)) mm).1,za8 (hw1.item (own 3 1 o.d r.kids.length (r.kids.map iV)) mm).1⟩ ⟨zbx hw1 (o:=o.k) mm,zbx hw1 (o:=o.v) mm,zbx hw1 (o:=o.d) mm⟩ hh1)) fun⟨s2,h2⟩=>?_
     have h2:Tok c g' s2:=h2
     dsimp only
     simp only[aC,aE]
     refine goA ?_
     refine za1 rfl (zah (zjj _ _ _ _ _ _ _) (zai rfl rfl rfl rfl rfl rfl sQ)) fun _=>?_
     refine goA ?_
     refine zi5 kQ (fun w hw=>zcr _ w) ?_
     exact zc1 s2 rfl rfl ⟨_,rfl,zb5 rfl mm⟩ rfl h2 (.cons _ (.cons_cons _ (aG _))) (zag _ _ _)
end Go.Proofs.YthafakdplhdfjaaGreatDoor
namespace Go.Eng
open Go.RowKit
section
variable{P:Program}{Q:Exit→Act→World→Prop}{l:zav}{w0:World}{F:Nat→Prop}{m:List Item}{fn:Func}{R:Ending→World→Prop}
variable{α:Type}
def qne(P:Program)(gf:FuncId)(cs:List Value)(mi:List Item){β:Type}(mo:β→List Item)(ψ:β→Prop)(E:List α→α→Prop)(S:List α→Prop)(enc:α→List Value):Prop:=
 ∀(σ:Type) (ly:Nat) (Y:σ→Item) (I:List α→σ→Prop) (J:σ→Prop) (s0:σ) (w:World),(∀s,(Y s).Stable none')→I [] s0→
  (∀k x s,E k x→I k s→Yd P ly Y s (enc x).toArray fun b s'=>(b=true∧I (k++[x]) s')∨(b=false∧J s'))→
  (∀it∈Y s0::mi,zbq it w)→(Y s0::mi).Pairwise Item.Apart→
  Calls P gf (.func (.yield ly) #[] #[]::cs).toArray w fun e w'=>(∃v,e= .returned v)∧∃s z,ψ z∧((∃k,S k∧I k s)∨J s)∧Its (za4 (Y s0::mi)) w (Y s::mo z) w'
variable{n:Nat}{gf:FuncId}
theorem qcw{gx:Operand}{ps:Array Tmp}{assign body:Code}{ds:List Deferred}{cs:List Value}{mi m2:List Item}{β:Type}{mo:β→List Item}{ψ:β→Prop}{E:List α→α→Prop}{S:List α→Prop}{enc:α→List Value}{σ:Type}(B:σ→List Item)(I:List α→σ→Prop)(J:Code→σ→Prop)(s0:σ)
  (hg:evO l gx=some (.func (.func gf) #[] cs.toArray)) (hk:zex l gx=true) (hb:za7 P gf=true) (hit:qne P gf cs mi mo ψ E S enc) (hps:∀x,((enc x).length=ps.size)) (hpn:∀p∈ps.toList,p<n)
  (hst:∀s,∀it∈B s,it.Stable none') (hmi:∀it∈mi,it.Stable none') (h0:I [] s0)
  (hround:∀ly rc k x s W,E k x→I k s→HT P assign (zzd P ly body (qjh ly rc B (fun _=>I (k++[x])) (fun c=>J (c.getD .skip)) (pt ly (rc.at .ready none)::B s) W)) ⟨n,[],some ly⟩ (zn8 (ps.toList.zip (enc x)) l)
   (Hp W (za4 (pt ly (rc.at .ready none)::B s)) (pt ly (rc.at .ready none)::B s)))
  (hdone:∀D k s z,ψ z→S k→I k s→HX Q .normal ⟨n,zel D::ds,none⟩ l (Hp w0 F (pt D (.deferred (some []))::(B s++(mo z++m2)))))
  (hstop:∀D c s z,ψ z→J c s→HT P c Q ⟨n,zel D::ds,none⟩ l (Hp w0 F (pt D (.deferred (some []))::(B s++(mo z++m2))))):
  HT P (.rangeFunc gx ps assign body) Q ⟨n,ds,none⟩ l (Hp w0 F (B s0++(mi++m2))):=by
 unfold HT HX at*
 intro a w st hw
 refine wpIn_rangeFunc fun fn _=>?_
 obtain⟨rc,hrc⟩:∃rc:Rc,rc=⟨fn,a.tmps,ps,assign,body,w.heap.size⟩:=⟨_,rfl⟩
 obtain⟨ly,hly⟩:∃ly,ly=w.heap.size+1:=⟨_,rfl⟩
 obtain⟨W1,hW1⟩:∃W1,(w.alloc (.deferred (some []))).alloc (rc.at .ready none)=W1:=⟨_,rfl⟩
 have hH1:Hp w0 F (pt ly (rc.at .ready none)::pt w.heap.size (.deferred (some []))::(B s0++(mi++m2))) W1:=by
  have:=(hw.alloc (.deferred (some []))).alloc (rc.at .ready none)
  rw[hW1]at this
  simpa[hly]using this
 obtain⟨Y,hY⟩:∃Y:σ×Option Code→Item,∀s,Y s=zef (pt ly (rc.at (if s.2.isNone then .ready else .done) s.2)::B s.1):=⟨_,fun _=>rfl⟩
 have hLs:∀s st pe,∀it∈pt ly (rc.at st pe)::B s,it.Stable none':=fun s st pe it hm=>(aI.1 hm).elim (fun h=>h▸zab _ _ _) (hst s it)
 have hmarks:({ a with defers:=[zel w.heap.size]++a.defers }:Act).defers=zel w.heap.size::ds:=by simp[st.defers]
 have st':St ⟨n,zel w.heap.size::ds,none⟩ l { a with defers:=[zel w.heap.size]++a.defers }:=⟨st.size,hmarks,st.slot⟩
 have hH2:Hp w0 F ((pt ly (rc.at .ready none)::B s0)++(mi++(pt w.heap.size (.deferred (some []))::m2))) W1:=by
  refine hH1.perm ?_
  refine(List.Perm.cons _ ?_)
  refine((bH (l₁:=B s0++mi) (l₂:=m2) (a:=pt w.heap.size (.deferred (some [])))).symm.trans ?_:(pt w.heap.size (.deferred (some []))::(B s0++mi++m2)).Perm _) |> fun h=>by simpa using h
  simp
 have hHere:∀it∈Y (s0,none)::mi,zbq it W1:=by
  intro it hm
  rcases aI.1 hm with rfl|hm
  ·rw[hY]
   refine zk4 (fun it hm=>?_) (bQ.1 hH2.apart).1
   have hin:=hH2.item it (aN _ hm)
   exact⟨hin.1,hLs _ _ _ it hm,fun k hk=>(hin.2.2 k hk).1⟩
  ·have hin:=hH2.item it (aT _ (aN _ hm))
   exact⟨hin.1,hmi it hm,fun k hk=>(hin.2.2 k hk).1⟩
 have hAp:(Y (s0,none)::mi).Pairwise Item.Apart:=by
  have h1:=bQ.1 hH2.apart
  refine bI.2 ⟨fun y hy k hk hky=>?_,(bQ.1 h1.2.1).1⟩
  rw[hY]at hk
  obtain⟨x,hx,hkx⟩:=hk
  exact h1.2.2 x hx y (aN _ hy) k hkx hky
 refine⟨ly,[zel w.heap.size],W1,{ target:=.fn (.func gf) cs.toArray,args:= #[.func (.yield ly) #[] #[]] },W1,gf,(.func (.yield ly) #[] #[]::cs).toArray,W1,?_,?_,fun _ _=>trivial,?_,zla _,?_⟩
 ·rw[←hW1,hrc,hly];exact run_enterLoop_outer _ _ _ _ _
 ·have:a.eval gx= .func (.func gf) #[] cs.toArray:=by rw[st.eval hk,zar hg]
  simp only[resolve,this]
  simp[go_sem]
 ·simp[invoke,zdz hb]
 ·refine(callsIn_wide (n:=0)).2 ((hit (σ×Option Code) ly Y (fun k s=>s.2=none∧I k s.1) (fun s=>∃c,s.2=some c∧J c s.1) (s0,none) W1 (fun s=>by rw[hY];exact zad _) ⟨rfl,h0⟩ ?_ hHere hAp).mono ?_)
  ·rintro k x ⟨s,pe⟩ hx ⟨rfl,hI⟩ W hW
   rw[hY]at hW
   have hrec:W.heap[ly]? =some (rc.at .ready none):=(hW.1.1 (pt ly (rc.at .ready none)) sQ).1
   refine⟨fn,(ps.toList.zip (enc x)).foldl (fun t (p,v)=>t.setIfInBounds p v) a.tmps,assign,body,?_,?_⟩
   ·have:=run_yield (P:=P) (args:=(enc x).toArray) hrec (by simpa[hrc]using hps x)
    rw[this,hrc]
    exact congrArg (fun T=>Result.ok (Next.round ly fn T assign body) W) (qf4 ps (enc x) _)
   ·have s1:St ⟨n,[],some ly⟩ l { tmps:=a.tmps,defers:=[] }:=⟨st.size,rfl,st.slot⟩
    have s2:=St.round (ps.toList.zip (enc x)) s1 (fun p hp=>hpn _ (iO (a:=p.1) (b:=p.2) hp).1)
    have h1:=hround ly rc k x s W hx hI _ W s2 (.begin hW.1.1 hW.1.2 _ fun k hk=>hk)
    refine RoundIn.mono (roundIn_of_wpIn (n:=0) (F:=Fence.wide) trivial h1) ?_
    rintro e w' ⟨pe,s',he,hJ,hi⟩
    refine⟨pe.isNone,(s',pe),he,?_,by rw[hY,hY];exact hi⟩
    cases pe with
    |none=>exact .inl ⟨rfl,rfl,hJ⟩
    |some c=>exact .inr ⟨rfl,c,rfl,hJ⟩
  ·rintro e w3 ⟨⟨v,rfl⟩,⟨s,pe⟩,z,hz,hs,hi⟩
   have h3:Hp w0 F ((Y (s,pe)::mo z)++(pt w.heap.size (.deferred (some []))::m2)) w3:=by
    refine Hp.call (m:=(pt ly (rc.at .ready none)::B s0)++mi) (by simpa using hH2) hi fun k _ ⟨it,hm,hk⟩=>?_
    rcases aI.1 hm with rfl|hm
    ·rw[hY]at hk
     obtain⟨x,hx,hkx⟩:=hk
     exact⟨x,aN _ hx,hkx⟩
    ·exact⟨it,aT _ hm,hk⟩
   rw[hY]at h3
   have h4:=Hp.open1 (L:=pt ly (rc.at (if pe.isNone then .ready else .done) pe)::B s) (m:=mo z++(pt w.heap.size (.deferred (some []))::m2)) h3
   have h5:=h4.put (m:=B s++(mo z++(pt w.heap.size (.deferred (some []))::m2))) (rc.at .exhausted pe)
   have h6:Hp w0 F (pt w.heap.size (.deferred (some []))::(B s++(mo z++m2))) (w3.putObj ly (rc.at .exhausted pe)):=by
    refine(h5.sub (fX _ _)).perm ?_
    rw[←aF,←aF]
    exact bH
   have hend:=run_endLoop (P:=P) (h4.get (b:=ly) (o:=rc.at (if pe.isNone then .ready else .done) pe) sQ) (by cases pe<;>simp)
   refine⟨pe,_,hend,?_⟩
   cases pe with
   |none=>
    obtain⟨k,hk1, -,hk2⟩:=hs.resolve_right fun⟨c,hc,_⟩=>by cases hc
    exact hdone _ k s z hz hk1 hk2 _ _ st' h6
   |some c=>exact hstop _ c s z hz ((hs.resolve_left fun⟨k,hk1,h,_⟩=>by cases h).elim fun c' h=>by cases h.1;exact h.2) _ _ st' h6
def zpw{σ β:Type}(w:World)(Fc:Nat→Prop)(Y:σ→Item)(mo:β→List Item)(ψ:β→Prop)(φ:σ→Prop):Ending→World→Prop:=fun e w'=>(∃v,e= .returned v)∧∃s z,ψ z∧φ s∧Its Fc w (Y s::mo z) w'
variable{c:Code}
theorem qki(cs:List Value)(mi:List Item){β:Type}(mo:β→List Item)(ψ:β→Prop)(E:List α→α→Prop)(S:List α→Prop)(enc:α→List Value)(hf:P.funcs[gf]? =some fn)(hb:fn.body=some c)(hn:Nat.ble (cs.length+1) fn.ntmps=true)
  (h:∀(σ:Type) (ly:Nat) (Y:σ→Item) (I:List α→σ→Prop) (J:σ→Prop) (s0:σ) (w:World),(∀s,(Y s).Stable none')→I [] s0→
   (∀k x s,E k x→I k s→Yd P ly Y s (enc x).toArray fun b s'=>(b=true∧I (k++[x]) s')∨(b=false∧J s'))→
   HT P c (zpc P fn (zpw w (za4 (Y s0::mi)) Y mo ψ fun s=>(∃k,S k∧I k s)∨J s)) ⟨fn.ntmps,[],none⟩ (zaa 0 (.func (.yield ly) #[] #[]::cs)) (Hp w (za4 (Y s0::mi)) (Y s0::mi))):qne P gf cs mi mo ψ E S enc:=
 fun σ ly Y I J s0 w hst h0 hy hh ha=>zwr hf hb hn (Hp w (za4 (Y s0::mi)) (Y s0::mi)) (.begin hh ha _ fun _ h=>h) (h σ ly Y I J s0 w hst h0 hy)
theorem qa8{σ β:Type}{Y:σ→Item}{mo:β→List Item}{ψ:β→Prop}{φ:σ→Prop}(s:σ)(z:β)(hf:fn.results= #[])(hψ:ψ z)(hφ:φ s)(hst:∀it∈Y s::mo z,it.Stable none')(hs:(Y s::mo z).Sublist m):HX (bodyPost P fn (zpw w0 F Y mo ψ φ)) .ret ⟨n,[],none⟩ l (Hp w0 F m):=
 qna hf fun _ hw=>⟨⟨_,rfl⟩,s,z,hψ,hφ,hw.its hs hst⟩
theorem qlz{σ β:Type}{Y:σ→Item}{mo:β→List Item}{ψ:β→Prop}{φ:σ→Prop}(s:σ)(z:β)(hf:fn.results= #[])(hψ:ψ z)(hφ:φ s)(hst:∀it∈Y s::mo z,it.Stable none')(hs:(Y s::mo z).Sublist m):HX (bodyPost P fn (zpw w0 F Y mo ψ φ)) .normal ⟨n,[],none⟩ l (Hp w0 F m):=
 qc4 hf fun _ hw=>⟨⟨_,rfl⟩,s,z,hψ,hφ,hw.its hs hst⟩
def ql4(w0:World)(F:Nat→Prop)(Nf:α→Fm)(L:α→zav)(φ:α→Prop)(M:α→List Item)(μ:α→Nat)(x:α):Act→World→Prop:=fun a w=>∃y,μ y<μ x∧St (Nf y) (L y) a∧φ y∧Hp w0 F (M y) w
variable{N:Fm}
theorem qro(Nf:α→Fm)(L:α→zav)(φ:α→Prop)(M:α→List Item)(μ:α→Nat)(x₀:α)(hN:Nf x₀=N)(hr:∀x,(Nf x).r=N.r)(h₀:Has l (L x₀))(hφ:φ x₀)(hI:∀w,Hp w0 F m w→Hp w0 F (M x₀) w)
  (round:∀x,φ x→HT P c (Exit.then (ql4 w0 F Nf L φ M μ x) Q) (Nf x) (L x) (Hp w0 F (M x))):HT P (.loop c) Q N l (Hp w0 F m):=by
 unfold HT at*
 intro a w s hw
 refine zmn (fun x a w=>St (Nf x) (L x) a∧φ x∧Hp w0 F (M x) w) μ (fun x a w ⟨sx,hx,hm⟩=>?_) x₀ a w ⟨by rw[hN];exact s.sub h₀.sub,hφ,hI w hw⟩
 have h1:=round x hx a w sx hm
 rw[hr x]at h1
 refine WP.mono (fun e a' w' q=>?_) h1
 cases e with
 |normal=>
  obtain⟨y,h1,h2,h3,h4⟩:=q
  exact⟨y,⟨h2,h3,h4⟩,h1⟩
 |_=>exact q
theorem ql1{Nf:α→Fm}{L:α→zav}{φ:α→Prop}{M:α→List Item}{μ:α→Nat}{x:α}(y:α)(hN:Nf y=N)(hl:Has l (L y))(hφ:φ y)(hI:∀w,Hp w0 F m w→Hp w0 F (M y) w)(hm:μ y<μ x):HX (Exit.then (ql4 w0 F Nf L φ M μ x) Q) .normal N l (Hp w0 F m):=by
 unfold HX
 exact fun a w s hw=>⟨y,hm,by rw[hN];exact s.sub hl.sub,hφ,hI w hw⟩
end
end Go.Eng
namespace Go.Proofs.YthafakdplhdfjaaGreatDoor
open Go.RowKit Go.Eng Go.Eng.Bm Go.Eng.Tr
def qp4(s:Sh)(N:Nat)(g:Sg)(f:K):Nat→Nat→E→Prop
 |0,_,_=>False
 |d+1,at_,xs=>∃n,zfs s N g (at_:Nat)= .ok n∧((n.leaf=true∧xs=(n.keys.zip n.vals).drop (lb n.keys f))∨
  (n.leaf=false∧∃L:List (Nat×E),L.map (·.1)=n.kids.drop (dn n.keys f)∧(∀x∈L,qp4 s N g f d x.1 x.2)∧xs=L.flatMap (·.2)))
theorem qmu{α β:Type}:∀l:List (α×β),(l.map (·.1)).zip (l.map (·.2))=l
 | []=>rfl
 |(a,b)::l=>by rw[bD,bD,gS,qmu l]
theorem ql5{s:Sh}(hs:1≤s.kw){N:Nat}(hN:N≤1024){g:Sg}{f:K}:∀{h:Nat} (t:T h),Ord t→Wd s t→Below s t→sz t≤mx s h→(1≤h→2≤sz t)→(∀h',2≤mx s (h'+1)/2)→Rep g.W t→(∀x∈pgs t,1≤x∧x<N)→∀d,h<d→qp4 s N g f d (pg t) (qni t f)
 |_,_,_,_,_,_,_,_,_,_,0,hd=>oQ
 |0,(p,es),hO,hW,hB,hm,h2,hx,hr,hp,d+1,_=>by
  refine⟨_,zfl hs hr (zcu _ hO hW hm h2 fun x hx=>⟨(hp x hx).1,by have:=(hp x hx).2;omega⟩) (hp p (.head _)).1 (hp p (.head _)).2,.inl ⟨rfl,?_⟩⟩
  show es.drop (lb (keys es) f)=((es.map (·.1)).zip (es.map (·.2))).drop _
  rw[qmu];rfl
 |h+1,(p,ks,kids),hO,hW,hB,hm,h2,hx,hr,hp,d+1,hd=>by
  refine⟨_,zfl hs hr (zcu _ hO hW hm h2 fun x hx=>⟨(hp x hx).1,by have:=(hp x hx).2;omega⟩) (hp p (.head _)).1 (hp p (.head _)).2,.inr ⟨rfl,(kids.drop (dn ks f)).map fun x=>(pg x,qni x f),?_,?_,?_⟩⟩
  ·show _=(kids.map pg).drop (dn ks f)
   rw[dM,eX];rfl
  ·intro x hx1
   obtain⟨y,hy,rfl⟩:=aO.1 hx1
   have hy:=cG hy
   have hBy:=hB y hy
   exact ql5 hs hN y (hO.2.2 y hy) (hW.2 y hy) hBy.2.2 hBy.2.1 (fun h1=>by
    obtain⟨h',rfl⟩:∃h',h=h'+1:=⟨h - 1,oQ⟩
    exact cI (hx h') hBy.1) hx (hr.2 y hy) (fun z hz=>hp z (.tail _ (cE.2 ⟨y,hy,hz⟩))) d oQ
  ·show(kids.drop (dn ks f)).flatMap (fun x=>qni x f)=_
   rw[List.flatMap_map]
def qjj(x:Nat×Nat×Nat×Nat)(c:Tc)(at_ d:Nat)(f:K):List Eng.Item:=[pt x.1 (.cells #[.int .i64 (d:Nat)] 3 (0,0)),pt x.2.1 (.cells #[.pointer (some ⟨c.t,c.o,none⟩)] 137 (0,0)),pt x.2.2.1 (.cells #[.int .i64 (at_:Nat)] 3 (0,0)),pt x.2.2.2 (.cells #[kV f] 9 (0,0))]
def qsi(x:Nat×Nat×Nat×Nat):List Value:=[.pointer (some ⟨x.1,0,none⟩),.pointer (some ⟨x.2.1,0,none⟩),.pointer (some ⟨x.2.2.1,0,none⟩),.pointer (some ⟨x.2.2.2,0,none⟩)]
theorem zk3(x:Nat×Nat×Nat×Nat)(c:Tc)(at_ d:Nat)(f:K):∀it∈qjj x c at_ d f,it.Stable none':=by simp[qjj,zab]
def qtp(x:Nat×Nat×Nat×Nat):Value:=.func (.func 154) #[] (qsi x).toArray
theorem zr9(c:Tc)(at_ d:Nat)(f:K)(w:World):Ct Tryz.prog 105 #[.pointer (some ⟨c.t,c.o,none⟩),.int .i64 (at_:Nat),.int .i64 (d:Nat),kV f] w none' qtp (fun _=>True) (fun x=>qjj x c at_ d f):=by
 refine zes [_,_,_,_] Tryz.func105 rfl rfl ?_
 simp only[zaa,Nat.reduceAdd]
 refine goA ?_
 refine zc9 rfl rfl rfl fun b4 _=>?_
 refine zc9 rfl rfl rfl fun b5 _=>?_
 refine zc9 rfl rfl rfl fun b6 _=>?_
 refine zc9 rfl rfl rfl fun b7 _=>?_
 refine goA ?_
 refine l_w rfl (zhw rfl) ?_
 refine goA ?_
 refine zgf [1,3,2,0] rfl rfl ?_
 exact zbd (b6,b4,b5,b7) rfl rfl rfl trivial (.refl _) (zk3 _ c at_ d f)
variable{α:Type}{x:α}
theorem qk7{l k:List α}(h:(k++[x])<+:l)(m r:List α):(m++k++[x])<+:(m++l++r):=by
 obtain⟨t,ht⟩:=h
 exact⟨t++r,by simp[←ht]⟩
theorem zml{l:List α}{i:Nat}(h:l[i]? =some x):l.take i++[x]=l.take (i+1):=by rw[dA,h];rfl
theorem qsf{σ:Type}{Y:σ→Eng.Item}(h:∀s,(Y s).Stable none')(c:Tc)(root:Int)(s':σ){z:Pg}:∀it∈Y s'::[tmI c root z],it.Stable none':=by
 intro it hm
 rcases hm with _|⟨_,hm⟩
 ·exact h _
 ·exact zag c root z it hm
theorem qal(A:List α)(y p:α)(r:List α):(A++y::p::r).Perm (y::p::(A++r)):=bH.trans (.cons _ bH)
theorem qjk(c:Tc)(root:Int)(g:Sg)(f:K):∀(d at_:Nat) (xs:E) (s:Pg) (x:Nat×Nat×Nat×Nat),d≤16→Tok c g s→qp4 c.sh c.N g f d at_ xs→
  qne Tryz.prog 154 (qsi x) (qjj x c at_ d f++[tmI c root s]) (fun s':Pg=>[tmI c root s']) (fun s'=>Tok c g s') (fun k y=>(k++[y])<+:xs) (fun k=>k=xs) (fun y=>[kV y.1,kV y.2]):=by
 intro d
 induction d with
 |zero=>exact fun at_ xs s x _ _ h=>h.elim
 |succ d ih=>
  rintro at_ xs s ⟨b1,b2,b3,b4⟩ hd h ⟨n,h1,hcase⟩
  obtain⟨hmay, -⟩:=zgi h1
  obtain⟨hnb,hb1,hb2,hb3⟩:=zku h.sh hmay
  refine qki _ _ _ _ _ _ _ Tryz.func154 rfl rfl ?_
  intro σ ly Y I J s0 w hst h0 hy
  simp only[qjj,aC,aE,qsi]
  refine goA ?_
  refine zc9 rfl rfl rfl fun b5 _=>?_
  refine goA ?_
  refine lPu rfl (fun w1 hw1=>zvc oQ _ w1) ?_
  refine goA ?_
  refine zay [6,0,1,2,3,4,5] rfl rfl ?_
  refine lCu [tmI c root s] rfl (zag c root s) (fun w1 hw1 hh1 ha1=>zmz h root at_ h1 w1 hh1) fun⟨⟨s1,o⟩,hs1⟩=>?_
  have hs1:Tok c g s1:=hs1
  dsimp only
  unfold ndI
  simp only[aC,aE]
  refine goA ?_
  refine zam rfl rfl fun b6 hb6=>?_
  refine za1 rfl (zaf (cs':=ndO n o) rfl rfl rfl rfl (zdl n o) rfl) fun _=>?_
  rcases hcase with ⟨hlf,rfl⟩ |⟨hlf,L,hL1,hL2,rfl⟩
  ·obtain⟨-,hkv, -, -⟩:=hmay.leaf hlf
   refine goA ?_
   rw[hlf]
   refine goA ?_
   refine lPu rfl (fun w1 hw1=>zl0 hmay hb1 f w1 (zdw hw1 mm mm mm)) ?_
   refine goA ?_
   refine zhm (fun w hw=>And.intro (zas (hw.item (own 9 1 o.k n.keys.length (n.keys.map kV)) mm).1).1 (And.intro (zas (hw.item (own 9 1 o.v n.vals.length (n.vals.map kV)) mm).1).1 (zas (hw.item (own 3 1 o.d n.kids.length (n.kids.map iV)) mm).1).1)) fun⟨f1,f2,f3⟩=>?_
   obtain⟨zs,hzs⟩:∃zs,(n.keys.zip n.vals).drop (lb n.keys f)=zs:=⟨_,rfl⟩
   rw[hzs]
   have hlb:=qkn n.keys f
   have hzl:zs.length=n.keys.length - lb n.keys f:=by rw[←hzs,aX,jQ,←hkv,kN]
   refine zc0 (α:=Nat×σ) (fun y=>[(5,.pointer (some ⟨b5,0,none⟩)),(6,.pointer (some ⟨b6,0,none⟩)),(7,.int .i64 ((lb n.keys f+y.1:Nat):Int))]) (fun y=>y.1≤zs.length∧I (zs.take y.1) y.2) (fun y=>[Y y.2,pt b6 (.cells #[.bool true,.slice (slA o.k) n.keys.length (slC o.k),.slice (slA o.v) n.vals.length (slC o.v),.slice (slA o.d) n.kids.length (slC o.d)] 185 (0,0)),tmI c root s1,own 9 1 o.k n.keys.length (n.keys.map kV),own 9 1 o.v n.vals.length (n.vals.map kV),pt b5 (.cells #[.func (.yield ly) #[] #[]] 114 (0,0))]) (fun y=>zs.length - y.1) (0,s0) ⟨rfl,rfl,rfl,trivial⟩ ⟨aZ _,h0⟩ (fun w' hw'=>by unfold ndO at hw';rw[f1,f2,f3,hlf]at hw';exact hw'.pick [6,0,1,2,3,5] rfl rfl) fun⟨i,st⟩ ⟨hi,hI⟩=>?_
   simp only at hi hI⊢
   by_cases hlt:lb n.keys f+i<n.keys.length
   ·refine zhm (fun w hw=>And.intro (zdj (hw.item (own 9 1 o.k n.keys.length (n.keys.map kV)) mm).1 oQ) (zdj (hw.item (own 9 1 o.v n.vals.length (n.vals.map kV)) mm).1 oQ)) fun⟨⟨kb,kc,e⟩,⟨vb,vc,e'⟩⟩=>?_
    obtain⟨ok,ov',od⟩:=o
    simp only at e e'⊢
    subst e
    subst e'
    simp only[qtz,qt0]
    obtain⟨y,hy1⟩:∃y,zs[i]? =some y:=⟨_,aB oQ⟩
    have hkq:n.keys[lb n.keys f+i]? =some y.1∧n.vals[lb n.keys f+i]? =some y.2:=by
     rw[←hzs,eA,List.getElem?_zip_eq_some]at hy1
     exact hy1
    refine goA ?_
    refine qik [1,2,3,4,5] rfl rfl kQ ?_
    refine zje (i:=0) rfl kQ (fun w hw=>hw.pick [1,2,3,4,5] rfl rfl) rfl (zrb rfl rfl mm rfl) ?_
    refine zje (i:=1) rfl kQ (fun w hw=>hw.pick [1,2,3,4,5] rfl rfl) rfl (zea rfl rfl) ?_
    refine zje (i:=2) rfl kQ (fun w hw=>hw.pick [1,2,3,4,5] rfl rfl) rfl (zrb rfl rfl (.head _) rfl) ?_
    refine zje (i:=3) rfl kQ (fun w hw=>hw.pick [1,2,3,4,5] rfl rfl) rfl (zi4 rfl) ?_
    refine zje (i:=4) rfl kQ (fun w hw=>hw.pick [1,2,3,4,5] rfl rfl) rfl (zra rfl rfl rfl hlt) ?_
    refine zje (i:=5) rfl kQ (fun w hw=>hw.pick [1,2,3,4,5] rfl rfl) rfl (zrc (v:=kV y.1) rfl rfl (.tail _ (.tail _ (.head _))) (by rw[aP,aL,hkq.1];rfl)) ?_
    refine zje (i:=6) rfl kQ (fun w hw=>hw.pick [1,2,3,4,5] rfl rfl) rfl (zea rfl rfl) ?_
    refine zje (i:=7) rfl kQ (fun w hw=>hw.pick [1,2,3,4,5] rfl rfl) rfl (zrb rfl rfl (.head _) rfl) ?_
    refine zje (i:=8) rfl kQ (fun w hw=>hw.pick [1,2,3,4,5] rfl rfl) rfl (zi4 rfl) ?_
    refine zje (i:=9) rfl kQ (fun w hw=>hw.pick [1,2,3,4,5] rfl rfl) rfl (zra rfl rfl rfl oQ) ?_
    refine zje (i:=10) rfl kQ (fun w hw=>hw.pick [1,2,3,4,5] rfl rfl) rfl (zrc (v:=kV y.2) rfl rfl (.tail _ (.tail _ (.tail _ (.head _)))) (by rw[aP,aL,hkq.2];rfl)) ?_
    refine qjb (i:=11) kQ rfl rfl rfl rfl (hst st) (hy (zs.take i) y st (by rw[zml hy1,hzs];exact List.take_prefix _ _) hI) (fun s' w hw=>hw.pick [1,2,3,4,5] rfl rfl) fun b s' hR=>?_
    refine zje (i:=12) rfl kQ (fun w hw=>hw.pick [1,2,3,4,5] rfl rfl) rfl (ov fun _ _ _ _ _=>rfl) ?_
    refine qsb kQ ?_
    rw[zml hy1]at hR
    rcases hR with ⟨rfl,h8⟩ |⟨rfl,h8⟩
    ·refine goA ?_
     exact zaw (i+1,s') ⟨rfl,rfl,rfl,trivial⟩ ⟨by simp only;omega,h8⟩ (fun w hw=>hw) (by simp only;omega)
    ·refine goA ?_
     refine zri ?_
     exact qa8 s' s1 rfl hs1 (.inr h8) (qsf hst _ _ _) (.cons_cons _ (.cons _ (.cons_cons _ (aG _))))
   ·refine goA ?_
    refine zri ?_
    have he:zs.take i=zs:=bK oQ
    rw[he]at hI
    exact qa8 st s1 rfl hs1 (.inl ⟨_,rfl,hI⟩) (qsf hst _ _ _) (.cons_cons _ (.cons _ (.cons_cons _ (aG _))))
  ·obtain⟨hkr,hvs,hkl1,hk1, -⟩:=hmay.inner hlf
   have hdn:=zoh n.keys f
   refine zch (fun w hw=>And.intro (zdj (hw.item (own 3 1 o.d n.kids.length (n.kids.map iV)) mm).1 oQ) (And.intro (zas (hw.item (own 3 1 o.d n.kids.length (n.kids.map iV)) mm).1).2 (And.intro (zas (hw.item (own 9 1 o.k n.keys.length (n.keys.map kV)) mm).1).1 (zas (hw.item (own 9 1 o.v n.vals.length (n.vals.map kV)) mm).1).1))) fun⟨⟨db,dc,e⟩,hdc,f1,f2⟩=>?_
   obtain⟨ok,ov',od⟩:=o
   simp only at e hdc f1 f2⊢
   subst e
   have hdc:n.kids.length≤dc:=hdc
   refine goA ?_
   rw[hlf]
   refine goA ?_
   refine zcx [6,0,1,5,7,8,10,2,3,4] rfl rfl ?_
   refine zap [0,1,2,3,4,5,6,7,8,9] 8 rfl rfl kQ ?_
   refine goE ?_
   refine dPu 4 rfl rfl (fun w1 hw1=>zoq (o:=⟨ok,ov',some (db,dc)⟩) hmay hb1 f w1 (zdw hw1 mm mm mm)) ?_
   refine goV rfl rfl (qr3 (i:=dn n.keys f) rfl rfl rfl rfl oQ) ?_
   refine goE ?_
   refine zdn kQ ?_
   rw[zcf oQ,aL,bL]
   refine goA ?_
   have hLl:L.length=n.kids.length - dn n.keys f:=by have:=congrArg List.length hL1;simpa using this
   refine qro (α:=List Nat×Nat×σ×Pg) (fun y=>⟨Tryz.f154.ntmps,y.1.map zel,none⟩) (fun y=>[(1,.pointer (some ⟨b1,0,none⟩)),(2,.pointer (some ⟨b2,0,none⟩)),(4,.pointer (some ⟨b4,0,none⟩)),(5,.pointer (some ⟨b5,0,none⟩)),(52,.slice (some ⟨db,dn n.keys f,none⟩) (n.kids.length - dn n.keys f) (dc - dn n.keys f)),(53,.int .i64 ((n.kids.length - dn n.keys f:Nat):Int)),(54,.int .i64 (y.2.1:Nat))]) (fun y=>y.2.1≤L.length∧Tok c g y.2.2.2∧I ((L.take y.2.1).flatMap (·.2)) y.2.2.1) (fun y=>Y y.2.2.1::pt b5 (.cells #[.func (.yield ly) #[] #[]] 114 (0,0))::tmI c root y.2.2.2::pt b1 (.cells #[.int .i64 ((d+1:Nat):Int)] 3 (0,0))::pt b2 (.cells #[.pointer (some ⟨c.t,c.o,none⟩)] 137 (0,0))::pt b4 (.cells #[kV f] 9 (0,0))::own 3 1 (some (db,dc)) n.kids.length (n.kids.map iV)::y.1.map zry) (fun y=>L.length - y.2.1) ([],0,s0,s1) rfl (fun _=>rfl) ⟨rfl,rfl,rfl,rfl,rfl,rfl,rfl,trivial⟩ ⟨aZ _,hs1,h0⟩ (fun w' hw'=>hw'.pick [0,3,2,4,5,6,9] rfl rfl) fun⟨ds,j,st,z⟩ ⟨hj,hz,hI⟩=>?_
   simp only at hj hz hI⊢
   by_cases hlt:j<n.kids.length - dn n.keys f
   ·obtain⟨y,hy1⟩:∃y,L[j]? =some y:=⟨_,aB oQ⟩
    have hkq:n.kids[dn n.keys f+j]? =some y.1:=by rw[←eA,←hL1,aP,hy1];rfl
    have hsp:L.flatMap (·.2)=(L.take j).flatMap (·.2)++y.2++(L.drop (j+1)).flatMap (·.2):=by
     have h2:(L.take (j+1)).flatMap (·.2)=(L.take j).flatMap (·.2)++y.2:=by rw[←zml hy1];simp
     rw[←h2,←bE,bF]
    refine goA ?_
    refine l_w rfl (zrc (v:=.int .i64 (y.1:Int)) rfl rfl (.tail _ (.tail _ (.tail _ (.tail _ (.tail _ (.tail _ (.head _))))))) (by rw[aP,hkq];rfl)) ?_
    refine goA ?_
    rw[show d+1 - 1=d by omega]
    refine zdy rfl rfl kQ rfl (fun w1 hw1=>zr9 c y.1 d f w1) fun x hx=>?_
    refine goA ?_
    refine ztn (m':=[Y st,pt b5 (.cells #[.func (.yield ly) #[] #[]] 114 (0,0))]++((qjj x c y.1 d f++[tmI c root z])++(pt b1 (.cells #[.int .i64 ((d+1:Nat):Int)] 3 (0,0))::pt b2 (.cells #[.pointer (some ⟨c.t,c.o,none⟩)] 137 (0,0))::pt b4 (.cells #[kV f] 9 (0,0))::own 3 1 (some (db,dc)) n.kids.length (n.kids.map iV)::ds.map zry))) ((qal (qjj x c y.1 d f) _ _ _).trans (by simp only[aC,aE,aF];exact .refl _)) ?_
    refine qcw (fun st=>[Y st,pt b5 (.cells #[.func (.yield ly) #[] #[]] 114 (0,0))]) (fun k st=>I ((L.take j).flatMap (·.2)++k) st) (fun e st=>e= .ret∧J st) st rfl rfl kQ (ih y.1 y.2 z x oQ hz (hL2 y (cB hy1))) (fun _=>rfl) dQ (fun s=>by
     intro it hm
     rcases hm with _|⟨_,_|⟨_,hm⟩⟩
     ·exact hst s
     ·exact zab _ _ _
     ·cases hm) (fun it hm=>by
     rcases aR.1 hm with hm|hm
     ·exact zk3 _ _ _ _ _ it hm
     ·exact zag _ _ _ it hm) (by rw[aU];exact hI) ?_ ?_ ?_
    ·rintro ly2 rc k y1 st1 W hx1 hk
     simp only[zn8,gS,iQ]
     refine goA ?_
     refine qly ?_
     refine goA ?_
     refine zay [1,0,2] rfl rfl ?_
     refine zz8 rfl rfl rfl rfl (hst st1) (hy _ y1 st1 (by rw[hsp];exact qk7 hx1 _ _) hk) fun b s' hR=>?_
     rcases hR with ⟨rfl,h8⟩ |⟨rfl,h8⟩
     ·refine goA ?_
      refine zgf [1,0,2] rfl rfl ?_
      exact ztw .normal none rfl s' (by rw[aF]at h8;exact h8) (.refl _) (by simp[hst,zab])
     ·refine goA ?_
      refine zgf [1,0,2] rfl rfl ?_
      exact ztw .ret (some .ret) rfl s' ⟨rfl,h8⟩ (.refl _) (by simp[hst,zab])
    ·rintro D k st2 z2 hz2 rfl h8
     refine goA ?_
     exact ql1 (D::ds,j+1,st2,z2) rfl ⟨rfl,rfl,rfl,rfl,rfl,rfl,rfl,trivial⟩ ⟨by simp only;omega,hz2,by simp only;rw[←zml hy1,bE];simpa using h8⟩ (fun w' hw'=>hw'.perm (bH (l₁:=[_,_,_,_,_,_,_])).symm) (by simp only;omega)
    ·rintro D e st2 z2 hz2 ⟨rfl,h8⟩
     refine goA ?_
     refine zbr (fun w' hw'=>hw'.perm (.cons _ (dR (l₁:=[_,_,_,_,_,_,_]) (l₂:=ds.map zry)))) ?_
     exact qa9 (D::ds) (qa8 st2 z2 rfl hz2 (.inr h8) (qsf hst _ _ _) (.cons_cons _ (.cons _ (.cons_cons _ (aG _)))))
   ·refine goA ?_
    refine zbr (fun w' hw'=>hw'.perm (dR (l₁:=[_,_,_,_,_,_,_]) (l₂:=ds.map zry))) ?_
    rw[bK oQ]at hI
    exact ql0 ds (qlz st z rfl hz (.inl ⟨_,rfl,hI⟩) (qsf hst _ _ _) (.cons_cons _ (.cons _ (.cons_cons _ (aG _)))))
end Go.Proofs.YthafakdplhdfjaaGreatDoor
namespace Go.Eng
open Go.RowKit
section
variable{P:Program}{w0:World}{F:Nat→Prop}{m:List Item}{l:zav}{H:World→Prop}
end
end Go.Eng
namespace Go.Proofs.YthafakdplhdfjaaGreatDoor
open Go.RowKit Go.Eng Go.Eng.Bm Go.Eng.Tr
def qnd(s:Sh)(N:Nat)(g:Sg)(f:K)(root:Int)(xs:E):Prop:=(root=0∧xs=[])∨∃at_:Nat,root=(at_:Int)∧at_≠0∧qp4 s N g f 16 at_ xs
theorem qd9{α:Type}(A B C:List α):(A++(B++C)).Perm (B++((A++C)++[])):=by
 rw[aU,←aF,←aF]
 exact dR.append_right _
variable{g:Sg}{s:Pg}
theorem qnu{c:Tc}(h:Tok c g s)(root:Int){xs:E}(hl:qnd c.sh c.N g [] root xs){σ:Type}(D:σ→List Eng.Item)(I:E→σ→Prop)(J:σ→Prop)(s0:σ){fd:FuncId}{cs:List Value}(hb:za7 Tryz.prog fd=true)(hst:∀st,∀it∈D st,it.Stable none')(h0:I [] s0)
  (hcall:∀k y st,(k++[y])<+:xs→I k st→∀w,(∀it∈D st,zbq it w)→(D st).Pairwise Eng.Item.Apart→Ct Tryz.prog fd (kV y.1::kV y.2::cs).toArray w (za4 (D st)) (fun x:Bool×σ=>.bool x.1) (fun x=>(x.1=true∧I (k++[y]) x.2)∨(x.1=false∧J x.2)) (fun x=>D x.2)):
  Cw Tryz.prog 77 #[.pointer (some ⟨c.t,c.o,none⟩),.func (.func fd) #[] cs.toArray] (tmI c root s::D s0) (fun _:Pg×σ=>.int .i64 0) (fun x=>Tok c g x.1∧(I xs x.2∨J x.2)) (fun x=>tmI c root x.1::D x.2):=by
 intro w hw ha
 have hst2:∀s' st,∀it∈tmI c root s'::D st,it.Stable none':=by
  intro s' st it hm
  rcases hm with _|⟨_,hm⟩
  ·exact zad _
  ·exact hst st it hm
 refine qfr [_,_] _ Tryz.func77 rfl rfl hw ha ?_
 simp only[zaa,Nat.reduceAdd]
 refine goA ?_
 refine zc9 rfl rfl rfl fun b3 hb3=>?_
 refine zdg rfl rfl rfl fun b4 hb4=>?_
 refine goA ?_
 refine zu2 (xs:=[.tmp 4]) rfl rfl ?_
 refine goA ?_
 refine l_w rfl (zwf (v':=.bool true) (ov fun _ _ _ _ _=>rfl) rfl) ?_
 refine goA ?_
 refine lPu rfl (fun w1 hw1=>zin _ w1) ?_
 refine goA ?_
 refine lPu rfl (fun w1 hw1=>zo3 h root w1 (zbq.of (hw1.item (tmI c root s) mm) (zad _))) ?_
 refine goA ?_
 refine l_w rfl (zfg rfl mm) ?_
 refine goA ?_
 rcases hl with ⟨rfl,rfl⟩ |⟨at_,rfl,hn0,hA⟩
 ·refine goA ?_
  refine za1 rfl (zai rfl rfl rfl rfl rfl rfl sQ) fun _=>?_
  refine goA ?_
  refine qa7 kQ (fun w hw=>zhn _ w) (zri ?_)
  exact zbd (s,s0) rfl ⟨_,rfl,zb5 rfl mm⟩ rfl ⟨h,.inl h0⟩ (.cons _ (.cons _ (.refl _))) (hst2 _ _)
 ·refine goA ?_
  refine l_w rfl (zfg rfl mm) ?_
  refine goA ?_
  refine zdy rfl rfl kQ rfl (fun w1 hw1=>zr9 c at_ 16 [] w1) fun x hx=>?_
  refine goA ?_
  refine ztn (m':=([pt b3 (.cells #[.func (.func fd) #[] cs.toArray] 114 (0,0)),pt b4 (.cells #[.int .i64 0] 47 (0,0))]++D s0)++((qjj x c at_ 16 []++[tmI c at_ s])++[])) ?_ ?_
  ·exact(cW _ ((List.Perm.swap _ _ _).trans (.cons _ (.cons _ (fI _ _).symm)))).trans (qd9 (qjj x c at_ 16 []) (pt b3 (.cells #[.func (.func fd) #[] cs.toArray] 114 (0,0))::pt b4 (.cells #[.int .i64 0] 47 (0,0))::D s0) [tmI c at_ s])
  refine qcw (fun st=>[pt b3 (.cells #[.func (.func fd) #[] cs.toArray] 114 (0,0)),pt b4 (.cells #[.int .i64 0] 47 (0,0))]++D st) I (fun e st=>e= .exit 0∧J st) s0 rfl rfl kQ (qjk c at_ g [] 16 at_ xs s x oQ h hA) (fun _=>rfl) dQ (fun st it hm=>by
   rcases aR.1 hm with hm|hm
   ·have:∀it∈[pt b3 (.cells #[.func (.func fd) #[] cs.toArray] 114 (0,0)),pt b4 (.cells #[.int .i64 0] 47 (0,0))],it.Stable none':=by simp[zab]
    exact this it hm
   ·exact hst st it hm) (fun it hm=>by
   rcases aR.1 hm with hm|hm
   ·exact zk3 _ _ _ _ _ it hm
   ·exact zag _ _ _ it hm) h0 ?_ ?_ ?_
  ·rintro ly rc k y st W hx hk1
   simp only[zn8,gS,iQ,aC,aE]
   refine goA ?_
   refine qly ?_
   refine goA ?_
   refine zgb (dR (l₁:=[_,_,_]) (l₂:=D st)) ?_
   refine zeh rfl (zx1 (pre:=D st) (fs:=[]) (cs:=cs) (xs:=[.tmp 26,.tmp 27]) rfl hb rfl rfl rfl (hst st) (fun w1 hw1 hh1 ha1=>hcall k y st hx hk1 w1 hh1 ha1)) fun⟨⟨b,st1⟩,hR⟩=>?_
   simp only at hR⊢
   refine zgb (dR (l₁:=D st1) (l₂:=[_,_,_])) ?_
   have hstB:∀it∈[pt b3 (.cells #[.func (.func fd) #[] cs.toArray] 114 (0,0)),pt b4 (.cells #[.int .i64 0] 47 (0,0))]++D st1,it.Stable none':=fun it hm=>by
    rcases aR.1 hm with hm|hm
    ·have:∀it∈[pt b3 (.cells #[.func (.func fd) #[] cs.toArray] 114 (0,0)),pt b4 (.cells #[.int .i64 0] 47 (0,0))],it.Stable none':=by simp[zab]
     exact this it hm
    ·exact hst st1 it hm
   rcases hR with ⟨rfl,h8⟩ |⟨rfl,h8⟩
   ·refine goA ?_
    exact ztw .normal none rfl st1 h8 (.refl _) hstB
   ·refine goA ?_
    exact ztw (.exit 0) (some (.exit 0)) rfl st1 ⟨rfl,h8⟩ (.refl _) hstB
  ·rintro D' k st z hz rfl hk1
   simp only[aC,aE,aU]
   refine zbr (fun w' hw'=>hw'.perm (.cons _ (.cons _ (.cons _ (fI _ _))))) ?_
   refine goA ?_
   refine za1 rfl (zah (zdf _ _ _ _) (zai rfl rfl rfl rfl rfl rfl sQ)) fun _=>?_
   refine goA ?_
   refine zbr (fun w' hw'=>hw'.perm (.swap _ _ _)) ?_
   refine qja (qa7 kQ (fun w hw=>zhn _ w) (zri ?_))
   exact zbd (z,st) rfl ⟨_,rfl,zb5 rfl mm⟩ rfl ⟨hz,.inl hk1⟩ (.cons _ (.cons _ (.refl _))) (hst2 _ _)
  ·rintro D' e st z hz ⟨rfl,hJ⟩
   simp only[aC,aE,aU]
   refine ztn (.cons _ (.cons _ (.cons _ (fI _ _)))) ?_
   refine goA ?_
   refine za1 rfl (zah (zdf _ _ _ _) (zai rfl rfl rfl rfl rfl rfl sQ)) fun _=>?_
   refine goA ?_
   refine zbr (fun w' hw'=>hw'.perm (.swap _ _ _)) ?_
   refine qja (qa7 kQ (fun w hw=>zhn _ w) (zri ?_))
   exact zbd (z,st) rfl ⟨_,rfl,zb5 rfl mm⟩ rfl ⟨hz,.inr hJ⟩ (.cons _ (.cons _ (.refl _))) (hst2 _ _)
structure Fc where
 d:Dk
 b:Nat
 pb:Nat
 N:Nat
 n:Nat
 secs:Nat
 note:Bys
 V:List Bys
 B:Nat
def frT(pb:Nat):Nat→List Nat→List Value
 |_,[]=>[]
 |i,a::R=>.pointer (some ⟨pb,0,none⟩):: .int .i64 ((fSh i).kw:Int):: .int .i64 ((fSh i).vw:Int):: .int .i64 ((a:Nat):Int)::frT pb (i+1) R
theorem zhr(pb:Nat):∀(R:List Nat) (i:Nat),(frT pb i R).length=4*R.length
 | [],_=>rfl
 |a::R,i=>by
  show(frT pb (i+1) R).length+4=_
  rw[zhr pb R,aW]
  omega
theorem qme(pb:Nat):∀(R:List Nat) (i j a:Nat),R[j]? =some a→frT pb i R=frT pb i (R.take j)++([.pointer (some ⟨pb,0,none⟩),.int .i64 ((fSh (i+j)).kw:Int),.int .i64 ((fSh (i+j)).vw:Int),.int .i64 ((a:Nat):Int)]++frT pb (i+j+1) (R.drop (j+1)))
 | [],_,_,_,h=>by cases h
 |x::R,i,0,a,h=>by cases h;rfl
 |x::R,i,j+1,a,h=>by
  have ih:=qme pb R (i+1) j a h
  rw[List.take_succ_cons,iK]
  show _::_::_::_::frT pb (i+1) R=_::_::_::_::(frT pb (i+1) (R.take j)++_)
  rw[ih,show i+1+j=i+(j+1) by omega]
def frA(c:Fc)(R:List Nat)(busy:Bool)(err:Nat):List Value:=.pointer (some ⟨c.pb,0,none⟩)::(frT c.pb 0 R++[.bool busy,.int .i64 (err:Int)])
def frC(c:Fc)(R:List Nat)(busy:Bool)(err i:Nat):Tc:=⟨c.d,c.b,c.pb,fSh i,c.N,c.secs,c.note,c.V,c.B,⟨.pointer (some ⟨c.pb,0,none⟩)::frT c.pb 0 (R.take i),frT c.pb (i+1) (R.drop (i+1))++[.bool busy,.int .i64 (err:Int)],119,c.n⟩⟩
def foC(c:Fc)(R:List Nat)(busy:Bool)(err:Nat):Eng.Item:=pt c.b (.cells (frA c R busy err).toArray 119 (0,0))
variable{c:Fc}{R:List Nat}{busy:Bool}{err i:Nat}
theorem qj5{a:Nat}(h:R[i]? =some a):(frC c R busy err i).o=1+i*4:=by
 have hi:=(aJ.1 h).1
 show(frT c.pb 0 (R.take i)).length+1=_
 rw[zhr,aM]
 omega
theorem qbp{a:Nat}(h:R[i]? =some a):foC c R busy err=trC (frC c R busy err i) (a:Nat):=by
 unfold foC trC frA
 rw[qme c.pb R 0 i a h,aL]
 simp only[frC,trA,aF,aC,aE]
theorem qn3(c:Fc)(R:List Nat)(busy:Bool)(err i a:Nat):frC c (R.set i a) busy err i=frC c R busy err i:=by
 unfold frC
 rw[eJ (bA _),dI (eT _)]
def foL(c:Fc)(R:List Nat)(busy:Bool)(err:Nat)(s:Pg):List Eng.Item:=[foC c R busy err,pgI s c.d,dkI c.d,tzI]
def foI(c:Fc)(R:List Nat)(busy:Bool)(err:Nat)(s:Pg):Eng.Item:=zef (foL c R busy err s)
theorem qdh(c:Fc)(R:List Nat)(busy:Bool)(err:Nat)(s:Pg):∀it∈foL c R busy err s,it.Stable none':=by
 intro it hm
 rcases hm with _|⟨_,hm⟩
 ·exact zab _ _ _
 ·exact zgv s c.d it hm
theorem zb3(c:Fc)(R:List Nat)(busy:Bool)(err:Nat)(s:Pg):∀it∈[foI c R busy err s],it.Stable none':=by
 intro it hm
 rcases hm with _|⟨_,hm⟩
 ·exact zad _
 ·cases hm
variable{w0:World}{F:Nat→Prop}{m:List Eng.Item}
theorem zk7{w:World}(h:Hp w0 F (foI c R busy err s::m) w):Hp w0 F (foL c R busy err s++m) w:=Hp.open1 h
theorem zhe{w:World}(h:Hp w0 F (foL c R busy err s++m) w):Hp w0 F (foI c R busy err s::m) w:=Hp.close1 (qdh c R busy err s) h
theorem zik{a:Nat}(h:R[i]? =some a):foI c R busy err s=tmI (frC c R busy err i) (a:Nat) s:=by
 unfold foI tmI foL tmL
 rw[qbp h]
 rfl
theorem qnx{a:Nat}(h:R[i]? =some a)(a':Nat):tmI (frC c R busy err i) (a':Nat) s=foI c (R.set i a') busy err s:=by
 have hi:=(aJ.1 h).1
 rw[zik (i:=i) (a:=a') (eB hi),qn3]
theorem Tok.sw{c c':Tc}(h:Tok c g s)(e1:c'.d=c.d)(e2:c'.pb=c.pb)(e3:c'.N=c.N)(e4:c'.secs=c.secs)(e5:c'.note=c.note)(e6:c'.V=c.V)(e7:c'.B=c.B)(e8:c'.z.n=c.z.n)(hs:ShB c'.sh):Tok c' g s:=by
 obtain⟨h1,h2,h3,h4, -,h6,h7,h8,h9,h10⟩:=h
 refine⟨?_,?_,?_,?_,hs,?_,?_,?_,?_,?_⟩
 ·rw[e1,e8,e4,e5,e6,e7];exact h1
 ·rw[e2];exact h2
 ·rw[e6,e8];exact h3
 ·rw[e6,e8];exact h4
 ·rw[e3];exact h6
 ·rw[e3,e8];exact h7
 ·rw[e8];exact h8
 ·rw[e3];exact h9
 ·rw[e3,e8];exact h10
theorem qjz(h:i<8):ShB (fSh i):=⟨(zjq i h).1,(zjq i h).2.1,(zjq i h).2.2.1⟩
def Fok(c:Fc)(g:Sg)(s:Pg):Prop:=Tok (frC c [] false 0 0) g s
theorem Fok.tok(h:Fok c g s)(R:List Nat)(busy:Bool)(err:Nat)(hi:i<8):Tok (frC c R busy err i) g s:=Tok.sw h rfl rfl rfl rfl rfl rfl rfl rfl (qjz hi)
theorem Tok.fok(h:Tok (frC c R busy err i) g s):Fok c g s:=Tok.sw h rfl rfl rfl rfl rfl rfl rfl rfl (qjz (i:=0) dQ)
instance:Stab ctI:=⟨zcb _⟩
instance:Stab tzI:=⟨zgz _⟩
instance(d:Dk):Stab (dkI d):=⟨zad _⟩
instance(s:Pg)(d:Dk):Stab (pgI s d):=⟨zad _⟩
instance(c:Tc)(r:Int)(s:Pg):Stab (tmI c r s):=⟨zad _⟩
instance(c:Fc)(R:List Nat)(b:Bool)(e:Nat)(s:Pg):Stab (foI c R b e s):=⟨zad _⟩
variable{b:Bool}{e:Nat}
theorem qqs{w:World}{r:List Eng.Item}(hs:Fnd (foI c R b e s) m r)(h:Hp w0 F m w):Hp w0 F (tzI::r) w:=(zk7 (h.perm hs.perm)).sub (.cons _ (.cons _ (.cons _ (.refl _))))
variable{Q:Exit→Act→World→Prop}{N:Fm}{l:zav}
theorem qtx{r:List Eng.Item}{ex:Exit}(k:HX Q ex N l (Hp w0 F (tzI::r)))(hs:Fnd (foI c R b e s) m r:=by exact qt5):HX Q ex N l (Hp w0 F m):=zbr (fun _ h=>qqs hs h) k
theorem qs3{P:Program}{ops:Array Oper}{rest:List Oper}{r:List Eng.Item}(k:HL P ops Q N rest l (Hp w0 F (tzI::r)))(hs:Fnd (foI c R b e s) m r:=by exact qt5):HL P ops Q N rest l (Hp w0 F m):=zcy (fun _ h=>qqs hs h) k
end Go.Proofs.YthafakdplhdfjaaGreatDoor
namespace Go.Proofs.YthafakdplhdfjaaGreatDoor
open Go.ChangeShapes Go.ChangeMaps Go.WideShapes Go.ChangeAt Go.RowKit Go.Eng Go.Proofs.YthafakdplhdfjaaGreatDoor
variable{W:World}
theorem qfp{P:Program}{base:Nat}{sp:Nat→Bool}{held:Bool}{H:Type}{enc:TypeId×Value→H}{t:TypeId}{f0 f1 f2:Field}{fuel:Nat}{cs:List Value}{x:DataW H×List MemPlace}(ht:P.underlying t=some (.struct #[f0,f1,f2]))(h:DataW.trod enc P W base sp held fuel t cs=some x):
  ∃y0 y1 y2 n,cs.length=P.cellsOf t∧DataW.trod enc P W base sp held n f0.type ((cs.drop f0.offset).take (P.cellsOf f0.type))=some y0∧DataW.trod enc P W base sp held n f1.type ((cs.drop f1.offset).take (P.cellsOf f1.type))=some y1∧
   DataW.trod enc P W base sp held n f2.type ((cs.drop f2.offset).take (P.cellsOf f2.type))=some y2:=by
 obtain⟨xs,n,_,rfl,hl,hlen,hf⟩:=DataW.trod_struct ht h
 match xs,hlen with
 | [y0,y1,y2],_=>exact⟨y0,y1,y2,n,hl,by simpa using hf 0 f0 rfl,by simpa using hf 1 f1 rfl,by simpa using hf 2 f2 rfl⟩
theorem qge{a:Addr}{v:Value}(h:W.cell? a=some v):a.spot=none:=by
 unfold World.cell? at h
 split at h
 ·split at h
  ·cases h
  ·rename_i hh
   simpa using hh
 ·cases h
section
variable{base:Nat}{sp:Nat→Bool}{held:Bool}{H:Type}{enc:TypeId×Value→H}{v:Value}{d:DataW H}{ps:List MemPlace}{r:Reach}{b0:Nat}
end
theorem qq3{a0:Option Addr}{len0 cap0:Nat}{H:Type}{enc:TypeId×Value→H}{x:DataW H×List MemPlace}{fuel:Nat}{T E:TypeId}{α:Type}(e0:α){vs:α→List Value}{k:Nat}(hk0:0<k)(sz:∀e,(vs e).length=k){Ok:α→Prop}(hT:Tryz.prog.underlying T=some (.slice E))(hE:Tryz.prog.cellsOf E=k)
  (hof:∀cs y n,DataW.trod enc Tryz.prog W 0 (fun _=>true) true n E cs=some y→∃e,cs=vs e∧Ok e)
  (hf:DataW.trod enc Tryz.prog W 0 (fun _=>true) true fuel T (Value.slice a0 len0 cap0).cells.toList=some x):∃L:List α,L.length=len0∧len0≤9223372036854775807∧Rd W a0 (zc6 vs L)∧∀e∈L,Ok e:=by
 rcases Go.Deep.open_slice hT hf with ⟨hcs,_⟩ |⟨a,len,cap,m,n,D,Pl,hcs,hb,hl,hm,hmm,hx,hel⟩
 ·simp[Value.cells]at hcs
  obtain⟨rfl,rfl,rfl⟩:=hcs
  exact⟨[],rfl,dQ,.inl rfl,fun _ h=>nomatch h⟩
 ·simp[Value.cells]at hcs
  obtain⟨rfl,rfl,rfl⟩:=hcs
  simp only[if_true]at hmm
  rw[hE]at hel
  have h1:∀i,i<len0→∃e:α,W.cells? 0 (a.add (i*k)) k=some (vs e)∧Ok e:=fun i hi=>by
   obtain⟨cs,c1,c2⟩:=hel i oQ
   obtain⟨e,rfl,he⟩:=hof _ _ _ c2
   exact⟨e,c1,he⟩
  obtain⟨f,hfe⟩:∃f:Nat→α,∀i,i<len0→W.cells? 0 (a.add (i*k)) k=some (vs (f i))∧Ok (f i):=by
   classical
   exact⟨fun i=>if h:i<len0 then Classical.choose (h1 i h)else e0,fun i hi=>by simp only[dif_pos hi];exact Classical.choose_spec (h1 i hi)⟩
  refine⟨(List.range len0).map f,by simp,by have hm':cap0≤9223372036854775807:=hm;have:=hl;omega,?_,fun e he=>by obtain⟨i,hi,rfl⟩:=aO.1 he;exact(hfe i (dG.1 hi)).2⟩
  rcases fA len0 with h0|h0
  ·subst h0;exact .inl rfl
  have hcell:∀i,i<len0→∀j v,(vs (f i))[j]? =some v→W.cell? ((a.add (i*k)).add j)=some v:=fun i hi j v hv=>by
   have hj:j<k:=by rw[←sz (f i)];exact(aJ.1 hv).1
   rw[(World.cells?_some (hfe i hi).1).2.2 j hj,hv]
  have hsp:a.spot=none:=by
   obtain⟨v,hv⟩:∃v,(vs (f 0))[0]? =some v:=⟨_,aB (by rw[sz];exact hk0)⟩
   have:=hcell 0 h0 0 v hv
   simp only[kP]at this
   exact qge (by simpa[Addr.add]using this)
  obtain⟨ab,ao,asp⟩:=a
  simp only at hsp
  subst hsp
  refine .inr ⟨ab,ao,rfl,fun j u hu=>?_⟩
  have hj:j<len0*k:=by
   have:=(aJ.1 hu).1
   rw[zdx sz]at this
   simpa using this
  have hdm:j=(j/k)*k+j%k:=by rw[kO];exact(Nat.div_add_mod j k).symm
  have hi:j/k<len0:=Nat.div_lt_of_lt_mul (by rwa[kO]at hj)
  rw[hdm,qck sz (by simpa using hi) (eU _ hk0)]at hu
  simp only[cS,List.getElem_range]at hu
  have:=hcell _ hi _ _ hu
  rw[zde,zde]at this
  rw[hdm,←iN]
  exact this
theorem qtk{n:String}{g t e:Nat}{sz:Nat}{k:IntKind}{zs:List Int}(hg:Tryz.prog.globalNamed n=some g)(hty:(Tryz.prog.globals[g]?).map (·.type)=some t)(ht:Tryz.prog.underlying t=some (.array sz e))(he:Tryz.prog.underlying e=some (.int k))(hce:Tryz.prog.cellsOf e=1)(hct:Tryz.prog.cellsOf t=sz)
  (hlt:g<Tryz.prog.globals.size) (hrow:(((begin Tryz.prog (fun _ _=>0) default).world.heap[g]?).bind Obj.row?).map (·.2)=some t) (hS:W.ShapedOpen Tryz.prog) (h:Lib.VarReads Tryz.prog W n (Lib.tabData k zs)):W.heap[g]? =some (.cells (zs.map fun z=>Value.int k z).toArray t (0,0)):=by
 obtain⟨g',t',cs,fuel,p,hg',hty',hv,hd⟩:=h
 obtain rfl:=cN (hg'.symm.trans hg)
 obtain rfl:=cN (hty'.symm.trans hty)
 have hcs:=Lib.cells_of_tab ht he hce hct hd
 obtain⟨⟨zero,t2⟩,hz,rfl⟩:=Option.map_eq_some_iff.1 hrow
 obtain⟨cs2,h2, -, -⟩:=hS.1 g' zero t2 hlt hz
 have hv2:W.var? Tryz.prog n=some cs2:=by
  unfold World.var?
  rw[hg']
  show(match W.heap[g']? with|some (.cells cs _ _)=>some cs|_=>none)=_
  rw[h2]
 obtain rfl:=cN (hv.symm.trans hv2)
 rw[h2]
 show some (Obj.cells cs t2 (0,0))=_
 rw[←hcs]
theorem qs2(hS:W.ShapedOpen Tryz.prog)(h:laidMetH Tryz.prog [("armarium/crc.halves",Rows.laid_armarium_crc_halves),("math/bits.deBruijn64tab",Rows.laid_math_bits_deBruijn64tab)] W):zo8 W∧qbc W:=by
 have h1:laidMet Tryz.prog [("armarium/crc.halves",Rows.laid_armarium_crc_halves),("math/bits.deBruijn64tab",Rows.laid_math_bits_deBruijn64tab)] W:=(laidMetH_iff.1 h).1
 have r1:=Lib.laidMet.reads h1 (n:= "armarium/crc.halves") (gA ..)
 have r2:=Lib.laidMet.reads h1 (n:= "math/bits.deBruijn64tab") (jL _ (gA ..))
 have e1:(Rows.laid_armarium_crc_halves:DataW Unit)=Lib.tabData .u32 (halves.map fun b=>(b.toNat:Int)):=by kernel_rfl
 have e2:(Rows.laid_math_bits_deBruijn64tab:DataW Unit)=Lib.tabData .u8 (Bm.tab64.map fun n:Nat=>(n:Int)):=by kernel_rfl
 rw[e1]at r1
 rw[e2]at r2
 have t1:=qtk (g:=1) (t:=316) kQ kQ Tryz.underlying316 Tryz.underlying46 kQ kQ (of_decide_eq_true kQ) kQ hS r1
 have t2:=qtk (g:=0) (t:=295) kQ kQ Tryz.underlying295 Tryz.underlying5 kQ kQ (of_decide_eq_true kQ) kQ hS r2
 rw[dM]at t1 t2
 exact⟨⟨t1⟩,⟨t2⟩⟩
theorem qdc(h:zo8 W∧qbc W):∀it∈[ctI,tzI],zbq it W:=by
 intro it hm
 rcases hm with _|⟨_,_|⟨_,hm⟩⟩
 ·exact⟨h.1,zcb _,fun k hk=>by have hk:k=_:=hk;rw[hk];exact(bO.1 h.1.obj).1⟩
 ·exact⟨h.2,zgz _,fun k hk=>by have hk:k=_:=hk;rw[hk];exact(bO.1 h.2.obj).1⟩
 ·cases hm
theorem zzl:[ctI,tzI].Pairwise Eng.Item.Apart:=by
 refine bI.2 ⟨fun y hy k h1 h2=>?_,bI.2 ⟨fun _ h=>(nomatch h),.nil⟩⟩
 rcases hy with _|⟨_,hy⟩
 ·have h1:k=1:=h1
  have h2:k=0:=h2
  rw[h1]at h2
  exact absurd h2 dQ
 ·cases hy
theorem qet{W':World}(hT:zo8 W∧qbc W)(h:Its (za4 [ctI,tzI]) W [ctI,tzI] W'):Below W.heap.size W W':=by
 refine⟨h.fr.os,h.fr.tape,h.fr.output,h.fr.size,fun k hk=>?_⟩
 by_cases h1:k=1
 ·rw[h1,hT.1.obj]
  exact((h.item ctI (.head _)).1:zo8 W').obj
 by_cases h2:k=0
 ·rw[h2,hT.2.obj]
  exact((h.item tzI (.tail _ (.head _))).1:qbc W').obj
 ·refine h.fr.block k hk ?_
  rintro⟨it,hm,hf⟩
  rcases hm with _|⟨_,_|⟨_,hm⟩⟩
  ·exact h1 hf
  ·exact h2 hf
  ·cases hm
theorem qj9(hT:zo8 W∧qbc W){b o1 o2:Nat}{v1 v2:Value}(c1:W.cell? ⟨b,o1,none⟩=some v1)(c2:W.cell? ⟨b,o2,none⟩=some v2)(h1:∀n,v1≠ .int .u32 n)(h2:∀n,v2≠ .int .u8 n):¬za4 [ctI,tzI] b:=by
 rintro⟨it,hm,hf⟩
 rcases hm with _|⟨_,_|⟨_,hm⟩⟩
 ·have hf:b=_:=hf
  subst hf
  unfold World.cell? at c1
  simp only[hT.1.obj]at c1
  simp at c1
  obtain⟨n, -,e⟩:=c1
  exact h1 _ e.symm
 ·have hf:b=_:=hf
  subst hf
  unfold World.cell? at c2
  simp only[hT.2.obj]at c2
  simp at c2
  obtain⟨n, -,e⟩:=c2
  exact h2 _ e.symm
 ·cases hm
theorem qt3:ownKnob Tryz.prog.godebug=none:=by kernel_rfl
theorem qt2:laidOutB Tryz.prog=true:=by kernel_rfl
end Go.Proofs.YthafakdplhdfjaaGreatDoor
namespace Go.Eng
open Go.RowKit
def qqc(P:Program)(T:TypeId):Bool:=match P.underlying T with|some (.struct _) |some (.array _ _)=>true|_=>false
theorem qlm{P:Program}{l:zav}{H:World→Prop}{ty:TypeId}{T e:TypeId}{x y:Operand}{cs:Array Value}{k:IntKind}{i n sz:Nat}(hx:evO l x=some (.agg cs))(hy:evO l y=some (.int k (i:Nat)))(hT:P.underlying T=some (.array n e))(he:zcd P e=some sz)(ho:qqc P e=true)(hi:i<n):OV P (.index T x y) ty l H (.agg (cs.extract (i*sz) (i*sz+sz))):=ov fun _ _ _ w _=>by
 obtain⟨q,hq,hqs⟩:=zbg he
 have hagg:(isAgg e).run P w= .ok true w:=by
  unfold qqc at ho
  cases hu:P.underlying e with
  |none=>simp[hu]at ho
  |some d=>
   unfold isAgg
   rw[Sem.run_bind,run_underlying hu w]
   cases d<;>simp_all
 simp[execOp,zar hx,zar hy,Instr.index,asIntOf,run_underlying hT w,hi,sizeOf,typeInfo,hq,hqs,part,hagg]
end Go.Eng
namespace Go.Proofs.YthafakdplhdfjaaGreatDoor
open Go.RowKit Go.Eng Go.Eng.Bm Go.Eng.Tr
variable{i:Nat}
theorem zxa(hi:i<8)(w:World):Pu Tryz.prog 28 #[.int .i64 (i:Nat)] w (shV (fSh i)):=by
 refine zbn [_] Tryz.func28 rfl rfl ?_
 simp only[zaa]
 refine goA ?_
 refine zam rfl rfl fun b2 hb2=>?_
 refine goA ?_
 refine l_w rfl (zks rfl rfl rfl rfl rfl) ?_
 refine goA ?_
 refine l_w rfl (qlm (i:=i) rfl rfl rfl rfl rfl hi) ?_
 refine zd2 20 _ (shV (fSh i)) rfl ?_ ?_
 ·match i,hi with
  |0,_|1,_|2,_|3,_|4,_|5,_|6,_|7,_=>rfl
 refine goA ?_
 refine za1 rfl (zaf (cs':= #[.int .i64 ((fSh i).kw:Nat),.int .i64 ((fSh i).vw:Nat)]) rfl rfl rfl rfl rfl rfl) fun _=>?_
 refine goA ?_
 exact zdk rfl ⟨_,rfl,zaq rfl (.head _)⟩ rfl
theorem zk9(hi:i<8)(b:Nat)(w:World):Pu Tryz.prog 67 #[.pointer (some ⟨b,0,none⟩),.int .i64 (i:Nat)] w (.tuple #[.pointer (some ⟨b,1+i*4,none⟩),.int .i64 0]):=by
 refine zbn [_,_] Tryz.func67 rfl rfl ?_
 simp only[zaa,Nat.reduceAdd]
 refine goA ?_
 exact zie rfl rfl rfl rfl
variable{c:Fc}{g:Sg}{s:Pg}{R:List Nat}{busy:Bool}{err a:Nat}
theorem qe8(h:Fok c g s)(hi:i<8)(ha:R[i]? =some a)(key:K)(hk:key.length=(fSh i).kw){v:Option K}(hl:zua (fSh i) c.N g key (a:Nat)= .ok v):
  Cv Tryz.prog 31 #[.pointer (some ⟨c.b,0,none⟩),.int .i64 (i:Nat),kV key] [foI c R busy err s] (fun _:Pg=>.tuple #[kV (v.getD []),.bool v.isSome,.int .i64 0]) (fun s'=>Fok c g s') (fun s'=>[foI c R busy err s']):=by
 intro w hw
 rw[zik ha]at hw⊢
 refine za2 [_,_,_] _ Tryz.func31 rfl rfl hw (.cons (fun _ h=>nomatch h) .nil) ?_
 simp only[zaa,Nat.reduceAdd]
 refine goA ?_
 refine lPu rfl (fun w1 hw1=>zk9 hi c.b w1) ?_
 refine goA ?_
 rw[←qj5 (c:=c) (busy:=busy) (err:=err) ha]
 refine lCu [tmI (frC c R busy err i) (a:Nat) s] rfl (zag _ _ s) (fun w1 hw1 hh1 ha1=>qt6 (h.tok R busy err hi) _ key hk hl w1 hh1) fun⟨s',hs'⟩=>?_
 have hs':Tok (frC c R busy err i) g s':=hs'
 simp only[aC,aE]
 refine goA ?_
 rw[←zik (s:=s') ha]
 exact qa6 s' rfl rfl rfl rfl rfl hs'.fok (.refl _) (zb3 _ _ _ _ _)
theorem zl2(hl:R.length=8)(busy:Bool)(err:Nat):(frA c R busy err)[33]? =some (.bool busy)∧(frA c R busy err)[34]? =some (.int .i64 (err:Int)):=by
 have h:=zhr c.pb R 0
 rw[hl]at h
 unfold frA
 rw[fU,fU,cT oQ,cT oQ,h]
 exact⟨rfl,rfl⟩
theorem qf5(hl:R.length=8)(busy:Bool)(err:Nat)(b':Bool)(e':Nat):(frA c R busy err).set 33 (.bool b')=frA c R b' err∧(frA c R busy err).set 34 (.int .i64 (e':Int))=frA c R busy e':=by
 have h:=zhr c.pb R 0
 rw[hl]at h
 unfold frA
 rw[List.set_cons_succ,List.set_cons_succ,List.set_append_right _ _ oQ,List.set_append_right _ _ oQ,h]
 exact⟨rfl,rfl⟩
variable{v:Value}
theorem qf3{w:World}(h:(foC c R busy err).prop w){j:Nat}(hv:(frA c R busy err)[j]? =some v):w.cell? ⟨c.b,j,none⟩=some v:=by
 have:=zbf h j v hv
 rwa[aL]at this
variable{l:zav}{w0:World}{F:Nat→Prop}{m:List Eng.Item}{x:Operand}
theorem qpg{T ty:TypeId}{j:Nat}(hx:evO l x=some (.pointer (some ⟨c.b,j,none⟩)))(hm:foI c R busy err s∈m)(hv:(frA c R busy err)[j]? =some v)(hT:zja Tryz.prog T=true):OV Tryz.prog (.load T x) ty l (Hp w0 F m) v:=
 za0 hx hT (fun _ hw'=>qf3 ((hw'.item _ hm).1.1 _ (.head _)).1 hv)
theorem qrw{T ty:TypeId}{j:Nat}(hx:evO l x=some (.pointer (some ⟨c.b,j,none⟩)))(hm:foC c R busy err∈m)(hv:(frA c R busy err)[j]? =some v)(hT:zja Tryz.prog T=true):OV Tryz.prog (.load T x) ty l (Hp w0 F m) v:=
 za0 hx hT (fun _ hw'=>qf3 (hw'.item _ hm).1 hv)
section
variable{Q:Exit→Act→World→Prop}{N:Fm}{T ty:TypeId}{y:Operand}{pos:String}{after:Array Edge}{g:Option (Nat×Bool)}
theorem qhe(hl:R.length=8){e':Nat}(hok:(zez (.store T x y)&&zec l (.store T x y))=true)(hx:evO l x=some (.pointer (some ⟨c.b,34,none⟩)))(hy:evO l y=some (.int .i64 (e':Int)))(hT:(Tryz.prog.info? T).map (·.size)=some 1):
  HO Tryz.prog ⟨none,.store T x y,ty,pos,after,g⟩ Q N l (Hp w0 F (foC c R busy err::m)) (α:=Unit) (fun _=>l) (fun _=>Hp w0 F (foC c R busy e'::m)):=by
 have h:=zai (P:=Tryz.prog) (Q:=Q) (N:=N) (w0:=w0) (F:=F) (m:=m) (ty:=ty) (pos:=pos) (after:=after) (g:=g) (cs:=(frA c R busy err).toArray) (E:=119) hok hx hy hT rfl rfl (by have:=zhr c.pb R 0;simp[frA];omega)
 rw[fJ,(qf5 hl busy err busy e').2]at h
 exact h
theorem qb8(hl:R.length=8){b':Bool}(hok:(zez (.store T x y)&&zec l (.store T x y))=true)(hx:evO l x=some (.pointer (some ⟨c.b,33,none⟩)))(hy:evO l y=some (.bool b'))(hT:(Tryz.prog.info? T).map (·.size)=some 1):
  HO Tryz.prog ⟨none,.store T x y,ty,pos,after,g⟩ Q N l (Hp w0 F (foC c R busy err::m)) (α:=Unit) (fun _=>l) (fun _=>Hp w0 F (foC c R b' err::m)):=by
 have h:=zai (P:=Tryz.prog) (Q:=Q) (N:=N) (w0:=w0) (F:=F) (m:=m) (ty:=ty) (pos:=pos) (after:=after) (g:=g) (cs:=(frA c R busy err).toArray) (E:=119) hok hx hy hT rfl rfl (by have:=zhr c.pb R 0;simp[frA];omega)
 rw[fJ,(qf5 hl busy err b' 0).1]at h
 exact h
end
variable{fd:FuncId}{cs:List Value}
theorem zkw(hl:R.length=8)(hi:i<8)(ha:R[i]? =some a){X:Type}(hb:za7 Tryz.prog fd=true)(D:List Eng.Item)(D':X→List Eng.Item)(hsD:∀it∈D,it.Stable none')(hsD':∀x,∀it∈D' x,it.Stable none')(ev:X→Nat)(φ:X→Prop)(rt:X→Nat)(st:X→Pg)
  (hdo:∀w1,(∀it∈tmI (frC c R true err i) (a:Nat) s::D,zbq it w1)→(tmI (frC c R true err i) (a:Nat) s::D).Pairwise Eng.Item.Apart→Ct Tryz.prog fd (.pointer (some ⟨c.b,(frC c R true err i).o,none⟩)::cs).toArray w1 (za4 (tmI (frC c R true err i) (a:Nat) s::D)) (fun x:X=>.int .i64 (ev x:Nat)) φ (fun x=>tmI (frC c R true err i) (rt x:Nat) (st x)::D' x)):
  Cw Tryz.prog 71 #[.pointer (some ⟨c.b,0,none⟩),.int .i64 (i:Nat),.func (.func fd) #[] cs.toArray] (foI c R true err s::D) (fun x:X=>.int .i64 (ev x:Nat)) φ (fun x=>foI c (R.set i (rt x)) true (if err=0∧ev x≠2 then ev x else err) (st x)::D' x):=by
 intro w hw hap
 refine za2 [_,_,_] _ Tryz.func71 rfl rfl hw hap ?_
 simp only[zaa,Nat.reduceAdd]
 refine goA ?_
 refine lPu rfl (fun w1 hw1=>zk9 hi c.b w1) ?_
 refine goA ?_
 refine l_w rfl (qpg (c:=c) (R:=R) (s:=s) rfl (.head _) (zl2 hl true err).1 rfl) ?_
 refine goA ?_
 rw[←qj5 (c:=c) (busy:=true) (err:=err) ha]
 have hst:∀it∈tmI (frC c R true err i) (a:Nat) s::D,it.Stable none':=fun it hm=>by
  rcases aI.1 hm with rfl|hm
  ·exact zad _
  ·exact hsD it hm
 refine zcy (m':=(tmI (frC c R true err i) (a:Nat) s::D)++[]) (fun w' hw'=>by rw[aU,←zik ha];exact hw') ?_
 refine zeh rfl (zx1 (pre:=tmI (frC c R true err i) (a:Nat) s::D) (fs:=[]) (cs:=cs) rfl hb rfl rfl rfl hst (fun w1 hw1 hh1 ha1=>hdo w1 hh1 ha1)) fun⟨x,hx⟩=>?_
 simp only[aC,aU]
 rw[qnx ha]
 have hl':(R.set i (rt x)).length=8:=by rw[bM];exact hl
 obtain⟨ex,hex⟩:∃e,ev x=e:=⟨_,rfl⟩
 rw[hex]
 have hfin:∀it∈foI c (R.set i (rt x)) true (if err=0∧ev x≠2 then ev x else err) (st x)::D' x,it.Stable none':=fun it hm=>by
  rcases aI.1 hm with rfl|hm
  ·exact zad _
  ·exact hsD' x it hm
 refine goA ?_
 refine l_w rfl (qpg (c:=c) (R:=R.set i (rt x)) (s:=st x) rfl (.head _) (zl2 hl' true err).2 rfl) ?_
 refine goA ?_
 by_cases h0:err=0
 ·subst h0
  by_cases h2:ex=2
  ·subst h2
   refine goA ?_
   rw[hex,if_neg (fun h=>h.2 rfl)]at hfin
   exact zbd x rfl rfl (by rw[hex]) hx (by rw[hex,if_neg (fun h=>h.2 rfl)];exact .refl _) (by rw[hex,if_neg (fun h=>h.2 rfl)];exact hfin)
  ·rw[hex,if_pos ⟨rfl,h2⟩]at hfin
   refine goA ?_
   refine zcy (fun w h=>zk7 h) ?_
   unfold foL
   simp only[aC,aE]
   refine za1 rfl (qhe hl' rfl rfl rfl rfl) fun _=>?_
   refine goA ?_
   refine zbr (m':=foI c (R.set i (rt x)) true ex (st x)::D' x) (fun w hw=>zhe (m:=D' x) hw) ?_
   exact zbd x rfl rfl (by rw[hex]) hx (by rw[hex,if_pos (by simp[h2])];exact .refl _) (by rw[hex,if_pos (by simp[h2])];exact hfin)
 ·rw[if_neg (fun h=>h0 h.1)]at hfin
  refine goA ?_
  exact zbd x rfl rfl (by rw[hex]) hx (by rw[if_neg (fun h=>h0 h.1)];exact .refl _) (by rw[if_neg (fun h=>h0 h.1)];exact hfin)
variable{root':Int}
theorem zzt{c:Tc}{g':Sg}(h:Tok c g s)(root:Int)(key val:K)(hk:key.length=c.sh.kw)(hv:val.length=c.sh.vw)(hl:zoj c.sh c.N key val g root= .ok (root',g'))(b1 b2:Nat):
  Cw Tryz.prog 75 #[.pointer (some ⟨c.t,c.o,none⟩),.pointer (some ⟨b1,0,none⟩),.pointer (some ⟨b2,0,none⟩)] [tmI c root s,pt b1 (.cells #[kV key] 9 (0,0)),pt b2 (.cells #[kV val] 9 (0,0))] (fun _:Pg=>.int .i64 ((0:Nat):Int)) (fun s'=>Tok c g' s') (fun s'=>[tmI c root' s',pt b1 (.cells #[kV key] 9 (0,0)),pt b2 (.cells #[kV val] 9 (0,0))]):=by
 intro w hw ha
 refine za2 [_,_,_] _ Tryz.func75 rfl rfl hw ha ?_
 simp only[zaa,Nat.reduceAdd]
 refine goA ?_
 refine lCu [tmI c root s] rfl (zag _ _ s) (fun w1 hw1 hh1 ha1=>zta h root key val hk hv hl w1 hh1) fun⟨s',hs'⟩=>?_
 simp only[aC,aE]
 refine goA ?_
 exact zbd s' rfl rfl rfl hs' (.refl _) (by simp[zab,tmI,zad])
theorem qdj{g':Sg}(h:Fok c g s)(hl:R.length=8){a':Nat}(hi:i<8)(ha:R[i]? =some a)(key val:K)(hk:key.length=(fSh i).kw)(hv:val.length=(fSh i).vw)(hp:zoj (fSh i) c.N key val g (a:Nat)= .ok ((a':Nat),g')):
  Cv Tryz.prog 40 #[.pointer (some ⟨c.b,0,none⟩),.int .i64 (i:Nat),kV key,kV val] [foI c R true err s] (fun _:Pg=>.int .i64 0) (fun s'=>Fok c g' s') (fun s'=>[foI c (R.set i a') true err s']):=by
 intro w hw
 refine za2 [_,_,_,_] _ Tryz.func40 rfl rfl hw (.cons (fun _ h=>nomatch h) .nil) ?_
 simp only[zaa,Nat.reduceAdd]
 refine goA ?_
 refine zc9 rfl rfl rfl fun b6 hb6=>?_
 refine goA ?_
 refine zc9 rfl rfl rfl fun b7 hb7=>?_
 refine goA ?_
 refine l_w rfl (zhw rfl) ?_
 refine goA ?_
 refine zay [2,1,0] rfl rfl ?_
 refine lCu ([foI c R true err s,pt b6 (.cells #[kV key] 9 (0,0)),pt b7 (.cells #[kV val] 9 (0,0))]) rfl (by simp[zab,foI,zad]) (fun w1 hw1 hh1 ha1=>zkw hl hi ha (X:=Pg) (cs:=[.pointer (some ⟨b6,0,none⟩),.pointer (some ⟨b7,0,none⟩)]) kQ [pt b6 (.cells #[kV key] 9 (0,0)),pt b7 (.cells #[kV val] 9 (0,0))] (fun _=>[pt b6 (.cells #[kV key] 9 (0,0)),pt b7 (.cells #[kV val] 9 (0,0))]) (by simp[zab]) (by simp[zab]) (fun _=>0) (fun s'=>Tok (frC c R true err i) g' s') (fun _=>a') (fun s'=>s') (fun w2 hh2 ha2=>zzt (h.tok R true err hi) _ key val hk hv hp b6 b7 w2 hh2 ha2) w1 hh1 ha1) fun⟨s',hs'⟩=>?_
 simp only[aC,aE]
 rw[show(if err=0∧0≠2 then 0 else err)=err by split<;>omega]
 refine goA ?_
 exact zbd s' rfl rfl rfl (Tok.fok hs') (.cons_cons _ (aG _)) (zb3 _ _ _ _ _)
variable{b:Bool}
theorem zzq{c:Tc}{g':Sg}(h:Tok c g s)(root:Int)(key:K)(hk:key.length=c.sh.kw)(hl:zrp c.sh c.N key g root= .ok ((root',b),g'))(b1 b2:Nat):
  Cw Tryz.prog 72 #[.pointer (some ⟨c.t,c.o,none⟩),.pointer (some ⟨b1,0,none⟩),.pointer (some ⟨b2,0,none⟩)] [tmI c root s,pt b1 (.cells #[kV key] 9 (0,0)),pt b2 (.cells #[.bool false] 4 (0,0))] (fun _:Pg=>.int .i64 ((0:Nat):Int)) (fun s'=>Tok c g' s') (fun s'=>[tmI c root' s',pt b1 (.cells #[kV key] 9 (0,0)),pt b2 (.cells #[.bool b] 4 (0,0))]):=by
 intro w hw ha
 refine za2 [_,_,_] _ Tryz.func72 rfl rfl hw ha ?_
 simp only[zaa,Nat.reduceAdd]
 refine goA ?_
 refine lCu [tmI c root s] rfl (zag _ _ s) (fun w1 hw1 hh1 ha1=>qfu h root key hk hl w1 hh1) fun⟨s',hs'⟩=>?_
 simp only[aC,aE]
 refine goA ?_
 refine za1 rfl (zah (zdf _ _ _ _) (zai rfl rfl rfl rfl rfl rfl sQ)) fun _=>?_
 refine goA ?_
 refine zgf [1,2,0] rfl rfl ?_
 exact zbd s' rfl rfl rfl hs' (.refl _) (by simp[zab,tmI,zad])
theorem zui{g':Sg}(h:Fok c g s)(hl:R.length=8){a':Nat}(hi:i<8)(ha:R[i]? =some a)(key:K)(hk:key.length=(fSh i).kw)(hp:zrp (fSh i) c.N key g (a:Nat)= .ok (((a':Nat),b),g')):
  Cv Tryz.prog 36 #[.pointer (some ⟨c.b,0,none⟩),.int .i64 (i:Nat),kV key] [foI c R true err s] (fun _:Pg=>.tuple #[.bool b,.int .i64 0]) (fun s'=>Fok c g' s') (fun s'=>[foI c (R.set i a') true err s']):=by
 intro w hw
 refine za2 [_,_,_] _ Tryz.func36 rfl rfl hw (.cons (fun _ h=>nomatch h) .nil) ?_
 simp only[zaa,Nat.reduceAdd]
 refine goA ?_
 refine zc9 rfl rfl rfl fun b5 hb5=>?_
 refine goA ?_
 refine zdg rfl rfl rfl fun b6 hb6=>?_
 refine goA ?_
 refine l_w rfl (zhw rfl) ?_
 refine goA ?_
 refine zay [2,1,0] rfl rfl ?_
 refine lCu ([foI c R true err s,pt b5 (.cells #[kV key] 9 (0,0)),pt b6 (.cells #[.bool false] 4 (0,0))]) rfl (by simp[zab,foI,zad]) (fun w1 hw1 hh1 ha1=>zkw hl hi ha (X:=Pg) (cs:=[.pointer (some ⟨b5,0,none⟩),.pointer (some ⟨b6,0,none⟩)]) kQ [pt b5 (.cells #[kV key] 9 (0,0)),pt b6 (.cells #[.bool false] 4 (0,0))] (fun _=>[pt b5 (.cells #[kV key] 9 (0,0)),pt b6 (.cells #[.bool b] 4 (0,0))]) (by simp[zab]) (by simp[zab]) (fun _=>0) (fun s'=>Tok (frC c R true err i) g' s') (fun _=>a') (fun s'=>s') (fun w2 hh2 ha2=>zzq (h.tok R true err hi) _ key hk hp b5 b6 w2 hh2 ha2) w1 hh1 ha1) fun⟨s',hs'⟩=>?_
 simp only[aC,aE]
 rw[show(if err=0∧0≠2 then 0 else err)=err by split<;>omega]
 refine goA ?_
 refine za1 rfl (zah (zdf _ _ _ _) (zai rfl rfl rfl rfl rfl rfl sQ)) fun _=>?_
 refine goA ?_
 exact zc1 s' rfl ⟨_,rfl,zb5 rfl mm⟩ rfl rfl (Tok.fok hs') (.cons _ (.cons_cons _ (aG _))) (zb3 _ _ _ _ _)
theorem zzr(h:Fok c g s)(hi:i<8)(ha:R[i]? =some a){xs:E}(hl:qnd (fSh i) c.N g [] (a:Nat) xs){σ:Type}(D:σ→List Eng.Item)(I:E→σ→Prop)(J:σ→Prop)(s0:σ)(hb:za7 Tryz.prog fd=true)(hst:∀st,∀it∈D st,it.Stable none')(h0:I [] s0)
  (hcall:∀k y st,(k++[y])<+:xs→I k st→∀w,(∀it∈D st,zbq it w)→(D st).Pairwise Eng.Item.Apart→Ct Tryz.prog fd (kV y.1::kV y.2::cs).toArray w (za4 (D st)) (fun x:Bool×σ=>.bool x.1) (fun x=>(x.1=true∧I (k++[y]) x.2)∨(x.1=false∧J x.2)) (fun x=>D x.2)):
  Cw Tryz.prog 41 #[.pointer (some ⟨c.b,0,none⟩),.int .i64 (i:Nat),.func (.func fd) #[] cs.toArray] (foI c R busy err s::D s0) (fun _:Pg×σ=>.int .i64 0) (fun x=>Fok c g x.1∧(I xs x.2∨J x.2)) (fun x=>foI c R busy err x.1::D x.2):=by
 intro w hw hap
 have hs:∀z st,∀it∈foI c R busy err z::D st,it.Stable none':=fun z st it hm=>by
  rcases aI.1 hm with rfl|hm
  ·exact zad _
  ·exact hst st it hm
 have hs0:∀it∈tmI (frC c R busy err i) (a:Nat) s::D s0,it.Stable none':=by rw[←zik ha];exact hs s s0
 refine za2 [_,_,_] _ Tryz.func41 rfl rfl hw hap ?_
 simp only[zaa,Nat.reduceAdd]
 refine goA ?_
 refine lPu rfl (fun w1 hw1=>zk9 hi c.b w1) ?_
 refine goA ?_
 rw[←qj5 (c:=c) (busy:=busy) (err:=err) ha]
 refine zcy (m':=(tmI (frC c R busy err i) (a:Nat) s::D s0)++[]) (fun w' hw'=>by rw[aU,←zik ha];exact hw') ?_
 refine lCu (tmI (frC c R busy err i) (a:Nat) s::D s0) rfl hs0 (fun w1 hw1 hh1 ha1=>qnu (h.tok R busy err hi) _ hl D I J s0 hb hst h0 hcall w1 hh1 ha1) fun⟨⟨s',st⟩,hx⟩=>?_
 have hx:Tok (frC c R busy err i) g s'∧(I xs st∨J st):=hx
 simp only[aC,aU]
 rw[←zik (s:=s') ha]
 refine goA ?_
 exact zbd (s',st) rfl rfl rfl ⟨hx.1.fok,hx.2⟩ (.refl _) (hs s' st)
def zbu(R:List Nat):Bys:=R.flatMap (beN 2)++List.replicate 496 0
theorem znf(R:List Nat):(R.flatMap (beN 2)).length=2*R.length:=by
 induction R with
 |nil=>rfl
 |cons a R ih=>rw[aY,aA,zal,ih,aW];omega
theorem zem(h:R.length=8):(zbu R).length=512:=by
 unfold zbu
 rw[aA,cF,znf,h]
theorem qei{x:Nat}(h:R[i]? =some x):(R.take (i+1)).flatMap (beN 2)=(R.take i).flatMap (beN 2)++beN 2 x:=by
 rw[dA,h,bE]
 simp
theorem qn0{w:World}(h:zbq (foI c R busy err s) w0)(hw:Hp w0 none' m w)(ha:R[i]? =some a):w.cell? ⟨c.b,1+i*4+3,none⟩=some (.int .i64 (a:Nat)):=by
 have h1:=((h.keep hw).1.1 _ (.head _)).1
 rw[qbp ha]at h1
 have h2:=znr h1 3 _ rfl
 rwa[qj5 ha]at h2
theorem zpq(hl:R.length=8)(hR:∀a∈R,a<65536)(w:World)(h:zbq (foI c R busy err s) w):
  Ct Tryz.prog 89 #[.pointer (some ⟨c.b,0,none⟩)] w none' (fun o:Option (Nat×Nat)=>slV o 512) (fun _=>True) (fun o=>[own 5 1 o 512 (zae (zbu R))]):=by
 refine zes [_] Tryz.func89 rfl rfl ?_
 simp only[zaa]
 refine goA ?_
 refine zdy rfl rfl kQ rfl (fun w1 hw1=>zg6 w1) fun x hx=>?_
 refine goA ?_
 refine zc0 (α:=Nat×Option (Nat×Nat)) (fun y=>[(0,.pointer (some ⟨c.b,0,none⟩)),(3,.pointer (some ⟨x,0,none⟩)),(8,.int .i64 (y.1:Nat))]) (fun y=>y.1≤8) (fun y=>pks x y.2 ((R.take y.1).flatMap (beN 2))) (fun y=>8 - y.1) (0,none) ⟨rfl,rfl,rfl,trivial⟩ (aZ _) (fun w' hw'=>hw') fun⟨i,o⟩ h1=>?_
 simp only at h1⊢
 have hfl:=znf (R.take i)
 rw[aM]at hfl
 by_cases hi:i<8
 ·obtain⟨a,ha⟩:∃a,R[i]? =some a:=⟨_,aB oQ⟩
  have hab:=hR a (cB ha)
  refine goA ?_
  refine l_w rfl (za0 (v:=.int .i64 (a:Nat)) rfl rfl (fun w' hw'=>qn0 h hw' ha)) ?_
  refine goA ?_
  refine lCu (pks x o ((R.take i).flatMap (beN 2))) rfl (by simp[zab,zac]) (fun w1 hw1 hh1 ha1=>zdr x o _ 2 a (.inr (.inl rfl)) oQ oQ w1 hh1 ha1) fun⟨o',_⟩=>?_
  dsimp only
  rw[←qei ha]
  refine goA ?_
  exact zaw (i+1,o') ⟨rfl,rfl,rfl,trivial⟩ hi (fun w' hw'=>hw') (by simp only;omega)
 ·rw[bK oQ]at hfl⊢
  refine goA ?_
  refine lPu rfl (fun w1 hw1=>zhj 496 dQ w1) ?_
  refine goA ?_
  refine lCu (pks x o (R.flatMap (beN 2))) rfl (by simp[zab,zac]) (fun w1 hw1 hh1 ha1=>zen x o _ ⟨(List.replicate 496 (0:UInt8)).toArray⟩ (by rw[hfl];show _+(List.replicate 496 (0:UInt8)).toArray.size≤_;rw[bC,cF];omega) w1 hh1 ha1) fun⟨o2,_⟩=>?_
  rw[show(⟨(List.replicate 496 (0:UInt8)).toArray⟩:ByteArray).data.toList=List.replicate 496 0 from rfl,show R.flatMap (beN 2)++List.replicate 496 0=zbu R from rfl]
  dsimp only
  refine goA ?_
  have hrl:=zem hl
  refine lCu (pks x o2 (zbu R)) rfl (by simp[zab,zac]) (fun w1 hw1 hh1 ha1=>zdv x o2 _ (by rw[hrl];decide) w1 hh1 ha1) fun⟨o3,_⟩=>?_
  rw[hrl]
  refine goA ?_
  exact zbd o3 rfl rfl rfl trivial (.cons_cons _ (aG _)) (by simp[zac])
def foX(c:Fc)(X:List Value)(busy:Bool)(err:Nat):Eng.Item:=pt c.b (.cells (.pointer (some ⟨c.pb,0,none⟩)::(X++[.bool busy,.int .i64 (err:Int)])).toArray 119 (0,0))
def qny(c:Fc)(X:List Value)(busy:Bool)(err:Nat)(s:Pg):List Eng.Item:=[foX c X busy err,pgI s c.d,dkI c.d,tzI]
theorem qsr(c:Fc)(R:List Nat)(busy:Bool)(err:Nat):foX c (frT c.pb 0 R) busy err=foC c R busy err:=rfl
theorem qdi(c:Fc)(X:List Value)(busy:Bool)(err:Nat):(foX c X busy err).Stable none':=zab _ _ _
theorem zpp(c:Fc)(X:List Value)(busy:Bool)(err:Nat)(s:Pg):∀it∈qny c X busy err s,it.Stable none':=by
 intro it hm
 rcases hm with _|⟨_,hm⟩
 ·exact qdi c X busy err
 ·exact zgv s c.d it hm
theorem zun(pb:Nat):∀(A:List Nat) (i a:Nat),frT pb i (A++[a])=frT pb i A++[.pointer (some ⟨pb,0,none⟩),.int .i64 ((fSh (i+A.length)).kw:Int),.int .i64 ((fSh (i+A.length)).vw:Int),.int .i64 ((a:Nat):Int)]
 | [],_,_=>rfl
 |x::A,i,a=>by
  show _::_::_::_::frT pb (i+1) (A++[a])=_::_::_::_::(frT pb (i+1) A++_)
  rw[zun pb A (i+1) a,aW,show i+1+A.length=i+(A.length+1) by omega]
theorem qnz{pb:Nat}{X T:List Value}(ha:R[i]? =some a)(hX:X.length=4*R.length):
  put (.pointer (some ⟨pb,0,none⟩)::((frT pb 0 (R.take i)++X.drop (4*i))++T)) (1+i*4) [.pointer (some ⟨pb,0,none⟩),.int .i64 ((fSh i).kw:Int),.int .i64 ((fSh i).vw:Int),.int .i64 ((a:Nat):Int)]= .pointer (some ⟨pb,0,none⟩)::((frT pb 0 (R.take (i+1))++X.drop (4*(i+1)))++T):=by
 have hi:=(aJ.1 ha).1
 have hl:(frT pb 0 (R.take i)).length=4*i:=by rw[zhr,aM];omega
 have hd:X.drop (4*i)=(X.drop (4*i)).take 4++X.drop (4*(i+1)):=by
  conv=>lhs;rw[←bF 4 (X.drop (4*i))]
  rw[kW,show 4*i+4=4*(i+1) by omega]
 have h4:((X.drop (4*i)).take 4).length=4:=by rw[aM,aX];omega
 rw[dA,ha]
 show _=_::((frT pb 0 (R.take i++[a])++_)++T)
 rw[zun,aL,aM,show min i R.length=i by omega]
 generalize frT pb 0 (R.take i)=A at hl⊢
 generalize (X.drop (4*i)).take 4=Z at hd h4
 rw[hd]
 unfold put
 rw[show 1+i*4=A.length+1 by omega,List.take_succ_cons,show A++(Z++X.drop (4*(i+1)))++T=A++(Z++(X.drop (4*(i+1))++T)) by simp only[aF],fM rfl]
 rw[show A.length+1+[Value.pointer (some ⟨pb,0,none⟩),.int .i64 ((fSh i).kw:Int),.int .i64 ((fSh i).vw:Int),.int .i64 ((a:Nat):Int)].length=(A.length+Z.length)+1 by rw[h4];rfl,iK,←aF A Z,List.drop_left' (by rw[aA])]
 simp only[aC,aF,aE]
theorem qj3{pb:Nat}{Y:List Value}(ha:R[i]? =some a):(.pointer (some ⟨pb,0,none⟩)::(frT pb 0 (R.take (i+1))++Y):List Value)[1+i*4+3]? =some (.int .i64 (a:Nat)):=by
 have hi:=(aJ.1 ha).1
 have hl:(frT pb 0 (R.take i)).length=4*i:=by rw[zhr,aM];omega
 rw[dA,ha]
 show(_::(frT pb 0 (R.take i++[a])++Y):List Value)[_]? =_
 rw[zun,aF,show 1+i*4+3=(4*i+3)+1 by omega,fU,cT oQ,hl,fB]
 rfl
theorem qh5(ha:R[i]? =some a)(hab:a<65536)(T:Bys):opN 2 ((R.drop i).flatMap (beN 2)++T,false)=(a,((R.drop (i+1)).flatMap (beN 2)++T,false)):=by
 obtain⟨hi,rfl⟩:=aJ.1 ha
 rw[cC hi,aY,aF,zgc (by simpa using hab)]
theorem zpo(h:Fok c g s)(h1N:1<c.N){X:List Value}(hX:X.length=32)(hl:R.length=8)(hR:∀a∈R,a≠1∧a<c.n)(hW:g.W 1=zbu R):
  Cw Tryz.prog 56 #[.pointer (some ⟨c.b,0,none⟩)] (qny c X busy err s) (fun _:Pg=>.int .i64 0) (fun s'=>Fok c g s') (fun s'=>[foI c R busy err s']):=by
 intro w hw ha
 have h0:Tok (frC c [] false 0 0) g s:=h
 have hb:s.b=c.pb:=h0.b
 have hpg:pageB s c.d.D 1=g.W 1:=h0.pg (bA _) h1N
 have h':=h0.page (i:=1) h1N
 have hsn:s.n=c.n:=h0.st.hn
 have hpp:=fun w1=>zl8 (zb1 s c.d.D 1) c.d w1
 rw[show(zb1 s c.d.D 1).b=c.pb by rw[qhq];exact hb,show(zb1 s c.d.D 1).n=c.n from h'.st.hn]at hpp
 have hn1:c.n≤1024:=h0.n2
 have h1n:1<c.n:=aV h1N h0.N2
 refine za2 [_] _ Tryz.func56 rfl rfl hw ha ?_
 simp only[zaa]
 unfold qny
 refine goA ?_
 rw[←hb]
 refine zay [1,2,0,3] rfl rfl ?_
 refine lCu [pgI s c.d,dkI c.d] rfl (zdp s c.d) (fun w1 hw1 hh1 ha1=>zhi s c.d h0.ok h0.lives h0.wait h0.st.dead h0.st.ok 1 oQ w1 hh1 ha1) fun⟨b,_⟩=>?_
 rw[hpg,hW]
 dsimp only
 refine goA ?_
 refine zdy rfl rfl kQ rfl (fun w1 hw1=>zih (some ⟨b,0,none⟩) 512 512 (zbu R) (zem hl) dQ w1 (qch (hw1.item (rdI b (zbu R)) (.head _)).1)) fun x hx=>?_
 obtain⟨bo,oD⟩:=x
 simp only at hx⊢
 refine goA ?_
 have hsD:(own 5 1 oD 512 (zae (zbu R))).Stable none':=zac _ _ _ _ _ _
 generalize own 5 1 oD 512 (zae (zbu R))=D at hx hsD
 simp only[aC,aE]
 refine zc0 (α:=Nat×Option Addr×Nat) (fun y=>[(0,.pointer (some ⟨c.b,0,none⟩)),(3,.slice (some ⟨b,0,none⟩) 512 512),(5,.pointer (some ⟨bo,0,none⟩)),(21,.int .i64 (y.1:Nat))]) (fun y=>y.1≤8∧zjg D y.2.1 y.2.2 ((R.drop y.1).flatMap (beN 2)++List.replicate 496 0))
  (fun y=>[opI bo y.2.1 y.2.2 ((R.drop y.1).flatMap (beN 2)++List.replicate 496 0,false),D,foX c (frT c.pb 0 (R.take y.1)++X.drop (4*y.1)) busy err,rdI b (zbu R),pgI (zb1 s c.d.D 1) c.d,dkI c.d,tzI]) (fun y=>8 - y.1) (0,slA oD,slC oD) ⟨rfl,rfl,rfl,rfl,trivial⟩ ⟨aZ _,hx⟩ (fun w' hw'=>hw'.pick [0,1,5,2,3,4,6] rfl rfl) fun⟨i,y⟩ ⟨i1,i2⟩=>?_
 simp only at i1 i2⊢
 by_cases hi:i<8
 ·obtain⟨a,ha⟩:∃a,R[i]? =some a:=⟨_,aB oQ⟩
  obtain⟨ha1,ha2⟩:=hR a (cB ha)
  have hop:=qh5 ha oQ (List.replicate 496 0)
  have hput:=qnz (pb:=c.pb) (T:=[.bool busy,.int .i64 (err:Int)]) ha (X:=X) oQ
  have hfl:=znf (R.drop i)
  rw[aX]at hfl
  refine goA ?_
  refine zap [2,3,4,5,6] 15 rfl rfl kQ ?_
  refine goE ?_
  refine zat 7 ⟨kQ,dQ⟩ rfl rfl (zfc rfl kQ rfl (fun w1 hw1=>zxa hi w1)) (fun _ _ h=>goH h) fun _=>?_
  refine goE ?_
  refine zat 9 ⟨kQ,dQ⟩ rfl rfl (zfb (pre:=[opI bo y.1 y.2 ((R.drop i).flatMap (beN 2)++List.replicate 496 0,false),D]) rfl kQ rfl (by simp[zak,hsD]) (fun w1 hw1 hh1 ha1=>zhh a _ hop hsD i2 (.inr (.inl rfl)) (by simp only[aA,cF];omega) hh1 ha1)) (fun _ _ h=>goH h) fun⟨y',hy'⟩=>?_
  refine goE ?_
  unfold foX
  refine zet ⟨kQ,kQ⟩ rfl rfl (zah (zdf _ _ _ _) (zjz (cs:=.pointer (some ⟨c.pb,0,none⟩)::((frT c.pb 0 (R.take i)++X.drop (4*i))++[.bool busy,.int .i64 (err:Int)])) (V:=[.pointer (some ⟨c.pb,0,none⟩),.int .i64 ((fSh i).kw:Int),.int .i64 ((fSh i).vw:Int),.int .i64 ((a:Nat):Int)]) rfl rfl rfl rfl rfl rfl (by simp only[aW,aA,zhr,aM,aX,dS];omega))) fun _=>?_
  rw[hput]
  refine goA ?_
  refine l_w rfl (za0 (v:=.int .i64 (a:Nat)) rfl rfl (fun w' hw'=>by have:=zbf (hw'.get (.head _)) _ _ (by rw[aF];exact qj3 ha);rwa[aL]at this)) ?_
  refine goA ?_
  refine lPu rfl (fun w1 hw1=>hpp w1 (zbq.of (hw1.item (pgI (zb1 s c.d.D 1) c.d) mm) (zbv _ _))) ?_
  refine goA ?_
  exact zaw (i+1,y') ⟨rfl,rfl,rfl,rfl,trivial⟩ ⟨hi,hy'⟩ (fun w' hw'=>hw'.pick [1,2,0,3,4,5,6] rfl rfl) (by simp only;omega)
 ·have hi8:i=8:=oQ
  subst hi8
  rw[bK oQ,fG (by omega:X.length≤4*8),aU,qsr]
  refine goA ?_
  refine zcy (m':=foI c R busy err (zb1 s c.d.D 1)::[rdI b (zbu R)]) (fun w' hw'=>zhe (m:=[rdI b (zbu R)]) (hw'.pick [2,4,5,6,3] rfl rfl)) ?_
  refine zdy rfl rfl kQ rfl (fun w1 hw1=>zpq hl (fun a ha=>by have:=(hR a ha).2;omega) w1 (zbq.of (hw1.item _ (.head _)) (zad _))) fun x hx=>?_
  refine goA ?_
  refine zch (fun w hw=>(zas (hw.item (own 5 1 x 512 (zae (zbu R))) (.head _)).1).1) fun f1=>?_
  rw[f1]
  refine lPu rfl (fun w1 hw1=>zfp (slA x) (some ⟨b,0,none⟩) 512 512 (slC x) 512 (zbu R) (zbu R) (zem hl) (zem hl) w1 (za8 (hw1.item (own 5 1 x 512 (zae (zbu R))) mm).1) (qch (hw1.item (rdI b (zbu R)) mm).1)) ?_
  rw[decide_eq_true (show zbu R=zbu R from rfl)]
  refine goA ?_
  exact zbd (zb1 s c.d.D 1) rfl rfl rfl (Tok.fok (R:=[]) (busy:=false) (err:=0) (i:=0) h') (.cons _ (.cons_cons _ (aG _))) (zb3 _ _ _ _ _)
end Go.Proofs.YthafakdplhdfjaaGreatDoor
namespace Go.Proofs.YthafakdplhdfjaaGreatDoor
open Go.RowKit Go.Eng Go.Eng.Bm
end Go.Proofs.YthafakdplhdfjaaGreatDoor
namespace Go.Proofs.YthafakdplhdfjaaGreatDoor
open Go.RowKit Go.Eng Go.Eng.Bm
end Go.Proofs.YthafakdplhdfjaaGreatDoor
