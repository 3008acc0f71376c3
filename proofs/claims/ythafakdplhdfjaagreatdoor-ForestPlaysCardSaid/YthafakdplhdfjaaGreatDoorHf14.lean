/- Parts: tree; Marks and deferred calls at a function's end; A range over a function whose iterator gives items back that are not zec before; loops that hold such ranges. No condition. -/
import Derived.Test.YthafakdplhdfjaaGreatDoorHf13
import Derived.Test.YthafakdplhdfjaaGreatDoorHf08
import Derived.Test.YthafakdplhdfjaaGreatDoorHf12
set_option maxRecDepth 100000
set_option maxHeartbeats 40000000
namespace Go.Proofs.YthafakdplhdfjaaGreatDoor
open Go.RowKit Go.Eng Go.Eng.Bm Go.Eng.Tr
variable{s:Sh}{g:Sg}{n:Nd}
theorem zmd{N:Nat}{g':Sg}{at_:Nat}(hl:zb8 s N g at_ n= .ok g'):zf8 s n:=by
 unfold zb8 at hl
 split at hl
 ·rename_i h;exact h
 ·cases hl
theorem zn9{N:Nat}{key:K}{d:Nat}{g':Sg}{at_:Int}{n':Nd}{b:Bool}(hl:zd8 s N key (d+1) g at_= .ok ((n',b),g')):∃n,zfs s N g at_= .ok n∧
    ((n.leaf=true∧fd n.keys key=true∧n'=lNd (n.keys.eraseIdx (lb n.keys key)) (n.vals.eraseIdx (lb n.keys key))∧b=true∧g'=g)∨(n.leaf=true∧fd n.keys key=false∧n'=n∧b=false∧g'=g)∨
     (n.leaf=false∧∃r b1 g1,zd8 s N key d g (n.kids.getD (dn n.keys key) 0:Nat)= .ok ((r,b1),g1)∧((b1=false∧n'=n∧b=false∧g'=g1)∨
      (b1=true∧∃g2,zb8 s N g1 (n.kids.getD (dn n.keys key) 0) r= .ok g2∧b=true∧((zqj s r=true∧zhg s N g2 n (dn n.keys key)= .ok (n',g'))∨(zqj s r=false∧n'=n∧g'=g2)))))):=by
  rw[zd8]at hl
  obtain⟨n,h1,h2⟩:=zb6 hl
  refine⟨n,h1,?_⟩
  cases hlf:n.leaf with
  |true=>
    simp only[hlf,if_true]at h2
    cases hf:fd n.keys key with
    |true=>
      simp only[hf,if_true]at h2
      cases h2
      exact .inl ⟨rfl,rfl,rfl,rfl,rfl⟩
    |false=>
      simp only[hf,bT,if_false]at h2
      cases h2
      exact .inr (.inl ⟨rfl,rfl,rfl,rfl,rfl⟩)
  |false=>
    simp only[hlf,bT,if_false]at h2
    obtain⟨⟨⟨r,b1⟩,g1⟩,h3,h4⟩:=zb6 h2
    refine .inr (.inr ⟨rfl,r,b1,g1,h3,?_⟩)
    cases b1 with
    |false=>
      simp only[bT,if_false]at h4
      cases h4
      exact .inl ⟨rfl,rfl,rfl,rfl⟩
    |true=>
      simp only[if_true]at h4
      obtain⟨g2,h5,h6⟩:=zb6 h4
      refine .inr ⟨rfl,g2,h5,?_⟩
      cases hp:zqj s r with
      |true=>
        simp only[hp,if_true]at h6
        obtain⟨⟨n2,g3⟩,h7,h8⟩:=zb6 h6
        cases h8
        exact⟨rfl,.inl ⟨rfl,h7⟩⟩
      |false=>
        simp only[hp,bT,if_false]at h6
        cases h6
        exact⟨rfl,.inr ⟨rfl,rfl,rfl⟩⟩
variable{c:Tc}{s:Pg}
theorem qld{g':Sg}(h:Tok c g s)(root:Int)(at_:Nat)(n:Nd)(o:Po)(hl:zb8 c.sh c.N g at_ n= .ok g')(w:World)(hi:∀it∈ndI n o,it.prop w)(hA:NdA (za4 [tmI c root s]) (plO o))(hw:∀it∈[tmI c root s],zbq it w):
  Ct Tryz.prog 108 #[.pointer (some ⟨c.t,c.o,none⟩),.int .i64 (at_:Int),.agg (ndO n o)] w (za4 [tmI c root s]) (fun _:Pg=>.tuple #[]) (fun s'=>Tok c g' s') (fun s'=>[tmI c root s']):=by
 rw[(zp2 hi).1]
 exact save_ok' h root at_ n (plO o) (zku h.sh (zmd hl)).1 hl w (zp2 hi).2 hA hw
variable{o:Po}
theorem qok{w w0:World}{F:Nat→Prop}{it:Eng.Item}{m:List Eng.Item}(h:Hp w0 F (it::m) w)(hk:own 9 1 o.k n.keys.length (n.keys.map kV)∈m)(hv:own 9 1 o.v n.vals.length (n.vals.map kV)∈m)(hd:own 3 1 o.d n.kids.length (n.kids.map iV)∈m):NdA (za4 [it]) (plO o):=⟨zbx h hk,zbx h hv,zbx h hd⟩
theorem qk6(ht:Tok c g s)(root:Int)(hm:zf8 c.sh n)(w:World)(h:zbq (tmI c root s) w)(hi:∀it∈ndI n o,it.prop w):Pu Tryz.prog 148 #[.pointer (some ⟨c.t,c.o,none⟩),.agg (ndO n o)] w (.int .i64 (qao c.sh n)):=by
 obtain⟨-,a1, -,a3⟩:=zku ht.sh hm
 rw[(zp2 hi).1]
 exact qeb ht root n (plO o) a1 a3 w h
theorem qeh(c:Tc)(root:Int)(key:K):∀(d:Nat) (g:Sg) (s:Pg) (at_:Int) {n':Nd} {b:Bool} {g':Sg},Tok c g s→d≤16→zd8 c.sh c.N key d g at_= .ok ((n',b),g')→∀w:World,(∀it∈[tmI c root s],zbq it w)→
  Ct Tryz.prog 106 #[.pointer (some ⟨c.t,c.o,none⟩),.int .i64 at_,.int .i64 (d:Nat),kV key] w (za4 [tmI c root s]) (fun x:Pg×Po=>.tuple #[.agg (ndO n' x.2),.bool b]) (fun x=>Tok c g' x.1) (fun x=>tmI c root x.1::ndI n' x.2):=by
 intro d
 induction d with
 |zero=>
  intro g s at_ n' b g' _ _ hl
  rw[zd8]at hl;cases hl
 |succ d ih=>
  intro g s at_ n' b g' h hd hl w hw
  obtain⟨n,h1,hcase⟩:=zn9 hl
  obtain⟨hmay,i0,hi0,hi1,hi2⟩:=zgi h1
  subst hi0
  obtain⟨hnb,hb1,hb2,hb3⟩:=zku h.sh hmay
  refine za2 [_,_,_,_] _ Tryz.func106 rfl rfl hw (.cons (fun _ h=>nomatch h) .nil) ?_
  simp only[zaa,Nat.reduceAdd]
  refine goA ?_
  refine zam rfl rfl fun b8 hb8=>?_
  refine goA ?_
  refine lPu rfl (fun w1 hw1=>zvc oQ _ w1) ?_
  refine goA ?_
  refine zay [1,0] rfl rfl ?_
  refine lCu [tmI c root s] rfl (zag c root s) (fun w1 hw1 hh1 ha1=>zmz h root i0 h1 w1 hh1) fun⟨⟨s1,o⟩,hs1⟩=>?_
  have hs1:Tok c g s1:=hs1
  dsimp only
  refine goA ?_
  refine zam rfl rfl fun b10 hb10=>?_
  refine za1 rfl (zaf (cs':=ndO n o) rfl rfl rfl rfl (zdl n o) rfl) fun _=>?_
  unfold ndI
  simp only[aF,aJ]
  rcases hcase with ⟨hlf,hf,rfl,rfl,rfl⟩ |⟨hlf,hf,rfl,rfl,rfl⟩ |⟨hlf,r,b1,g1,hp,hcase⟩
  ·obtain⟨hkd,hkv, -, -⟩:=hmay.leaf hlf
   have hlb:lb n.keys key<n.keys.length:=(aC.1 (zly.1 hf)).1
   obtain⟨lf,ks,vs,kd⟩:=n
   simp only at hlf hkd hkv hlb hb1 hb2 hf⊢
   subst hlf
   subst hkd
   obtain⟨ok,ov,od⟩:=o
   simp only
   refine zch (fun w hw=>And.intro (zdj (hw.item (own 9 1 ok ks.length (ks.map kV)) mm).1 oQ) (zdj (hw.item (own 9 1 ov vs.length (vs.map kV)) mm).1 oQ)) fun⟨⟨kb,kc,e⟩,⟨vb,vc,e'⟩⟩=>?_
   subst e
   subst e'
   unfold ndO
   refine goA ?_
   refine lPu rfl (fun w1 hw1=>zl0 hmay hb1 key w1 (zdw (o:=⟨some (kb,kc),some (vb,vc),od⟩) hw1 mm mm mm)) ?_
   simp only
   rw[hf]
   obtain⟨j,hj⟩:∃j,lb ks key=j:=⟨_,rfl⟩
   rw[hj]at hlb⊢
   refine goA ?_
   refine zcx [2,3,0,1,4,5] rfl rfl ?_
   refine zap [2,3,4,5] 13 rfl rfl kQ ?_
   refine goE ?_
   refine zat 5 ⟨kQ,dQ⟩ rfl rfl (zfb (pre:=[own 9 1 (some (kb,kc)) ks.length (ks.map kV)]) rfl kQ rfl (by simp[zac]) (fun w1 hw1 hh1 ha1=>zit kb kc ks.length j (ks.map kV) (zl4 ks) oQ oQ w1 hh1)) (fun _ _ h=>goH h) fun⟨_,_⟩=>?_
   refine goE ?_
   refine zfa [1,0,2,3,4,5] rfl rfl ?_
   refine zat 11 ⟨kQ,dQ⟩ rfl rfl (zfb (pre:=[own 9 1 (some (vb,vc)) vs.length (vs.map kV)]) rfl kQ rfl (by simp[zac]) (fun w1 hw1 hh1 ha1=>zit vb vc vs.length j (vs.map kV) (zl4 vs) oQ oQ w1 hh1)) (fun _ _ h=>goH h) fun⟨_,_⟩=>?_
   simp only[aF,aJ]
   refine goE ?_
   refine zfa [2,0,1,3,4,5] rfl rfl ?_
   refine zor 13 rfl rfl rfl rfl rfl rfl rfl rfl rfl rfl rfl rfl rfl rfl rfl kQ kQ (by show(1:Nat)<4;decide) (by show(2:Nat)<4;decide) ?_
   have l1:ks.length - 1=(ks.eraseIdx j).length:=(eS oQ).symm
   have l2:vs.length - 1=(vs.eraseIdx j).length:=(eS oQ).symm
   rw[zw2,zw2]
   refine goA ?_
   refine za1 rfl (zah (zjj _ _ _ _ _ _ _) (zaf rfl rfl rfl rfl (zdl ⟨true,ks.eraseIdx j,vs.eraseIdx j,[]⟩ ⟨some (kb,kc),some (vb,vc),od⟩) rfl)) fun _=>?_
   refine goA ?_
   refine zgf [4,3,2,5,0] rfl rfl ?_
   exact zc1 (s1,⟨some (kb,kc),some (vb,vc),od⟩) rfl ⟨_,rfl,zaq rfl mm⟩ rfl (by simp only[ndO,lNd];rw[←l1,←l2];rfl) hs1 (by simp only[lNd];rw[←l1,←l2];exact .cons_cons _ (.cons_cons _ (.cons_cons _ (.cons_cons _ (aK _))))) (zco _ _ _ _ _)
  ·obtain⟨hkd,hkv, -, -⟩:=hmay.leaf hlf
   unfold ndO
   rw[hlf]
   refine goA ?_
   refine lPu rfl (fun w1 hw1=>by have:=zl0 hmay hb1 key w1 (zdw (o:=o) hw1 mm mm mm);unfold ndO at this;rw[hlf]at this;exact this) ?_
   rw[hf]
   refine goA ?_
   refine za1 rfl (zah (zjj _ _ _ _ _ _ _) (zaf rfl rfl rfl rfl (by have:=zdl n' o;unfold ndO at this;rw[hlf]at this;exact this) rfl)) fun _=>?_
   refine goA ?_
   refine zgf [2,3,4,5,0] rfl rfl ?_
   exact zc1 (s1,o) rfl ⟨_,rfl,zaq rfl mm⟩ rfl rfl hs1 (.cons_cons _ (.cons_cons _ (.cons_cons _ (.cons_cons _ (aK _))))) (zco _ _ _ _ _)
  ·obtain⟨hkr,hvs,hkl1,hk1, -⟩:=hmay.inner hlf
   have hdn:=zoh n.keys key
   obtain⟨lf,ks,vs,kd⟩:=n
   simp only at hlf hvs hkl1 hk1 hdn hb1 hb3 hp hcase⊢
   subst hlf
   subst hvs
   obtain⟨ok,ov,od⟩:=o
   simp only
   refine zch (fun w hw=>zdj (hw.item (own 3 1 od kd.length (kd.map iV)) mm).1 oQ) fun⟨db,dc,e⟩=>?_
   subst e
   obtain⟨kq,hkq⟩:∃x,kd[dn ks key]? =some x:=⟨_,aB oQ⟩
   rw[show kd.getD (dn ks key) 0=kq by rw[aE,hkq];rfl]at hp hcase
   unfold ndO
   refine goA ?_
   refine lPu rfl (fun w1 hw1=>zoq hmay hb1 key w1 (zdw (o:=⟨ok,ov,some (db,dc)⟩) hw1 mm mm mm)) ?_
   simp only
   obtain⟨i,hi⟩:∃i,dn ks key=i:=⟨_,rfl⟩
   rw[hi]at hkq hcase hdn⊢
   refine goA ?_
   refine l_w rfl (za0 (v:=.int .i64 (kq:Int)) rfl rfl (fun w' hw'=>zby (hw'.item (own 3 1 (some (db,dc)) kd.length (kd.map iV)) mm).1 _ _ (by simp only[aH];rw[aO,hkq];rfl))) ?_
   refine goA ?_
   rw[show d+1 - 1=d by omega]
   refine zay [1,0,2,3,4,5] rfl rfl ?_
   refine lCu [tmI c root s1] rfl (zag c root s1) (fun w1 hw1 hh1 ha1=>ih g s1 (kq:Nat) hs1 oQ hp w1 hh1) fun⟨⟨s2,o2⟩,hs2⟩=>?_
   have hs2:Tok c g1 s2:=hs2
   dsimp only
   unfold ndI
   simp only[aF,aJ]
   refine goA ?_
   refine zam rfl rfl fun b14 hb14=>?_
   refine za1 rfl (zaf (cs':=ndO r o2) rfl rfl rfl rfl (zdl r o2) rfl) fun _=>?_
   refine goA ?_
   rcases hcase with ⟨rfl,rfl,rfl,rfl⟩ |⟨rfl,g2,hsv,rfl,hcase⟩
   ·refine goA ?_
    refine zay [1,6,7,8,9] rfl rfl ?_
    refine za1 rfl (zah (zji _ _ _ _ _ _) (zaf rfl rfl rfl rfl (zdl ⟨false,ks,[],kd⟩ ⟨ok,ov,some (db,dc)⟩) rfl)) fun _=>?_
    refine goA ?_
    exact zc1 (s2,⟨ok,ov,some (db,dc)⟩) rfl ⟨_,rfl,zaq rfl (.head _)⟩ rfl rfl hs2 (.cons _ (.refl _)) (zco _ _ _ _ _)
   ·refine goA ?_
    refine zcx [1,0,2,3,4,5,6,7,8,9] rfl rfl ?_
    refine zap [1,2,3,4,5,6,7,8,9] 8 rfl rfl kQ ?_
    (repeat first|refine dAv [5] rfl rfl rfl ?_ |refine dno [5] rfl rfl rfl ?_ |refine dT [5] rfl rfl rfl rfl ?_ |refine dF [5] rfl rfl rfl rfl ?_)
    refine goV rfl rfl (za0 (v:=.int .i64 (kq:Int)) rfl rfl (fun w' hw'=>zby (hw'.item (own 3 1 (some (db,dc)) kd.length (kd.map iV)) mm).1 _ _ (by simp only[aH];rw[aO,hkq];rfl))) ?_
    refine goE ?_
    refine zat 7 ⟨kQ,dQ⟩ rfl rfl (zfb (pre:=[tmI c root s2]) rfl kQ rfl (zag c root s2) (fun w1 hw1 hh1 ha1=>qld hs2 root kq r o2 hsv w1 (zdw hw1 mm mm mm) (qok hw1 mm mm mm) hh1)) (fun _ _ h=>goH h) fun⟨s3,hs3⟩=>?_
    have hs3:Tok c g2 s3:=hs3
    dsimp only
    simp only[aF,aJ]
    refine zdn kQ ?_
    refine goA ?_
    refine lPu rfl (fun w1 hw1=>qk6 hs3 root (zmd hsv) w1 (zbq.of (hw1.item (tmI c root s3) mm) (zad _)) (zdw hw1 mm mm mm)) ?_
    rcases hcase with ⟨hpo,hm⟩ |⟨hpo,rfl,rfl⟩
    ·have hpp:decide (qao c.sh r>0)=true:=by rw[qcd,hpo]
     refine goA ?_
     rw[hpp]
     refine goA ?_
     refine zay [0,6,7,8,5,9] rfl rfl ?_
     refine lCu (tmI c root s3::ndI ⟨false,ks,[],kd⟩ ⟨ok,ov,some (db,dc)⟩) rfl (zco _ _ _ _ _) (fun w1 hw1 hh1 ha1=>qks hs3 root ⟨ok,ov,some (db,dc)⟩ rfl rfl hnb i (by simp only;omega) hkl1 hb1 hm w1 hh1 ha1) fun⟨⟨s4,o4⟩,h4⟩=>?_
     have h4:Tok c g' s4:=h4
     dsimp only
     unfold ndI
     simp only[aF,aJ]
     refine za1 rfl (zah (zji _ _ _ _ _ _) (zaf (cs':=ndO n' o4) rfl rfl rfl rfl (zdl n' o4) rfl)) fun _=>?_
     refine goA ?_
     refine za1 rfl (zah (zjj _ _ _ _ _ _ _) (zaf (cs':=ndO n' o4) rfl rfl rfl rfl (zdl n' o4) rfl)) fun _=>?_
     refine goA ?_
     exact zc1 (s4,o4) rfl ⟨_,rfl,zaq rfl (.head _)⟩ rfl rfl h4 (.cons _ (.cons _ (.refl _))) (zco _ _ _ _ _)
    ·have hpp:decide (qao c.sh r>0)=false:=by rw[qcd,hpo]
     refine goA ?_
     rw[hpp]
     refine goA ?_
     refine zay [0,6,7,8,9] rfl rfl ?_
     refine za1 rfl (zah (zji _ _ _ _ _ _) (zaf rfl rfl rfl rfl (zdl ⟨false,ks,[],kd⟩ ⟨ok,ov,some (db,dc)⟩) rfl)) fun _=>?_
     refine goA ?_
     exact zc1 (s3,⟨ok,ov,some (db,dc)⟩) rfl ⟨_,rfl,zaq rfl (.head _)⟩ rfl rfl hs3 (.cons _ (.refl _)) (zco _ _ _ _ _)
end Go.Proofs.YthafakdplhdfjaaGreatDoor
namespace Go.Eng
open Go.RowKit
section
variable{P:Program}{l:zav}{w0:World}{F:Nat→Prop}{m:List Item}{fn:Func}{R:Ending→World→Prop}
variable{f:FuncId}{args:Array Value}{u:FrameMode}{w:World}
theorem qda{c:Code}{R:Ending→FrameMode→World→Prop}(hf:P.funcs[f]? =some fn)(hb:fn.body=some c)
  (h:∀(c₀:Frame) (cs:List Frame),c₀.mode=u→c.wpS P (bodyPostS P fn c₀ cs R) { tmps:=args++Array.replicate (fn.ntmps - args.size) undef,defers:=[] } (c₀::cs) w):CallsDIn (fw none) 0 P f args u w R:=by
 refine⟨trivial,fun c₀ cs hu _=>?_⟩
 let b:Frame:={ (default:Frame)with fn:=f,kind:=.deferred }
 have hi:Frame.enter P f args .deferred=b.at { tmps:=args++Array.replicate (fn.ntmps - args.size) undef,defers:=[] } [.code c]:=by simp[Frame.enter,Frame.at,hf,hb,b]
 obtain⟨e,a',cs',w',hq,harr⟩:=h c₀ cs hu b [] rfl rfl
 rw[←hi]at harr
 match e,hq,harr with
 | .normal,hq,harr=>
  obtain⟨hd,u',rfl,v,hr,hR⟩:=hq
  exact⟨.returned v,u',w',_,hR,comesIn_wide.2 (Steps.trans harr (.one step_end)),rfl,rfl,rfl,hd,fn,hf,hr⟩
 | .ret,hq,harr=>
  obtain⟨hd,u',rfl,v,hr,hR⟩:=hq
  obtain⟨todo,hs⟩:=harr
  exact⟨.returned v,u',w',_,hR,comesIn_wide.2 hs,rfl,rfl,rfl,hd,fn,hf,hr⟩
 | .panic chain,hq,harr=>
  obtain⟨hd,u',rfl,hR⟩:=hq
  obtain⟨todo,hs⟩:=harr
  exact⟨.panicked chain,u',w',_,hR,comesIn_wide.2 hs,rfl,rfl,rfl,hd,fn,hf⟩
 | .exit _,hq,_=>exact hq.elim
 | .goto _,hq,_=>exact hq.elim
 | .outgrown,hq,harr=>
  obtain⟨u',hR⟩:=hq
  exact⟨.outgrown,u',w',b,hR,comesIn_wide.2 (harr.resolve_left (by simp[b])),rfl,rfl,trivial⟩
theorem qfm{R:Ending→FrameMode→World→Prop}(h:CallsDIn (fw none) 0 P f args u w R):CallsD P f args u w R:=
 fun c cs hu=>let ⟨e,u',w',fr,r,s,k,_,g⟩:=h.2 c cs hu (room_wide _);⟨e,u',w',fr,r,comesIn_wide.1 s,k,g⟩
variable{ds:List Deferred}
theorem qja{n D:Nat}(h:HX (zpc P fn R) .ret ⟨n,ds,none⟩ l (Hp w0 F m)):HX (zpc P fn R) .ret ⟨n,zel D::ds,none⟩ l (Hp w0 F (pt D (.deferred (some []))::m)):=by
 unfold HX at*
 intro a w st hw
 show LeavesInM (fw none) 0 P fn a.tmps R a.defers .returning w
 rw[st.defers]
 refine⟨by simp,.inl ⟨D,_,rfl,run_takeDeferred (hw.get (b:=D) (o:=.deferred (some [])) sQ),?_⟩⟩
 exact h { a with defers:=ds } _ ⟨st.size,rfl,st.slot⟩ ((hw.put _).sub (gB _ _))
theorem qa7{n:Nat}{vs:List Value}(hb:za7 P f=true)(hd:∀w,Hp w0 F m w→CallsDIn (fw none) 0 P f vs.toArray .returning w fun e u' w'=>u'= .returning∧(∃v,e= .returned v)∧Fr none' w w')
  (h:HX (zpc P fn R) .ret ⟨n,ds,none⟩ l (Hp w0 F m)):HX (zpc P fn R) .ret ⟨n,{ target:=.fn (.func f) #[],args:=vs.toArray }::ds,none⟩ l (Hp w0 F m):=by
 unfold HX at*
 intro a w st hw
 show LeavesInM (fw none) 0 P fn a.tmps R a.defers .returning w
 rw[st.defers]
 refine⟨by simp,.inr ⟨zla _,_,_,f,vs.toArray,rfl,by simp[invoke,zdz hb],fun _ _=>trivial,(hd w hw).mono ?_⟩⟩
 rintro e u' w' ⟨rfl,⟨v,rfl⟩,hf⟩
 exact h { a with defers:=ds } w' ⟨st.size,rfl,st.slot⟩ (hw.keep hf)
end
end Go.Eng
namespace Go.Proofs.YthafakdplhdfjaaGreatDoor
open Go.RowKit Go.Eng Go.Eng.Bm Go.Eng.Tr
variable{N:Nat}{g:Sg}{key:K}{at_:Int}{n:Nd}
theorem qvm{s:Sh}{d:Nat}(hl:qdg s N g key (d+1) at_= .ok n):∃n1,zfs s N g at_= .ok n1∧((n1.leaf=true∧n=n1)∨(n1.leaf=false∧qdg s N g key d (n1.kids.getD (dn n1.keys key) 0:Nat)= .ok n)):=by
 rw[qdg]at hl
 obtain⟨n1,h1,h2⟩:=zb6 hl
 refine⟨n1,h1,?_⟩
 cases hlf:n1.leaf with
 |true=>
  rw[hlf,if_pos rfl]at h2
  cases h2
  exact .inl ⟨rfl,rfl⟩
 |false=>
  rw[hlf,if_neg bK]at h2
  exact .inr ⟨rfl,h2⟩
variable{c:Tc}{s:Pg}
theorem zu5(h:Tok c g s)(root:Int)(key:K)(hl:qdg c.sh c.N g key 16 root= .ok n):
  Cv Tryz.prog 103 #[.pointer (some ⟨c.t,c.o,none⟩),kV key] [tmI c root s] (fun x:Pg×Po=>.agg (ndO n x.2)) (fun x=>Tok c g x.1∧n.leaf=true∧zf8 c.sh n) (fun x=>tmI c root x.1::ndI n x.2):=by
 intro w hw
 refine za2 [_,_] _ Tryz.func103 rfl rfl hw (.cons (fun _ h=>nomatch h) .nil) ?_
 simp only[zaa,Nat.reduceAdd]
 refine goA ?_
 refine zam rfl rfl fun b4 hb4=>?_
 refine goA ?_
 refine l_w rfl (zfg rfl mm) ?_
 refine goA ?_
 refine zc0 (α:=Nat×Int×Pg) (fun y=>[(0,.pointer (some ⟨c.t,c.o,none⟩)),(1,kV key),(4,.pointer (some ⟨b4,0,none⟩)),(5,.int .i64 y.2.1),(11,.int .i64 (y.1:Nat))]) (fun y=>y.1≤16∧Tok c g y.2.2∧qdg c.sh c.N g key (16 - y.1) y.2.1= .ok n) (fun y=>[tmI c root y.2.2,pt b4 (.cells #[.bool false,.slice none 0 0,.slice none 0 0,.slice none 0 0] 185 (0,0))]) (fun y=>16 - y.1) (0,root,s) ⟨rfl,rfl,rfl,rfl,rfl,trivial⟩ ⟨aZ _,h,hl⟩ (fun w' hw'=>hw'.pick [1,0] rfl rfl) fun⟨k,at_,s1⟩ ⟨hk,h1,hl1⟩=>?_
 simp only at hk h1 hl1⊢
 obtain⟨m,hm⟩:∃m,16 - k=m+1:=by
  refine⟨15 - k,?_⟩
  rcases gQ k 16 with h|h
  ·omega
  ·rw[show 16 - k=0 by omega,qdg]at hl1;cases hl1
 rw[hm]at hl1
 obtain⟨n1,hl2,hcase⟩:=qvm hl1
 obtain⟨hmay,i0,hi0, -, -⟩:=zgi hl2
 obtain⟨hnb,hb1,hb2,hb3⟩:=zku h.sh hmay
 refine goA ?_
 refine lCu [tmI c root s1] rfl (zag c root s1) (fun w1 hw1 hh1 ha1=>zmz h1 root at_ hl2 w1 hh1) fun⟨⟨s2,o⟩,h2⟩=>?_
 have h2:Tok c g s2:=h2
 dsimp only
 unfold ndI
 simp only[aF,aJ]
 refine goA ?_
 refine zam rfl rfl fun b6 hb6=>?_
 refine za1 rfl (zaf (cs':=ndO n1 o) rfl rfl rfl rfl (zdl n1 o) rfl) fun _=>?_
 rcases hcase with ⟨hlf,rfl⟩ |⟨hlf,hl3⟩
 ·refine goA ?_
  rw[hlf]
  refine goA ?_
  refine za1 rfl (zah (zjj _ _ _ _ _ _ _) (zaf (cs':=ndO n o) rfl rfl rfl rfl (zdl n o) rfl)) fun _=>?_
  refine goA ?_
  refine zgf [2,3,4,5,0] rfl rfl ?_
  exact zbd (s2,o) rfl ⟨_,rfl,zaq rfl mm⟩ rfl ⟨h2,rfl,hmay⟩ (.cons_cons _ (.cons_cons _ (.cons_cons _ (.cons_cons _ (aK _))))) (zco _ _ _ _ _)
 ·obtain⟨hkr,hvs,hkl1,hk1, -⟩:=hmay.inner hlf
  have hdn:=zoh n1.keys key
  refine zch (fun w hw=>zdj (hw.item (own 3 1 o.d n1.kids.length (n1.kids.map iV)) mm).1 oQ) fun⟨db,dc,e⟩=>?_
  obtain⟨ok,ov,od⟩:=o
  simp only at e⊢
  subst e
  obtain⟨kq,hkq⟩:∃x,n1.kids[dn n1.keys key]? =some x:=⟨_,aB oQ⟩
  rw[show n1.kids.getD (dn n1.keys key) 0=kq by rw[aE,hkq];rfl]at hl3
  refine goA ?_
  rw[hlf]
  refine goA ?_
  refine zap [0,1,2,3,4,5] 8 rfl rfl kQ ?_
  refine goE ?_
  refine dPu 4 rfl rfl (fun w1 hw1=>zoq (o:=⟨ok,ov,some (db,dc)⟩) hmay hb1 key w1 (zdw hw1 mm mm mm)) ?_
  (repeat first|refine dAv [6] rfl rfl rfl ?_ |refine dno [6] rfl rfl rfl ?_ |refine dT [6] rfl rfl rfl rfl ?_ |refine dF [6] rfl rfl rfl rfl ?_)
  refine goV rfl rfl (za0 (v:=.int .i64 (kq:Int)) rfl rfl (fun w' hw'=>zby (hw'.item (own 3 1 (some (db,dc)) n1.kids.length (n1.kids.map iV)) mm).1 _ _ (by simp only[aH];rw[aO,hkq];rfl))) ?_
  refine goX ?_
  exact zaw (k+1,(kq:Int),s2) ⟨rfl,rfl,rfl,rfl,rfl,trivial⟩ ⟨by simp only;omega,h2,by simp only;rw[show 16 - (k+1)=m by omega];exact hl3⟩ (fun w' hw'=>hw'.pick [1,5] rfl rfl) (by simp only;omega)
theorem zo3(ht:Tok c g s)(root:Int)(w:World)(h:zbq (tmI c root s) w):Pu Tryz.prog 98 #[.pointer (some ⟨c.t,c.o,none⟩)] w (.tuple #[]):=by
 refine zbn [_] Tryz.func98 rfl rfl ?_
 have hc:=fun(w':World) (hw':Hp w none' [] w')=>znr ((h.keep hw').1.1 _ (.head _)).1
 simp only[zaa]
 refine goA ?_
 refine l_w rfl (za0 (v:=.pointer (some ⟨c.pb,0,none⟩)) rfl rfl (fun w' hw'=>hc w' hw' 0 _ rfl)) ?_
 refine goA ?_
 refine lPu rfl (fun w1 hw1=>zin _ w1) ?_
 refine goA ?_
 refine l_w rfl (qpt h rfl) ?_
 refine goA ?_
 refine lPu rfl (fun w1 hw1=>zh4 ht.sh w1) ?_
 refine goA ?_
 refine lPu rfl (fun w1 hw1=>zin _ w1) ?_
 refine goA ?_
 exact qtd rfl
theorem zhn(e:Addr)(w:World):CallsDIn (fw none) 0 Tryz.prog 97 #[.pointer (some e)] .returning w fun e u' w'=>u'= .returning∧(∃v,e= .returned v)∧Fr none' w w':=by
 refine qda Tryz.func97 rfl fun c₀ cs hu=>?_
 apply wpS_seq
 apply wpS_region
 simp[wpOpsS,go_sem,recoverD,hu,Exit.thenS]
 apply wpS_seq
 apply wpS_region
 have hq:∀w,(eqGuard .neq 20 (.tmp 6) (.const .nilIface) .nilIface .nilIface).run Tryz.prog w= .ok () w:=fun _=>rfl
 have hq2:∀w,(binOp .neq 20 .nilIface .nilIface).run Tryz.prog w= .ok (.bool false) w:=fun _=>rfl
 simp[wpOpsS,go_sem,hu,Exit.thenS,Act.eval,hq,hq2]
 refine wpS_cond (t:=false) (by simp[Act.eval,Array.replicate]) ?_
 simp only[bT,if_false]
 refine wpS_of_wp (wp_skip ?_)
 cases c₀
 simp_all [bodyPostS,results]
 exact .refl _ _
theorem zcr(e:Addr)(w:World):CallsD Tryz.prog 97 #[.pointer (some e)] .returning w fun e u' w'=>u'= .returning∧(∃v,e= .returned v)∧Fr none' w w':=qfm (zhn e w)
theorem qb0(a:Int)(k:Int)(w:World):Pu Tryz.prog 102 #[.bool (a==a),.int .i64 k] w (.tuple #[]):=by
 rw[beq_self_eq_true]
 exact zin k w
variable{root:Int}
theorem zv6{l:zav}{w0:World}{F:Nat→Prop}{m:List Eng.Item}{ty:TypeId}{x:Operand}{j:Nat}{v:Value}(hx:evO l x=some (.pointer (some ⟨c.t,c.o+j,none⟩)))(hm:tmI c root s∈m)(hv:(trA c root)[j]? =some v):OV Tryz.prog (.load 3 x) ty l (Hp w0 F m) v:=
 za0 hx rfl (fun _ hw'=>qip hw' hm j _ hv)
variable{r:Option K}
theorem qvc{s:Sh}(hl:quj s N g key root= .ok r):(root=0∧r=none)∨(root≠0∧∃n,qdg s N g key 16 root= .ok n∧r=if fd n.keys key then n.vals[lb n.keys key]? else none):=by
 unfold quj at hl
 by_cases h0:root=0
 ·rw[if_pos h0]at hl;cases hl;exact .inl ⟨h0,rfl⟩
 ·rw[if_neg h0]at hl
  obtain⟨n,h1,h2⟩:=zb6 hl
  cases h2
  exact .inr ⟨h0,n,h1,rfl⟩
theorem qw9(h:Tok c g s)(root:Int)(key:K)(hk:key.length=c.sh.kw)(hl:quj c.sh c.N g key root= .ok r):
  Cv Tryz.prog 68 #[.pointer (some ⟨c.t,c.o,none⟩),kV key] [tmI c root s] (fun _:Pg=>.tuple #[kV (r.getD []),.bool r.isSome,.int .i64 0]) (fun s'=>Tok c g s') (fun s'=>[tmI c root s']):=by
 intro w hw
 refine qfq [_,_] _ Tryz.func68 rfl rfl hw (.cons (fun _ h=>nomatch h) .nil) ?_
 simp only[zaa,Nat.reduceAdd]
 refine goA ?_
 refine zdg rfl rfl rfl fun b6 hb6=>?_
 refine goA ?_
 refine zu2 (xs:=[.tmp 6]) rfl rfl ?_
 refine goA ?_
 refine lPu rfl (fun w1 hw1=>zo3 h root w1 (zbq.of (hw1.item (tmI c root s) mm) (zad _))) ?_
 refine goA ?_
 refine l_w rfl (zv6 rfl mm rfl) ?_
 refine goA ?_
 rw[zju,hk]
 refine lPu rfl (fun w1 hw1=>qb0 _ _ w1) ?_
 refine goA ?_
 refine l_w rfl (zfg rfl mm) ?_
 refine goA ?_
 rcases qvc hl with ⟨rfl,rfl⟩ |⟨h0,n,hlf,rfl⟩
 ·refine goA ?_
  refine za1 rfl (zai rfl rfl rfl rfl rfl rfl sQ) fun _=>?_
  refine goA ?_
  refine zi5 kQ (fun w hw=>zcr _ w) ?_
  exact qa6 s rfl rfl rfl ⟨_,rfl,zb5 rfl (.head _)⟩ rfl h (.cons _ (.refl _)) (zag _ _ _)
 ·refine goA ?_
  refine zay [1,0] rfl rfl ?_
  refine lCu [tmI c root s] rfl (zag c root s) (fun w1 hw1 hh1 ha1=>zu5 h root key hlf w1 hh1) fun⟨⟨s1,o⟩,h1,hleaf,hmay⟩=>?_
  have h1:Tok c g s1:=h1
  obtain⟨hnb,hb1,hb2,hb3⟩:=zku h.sh hmay
  obtain⟨-,hkv, -, -⟩:=hmay.leaf hleaf
  dsimp only
  unfold ndI
  simp only[aF,aJ]
  refine goA ?_
  refine zam rfl rfl fun b7 hb7=>?_
  refine za1 rfl (zaf (cs':=ndO n o) rfl rfl rfl rfl (zdl n o) rfl) fun _=>?_
  refine goA ?_
  refine lPu rfl (fun w1 hw1=>zl0 hmay hb1 key w1 (zdw hw1 mm mm mm)) ?_
  refine goA ?_
  cases hf:fd n.keys key with
  |false=>
   refine goA ?_
   refine za1 rfl (zah (zjj _ _ _ _ _ _ _) (zai rfl rfl rfl rfl rfl rfl sQ)) fun _=>?_
   refine goA ?_
   refine zi5 kQ (fun w hw=>zcr _ w) ?_
   exact qa6 s1 rfl rfl rfl ⟨_,rfl,zb5 rfl mm⟩ rfl h1 (.cons _ (.cons _ (.cons_cons _ (aK _)))) (zag _ _ _)
  |true=>
   have hlt:lb n.keys key<n.vals.length:=by rw[←hkv];exact(aC.1 (zly.1 hf)).1
   obtain⟨v,hv⟩:∃x,n.vals[lb n.keys key]? =some x:=⟨_,aB hlt⟩
   rw[if_pos rfl,hv]
   refine zhm (fun w hw=>zdj (hw.item (own 9 1 o.v n.vals.length (n.vals.map kV)) mm).1 oQ) fun⟨vb,vc,e⟩=>?_
   obtain⟨ok,ov,od⟩:=o
   simp only at e⊢
   subst e
   refine goA ?_
   refine l_w rfl (za0 (v:=kV v) rfl rfl (fun w' hw'=>zby (hw'.item (own 9 1 (some (vb,vc)) n.vals.length (n.vals.map kV)) mm).1 _ _ (by simp only[aH];rw[aO,hv];rfl))) ?_
   refine goA ?_
   refine za1 rfl (zah (zjj _ _ _ _ _ _ _) (zai rfl rfl rfl rfl rfl rfl sQ)) fun _=>?_
   refine goA ?_
   refine zi5 kQ (fun w hw=>zcr _ w) ?_
   exact qa6 s1 rfl rfl rfl ⟨_,rfl,zb5 rfl mm⟩ rfl h1 (.cons _ (.cons _ (.cons_cons _ (aK _)))) (zag _ _ _)
variable{root':Int}
theorem qaq{s:Sh}{val:K}{g':Sg}(hl:zoj s N key val g root= .ok (root',g')):
  (root=0∧∃q g1,zh8 N g= .ok (q,g1)∧zb8 s N g1 q (lNd [key] [val])= .ok g'∧root'=(q:Int))∨
  (root≠0∧∃k q1 g1,Tr.putF s N key val 16 g root= .ok ((k,q1),g1)∧((q1=0∧root'=root∧g'=g1)∨(q1≠0∧∃q g2,zh8 N g1= .ok (q,g2)∧zb8 s N g2 q (iNd [k] [root.toNat,q1])= .ok g'∧root'=(q:Int)))):=by
 unfold zoj at hl
 by_cases h0:root=0
 ·rw[if_pos h0]at hl
  obtain⟨⟨q,g1⟩,h1,h2⟩:=zb6 hl
  obtain⟨g2,h3,h4⟩:=zb6 h2
  cases h4
  exact .inl ⟨h0,q,g1,h1,h3,rfl⟩
 ·rw[if_neg h0]at hl
  obtain⟨⟨⟨k,q1⟩,g1⟩,h1,h2⟩:=zb6 hl
  refine .inr ⟨h0,k,q1,g1,h1,?_⟩
  by_cases hq:q1=0
  ·simp only[hq,if_true]at h2
   cases h2
   exact .inl ⟨hq,rfl,rfl⟩
  ·simp only[hq,if_false]at h2
   obtain⟨⟨q,g2⟩,h3,h4⟩:=zb6 h2
   obtain⟨g3,h5,h6⟩:=zb6 h4
   cases h6
   exact .inr ⟨hq,q,g2,h3,h5,rfl⟩
theorem zta{g':Sg}(h:Tok c g s)(root:Int)(key val:K)(hk:key.length=c.sh.kw)(hv:val.length=c.sh.vw)(hl:zoj c.sh c.N key val g root= .ok (root',g')):
  Cv Tryz.prog 76 #[.pointer (some ⟨c.t,c.o,none⟩),kV key,kV val] [tmI c root s] (fun _:Pg=>.int .i64 0) (fun s'=>Tok c g' s') (fun s'=>[tmI c root' s']):=by
 intro w hw
 have hsh:ShB c.sh:=h.sh
 have hkl:key.length≤1000000:=by have:=hsh.k2;omega
 have hvl:val.length≤1000000:=by have:=hsh.v2;omega
 refine qfq [_,_,_] _ Tryz.func76 rfl rfl hw (.cons (fun _ h=>nomatch h) .nil) ?_
 simp only[zaa,Nat.reduceAdd]
 refine goA ?_
 refine zdg rfl rfl rfl fun b6 hb6=>?_
 refine goA ?_
 refine zu2 (xs:=[.tmp 6]) rfl rfl ?_
 refine goA ?_
 refine lPu rfl (fun w1 hw1=>zo3 h root w1 (zbq.of (hw1.item (tmI c root s) mm) (zad _))) ?_
 refine goA ?_
 refine l_w rfl (zv6 rfl mm rfl) ?_
 refine goA ?_
 rw[zju,hk]
 refine zd2 19 _ (.bool true) rfl sQ ?_
 refine goA ?_
 refine l_v rfl rfl (zv6 (j:=2) rfl mm rfl) ?_
 rw[zju,hv]
 simp only[beq_self_eq_true]
 refine goA ?_
 simp only[beq_self_eq_true]
 refine lPu rfl (fun w1 hw1=>zin _ w1) ?_
 refine goA ?_
 refine l_w rfl (zfg rfl mm) ?_
 refine goA ?_
 rcases qaq hl with ⟨rfl,q,g1,hp,hsv,rfl⟩ |⟨h0,k,q1,g1,hp,hcase⟩
 ·refine goA ?_
  refine zay [1,0] rfl rfl ?_
  refine lCu [tmI c 0 s] rfl (zag c 0 s) (fun w1 hw1 hh1 ha1=>zvo h 0 hp w1 hh1) fun⟨s1,h1⟩=>?_
  have h1:Tok c g1 s1:=h1
  dsimp only
  refine goA ?_
  refine za1 rfl (zrw (v:=kV key) rfl rfl rfl rfl rfl) fun⟨x1,_⟩=>?_
  refine goA ?_
  refine za1 rfl (zrw (v:=kV val) rfl rfl rfl rfl rfl) fun⟨x2,_⟩=>?_
  refine goA ?_
  refine zay [2,0,1,3] rfl rfl ?_
  refine lCu [tmI c 0 s1] rfl (zag c 0 s1) (fun w1 hw1 hh1 ha1=>zcv h1 0 q (lNd [key] [val]) rfl rfl rfl rfl (NdB.mk' sQ sQ dQ (fun k hm=>by rw[aN.1 hm];exact hkl) (fun k hm=>by rw[aN.1 hm];exact hvl)) hsv w1 ⟨za8 (hw1.item (own 9 1 (some (x1,1)) 1 [kV key]) mm).1,za8 (hw1.item (own 9 1 (some (x2,1)) 1 [kV val]) mm).1,.inl rfl⟩ ⟨zbx hw1 (o:=some (x1,1)) mm,zbx hw1 (o:=some (x2,1)) mm,(fun _ h=>nomatch h)⟩ hh1) fun⟨s2,h2⟩=>?_
  have h2:Tok c g' s2:=h2
  dsimp only
  simp only[aF,aJ]
  refine goA ?_
  refine zcy (fun w h=>zj6 h) ?_
  unfold tmL
  refine za1 rfl (zvj rfl rfl rfl) fun _=>?_
  refine goA ?_
  try simp only[aF,aJ]
  refine za1 rfl (zah (znu _ _ _ _ _ _ _ _) (zai rfl rfl rfl rfl rfl rfl sQ)) fun _=>?_
  refine goA ?_
  refine zi5 kQ (fun w hw=>zcr _ w) ?_
  refine zbr (m':=[tmI c (q:Int) s2,pt b6 (.cells #[.int .i64 0] 47 (0,0))]) (fun w hw=>zho (c:=c) (root:=(q:Int)) (s:=s2) (m:=[pt b6 (.cells #[.int .i64 0] 47 (0,0))]) (hw.pick [1,2,3,4,0] rfl rfl)) ?_
  exact zbd s2 rfl ⟨_,rfl,zb5 rfl mm⟩ rfl h2 (.cons_cons _ (aK _)) (zag _ _ _)
 ·refine goA ?_
  refine l_w rfl (zfg rfl mm) ?_
  refine goA ?_
  refine zay [1,0] rfl rfl ?_
  refine lCu [tmI c root s] rfl (zag c root s) (fun w1 hw1 hh1 ha1=>qow c root key val hkl hvl 16 g s root h oQ hp w1 hh1) fun⟨s1,h1⟩=>?_
  have h1:Tok c g1 s1:=h1
  dsimp only
  simp only[aF,aJ]
  refine goA ?_
  refine zam rfl rfl fun b8 hb8=>?_
  refine za1 rfl (zaf rfl rfl rfl rfl rfl rfl) fun _=>?_
  refine goA ?_
  rcases hcase with ⟨rfl,rfl,rfl⟩ |⟨hq,q,g2,hp2,hsv,rfl⟩
  ·refine goA ?_
   refine za1 rfl (zah (zdf _ _ _ _) (zai rfl rfl rfl rfl rfl rfl sQ)) fun _=>?_
   refine goA ?_
   refine zi5 kQ (fun w hw=>zcr _ w) ?_
   exact zbd s1 rfl ⟨_,rfl,zb5 rfl mm⟩ rfl h1 (.cons _ (.cons _ (.cons_cons _ (aK _)))) (zag _ _ _)
  ·obtain⟨rn,hrn⟩:∃rn:Nat,root=(rn:Int):=by
    obtain⟨n,hld, -⟩:=zql hp
    obtain⟨-,i0,e, -, -⟩:=zgi hld
    exact⟨i0,e⟩
   subst hrn
   rw[cB]at hsv
   have hkb:k.length≤1000000:=zvt hsh hkl 16 g _ hp
   refine goA ?_
   refine zay [1,0,2] rfl rfl ?_
   refine lCu [tmI c (rn:Int) s1] rfl (zag c (rn:Int) s1) (fun w1 hw1 hh1 ha1=>zvo h1 (rn:Int) hp2 w1 hh1) fun⟨s2,h2⟩=>?_
   have h2:Tok c g2 s2:=h2
   dsimp only
   simp only[aF,aJ]
   refine goA ?_
   refine zap [0,1,2] 13 rfl rfl kQ ?_
   (repeat first|refine dAv [8] rfl rfl rfl ?_ |refine dno [8] rfl rfl rfl ?_ |refine dT [8] rfl rfl rfl rfl ?_ |refine dF [8] rfl rfl rfl rfl ?_)
   refine goV rfl rfl (zfg rfl mm) ?_
   refine goE ?_
   refine zzm (n':=2) (listed':= #[true,true,true,true,true,true,true,true,true,true,true,true,false,false]) (fun y:Nat×Nat=>[(0,.pointer (some ⟨c.t,c.o,none⟩)),(6,.pointer (some ⟨b6,0,none⟩)),(9,.int .i64 (q:Int)),(63,.pointer (some ⟨c.t,c.o,none⟩)),(64,.int .i64 (q:Int)),(67,.slice (some ⟨y.1,0,none⟩) 1 1),(74,.slice (some ⟨y.2,0,none⟩) 2 2)]) (fun y=>[own 9 1 (some (y.1,1)) 1 [kV k],own 3 1 (some (y.2,2)) 2 [.int .i64 (rn:Int),.int .i64 (q1:Int)],tmI c (rn:Int) s2,pt b8 (.cells #[kV k,.int .i64 (q1:Int)] 204 (0,0)),pt b6 (.cells #[.int .i64 0] 47 (0,0))]) ?_ (fun hk=>?_)
   rotate_left
   ·refine zt7 4 11 ⟨kQ,dQ,dQ⟩ rfl rfl rfl rfl (zrw (v:=kV k) rfl rfl rfl rfl rfl) (qd4 (v:=.int .i64 (rn:Int)) (u:=.int .i64 (q1:Int)) rfl rfl rfl rfl rfl rfl rfl) (fun _ _ h=>goH h) (fun _ _ h=>goH h) (fun⟨x1,_⟩=>?_) (fun⟨x2,_⟩=>?_)
    ·refine zat 11 ⟨kQ,dQ⟩ rfl rfl (qd4 (v:=.int .i64 (rn:Int)) (u:=.int .i64 (q1:Int)) rfl rfl rfl rfl rfl rfl rfl) (fun _ _ h=>goH h) fun⟨x2,_⟩=>?_
     refine zfa [1,0,2,3,4] rfl rfl ?_
     exact hk (x1,x2) _ ⟨rfl,rfl,rfl,rfl,rfl,rfl,rfl,trivial⟩
    ·refine zat 4 ⟨kQ,dQ⟩ rfl rfl (zrw (v:=kV k) rfl rfl rfl rfl rfl) (fun _ _ h=>goH h) fun⟨x1,_⟩=>?_
     exact hk (x1,x2) _ ⟨rfl,rfl,rfl,rfl,rfl,rfl,rfl,trivial⟩
   ·intro ⟨x1,x2⟩
    simp only
    refine goE ?_
    refine zfa [2,0,1,3,4] rfl rfl ?_
    refine zet ⟨kQ,kQ⟩ rfl rfl (zfb (pre:=[tmI c (rn:Int) s2]) rfl kQ rfl (zag c (rn:Int) s2) (fun w1 hw1 hh1 ha1=>zcv h2 (rn:Int) q (iNd [k] [rn,q1]) rfl rfl rfl rfl (NdB.mk' sQ dQ sQ (fun k hm=>by rw[aN.1 hm];exact hkb) (fun _ h=>nomatch h)) hsv w1 ⟨za8 (hw1.item (own 9 1 (some (x1,1)) 1 [kV k]) mm).1,.inl rfl,za8 (hw1.item (own 3 1 (some (x2,2)) 2 [.int .i64 (rn:Int),.int .i64 (q1:Int)]) mm).1⟩ ⟨zbx hw1 (o:=some (x1,1)) mm,(fun _ h=>nomatch h),zbx hw1 (o:=some (x2,2)) mm⟩ hh1)) fun⟨s3,h3⟩=>?_
    have h3:Tok c g' s3:=h3
    dsimp only
    simp only[aF,aJ]
    refine goA ?_
    refine zcy (fun w h=>zj6 h) ?_
    unfold tmL
    refine za1 rfl (zvj rfl rfl rfl) fun _=>?_
    refine goA ?_
    try simp only[aF,aJ]
    refine za1 rfl (zah (zwo _ _ _ _ _ _ _ _ _) (zai rfl rfl rfl rfl rfl rfl sQ)) fun _=>?_
    refine goA ?_
    refine zi5 kQ (fun w hw=>zcr _ w) ?_
    refine zbr (m':=[tmI c (q:Int) s3,pt b6 (.cells #[.int .i64 0] 47 (0,0))]) (fun w hw=>zho (c:=c) (root:=(q:Int)) (s:=s3) (m:=[pt b6 (.cells #[.int .i64 0] 47 (0,0))]) (hw.pick [1,2,3,4,0] rfl rfl)) ?_
    exact zbd s3 rfl ⟨_,rfl,zb5 rfl mm⟩ rfl h3 (.cons_cons _ (aK _)) (zag _ _ _)
variable{b:Bool}
theorem zzo{s:Sh}{g':Sg}(hl:zrp s N key g root= .ok ((root',b),g')):
  (root=0∧root'=0∧b=false∧g'=g)∨(root≠0∧∃r is g1,zd8 s N key 16 g root= .ok ((r,is),g1)∧((is=false∧root'=root∧b=false∧g'=g1)∨(is=true∧b=true∧
   ((r.leaf=true∧r.keys.length=0∧zf0 N g1 root.toNat= .ok g'∧root'=0)∨(r.leaf=false∧r.kids.length=1∧zf0 N g1 root.toNat= .ok g'∧root'=(r.kids.getD 0 0:Nat))∨(¬(r.leaf=true∧r.keys.length=0)∧¬(r.leaf=false∧r.kids.length=1)∧zb8 s N g1 root.toNat r= .ok g'∧root'=root))))):=by
 unfold zrp at hl
 by_cases h0:root=0
 ·rw[if_pos h0]at hl;cases hl;exact .inl ⟨h0,rfl,rfl,rfl⟩
 ·rw[if_neg h0]at hl
  obtain⟨⟨⟨r,is⟩,g1⟩,h1,h2⟩:=zb6 hl
  refine .inr ⟨h0,r,is,g1,h1,?_⟩
  cases is with
  |false=>
   simp only[if_true]at h2
   cases h2
   exact .inl ⟨rfl,rfl,rfl,rfl⟩
  |true=>
   simp only[Bool.true_eq_false,if_false]at h2
   by_cases c1:r.leaf=true∧r.keys.length=0
   ·rw[if_pos c1]at h2
    obtain⟨g2,h3,h4⟩:=zb6 h2
    cases h4
    exact .inr ⟨rfl,rfl,.inl ⟨c1.1,c1.2,h3,rfl⟩⟩
   ·rw[if_neg c1]at h2
    by_cases c2:r.leaf=false∧r.kids.length=1
    ·rw[if_pos c2]at h2
     obtain⟨g2,h3,h4⟩:=zb6 h2
     cases h4
     exact .inr ⟨rfl,rfl,.inr (.inl ⟨c2.1,c2.2,h3,rfl⟩)⟩
    ·rw[if_neg c2]at h2
     obtain⟨g2,h3,h4⟩:=zb6 h2
     cases h4
     exact .inr ⟨rfl,rfl,.inr (.inr ⟨c1,c2,h3,rfl⟩)⟩
theorem qfu{g':Sg}(h:Tok c g s)(root:Int)(key:K)(hk:key.length=c.sh.kw)(hl:zrp c.sh c.N key g root= .ok ((root',b),g')):
  Cv Tryz.prog 73 #[.pointer (some ⟨c.t,c.o,none⟩),kV key] [tmI c root s] (fun _:Pg=>.tuple #[.bool b,.int .i64 0]) (fun s'=>Tok c g' s') (fun s'=>[tmI c root' s']):=by
 intro w hw
 have hsh:ShB c.sh:=h.sh
 refine qfq [_,_] _ Tryz.func73 rfl rfl hw (.cons (fun _ h=>nomatch h) .nil) ?_
 simp only[zaa,Nat.reduceAdd]
 refine goA ?_
 refine zdg rfl rfl rfl fun b5 hb5=>?_
 refine goA ?_
 refine zu2 (xs:=[.tmp 5]) rfl rfl ?_
 refine goA ?_
 refine lPu rfl (fun w1 hw1=>zo3 h root w1 (zbq.of (hw1.item (tmI c root s) mm) (zad _))) ?_
 refine goA ?_
 refine l_w rfl (zv6 rfl mm rfl) ?_
 refine goA ?_
 rw[zju,hk]
 refine lPu rfl (fun w1 hw1=>qb0 _ _ w1) ?_
 refine goA ?_
 refine l_w rfl (zfg rfl mm) ?_
 refine goA ?_
 rcases zzo hl with ⟨rfl,rfl,rfl,rfl⟩ |⟨h0,r,is,g1,hp,hcase⟩
 ·refine goA ?_
  refine za1 rfl (zai rfl rfl rfl rfl rfl rfl sQ) fun _=>?_
  refine goA ?_
  refine zi5 kQ (fun w hw=>zcr _ w) ?_
  exact zc1 s rfl rfl ⟨_,rfl,zb5 rfl mm⟩ rfl h (.cons _ (.refl _)) (zag _ _ _)
 ·obtain⟨rn,hrn⟩:∃rn:Nat,root=(rn:Int):=by
   obtain⟨n,hld, -⟩:=zn9 hp
   obtain⟨-,i0,e, -, -⟩:=zgi hld
   exact⟨i0,e⟩
  subst hrn
  rw[cB]at hcase
  refine goA ?_
  refine l_w rfl (zfg rfl mm) ?_
  refine goA ?_
  refine zay [1,0] rfl rfl ?_
  refine lCu [tmI c (rn:Int) s] rfl (zag c (rn:Int) s) (fun w1 hw1 hh1 ha1=>qeh c (rn:Int) key 16 g s (rn:Int) h oQ hp w1 hh1) fun⟨⟨s1,o⟩,h1⟩=>?_
  have h1:Tok c g1 s1:=h1
  dsimp only
  unfold ndI
  simp only[aF,aJ]
  refine goA ?_
  refine zam rfl rfl fun b6 hb6=>?_
  refine za1 rfl (zaf (cs':=ndO r o) rfl rfl rfl rfl (zdl r o) rfl) fun _=>?_
  refine goA ?_
  rcases hcase with ⟨rfl,rfl,rfl,rfl⟩ |⟨rfl,rfl,hcase⟩
  ·refine goA ?_
   refine za1 rfl (zah (zjj _ _ _ _ _ _ _) (zai rfl rfl rfl rfl rfl rfl sQ)) fun _=>?_
   refine goA ?_
   refine zi5 kQ (fun w hw=>zcr _ w) ?_
   exact zc1 s1 rfl rfl ⟨_,rfl,zb5 rfl mm⟩ rfl h1 (.cons _ (.cons _ (.cons_cons _ (aK _)))) (zag _ _ _)
  ·refine zhm (fun w hw=>And.intro (zas (hw.item (own 9 1 o.k r.keys.length (r.keys.map kV)) mm).1).1 (And.intro (zas (hw.item (own 9 1 o.v r.vals.length (r.vals.map kV)) mm).1).1 (zas (hw.item (own 3 1 o.d r.kids.length (r.kids.map iV)) mm).1).1)) fun⟨f1,f2,f3⟩=>?_
   unfold ndO
   rw[f1,f2,f3]
   rcases hcase with ⟨hlf,hkl,hd,rfl⟩ |⟨hlf,hkl,hd,rfl⟩ |⟨hc1,hc2,hsv,rfl⟩
   ·rw[hlf,hkl]
    refine goA ?_
    refine l_w rfl (zfg rfl mm) ?_
    refine goA ?_
    refine zay [1,5] rfl rfl ?_
    refine lCu [tmI c (rn:Int) s1] rfl (zag c (rn:Int) s1) (fun w1 hw1 hh1 ha1=>zub h1 (rn:Int) rn hd w1 hh1) fun⟨s2,h2⟩=>?_
    have h2:Tok c g' s2:=h2
    dsimp only
    simp only[aF,aJ]
    refine goA ?_
    refine zcy (fun w h=>zj6 h) ?_
    unfold tmL
    refine za1 rfl (zvj rfl rfl rfl) fun _=>?_
    refine goA ?_
    refine za1 rfl (zah (zji _ _ _ _ _ _) (zai rfl rfl rfl rfl rfl rfl sQ)) fun _=>?_
    refine goA ?_
    refine zi5 kQ (fun w hw=>zcr _ w) ?_
    refine zbr (m':=[tmI c 0 s2,pt b5 (.cells #[.int .i64 0] 47 (0,0))]) (fun w hw=>zho (c:=c) (root:=0) (s:=s2) (m:=[pt b5 (.cells #[.int .i64 0] 47 (0,0))]) (hw.pick [1,2,3,4,0] rfl rfl)) ?_
    exact zc1 s2 rfl rfl ⟨_,rfl,zb5 rfl mm⟩ rfl h2 (.cons_cons _ (aK _)) (zag _ _ _)
   ·refine zhm (fun w hw=>zdj (hw.item (own 3 1 o.d r.kids.length (r.kids.map iV)) mm).1 oQ) fun⟨db,dc,e⟩=>?_
    obtain⟨kq,hkq⟩:∃x,r.kids[0]? =some x:=⟨_,aB oQ⟩
    rw[show r.kids.getD 0 0=kq by rw[aE,hkq];rfl]
    rw[hlf,hkl,e]
    simp only[qtz,qt0]
    refine goA ?_
    refine l_w rfl (zfg rfl mm) ?_
    refine goA ?_
    refine zay [1,0,4,5] rfl rfl ?_
    refine lCu [tmI c (rn:Int) s1] rfl (zag c (rn:Int) s1) (fun w1 hw1 hh1 ha1=>zub h1 (rn:Int) rn hd w1 hh1) fun⟨s2,h2⟩=>?_
    have h2:Tok c g' s2:=h2
    dsimp only
    simp only[aF,aJ]
    refine goA ?_
    refine l_w rfl (za0 (v:=.int .i64 (kq:Int)) rfl rfl (fun w' hw'=>zby (hw'.item (own 3 1 (some (db,dc)) 1 (r.kids.map iV)) mm).1 _ _ (by simp only[aH];rw[aO,hkq];rfl))) ?_
    refine goA ?_
    refine zcy (fun w h=>zj6 h) ?_
    unfold tmL
    refine za1 rfl (zvj rfl rfl rfl) fun _=>?_
    refine goA ?_
    refine za1 rfl (zah (znu _ _ _ _ _ _ _ _) (zai rfl rfl rfl rfl rfl rfl sQ)) fun _=>?_
    refine goA ?_
    refine zi5 kQ (fun w hw=>zcr _ w) ?_
    refine zbr (m':=[tmI c (kq:Int) s2,pt b5 (.cells #[.int .i64 0] 47 (0,0))]) (fun w hw=>zho (c:=c) (root:=(kq:Int)) (s:=s2) (m:=[pt b5 (.cells #[.int .i64 0] 47 (0,0))]) (hw.pick [1,2,3,4,0] rfl rfl)) ?_
    exact zc1 s2 rfl rfl ⟨_,rfl,zb5 rfl mm⟩ rfl h2 (.cons_cons _ (aK _)) (zag _ _ _)
   ·obtain⟨lf,hlf⟩:∃b,r.leaf=b:=⟨_,rfl⟩
    rw[hlf]at hc1 hc2⊢
    cases lf with
    |true=>
     have hk0:r.keys.length≠0:=fun e=>hc1 ⟨rfl,e⟩
     refine goA ?_
     refine zcx [1,0,2,3,4,5] rfl rfl ?_
     refine zap [0,1,2,3,4,5] 6 rfl rfl kQ ?_
     (repeat first|refine dAv [4] rfl rfl rfl ?_ |refine dno [4] rfl rfl rfl ?_ |refine dT [4] rfl rfl rfl rfl ?_ |refine dF [4] rfl rfl rfl rfl ?_)
     refine goV rfl rfl (zfg rfl mm) ?_
     refine goE ?_
     refine zet ⟨kQ,kQ⟩ rfl rfl (zfb (pre:=[tmI c (rn:Int) s1]) rfl kQ rfl (zag c (rn:Int) s1) (fun w1 hw1 hh1 ha1=>zcv h1 (rn:Int) rn r hlf rfl rfl rfl (zku hsh (zmd hsv)).1 hsv w1 ⟨za8 (hw1.item (own 9 1 o.k r.keys.length (r.keys.map kV)) mm).1,za8 (hw1.item (own 9 1 o.v r.vals.length (r.vals.map kV)) mm).1,za8 (hw1.item (own 3 1 o.d r.kids.length (r.kids.map iV)) mm).1⟩ ⟨zbx hw1 (o:=o.k) mm,zbx hw1 (o:=o.v) mm,zbx hw1 (o:=o.d) mm⟩ hh1)) fun⟨s2,h2⟩=>?_
     have h2:Tok c g' s2:=h2
     dsimp only
     simp only[aF,aJ]
     refine goA ?_
     refine za1 rfl (zah (zjj _ _ _ _ _ _ _) (zai rfl rfl rfl rfl rfl rfl sQ)) fun _=>?_
     refine goA ?_
     refine zi5 kQ (fun w hw=>zcr _ w) ?_
     exact zc1 s2 rfl rfl ⟨_,rfl,zb5 rfl mm⟩ rfl h2 (.cons _ (.cons_cons _ (aK _))) (zag _ _ _)
    |false=>
     have hk0:r.kids.length≠1:=fun e=>hc2 ⟨rfl,e⟩
     refine goA ?_
     refine zcx [1,0,2,3,4,5] rfl rfl ?_
     refine zap [0,1,2,3,4,5] 6 rfl rfl kQ ?_
     (repeat first|refine dAv [4] rfl rfl rfl ?_ |refine dno [4] rfl rfl rfl ?_ |refine dT [4] rfl rfl rfl rfl ?_ |refine dF [4] rfl rfl rfl rfl ?_)
     refine goV rfl rfl (zfg rfl mm) ?_
     refine goE ?_
     refine zet ⟨kQ,kQ⟩ rfl rfl (zfb (pre:=[tmI c (rn:Int) s1]) rfl kQ rfl (zag c (rn:Int) s1) (fun w1 hw1 hh1 ha1=>zcv h1 (rn:Int) rn r hlf rfl rfl rfl (zku hsh (zmd hsv)).1 hsv w1 ⟨za8 (hw1.item (own 9 1 o.k r.keys.length (r.keys.map kV)) mm).1,za8 (hw1.item (own 9 1 o.v r.vals.length (r.vals.map kV)) mm).1,za8 (hw1.item (own 3 1 o.d r.kids.length (r.kids.map iV)) mm).1⟩ ⟨zbx hw1 (o:=o.k) mm,zbx hw1 (o:=o.v) mm,zbx hw1 (o:=o.d) mm⟩ hh1)) fun⟨s2,h2⟩=>?_
     have h2:Tok c g' s2:=h2
     dsimp only
     simp only[aF,aJ]
     refine goA ?_
     refine za1 rfl (zah (zjj _ _ _ _ _ _ _) (zai rfl rfl rfl rfl rfl rfl sQ)) fun _=>?_
     refine goA ?_
     refine zi5 kQ (fun w hw=>zcr _ w) ?_
     exact zc1 s2 rfl rfl ⟨_,rfl,zb5 rfl mm⟩ rfl h2 (.cons _ (.cons_cons _ (aK _))) (zag _ _ _)
theorem zoi{s:Sh}{d:Nat}{fr be:K}{rb:Bool}{p:Prt}(hl:zga s N g (d+1) at_ fr be rb= .ok p):∃n,zfs s N g at_= .ok n∧(rb=true∨zqj s n=false)∧(∀k∈n.keys,Bnd fr be k)∧
  ((n.leaf=true∧n.keys.length≠0∧p=⟨n.keys.length,1,1⟩)∨(n.leaf=false∧zlf (fun at_ fr be=>zga s N g d (at_:Nat) fr be false) n.keys fr be n.kids 0 ⟨0,1,0⟩= .ok p)):=by
 rw[zga]at hl
 obtain⟨n,h1,h2⟩:=zb6 hl
 refine⟨n,h1,?_⟩
 by_cases c1:rb=false∧zqj s n=true
 ·rw[if_pos c1]at h2;cases h2
 ·rw[if_neg c1]at h2
  refine⟨by cases rb<;>cases hp:zqj s n<;>simp_all,?_⟩
  by_cases c2:∀k∈n.keys,Bnd fr be k
  ·rw[if_pos c2]at h2
   refine⟨c2,?_⟩
   cases hlf:n.leaf with
   |true=>
    rw[if_pos hlf]at h2
    by_cases c3:n.keys.length=0
    ·rw[if_pos c3]at h2;cases h2
    ·rw[if_neg c3]at h2;cases h2
     exact .inl ⟨rfl,c3,rfl⟩
   |false=>
    rw[if_neg (by rw[hlf];decide)]at h2
    exact .inr ⟨rfl,h2⟩
  ·rw[if_neg c2]at h2;cases h2
theorem zng{ck:Nat→K→K→Except Nat Prt}{keys:List K}{fr be:K}{kid:Nat}{l:List Nat}{i:Nat}{out p:Prt}(h:zlf ck keys fr be (kid::l) i out= .ok p):∃q,ck kid (loF fr keys i) (hiF be keys i)= .ok q∧¬(i≠0∧out.deep≠q.deep+1)∧zlf ck keys fr be l (i+1) ⟨out.keys+q.keys,out.pages+q.pages,q.deep+1⟩= .ok p:=by
 rw[zlf]at h
 obtain⟨q,h1,h2⟩:=zb6 h
 refine⟨q,h1,?_⟩
 by_cases c:i≠0∧out.deep≠q.deep+1
 ·rw[if_pos c]at h2;cases h2
 ·rw[if_neg c]at h2
  exact⟨c,h2⟩
theorem qge{ck:Nat→K→K→Except Nat Prt}{keys:List K}{fr be:K}:∀{l:List Nat} {i:Nat} {out p:Prt},zlf ck keys fr be l i out= .ok p→out.keys≤p.keys∧out.pages≤p.pages
 | [],_,_,_,h=>by rw[zlf]at h;cases h;exact⟨bA _,bA _⟩
 |_::l,i,out,p,h=>by
  obtain⟨q, -, -,h3⟩:=zng h
  have:=qge h3
  simp only at this
  omega
theorem zsj{ck:Nat→K→K→Except Nat Prt}{keys:List K}{fr be:K}{m:Nat}(hm:∀a lo hi q,ck a lo hi= .ok q→q.deep≤m):∀{l:List Nat} {i:Nat} {out p:Prt},zlf ck keys fr be l i out= .ok p→out.deep≤m+1→p.deep≤m+1
 | [],_,_,_,h,ho=>by rw[zlf]at h;cases h;exact ho
 |_::l,i,out,p,h,ho=>by
  obtain⟨q,h1, -,h3⟩:=zng h
  exact zsj hm h3 (Nat.succ_le_succ (hm _ _ _ _ h1))
theorem zlp{s:Sh}{N:Nat}{g:Sg}:∀{d:Nat} {at_:Int} {fr be:K} {rb:Bool} {p:Prt},zga s N g d at_ fr be rb= .ok p→p.deep≤d
 |0,_,_,_,_,_,h=>by rw[zga]at h;cases h
 |d+1,_,_,_,_,_,h=>by
  obtain⟨n, -, -, -,h2⟩:=zoi h
  rcases h2 with ⟨-, -,rfl⟩ |⟨-,h2⟩
  ·exact Nat.succ_le_succ (aZ _)
  ·exact zsj (fun a lo hi q hq=>zlp hq) h2 (aZ _)
def prA(p:Prt):Array Value:= #[.int .i64 (p.keys:Int),.int .i64 (p.pages:Int),.int .i64 (p.deep:Int)]
def prV(p:Prt):Value:=.agg (prA p)
theorem qmf(c:Tc)(root:Int):∀(d:Nat) (g:Sg) (s:Pg) (at_:Int) (fr be:K) (rb:Bool) {p:Prt},Tok c g s→d≤16→zga c.sh c.N g d at_ fr be rb= .ok p→p.keys≤1000000000→p.pages≤1000000000→∀w:World,(∀it∈[tmI c root s],zbq it w)→
  Ct Tryz.prog 99 #[.pointer (some ⟨c.t,c.o,none⟩),.int .i64 at_,.int .i64 (d:Nat),kV fr,kV be,.bool rb] w (za4 [tmI c root s]) (fun _:Pg=>prV p) (fun s'=>Tok c g s') (fun s'=>[tmI c root s']):=by
 intro d
 induction d with
 |zero=>
  intro g s at_ fr be rb p _ _ hl
  rw[zga]at hl;cases hl
 |succ d ih=>
  intro g s at_ fr be rb p h hd hl hpk hpp w hw
  have hdeep:=zlp hl
  obtain⟨n,h1,hpoor,hbnd,hcase⟩:=zoi hl
  obtain⟨hmay,i0,hi0,hi1,hi2⟩:=zgi h1
  subst hi0
  obtain⟨hnb,hb1,hb2,hb3⟩:=zku h.sh hmay
  refine za2 [_,_,_,_,_,_] _ Tryz.func99 rfl rfl hw (.cons (fun _ h=>nomatch h) .nil) ?_
  simp only[zaa,Nat.reduceAdd]
  refine goA ?_
  refine zam rfl rfl fun b12 hb12=>?_
  refine goA ?_
  refine lPu rfl (fun w1 hw1=>zvc oQ _ w1) ?_
  refine goA ?_
  refine zay [1,0] rfl rfl ?_
  refine lCu [tmI c root s] rfl (zag c root s) (fun w1 hw1 hh1 ha1=>zmz h root i0 h1 w1 hh1) fun⟨⟨s1,o⟩,hs1⟩=>?_
  have hs1:Tok c g s1:=hs1
  dsimp only
  refine goA ?_
  refine zam rfl rfl fun b13 hb13=>?_
  refine za1 rfl (zaf (cs':=ndO n o) rfl rfl rfl rfl (zdl n o) rfl) fun _=>?_
  unfold ndI
  simp only[aF,aJ]
  refine zu3 (zka (zr5 ?_))
  refine zq3 (w0:=w) (F:=za4 [tmI c root s]) (α:=Unit) (fun _=>[(0,.pointer (some ⟨c.t,c.o,none⟩)),(2,.int .i64 ((d+1:Nat):Int)),(3,kV fr),(4,kV be),(12,.pointer (some ⟨b12,0,none⟩)),(13,.pointer (some ⟨b13,0,none⟩))]) (fun _=>True) (fun _=>[pt b13 (.cells (ndO n o) 185 (0,0)),tmI c root s1,own 9 1 o.k n.keys.length (n.keys.map kV),own 9 1 o.v n.vals.length (n.vals.map kV),own 3 1 o.d n.kids.length (n.kids.map iV),pt b12 (.cells #[.int .i64 0,.int .i64 0,.int .i64 0] 175 (0,0))]) ?_ fun _ _=>?_
  ·cases rb with
   |true=>
    refine goA ?_
    refine lPu rfl (fun w1 hw1=>zin _ w1) ?_
    refine goA ?_
    exact zep () ⟨rfl,rfl,rfl,rfl,rfl,rfl,trivial⟩ trivial (fun w' hw'=>hw')
   |false=>
    have hpo:decide (qao c.sh n≤0)=true:=by
     rcases hpoor with h|h
     ·cases h
     ·have:=qcd c.sh n
      rw[h]at this
      have:=of_decide_eq_false this
      exact decide_eq_true oQ
    refine goA ?_
    refine lPu rfl (fun w1 hw1=>qk6 hs1 root hmay w1 (zbq.of (hw1.item (tmI c root s1) mm) (zad _)) (zdw hw1 mm mm mm)) ?_
    refine goA ?_
    rw[hpo]
    refine lPu rfl (fun w1 hw1=>zin _ w1) ?_
    refine goA ?_
    exact zep () ⟨rfl,rfl,rfl,rfl,rfl,rfl,trivial⟩ trivial (fun w' hw'=>hw')
  ·refine zhm (fun w hw=>And.intro (zas (hw.item (own 9 1 o.k n.keys.length (n.keys.map kV)) mm).1).1 (And.intro (zas (hw.item (own 9 1 o.v n.vals.length (n.vals.map kV)) mm).1).1 (zas (hw.item (own 3 1 o.d n.kids.length (n.kids.map iV)) mm).1).1)) fun⟨f1,f2,f3⟩=>?_
   unfold ndO
   rw[f1,f2,f3]
   refine goA ?_
   refine zc0 (α:=Nat) (fun i=>[(0,.pointer (some ⟨c.t,c.o,none⟩)),(2,.int .i64 ((d+1:Nat):Int)),(3,.string (kB fr)),(4,.string (kB be)),(12,.pointer (some ⟨b12,0,none⟩)),(13,.pointer (some ⟨b13,0,none⟩)),(37,.slice (slA o.k) n.keys.length (slC o.k)),(38,.int .i64 (n.keys.length:Int)),(39,.int .i64 (i:Nat))]) (fun i=>i≤n.keys.length) (fun _=>_) (fun i=>n.keys.length - i) 0 ⟨rfl,rfl,rfl,rfl,rfl,rfl,rfl,rfl,rfl,trivial⟩ (aZ _) (fun w' hw'=>hw') fun i hi=>?_
   by_cases hlt:i<n.keys.length
   ·refine zhm (fun w hw=>zdj (hw.item (own 9 1 o.k n.keys.length (n.keys.map kV)) mm).1 oQ) fun⟨kb,kc,e⟩=>?_
    obtain⟨kq,hkq⟩:∃x,n.keys[i]? =some x:=⟨_,aB hlt⟩
    obtain⟨ok,ov,od⟩:=o
    simp only at e⊢
    subst e
    simp only[qtz,qt0]
    refine goA ?_
    refine l_w rfl (za0 (v:=.string (kB kq)) rfl rfl (fun w' hw'=>zby (hw'.item (own 9 1 (some (kb,kc)) n.keys.length (n.keys.map kV)) mm).1 _ _ (by simp only[aH];rw[aO,hkq];rfl))) ?_
    obtain⟨hb1',hb2'⟩:=hbnd kq (bI hkq)
    refine goA ?_
    rw[zjt,zjt,qgw,decide_eq_false hb1']
    by_cases hbe:be=[]
    ·refine goA ?_
     rw[show seq (kB be) ⟨#[]⟩=decide (be=[])from qe8 be [],decide_eq_true hbe]
     refine goA ?_
     refine lPu rfl (fun w1 hw1=>zin _ w1) ?_
     refine goA ?_
     exact zaw (i+1) ⟨rfl,rfl,rfl,rfl,rfl,rfl,rfl,rfl,rfl,trivial⟩ oQ (fun w' hw'=>hw') oQ
    ·have hb3':=hb2'.resolve_left hbe
     refine goA ?_
     rw[show seq (kB be) ⟨#[]⟩=decide (be=[])from qe8 be [],decide_eq_false hbe]
     refine goA ?_
     rw[zjt,zjt,qgw,decide_eq_true hb3']
     refine lPu rfl (fun w1 hw1=>zin _ w1) ?_
     refine goA ?_
     exact zaw (i+1) ⟨rfl,rfl,rfl,rfl,rfl,rfl,rfl,rfl,rfl,trivial⟩ oQ (fun w' hw'=>hw') oQ
   ·rcases hcase with ⟨hlf,hk0,rfl⟩ |⟨hlf,hkc⟩
    ·rw[hlf]
     refine goA ?_
     refine lPu rfl (fun w1 hw1=>zvc oQ _ w1) ?_
     refine goA ?_
     refine za1 rfl (zah (zjj _ _ _ _ _ _ _) (zaf rfl rfl rfl rfl rfl rfl)) fun _=>?_
     refine goA ?_
     exact zbd s1 rfl ⟨_,rfl,zaq rfl (.head _)⟩ rfl hs1 (.cons _ (.cons _ (.cons_cons _ (aK _)))) (zag _ _ _)
    ·obtain⟨hkr,hvs,hkl1,hk1, -⟩:=hmay.inner hlf
     rw[hlf]
     refine zhm (fun w hw=>And.intro (zdj (hw.item (own 9 1 o.k n.keys.length (n.keys.map kV)) mm).1 oQ) (zdj (hw.item (own 3 1 o.d n.kids.length (n.kids.map iV)) mm).1 oQ)) fun⟨⟨kb,kc,e⟩,⟨db,dc,e'⟩⟩=>?_
     obtain⟨ok,ov,od⟩:=o
     simp only at e e'⊢
     subst e
     subst e'
     simp only[qtz,qt0]
     refine goA ?_
     refine zd2 68 _ (.agg #[.int .i64 0,.int .i64 1,.int .i64 0]) rfl rfl ?_
     refine zam rfl rfl fun b16 hb16=>?_
     refine za1 rfl (zaf rfl rfl rfl rfl rfl rfl) fun _=>?_
     refine goA ?_
     refine zc0 (α:=Nat×Prt×Pg) (fun y=>[(0,.pointer (some ⟨c.t,c.o,none⟩)),(2,.int .i64 ((d+1:Nat):Int)),(3,.string (kB fr)),(4,.string (kB be)),(12,.pointer (some ⟨b12,0,none⟩)),(13,.pointer (some ⟨b13,0,none⟩)),(16,.pointer (some ⟨b16,0,none⟩)),(70,.slice (some ⟨db,0,none⟩) n.kids.length dc),(71,.int .i64 (n.kids.length:Int)),(72,.int .i64 (y.1:Nat))]) (fun y=>y.1≤n.kids.length∧Tok c g y.2.2∧zlf (fun at_ fr be=>zga c.sh c.N g d (at_:Nat) fr be false) n.keys fr be (n.kids.drop y.1) y.1 y.2.1= .ok p) (fun y=>[pt b16 (.cells (prA y.2.1) 175 (0,0)),pt b13 (.cells #[.bool false,.slice (some ⟨kb,0,none⟩) n.keys.length kc,.slice (slA ov) n.vals.length (slC ov),.slice (some ⟨db,0,none⟩) n.kids.length dc] 185 (0,0)),tmI c root y.2.2,own 9 1 (some (kb,kc)) n.keys.length (n.keys.map kV),own 3 1 (some (db,dc)) n.kids.length (n.kids.map iV),pt b12 (.cells #[.int .i64 0,.int .i64 0,.int .i64 0] 175 (0,0))]) (fun y=>n.kids.length - y.1) (0,⟨0,1,0⟩,s1) ⟨rfl,rfl,rfl,rfl,rfl,rfl,rfl,rfl,rfl,rfl,trivial⟩ ⟨aZ _,hs1,hkc⟩ (fun w' hw'=>hw'.pick [0,1,2,3,5,6] rfl rfl) fun⟨i,out,s2⟩ ⟨hi,h2,hk2⟩=>?_
     simp only at hi h2 hk2⊢
     by_cases hlt:i<n.kids.length
     ·obtain⟨kq,hkq⟩:∃x,n.kids[i]? =some x:=⟨_,aB hlt⟩
      rw[bX hlt,(aC.1 hkq).2]at hk2
      obtain⟨q,hq1,hq2,hq3⟩:=zng hk2
      have hle:=qge hq3
      simp only at hle hq1
      have hqd:=zlp hq1
      obtain⟨ok1,ok2,ok3⟩:out.keys≤1000000000∧out.pages≤1000000000∧True:=⟨oQ,oQ,trivial⟩
      refine goA ?_
      refine l_w rfl (za0 (v:=.int .i64 (kq:Int)) rfl rfl (fun w' hw'=>zby (hw'.item (own 3 1 (some (db,dc)) n.kids.length (n.kids.map iV)) mm).1 _ _ (by simp only[aH];rw[aO,hkq];rfl))) ?_
      refine goA ?_
      refine zq3 (w0:=w) (F:=za4 [tmI c root s]) (α:=Unit) (fun _=>[(0,.pointer (some ⟨c.t,c.o,none⟩)),(2,.int .i64 ((d+1:Nat):Int)),(3,.string (kB fr)),(4,.string (kB be)),(12,.pointer (some ⟨b12,0,none⟩)),(13,.pointer (some ⟨b13,0,none⟩)),(16,.pointer (some ⟨b16,0,none⟩)),(70,.slice (some ⟨db,0,none⟩) n.kids.length dc),(71,.int .i64 (n.kids.length:Int)),(72,.int .i64 (i:Nat)),(17,.int .i64 (i:Nat)),(18,.int .i64 (kq:Int)),(19,kV (loF fr n.keys i)),(20,.string (kB be))]) (fun _=>True) (fun _=>[pt b16 (.cells (prA out) 175 (0,0)),pt b13 (.cells #[.bool false,.slice (some ⟨kb,0,none⟩) n.keys.length kc,.slice (slA ov) n.vals.length (slC ov),.slice (some ⟨db,0,none⟩) n.kids.length dc] 185 (0,0)),tmI c root s2,own 9 1 (some (kb,kc)) n.keys.length (n.keys.map kV),own 3 1 (some (db,dc)) n.kids.length (n.kids.map iV),pt b12 (.cells #[.int .i64 0,.int .i64 0,.int .i64 0] 175 (0,0))]) ?_ fun _ _=>?_
      ·by_cases h0:0<i
       ·obtain⟨kp,hkp⟩:∃x,n.keys[i - 1]? =some x:=⟨_,aB oQ⟩
        rw[show loF fr n.keys i=kp by unfold loF;rw[if_pos h0,aE,hkp];rfl]
        refine goA ?_
        refine l_w rfl (za0 (v:=kV kp) rfl rfl (fun w' hw'=>zby (hw'.item (own 9 1 (some (kb,kc)) n.keys.length (n.keys.map kV)) mm).1 _ _ (by simp only[aH];rw[aO,hkp];rfl))) ?_
        refine goA ?_
        exact zep () ⟨rfl,rfl,rfl,rfl,rfl,rfl,rfl,rfl,rfl,rfl,rfl,rfl,rfl,rfl,trivial⟩ trivial (fun w' hw'=>hw')
       ·rw[show loF fr n.keys i=fr by unfold loF;rw[if_neg h0]]
        refine goA ?_
        exact zep () ⟨rfl,rfl,rfl,rfl,rfl,rfl,rfl,rfl,rfl,rfl,rfl,rfl,rfl,rfl,trivial⟩ trivial (fun w' hw'=>hw')
      ·refine goA ?_
       refine zq3 (w0:=w) (F:=za4 [tmI c root s]) (α:=Unit) (fun _=>[(0,.pointer (some ⟨c.t,c.o,none⟩)),(2,.int .i64 ((d+1:Nat):Int)),(3,.string (kB fr)),(4,.string (kB be)),(12,.pointer (some ⟨b12,0,none⟩)),(13,.pointer (some ⟨b13,0,none⟩)),(16,.pointer (some ⟨b16,0,none⟩)),(70,.slice (some ⟨db,0,none⟩) n.kids.length dc),(71,.int .i64 (n.kids.length:Int)),(72,.int .i64 (i:Nat)),(17,.int .i64 (i:Nat)),(18,.int .i64 (kq:Int)),(19,kV (loF fr n.keys i)),(20,kV (hiF be n.keys i))]) (fun _=>True) (fun _=>[pt b16 (.cells (prA out) 175 (0,0)),pt b13 (.cells #[.bool false,.slice (some ⟨kb,0,none⟩) n.keys.length kc,.slice (slA ov) n.vals.length (slC ov),.slice (some ⟨db,0,none⟩) n.kids.length dc] 185 (0,0)),tmI c root s2,own 9 1 (some (kb,kc)) n.keys.length (n.keys.map kV),own 3 1 (some (db,dc)) n.kids.length (n.kids.map iV),pt b12 (.cells #[.int .i64 0,.int .i64 0,.int .i64 0] 175 (0,0))]) ?_ fun _ _=>?_
       ·by_cases h0:i<n.keys.length
        ·obtain⟨kp,hkp⟩:∃x,n.keys[i]? =some x:=⟨_,aB h0⟩
         rw[show hiF be n.keys i=kp by unfold hiF;rw[if_pos h0,aE,hkp];rfl]
         refine goA ?_
         refine l_w rfl (za0 (v:=kV kp) rfl rfl (fun w' hw'=>zby (hw'.item (own 9 1 (some (kb,kc)) n.keys.length (n.keys.map kV)) mm).1 _ _ (by simp only[aH];rw[aO,hkp];rfl))) ?_
         refine goA ?_
         exact zep () ⟨rfl,rfl,rfl,rfl,rfl,rfl,rfl,rfl,rfl,rfl,rfl,rfl,rfl,rfl,trivial⟩ trivial (fun w' hw'=>hw')
        ·rw[show hiF be n.keys i=be by unfold hiF;rw[if_neg h0]]
         refine goA ?_
         exact zep () ⟨rfl,rfl,rfl,rfl,rfl,rfl,rfl,rfl,rfl,rfl,rfl,rfl,rfl,rfl,trivial⟩ trivial (fun w' hw'=>hw')
       ·refine goA ?_
        rw[show d+1 - 1=d by omega]
        refine zay [2,0,1,3,4,5] rfl rfl ?_
        refine lCu [tmI c root s2] rfl (zag c root s2) (fun w1 hw1 hh1 ha1=>ih g s2 (kq:Nat) (loF fr n.keys i) (hiF be n.keys i) false h2 oQ hq1 oQ oQ w1 hh1) fun⟨s3,h3⟩=>?_
        have h3:Tok c g s3:=h3
        dsimp only
        simp only[aF,aJ]
        refine goA ?_
        refine zam rfl rfl fun b21 hb21=>?_
        refine za1 rfl (zaf (cs':=prA q) rfl rfl rfl rfl rfl rfl) fun _=>?_
        refine zu3 (zka (zr5 ?_))
        refine zq3 (w0:=w) (F:=za4 [tmI c root s]) (α:=Unit) (fun _=>[(0,.pointer (some ⟨c.t,c.o,none⟩)),(2,.int .i64 ((d+1:Nat):Int)),(3,.string (kB fr)),(4,.string (kB be)),(12,.pointer (some ⟨b12,0,none⟩)),(13,.pointer (some ⟨b13,0,none⟩)),(16,.pointer (some ⟨b16,0,none⟩)),(70,.slice (some ⟨db,0,none⟩) n.kids.length dc),(71,.int .i64 (n.kids.length:Int)),(72,.int .i64 (i:Nat)),(17,.int .i64 (i:Nat)),(18,.int .i64 (kq:Int)),(21,.pointer (some ⟨b21,0,none⟩))]) (fun _=>True) (fun _=>[pt b21 (.cells (prA q) 175 (0,0)),pt b16 (.cells (prA out) 175 (0,0)),pt b13 (.cells #[.bool false,.slice (some ⟨kb,0,none⟩) n.keys.length kc,.slice (slA ov) n.vals.length (slC ov),.slice (some ⟨db,0,none⟩) n.kids.length dc] 185 (0,0)),tmI c root s3,own 9 1 (some (kb,kc)) n.keys.length (n.keys.map kV),own 3 1 (some (db,dc)) n.kids.length (n.kids.map iV),pt b12 (.cells #[.int .i64 0,.int .i64 0,.int .i64 0] 175 (0,0))]) ?_ fun _ _=>?_
        ·by_cases h0:i=0
         ·refine goA ?_
          refine lPu rfl (fun w1 hw1=>zin _ w1) ?_
          refine goA ?_
          exact zep () ⟨rfl,rfl,rfl,rfl,rfl,rfl,rfl,rfl,rfl,rfl,rfl,rfl,rfl,trivial⟩ trivial (fun w' hw'=>hw'.pick [0,2,3,1,4,5,6] rfl rfl)
         ·have hdd:out.deep=q.deep+1:=gK fun h=>hq2 ⟨h0,h⟩
          refine goA ?_
          rw[hdd]
          simp only[beq_self_eq_true]
          refine lPu rfl (fun w1 hw1=>zin _ w1) ?_
          refine goA ?_
          exact zep () ⟨rfl,rfl,rfl,rfl,rfl,rfl,rfl,rfl,rfl,rfl,rfl,rfl,rfl,trivial⟩ trivial (fun w' hw'=>hw'.pick [0,2,3,1,4,5,6] rfl rfl)
        ·refine goA ?_
         refine zd2 128 _ (prV ⟨out.keys+q.keys,out.pages+q.pages,q.deep+1⟩) rfl rfl ?_
         refine za1 rfl (zah (zcg _ _ _) (zaf (cs':=prA ⟨out.keys+q.keys,out.pages+q.pages,q.deep+1⟩) rfl rfl rfl rfl rfl rfl)) fun _=>?_
         refine goA ?_
         exact zaw (i+1,⟨out.keys+q.keys,out.pages+q.pages,q.deep+1⟩,s3) ⟨rfl,rfl,rfl,rfl,rfl,rfl,rfl,rfl,rfl,rfl,trivial⟩ ⟨by simp only;omega,h3,hq3⟩ (fun w' hw'=>hw'.pick [0,2,3,4,5,6] rfl rfl) (by simp only;omega)
     ·have he:n.kids.drop i=[]:=cX oQ
      rw[he,zlf]at hk2
      cases hk2
      refine goA ?_
      refine za1 rfl (zah (zjj _ _ _ _ _ _ _) (zaf rfl rfl rfl rfl rfl rfl)) fun _=>?_
      refine goA ?_
      exact zbd s2 rfl ⟨_,rfl,zaq rfl (.head _)⟩ rfl h2 (.cons _ (.cons _ (.cons _ (.cons_cons _ (aK _))))) (zag _ _ _)
theorem qry(h:Tok c g s)(root:Int){a b:Nat}(hl:zls c.sh c.N g root= .ok (a,b))(ha:a≤1000000000)(hb:b≤1000000000):
  Cv Tryz.prog 65 #[.pointer (some ⟨c.t,c.o,none⟩)] [tmI c root s] (fun _:Pg=>.tuple #[.int .i64 (a:Int),.int .i64 (b:Int),.int .i64 0]) (fun s'=>Tok c g s') (fun s'=>[tmI c root s']):=by
 intro w hw
 refine qfq [_] _ Tryz.func65 rfl rfl hw (.cons (fun _ h=>nomatch h) .nil) ?_
 simp only[zaa]
 refine goA ?_
 refine zdg rfl rfl rfl fun b4 hb4=>?_
 refine goA ?_
 refine zu2 (xs:=[.tmp 4]) rfl rfl ?_
 refine goA ?_
 refine lPu rfl (fun w1 hw1=>zo3 h root w1 (zbq.of (hw1.item (tmI c root s) mm) (zad _))) ?_
 refine goA ?_
 refine l_w rfl (zfg rfl mm) ?_
 refine goA ?_
 unfold zls at hl
 by_cases h0:root=0
 ·rw[if_pos h0]at hl
  cases hl
  subst h0
  refine goA ?_
  refine za1 rfl (zai rfl rfl rfl rfl rfl rfl sQ) fun _=>?_
  refine goA ?_
  refine zi5 kQ (fun w hw=>zcr _ w) ?_
  exact qa6 s rfl rfl rfl ⟨_,rfl,zb5 rfl mm⟩ rfl h (.cons _ (.refl _)) (zag _ _ _)
 ·rw[if_neg h0]at hl
  obtain⟨p,hp,hl⟩:=zb6 hl
  cases hl
  refine goA ?_
  refine l_w rfl (zfg rfl mm) ?_
  refine goA ?_
  refine zay [1,0] rfl rfl ?_
  refine lCu [tmI c root s] rfl (zag c root s) (fun w1 hw1 hh1 ha1=>qmf c root 16 g s root [] [] true h oQ hp ha hb w1 hh1) fun⟨s1,h1⟩=>?_
  have h1:Tok c g s1:=h1
  dsimp only
  simp only[aF,aJ]
  refine goA ?_
  refine zam rfl rfl fun b5 hb5=>?_
  refine za1 rfl (zaf (cs':=prA p) rfl rfl rfl rfl rfl rfl) fun _=>?_
  refine goA ?_
  refine zap [0,1] 6 rfl rfl kQ ?_
  refine goE ?_
  refine zfa [2,0,1] rfl rfl ?_
  refine zet ⟨kQ,kQ⟩ rfl rfl (zai rfl rfl rfl rfl rfl rfl (show(0:Nat)<1 from dQ)) fun _=>?_
  refine goA ?_
  refine zi5 kQ (fun w hw=>zcr _ w) ?_
  exact qa6 s1 rfl rfl rfl ⟨_,rfl,zb5 rfl mm⟩ rfl h1 (.cons _ (.cons _ (.cons_cons _ (aK _)))) (zag _ _ _)
end Go.Proofs.YthafakdplhdfjaaGreatDoor
namespace Go.Eng
open Go.RowKit
section
variable{P:Program}{Q:Exit→Act→World→Prop}{l:zav}{w0:World}{F:Nat→Prop}{m:List Item}{fn:Func}{R:Ending→World→Prop}
variable{α:Type}
def qne(P:Program)(gf:FuncId)(cs:List Value)(mi:List Item){β:Type}(mo:β→List Item)(ψ:β→Prop)(E:List α→α→Prop)(S:List α→Prop)(enc:α→List Value):Prop:=
 ∀(σ:Type) (ly:Nat) (Y:σ→Item) (I:List α→σ→Prop) (J:σ→Prop) (s0:σ) (w:World),(∀s,(Y s).Stable none')→I [] s0→
  (∀k x s,E k x→I k s→Yd P ly Y s (enc x).toArray fun b s'=>(b=true∧I (k++[x]) s')∨(b=false∧J s'))→
  (∀it∈Y s0::mi,zbq it w)→(Y s0::mi).Pairwise Item.Apart→
  Calls P gf (.func (.yield ly) #[] #[]::cs).toArray w fun e w'=>(∃v,e= .returned v)∧∃s z,ψ z∧((∃k,S k∧I k s)∨J s)∧Its (za4 (Y s0::mi)) w (Y s::mo z) w'
variable{n:Nat}{gf:FuncId}
theorem qcw{gx:Operand}{ps:Array Tmp}{assign body:Code}{ds:List Deferred}{cs:List Value}{mi m2:List Item}{β:Type}{mo:β→List Item}{ψ:β→Prop}{E:List α→α→Prop}{S:List α→Prop}{enc:α→List Value}{σ:Type}(B:σ→List Item)(I:List α→σ→Prop)(J:Code→σ→Prop)(s0:σ)
  (hg:evO l gx=some (.func (.func gf) #[] cs.toArray)) (hk:zex l gx=true) (hb:za7 P gf=true) (hit:qne P gf cs mi mo ψ E S enc) (hps:∀x,((enc x).length=ps.size)) (hpn:∀p∈ps.toList,p<n)
  (hst:∀s,∀it∈B s,it.Stable none') (hmi:∀it∈mi,it.Stable none') (h0:I [] s0)
  (hround:∀ly rc k x s W,E k x→I k s→HT P assign (zzd P ly body (qjh ly rc B (fun _=>I (k++[x])) (fun c=>J (c.getD .skip)) (pt ly (rc.at .ready none)::B s) W)) ⟨n,[],some ly⟩ (zn8 (ps.toList.zip (enc x)) l)
   (Hp W (za4 (pt ly (rc.at .ready none)::B s)) (pt ly (rc.at .ready none)::B s)))
  (hdone:∀D k s z,ψ z→S k→I k s→HX Q .normal ⟨n,zel D::ds,none⟩ l (Hp w0 F (pt D (.deferred (some []))::(B s++(mo z++m2)))))
  (hstop:∀D c s z,ψ z→J c s→HT P c Q ⟨n,zel D::ds,none⟩ l (Hp w0 F (pt D (.deferred (some []))::(B s++(mo z++m2))))):
  HT P (.rangeFunc gx ps assign body) Q ⟨n,ds,none⟩ l (Hp w0 F (B s0++(mi++m2))):=by
 unfold HT HX at*
 intro a w st hw
 refine wpIn_rangeFunc fun fn _=>?_
 obtain⟨rc,hrc⟩:∃rc:Rc,rc=⟨fn,a.tmps,ps,assign,body,w.heap.size⟩:=⟨_,rfl⟩
 obtain⟨ly,hly⟩:∃ly,ly=w.heap.size+1:=⟨_,rfl⟩
 obtain⟨W1,hW1⟩:∃W1,(w.alloc (.deferred (some []))).alloc (rc.at .ready none)=W1:=⟨_,rfl⟩
 have hH1:Hp w0 F (pt ly (rc.at .ready none)::pt w.heap.size (.deferred (some []))::(B s0++(mi++m2))) W1:=by
  have:=(hw.alloc (.deferred (some []))).alloc (rc.at .ready none)
  rw[hW1]at this
  simpa[hly]using this
 obtain⟨Y,hY⟩:∃Y:σ×Option Code→Item,∀s,Y s=zef (pt ly (rc.at (if s.2.isNone then .ready else .done) s.2)::B s.1):=⟨_,fun _=>rfl⟩
 have hLs:∀s st pe,∀it∈pt ly (rc.at st pe)::B s,it.Stable none':=fun s st pe it hm=>(aL.1 hm).elim (fun h=>h▸zab _ _ _) (hst s it)
 have hmarks:({ a with defers:=[zel w.heap.size]++a.defers }:Act).defers=zel w.heap.size::ds:=by simp[st.defers]
 have st':St ⟨n,zel w.heap.size::ds,none⟩ l { a with defers:=[zel w.heap.size]++a.defers }:=⟨st.size,hmarks,st.slot⟩
 have hH2:Hp w0 F ((pt ly (rc.at .ready none)::B s0)++(mi++(pt w.heap.size (.deferred (some []))::m2))) W1:=by
  refine hH1.perm ?_
  refine(List.Perm.cons _ ?_)
  refine((bM (l₁:=B s0++mi) (l₂:=m2) (a:=pt w.heap.size (.deferred (some [])))).symm.trans ?_:(pt w.heap.size (.deferred (some []))::(B s0++mi++m2)).Perm _) |> fun h=>by simpa using h
  simp
 have hHere:∀it∈Y (s0,none)::mi,zbq it W1:=by
  intro it hm
  rcases aL.1 hm with rfl|hm
  ·rw[hY]
   refine zk4 (fun it hm=>?_) (bN.1 hH2.apart).1
   have hin:=hH2.item it (aP _ hm)
   exact⟨hin.1,hLs _ _ _ it hm,fun k hk=>(hin.2.2 k hk).1⟩
  ·have hin:=hH2.item it (aU _ (aP _ hm))
   exact⟨hin.1,hmi it hm,fun k hk=>(hin.2.2 k hk).1⟩
 have hAp:(Y (s0,none)::mi).Pairwise Item.Apart:=by
  have h1:=bN.1 hH2.apart
  refine bP.2 ⟨fun y hy k hk hky=>?_,(bN.1 h1.2.1).1⟩
  rw[hY]at hk
  obtain⟨x,hx,hkx⟩:=hk
  exact h1.2.2 x hx y (aP _ hy) k hkx hky
 refine⟨ly,[zel w.heap.size],W1,{ target:=.fn (.func gf) cs.toArray,args:= #[.func (.yield ly) #[] #[]] },W1,gf,(.func (.yield ly) #[] #[]::cs).toArray,W1,?_,?_,fun _ _=>trivial,?_,zla _,?_⟩
 ·rw[←hW1,hrc,hly];exact run_enterLoop_outer _ _ _ _ _
 ·have:a.eval gx= .func (.func gf) #[] cs.toArray:=by rw[st.eval hk,zar hg]
  simp only[resolve,this]
  simp[go_sem]
 ·simp[invoke,zdz hb]
 ·refine(callsIn_wide (n:=0)).2 ((hit (σ×Option Code) ly Y (fun k s=>s.2=none∧I k s.1) (fun s=>∃c,s.2=some c∧J c s.1) (s0,none) W1 (fun s=>by rw[hY];exact zad _) ⟨rfl,h0⟩ ?_ hHere hAp).mono ?_)
  ·rintro k x ⟨s,pe⟩ hx ⟨rfl,hI⟩ W hW
   rw[hY]at hW
   have hrec:W.heap[ly]? =some (rc.at .ready none):=(hW.1.1 (pt ly (rc.at .ready none)) sQ).1
   refine⟨fn,(ps.toList.zip (enc x)).foldl (fun t (p,v)=>t.setIfInBounds p v) a.tmps,assign,body,?_,?_⟩
   ·have:=run_yield (P:=P) (args:=(enc x).toArray) hrec (by simpa[hrc]using hps x)
    rw[this,hrc]
    exact congrArg (fun T=>Result.ok (Next.round ly fn T assign body) W) (qf4 ps (enc x) _)
   ·have s1:St ⟨n,[],some ly⟩ l { tmps:=a.tmps,defers:=[] }:=⟨st.size,rfl,st.slot⟩
    have s2:=St.round (ps.toList.zip (enc x)) s1 (fun p hp=>hpn _ (iR (a:=p.1) (b:=p.2) hp).1)
    have h1:=hround ly rc k x s W hx hI _ W s2 (.begin hW.1.1 hW.1.2 _ fun k hk=>hk)
    refine RoundIn.mono (roundIn_of_wpIn (n:=0) (F:=Fence.wide) trivial h1) ?_
    rintro e w' ⟨pe,s',he,hJ,hi⟩
    refine⟨pe.isNone,(s',pe),he,?_,by rw[hY,hY];exact hi⟩
    cases pe with
    |none=>exact .inl ⟨rfl,rfl,hJ⟩
    |some c=>exact .inr ⟨rfl,c,rfl,hJ⟩
  ·rintro e w3 ⟨⟨v,rfl⟩,⟨s,pe⟩,z,hz,hs,hi⟩
   have h3:Hp w0 F ((Y (s,pe)::mo z)++(pt w.heap.size (.deferred (some []))::m2)) w3:=by
    refine Hp.call (m:=(pt ly (rc.at .ready none)::B s0)++mi) (by simpa using hH2) hi fun k _ ⟨it,hm,hk⟩=>?_
    rcases aL.1 hm with rfl|hm
    ·rw[hY]at hk
     obtain⟨x,hx,hkx⟩:=hk
     exact⟨x,aP _ hx,hkx⟩
    ·exact⟨it,aU _ hm,hk⟩
   rw[hY]at h3
   have h4:=Hp.open1 (L:=pt ly (rc.at (if pe.isNone then .ready else .done) pe)::B s) (m:=mo z++(pt w.heap.size (.deferred (some []))::m2)) h3
   have h5:=h4.put (m:=B s++(mo z++(pt w.heap.size (.deferred (some []))::m2))) (rc.at .exhausted pe)
   have h6:Hp w0 F (pt w.heap.size (.deferred (some []))::(B s++(mo z++m2))) (w3.putObj ly (rc.at .exhausted pe)):=by
    refine(h5.sub (gB _ _)).perm ?_
    rw[←aG,←aG]
    exact bM
   have hend:=run_endLoop (P:=P) (h4.get (b:=ly) (o:=rc.at (if pe.isNone then .ready else .done) pe) sQ) (by cases pe<;>simp)
   refine⟨pe,_,hend,?_⟩
   cases pe with
   |none=>
    obtain⟨k,hk1, -,hk2⟩:=hs.resolve_right fun⟨c,hc,_⟩=>by cases hc
    exact hdone _ k s z hz hk1 hk2 _ _ st' h6
   |some c=>exact hstop _ c s z hz ((hs.resolve_left fun⟨k,hk1,h,_⟩=>by cases h).elim fun c' h=>by cases h.1;exact h.2) _ _ st' h6
def zpw{σ β:Type}(w:World)(Fc:Nat→Prop)(Y:σ→Item)(mo:β→List Item)(ψ:β→Prop)(φ:σ→Prop):Ending→World→Prop:=fun e w'=>(∃v,e= .returned v)∧∃s z,ψ z∧φ s∧Its Fc w (Y s::mo z) w'
variable{c:Code}
theorem qki(cs:List Value)(mi:List Item){β:Type}(mo:β→List Item)(ψ:β→Prop)(E:List α→α→Prop)(S:List α→Prop)(enc:α→List Value)(hf:P.funcs[gf]? =some fn)(hb:fn.body=some c)(hn:Nat.ble (cs.length+1) fn.ntmps=true)
  (h:∀(σ:Type) (ly:Nat) (Y:σ→Item) (I:List α→σ→Prop) (J:σ→Prop) (s0:σ) (w:World),(∀s,(Y s).Stable none')→I [] s0→
   (∀k x s,E k x→I k s→Yd P ly Y s (enc x).toArray fun b s'=>(b=true∧I (k++[x]) s')∨(b=false∧J s'))→
   HT P c (zpc P fn (zpw w (za4 (Y s0::mi)) Y mo ψ fun s=>(∃k,S k∧I k s)∨J s)) ⟨fn.ntmps,[],none⟩ (zaa 0 (.func (.yield ly) #[] #[]::cs)) (Hp w (za4 (Y s0::mi)) (Y s0::mi))):qne P gf cs mi mo ψ E S enc:=
 fun σ ly Y I J s0 w hst h0 hy hh ha=>zwr hf hb hn (Hp w (za4 (Y s0::mi)) (Y s0::mi)) (.begin hh ha _ fun _ h=>h) (h σ ly Y I J s0 w hst h0 hy)
theorem qa8{σ β:Type}{Y:σ→Item}{mo:β→List Item}{ψ:β→Prop}{φ:σ→Prop}(s:σ)(z:β)(hf:fn.results= #[])(hψ:ψ z)(hφ:φ s)(hst:∀it∈Y s::mo z,it.Stable none')(hs:(Y s::mo z).Sublist m):HX (bodyPost P fn (zpw w0 F Y mo ψ φ)) .ret ⟨n,[],none⟩ l (Hp w0 F m):=
 qna hf fun _ hw=>⟨⟨_,rfl⟩,s,z,hψ,hφ,hw.its hs hst⟩
theorem qlz{σ β:Type}{Y:σ→Item}{mo:β→List Item}{ψ:β→Prop}{φ:σ→Prop}(s:σ)(z:β)(hf:fn.results= #[])(hψ:ψ z)(hφ:φ s)(hst:∀it∈Y s::mo z,it.Stable none')(hs:(Y s::mo z).Sublist m):HX (bodyPost P fn (zpw w0 F Y mo ψ φ)) .normal ⟨n,[],none⟩ l (Hp w0 F m):=
 qc4 hf fun _ hw=>⟨⟨_,rfl⟩,s,z,hψ,hφ,hw.its hs hst⟩
def ql4(w0:World)(F:Nat→Prop)(Nf:α→Fm)(L:α→zav)(φ:α→Prop)(M:α→List Item)(μ:α→Nat)(x:α):Act→World→Prop:=fun a w=>∃y,μ y<μ x∧St (Nf y) (L y) a∧φ y∧Hp w0 F (M y) w
variable{N:Fm}
theorem qro(Nf:α→Fm)(L:α→zav)(φ:α→Prop)(M:α→List Item)(μ:α→Nat)(x₀:α)(hN:Nf x₀=N)(hr:∀x,(Nf x).r=N.r)(h₀:Has l (L x₀))(hφ:φ x₀)(hI:∀w,Hp w0 F m w→Hp w0 F (M x₀) w)
  (round:∀x,φ x→HT P c (Exit.then (ql4 w0 F Nf L φ M μ x) Q) (Nf x) (L x) (Hp w0 F (M x))):HT P (.loop c) Q N l (Hp w0 F m):=by
 unfold HT at*
 intro a w s hw
 refine zmn (fun x a w=>St (Nf x) (L x) a∧φ x∧Hp w0 F (M x) w) μ (fun x a w ⟨sx,hx,hm⟩=>?_) x₀ a w ⟨by rw[hN];exact s.sub h₀.sub,hφ,hI w hw⟩
 have h1:=round x hx a w sx hm
 rw[hr x]at h1
 refine WP.mono (fun e a' w' q=>?_) h1
 cases e with
 |normal=>
  obtain⟨y,h1,h2,h3,h4⟩:=q
  exact⟨y,⟨h2,h3,h4⟩,h1⟩
 |_=>exact q
theorem ql1{Nf:α→Fm}{L:α→zav}{φ:α→Prop}{M:α→List Item}{μ:α→Nat}{x:α}(y:α)(hN:Nf y=N)(hl:Has l (L y))(hφ:φ y)(hI:∀w,Hp w0 F m w→Hp w0 F (M y) w)(hm:μ y<μ x):HX (Exit.then (ql4 w0 F Nf L φ M μ x) Q) .normal N l (Hp w0 F m):=by
 unfold HX
 exact fun a w s hw=>⟨y,hm,by rw[hN];exact s.sub hl.sub,hφ,hI w hw⟩
end
end Go.Eng
namespace Go.Proofs.YthafakdplhdfjaaGreatDoor
open Go.RowKit Go.Eng Go.Eng.Bm Go.Eng.Tr
def qp4(s:Sh)(N:Nat)(g:Sg)(f:K):Nat→Nat→E→Prop
 |0,_,_=>False
 |d+1,at_,xs=>∃n,zfs s N g (at_:Nat)= .ok n∧((n.leaf=true∧xs=(n.keys.zip n.vals).drop (lb n.keys f))∨
  (n.leaf=false∧∃L:List (Nat×E),L.map (·.1)=n.kids.drop (dn n.keys f)∧(∀x∈L,qp4 s N g f d x.1 x.2)∧xs=L.flatMap (·.2)))
theorem qmu{α β:Type}:∀l:List (α×β),(l.map (·.1)).zip (l.map (·.2))=l
 | []=>rfl
 |(a,b)::l=>by rw[bG,bG,gG,qmu l]
theorem ql5{s:Sh}(hs:1≤s.kw){N:Nat}(hN:N≤1024){g:Sg}{f:K}:∀{h:Nat} (t:T h),Ord t→Wd s t→Below s t→sz t≤mx s h→(1≤h→2≤sz t)→(∀h',2≤mx s (h'+1)/2)→Rep g.W t→(∀x∈pgs t,1≤x∧x<N)→∀d,h<d→qp4 s N g f d (pg t) (qni t f)
 |_,_,_,_,_,_,_,_,_,_,0,hd=>oQ
 |0,(p,es),hO,hW,hB,hm,h2,hx,hr,hp,d+1,_=>by
  refine⟨_,zfl hs hr (zcu _ hO hW hm h2 fun x hx=>⟨(hp x hx).1,by have:=(hp x hx).2;omega⟩) (hp p (.head _)).1 (hp p (.head _)).2,.inl ⟨rfl,?_⟩⟩
  show es.drop (lb (keys es) f)=((es.map (·.1)).zip (es.map (·.2))).drop _
  rw[qmu];rfl
 |h+1,(p,ks,kids),hO,hW,hB,hm,h2,hx,hr,hp,d+1,hd=>by
  refine⟨_,zfl hs hr (zcu _ hO hW hm h2 fun x hx=>⟨(hp x hx).1,by have:=(hp x hx).2;omega⟩) (hp p (.head _)).1 (hp p (.head _)).2,.inr ⟨rfl,(kids.drop (dn ks f)).map fun x=>(pg x,qni x f),?_,?_,?_⟩⟩
  ·show _=(kids.map pg).drop (dn ks f)
   rw[dJ,eL];rfl
  ·intro x hx1
   obtain⟨y,hy,rfl⟩:=aS.1 hx1
   have hy:=cE hy
   have hBy:=hB y hy
   exact ql5 hs hN y (hO.2.2 y hy) (hW.2 y hy) hBy.2.2 hBy.2.1 (fun h1=>by
    obtain⟨h',rfl⟩:∃h',h=h'+1:=⟨h - 1,oQ⟩
    exact cH (hx h') hBy.1) hx (hr.2 y hy) (fun z hz=>hp z (.tail _ (bS.2 ⟨y,hy,hz⟩))) d oQ
  ·show(kids.drop (dn ks f)).flatMap (fun x=>qni x f)=_
   rw[List.flatMap_map]
def qjj(x:Nat×Nat×Nat×Nat)(c:Tc)(at_ d:Nat)(f:K):List Eng.Item:=[pt x.1 (.cells #[.int .i64 (d:Nat)] 3 (0,0)),pt x.2.1 (.cells #[.pointer (some ⟨c.t,c.o,none⟩)] 137 (0,0)),pt x.2.2.1 (.cells #[.int .i64 (at_:Nat)] 3 (0,0)),pt x.2.2.2 (.cells #[kV f] 9 (0,0))]
def qsi(x:Nat×Nat×Nat×Nat):List Value:=[.pointer (some ⟨x.1,0,none⟩),.pointer (some ⟨x.2.1,0,none⟩),.pointer (some ⟨x.2.2.1,0,none⟩),.pointer (some ⟨x.2.2.2,0,none⟩)]
theorem zk3(x:Nat×Nat×Nat×Nat)(c:Tc)(at_ d:Nat)(f:K):∀it∈qjj x c at_ d f,it.Stable none':=by simp[qjj,zab]
def qtp(x:Nat×Nat×Nat×Nat):Value:=.func (.func 154) #[] (qsi x).toArray
theorem zr9(c:Tc)(at_ d:Nat)(f:K)(w:World):Ct Tryz.prog 105 #[.pointer (some ⟨c.t,c.o,none⟩),.int .i64 (at_:Nat),.int .i64 (d:Nat),kV f] w none' qtp (fun _=>True) (fun x=>qjj x c at_ d f):=by
 refine zes [_,_,_,_] Tryz.func105 rfl rfl ?_
 simp only[zaa,Nat.reduceAdd]
 refine goA ?_
 refine zc9 rfl rfl rfl fun b4 _=>?_
 refine zc9 rfl rfl rfl fun b5 _=>?_
 refine zc9 rfl rfl rfl fun b6 _=>?_
 refine zc9 rfl rfl rfl fun b7 _=>?_
 refine goA ?_
 refine l_w rfl (zhw rfl) ?_
 refine goA ?_
 refine zgf [1,3,2,0] rfl rfl ?_
 exact zbd (b6,b4,b5,b7) rfl rfl rfl trivial (.refl _) (zk3 _ c at_ d f)
variable{α:Type}{x:α}
theorem qk7{l k:List α}(h:(k++[x])<+:l)(m r:List α):(m++k++[x])<+:(m++l++r):=by
 obtain⟨t,ht⟩:=h
 exact⟨t++r,by simp[←ht]⟩
theorem zml{l:List α}{i:Nat}(h:l[i]? =some x):l.take i++[x]=l.take (i+1):=by rw[cV,h];rfl
theorem qsf{σ:Type}{Y:σ→Eng.Item}(h:∀s,(Y s).Stable none')(c:Tc)(root:Int)(s':σ){z:Pg}:∀it∈Y s'::[tmI c root z],it.Stable none':=by
 intro it hm
 rcases hm with _|⟨_,hm⟩
 ·exact h _
 ·exact zag c root z it hm
theorem qal(A:List α)(y p:α)(r:List α):(A++y::p::r).Perm (y::p::(A++r)):=bM.trans (.cons _ bM)
theorem qjk(c:Tc)(root:Int)(g:Sg)(f:K):∀(d at_:Nat) (xs:E) (s:Pg) (x:Nat×Nat×Nat×Nat),d≤16→Tok c g s→qp4 c.sh c.N g f d at_ xs→
  qne Tryz.prog 154 (qsi x) (qjj x c at_ d f++[tmI c root s]) (fun s':Pg=>[tmI c root s']) (fun s'=>Tok c g s') (fun k y=>(k++[y])<+:xs) (fun k=>k=xs) (fun y=>[kV y.1,kV y.2]):=by
 intro d
 induction d with
 |zero=>exact fun at_ xs s x _ _ h=>h.elim
 |succ d ih=>
  rintro at_ xs s ⟨b1,b2,b3,b4⟩ hd h ⟨n,h1,hcase⟩
  obtain⟨hmay, -⟩:=zgi h1
  obtain⟨hnb,hb1,hb2,hb3⟩:=zku h.sh hmay
  refine qki _ _ _ _ _ _ _ Tryz.func154 rfl rfl ?_
  intro σ ly Y I J s0 w hst h0 hy
  simp only[qjj,aF,aJ,qsi]
  refine goA ?_
  refine zc9 rfl rfl rfl fun b5 _=>?_
  refine goA ?_
  refine lPu rfl (fun w1 hw1=>zvc oQ _ w1) ?_
  refine goA ?_
  refine zay [6,0,1,2,3,4,5] rfl rfl ?_
  refine lCu [tmI c root s] rfl (zag c root s) (fun w1 hw1 hh1 ha1=>zmz h root at_ h1 w1 hh1) fun⟨⟨s1,o⟩,hs1⟩=>?_
  have hs1:Tok c g s1:=hs1
  dsimp only
  unfold ndI
  simp only[aF,aJ]
  refine goA ?_
  refine zam rfl rfl fun b6 hb6=>?_
  refine za1 rfl (zaf (cs':=ndO n o) rfl rfl rfl rfl (zdl n o) rfl) fun _=>?_
  rcases hcase with ⟨hlf,rfl⟩ |⟨hlf,L,hL1,hL2,rfl⟩
  ·obtain⟨-,hkv, -, -⟩:=hmay.leaf hlf
   refine goA ?_
   rw[hlf]
   refine goA ?_
   refine lPu rfl (fun w1 hw1=>zl0 hmay hb1 f w1 (zdw hw1 mm mm mm)) ?_
   refine goA ?_
   refine zhm (fun w hw=>And.intro (zas (hw.item (own 9 1 o.k n.keys.length (n.keys.map kV)) mm).1).1 (And.intro (zas (hw.item (own 9 1 o.v n.vals.length (n.vals.map kV)) mm).1).1 (zas (hw.item (own 3 1 o.d n.kids.length (n.kids.map iV)) mm).1).1)) fun⟨f1,f2,f3⟩=>?_
   obtain⟨zs,hzs⟩:∃zs,(n.keys.zip n.vals).drop (lb n.keys f)=zs:=⟨_,rfl⟩
   rw[hzs]
   have hlb:=qkn n.keys f
   have hzl:zs.length=n.keys.length - lb n.keys f:=by rw[←hzs,aX,jX,←hkv,lB]
   refine zc0 (α:=Nat×σ) (fun y=>[(5,.pointer (some ⟨b5,0,none⟩)),(6,.pointer (some ⟨b6,0,none⟩)),(7,.int .i64 ((lb n.keys f+y.1:Nat):Int))]) (fun y=>y.1≤zs.length∧I (zs.take y.1) y.2) (fun y=>[Y y.2,pt b6 (.cells #[.bool true,.slice (slA o.k) n.keys.length (slC o.k),.slice (slA o.v) n.vals.length (slC o.v),.slice (slA o.d) n.kids.length (slC o.d)] 185 (0,0)),tmI c root s1,own 9 1 o.k n.keys.length (n.keys.map kV),own 9 1 o.v n.vals.length (n.vals.map kV),pt b5 (.cells #[.func (.yield ly) #[] #[]] 114 (0,0))]) (fun y=>zs.length - y.1) (0,s0) ⟨rfl,rfl,rfl,trivial⟩ ⟨aZ _,h0⟩ (fun w' hw'=>by unfold ndO at hw';rw[f1,f2,f3,hlf]at hw';exact hw'.pick [6,0,1,2,3,5] rfl rfl) fun⟨i,st⟩ ⟨hi,hI⟩=>?_
   simp only at hi hI⊢
   by_cases hlt:lb n.keys f+i<n.keys.length
   ·refine zhm (fun w hw=>And.intro (zdj (hw.item (own 9 1 o.k n.keys.length (n.keys.map kV)) mm).1 oQ) (zdj (hw.item (own 9 1 o.v n.vals.length (n.vals.map kV)) mm).1 oQ)) fun⟨⟨kb,kc,e⟩,⟨vb,vc,e'⟩⟩=>?_
    obtain⟨ok,ov',od⟩:=o
    simp only at e e'⊢
    subst e
    subst e'
    simp only[qtz,qt0]
    obtain⟨y,hy1⟩:∃y,zs[i]? =some y:=⟨_,aB oQ⟩
    have hkq:n.keys[lb n.keys f+i]? =some y.1∧n.vals[lb n.keys f+i]? =some y.2:=by
     rw[←hzs,eG,List.getElem?_zip_eq_some]at hy1
     exact hy1
    refine goA ?_
    refine qik [1,2,3,4,5] rfl rfl kQ ?_
    refine zje (i:=0) rfl kQ (fun w hw=>hw.pick [1,2,3,4,5] rfl rfl) rfl (zrb rfl rfl mm rfl) ?_
    refine zje (i:=1) rfl kQ (fun w hw=>hw.pick [1,2,3,4,5] rfl rfl) rfl (zea rfl rfl) ?_
    refine zje (i:=2) rfl kQ (fun w hw=>hw.pick [1,2,3,4,5] rfl rfl) rfl (zrb rfl rfl (.head _) rfl) ?_
    refine zje (i:=3) rfl kQ (fun w hw=>hw.pick [1,2,3,4,5] rfl rfl) rfl (zi4 rfl) ?_
    refine zje (i:=4) rfl kQ (fun w hw=>hw.pick [1,2,3,4,5] rfl rfl) rfl (zra rfl rfl rfl hlt) ?_
    refine zje (i:=5) rfl kQ (fun w hw=>hw.pick [1,2,3,4,5] rfl rfl) rfl (zrc (v:=kV y.1) rfl rfl (.tail _ (.tail _ (.head _))) (by rw[aO,aH,hkq.1];rfl)) ?_
    refine zje (i:=6) rfl kQ (fun w hw=>hw.pick [1,2,3,4,5] rfl rfl) rfl (zea rfl rfl) ?_
    refine zje (i:=7) rfl kQ (fun w hw=>hw.pick [1,2,3,4,5] rfl rfl) rfl (zrb rfl rfl (.head _) rfl) ?_
    refine zje (i:=8) rfl kQ (fun w hw=>hw.pick [1,2,3,4,5] rfl rfl) rfl (zi4 rfl) ?_
    refine zje (i:=9) rfl kQ (fun w hw=>hw.pick [1,2,3,4,5] rfl rfl) rfl (zra rfl rfl rfl oQ) ?_
    refine zje (i:=10) rfl kQ (fun w hw=>hw.pick [1,2,3,4,5] rfl rfl) rfl (zrc (v:=kV y.2) rfl rfl (.tail _ (.tail _ (.tail _ (.head _)))) (by rw[aO,aH,hkq.2];rfl)) ?_
    refine qjb (i:=11) kQ rfl rfl rfl rfl (hst st) (hy (zs.take i) y st (by rw[zml hy1,hzs];exact List.take_prefix _ _) hI) (fun s' w hw=>hw.pick [1,2,3,4,5] rfl rfl) fun b s' hR=>?_
    refine zje (i:=12) rfl kQ (fun w hw=>hw.pick [1,2,3,4,5] rfl rfl) rfl (ov fun _ _ _ _ _=>rfl) ?_
    refine qsb kQ ?_
    rw[zml hy1]at hR
    rcases hR with ⟨rfl,h8⟩ |⟨rfl,h8⟩
    ·refine goA ?_
     exact zaw (i+1,s') ⟨rfl,rfl,rfl,trivial⟩ ⟨by simp only;omega,h8⟩ (fun w hw=>hw) (by simp only;omega)
    ·refine goA ?_
     refine zri ?_
     exact qa8 s' s1 rfl hs1 (.inr h8) (qsf hst _ _ _) (.cons_cons _ (.cons _ (.cons_cons _ (aK _))))
   ·refine goA ?_
    refine zri ?_
    have he:zs.take i=zs:=bJ oQ
    rw[he]at hI
    exact qa8 st s1 rfl hs1 (.inl ⟨_,rfl,hI⟩) (qsf hst _ _ _) (.cons_cons _ (.cons _ (.cons_cons _ (aK _))))
  ·obtain⟨hkr,hvs,hkl1,hk1, -⟩:=hmay.inner hlf
   have hdn:=zoh n.keys f
   refine zch (fun w hw=>And.intro (zdj (hw.item (own 3 1 o.d n.kids.length (n.kids.map iV)) mm).1 oQ) (And.intro (zas (hw.item (own 3 1 o.d n.kids.length (n.kids.map iV)) mm).1).2 (And.intro (zas (hw.item (own 9 1 o.k n.keys.length (n.keys.map kV)) mm).1).1 (zas (hw.item (own 9 1 o.v n.vals.length (n.vals.map kV)) mm).1).1))) fun⟨⟨db,dc,e⟩,hdc,f1,f2⟩=>?_
   obtain⟨ok,ov',od⟩:=o
   simp only at e hdc f1 f2⊢
   subst e
   have hdc:n.kids.length≤dc:=hdc
   refine goA ?_
   rw[hlf]
   refine goA ?_
   refine zcx [6,0,1,5,7,8,10,2,3,4] rfl rfl ?_
   refine zap [0,1,2,3,4,5,6,7,8,9] 8 rfl rfl kQ ?_
   refine goE ?_
   refine dPu 4 rfl rfl (fun w1 hw1=>zoq (o:=⟨ok,ov',some (db,dc)⟩) hmay hb1 f w1 (zdw hw1 mm mm mm)) ?_
   refine goV rfl rfl (qr3 (i:=dn n.keys f) rfl rfl rfl rfl oQ) ?_
   refine goE ?_
   refine zdn kQ ?_
   rw[zcf oQ,aH,bO]
   refine goA ?_
   have hLl:L.length=n.kids.length - dn n.keys f:=by have:=congrArg List.length hL1;simpa using this
   refine qro (α:=List Nat×Nat×σ×Pg) (fun y=>⟨Tryz.f154.ntmps,y.1.map zel,none⟩) (fun y=>[(1,.pointer (some ⟨b1,0,none⟩)),(2,.pointer (some ⟨b2,0,none⟩)),(4,.pointer (some ⟨b4,0,none⟩)),(5,.pointer (some ⟨b5,0,none⟩)),(52,.slice (some ⟨db,dn n.keys f,none⟩) (n.kids.length - dn n.keys f) (dc - dn n.keys f)),(53,.int .i64 ((n.kids.length - dn n.keys f:Nat):Int)),(54,.int .i64 (y.2.1:Nat))]) (fun y=>y.2.1≤L.length∧Tok c g y.2.2.2∧I ((L.take y.2.1).flatMap (·.2)) y.2.2.1) (fun y=>Y y.2.2.1::pt b5 (.cells #[.func (.yield ly) #[] #[]] 114 (0,0))::tmI c root y.2.2.2::pt b1 (.cells #[.int .i64 ((d+1:Nat):Int)] 3 (0,0))::pt b2 (.cells #[.pointer (some ⟨c.t,c.o,none⟩)] 137 (0,0))::pt b4 (.cells #[kV f] 9 (0,0))::own 3 1 (some (db,dc)) n.kids.length (n.kids.map iV)::y.1.map zry) (fun y=>L.length - y.2.1) ([],0,s0,s1) rfl (fun _=>rfl) ⟨rfl,rfl,rfl,rfl,rfl,rfl,rfl,trivial⟩ ⟨aZ _,hs1,h0⟩ (fun w' hw'=>hw'.pick [0,3,2,4,5,6,9] rfl rfl) fun⟨ds,j,st,z⟩ ⟨hj,hz,hI⟩=>?_
   simp only at hj hz hI⊢
   by_cases hlt:j<n.kids.length - dn n.keys f
   ·obtain⟨y,hy1⟩:∃y,L[j]? =some y:=⟨_,aB oQ⟩
    have hkq:n.kids[dn n.keys f+j]? =some y.1:=by rw[←eG,←hL1,aO,hy1];rfl
    have hsp:L.flatMap (·.2)=(L.take j).flatMap (·.2)++y.2++(L.drop (j+1)).flatMap (·.2):=by
     have h2:(L.take (j+1)).flatMap (·.2)=(L.take j).flatMap (·.2)++y.2:=by rw[←zml hy1];simp
     rw[←h2,←bB,bF]
    refine goA ?_
    refine l_w rfl (zrc (v:=.int .i64 (y.1:Int)) rfl rfl (.tail _ (.tail _ (.tail _ (.tail _ (.tail _ (.tail _ (.head _))))))) (by rw[aO,hkq];rfl)) ?_
    refine goA ?_
    rw[show d+1 - 1=d by omega]
    refine zdy rfl rfl kQ rfl (fun w1 hw1=>zr9 c y.1 d f w1) fun x hx=>?_
    refine goA ?_
    refine ztn (m':=[Y st,pt b5 (.cells #[.func (.yield ly) #[] #[]] 114 (0,0))]++((qjj x c y.1 d f++[tmI c root z])++(pt b1 (.cells #[.int .i64 ((d+1:Nat):Int)] 3 (0,0))::pt b2 (.cells #[.pointer (some ⟨c.t,c.o,none⟩)] 137 (0,0))::pt b4 (.cells #[kV f] 9 (0,0))::own 3 1 (some (db,dc)) n.kids.length (n.kids.map iV)::ds.map zry))) ((qal (qjj x c y.1 d f) _ _ _).trans (by simp only[aF,aJ,aG];exact .refl _)) ?_
    refine qcw (fun st=>[Y st,pt b5 (.cells #[.func (.yield ly) #[] #[]] 114 (0,0))]) (fun k st=>I ((L.take j).flatMap (·.2)++k) st) (fun e st=>e= .ret∧J st) st rfl rfl kQ (ih y.1 y.2 z x oQ hz (hL2 y (bI hy1))) (fun _=>rfl) dQ (fun s=>by
     intro it hm
     rcases hm with _|⟨_,_|⟨_,hm⟩⟩
     ·exact hst s
     ·exact zab _ _ _
     ·cases hm) (fun it hm=>by
     rcases aR.1 hm with hm|hm
     ·exact zk3 _ _ _ _ _ it hm
     ·exact zag _ _ _ it hm) (by rw[bC];exact hI) ?_ ?_ ?_
    ·rintro ly2 rc k y1 st1 W hx1 hk
     simp only[zn8,gG,iD]
     refine goA ?_
     refine qly ?_
     refine goA ?_
     refine zay [1,0,2] rfl rfl ?_
     refine zz8 rfl rfl rfl rfl (hst st1) (hy _ y1 st1 (by rw[hsp];exact qk7 hx1 _ _) hk) fun b s' hR=>?_
     rcases hR with ⟨rfl,h8⟩ |⟨rfl,h8⟩
     ·refine goA ?_
      refine zgf [1,0,2] rfl rfl ?_
      exact ztw .normal none rfl s' (by rw[aG]at h8;exact h8) (.refl _) (by simp[hst,zab])
     ·refine goA ?_
      refine zgf [1,0,2] rfl rfl ?_
      exact ztw .ret (some .ret) rfl s' ⟨rfl,h8⟩ (.refl _) (by simp[hst,zab])
    ·rintro D k st2 z2 hz2 rfl h8
     refine goA ?_
     exact ql1 (D::ds,j+1,st2,z2) rfl ⟨rfl,rfl,rfl,rfl,rfl,rfl,rfl,trivial⟩ ⟨by simp only;omega,hz2,by simp only;rw[←zml hy1,bB];simpa using h8⟩ (fun w' hw'=>hw'.perm (bM (l₁:=[_,_,_,_,_,_,_])).symm) (by simp only;omega)
    ·rintro D e st2 z2 hz2 ⟨rfl,h8⟩
     refine goA ?_
     refine zbr (fun w' hw'=>hw'.perm (.cons _ (cW (l₁:=[_,_,_,_,_,_,_]) (l₂:=ds.map zry)))) ?_
     exact qa9 (D::ds) (qa8 st2 z2 rfl hz2 (.inr h8) (qsf hst _ _ _) (.cons_cons _ (.cons _ (.cons_cons _ (aK _)))))
   ·refine goA ?_
    refine zbr (fun w' hw'=>hw'.perm (cW (l₁:=[_,_,_,_,_,_,_]) (l₂:=ds.map zry))) ?_
    rw[bJ oQ]at hI
    exact ql0 ds (qlz st z rfl hz (.inl ⟨_,rfl,hI⟩) (qsf hst _ _ _) (.cons_cons _ (.cons _ (.cons_cons _ (aK _)))))
end Go.Proofs.YthafakdplhdfjaaGreatDoor
