/- Parts: package pages; The plain law of the log; The plain law of the store; The document's pages. No condition. -/
import Derived.Test.YthafakdplhdfjaaGreatDoorHf10
import Derived.Test.YthafakdplhdfjaaGreatDoorHf08
set_option maxRecDepth 100000
set_option maxHeartbeats 40000000
namespace Go.Proofs.YthafakdplhdfjaaGreatDoor
open Go.RowKit Go.Eng Go.Eng.Bm
def wsO(secs:Nat)(TS:List PR):List (Nat×Bys):=TS.flatMap fun R=>wsP secs (zmv [] R)
def opF(D:Dsk)(g:Lg)(TS:List PR):Nat×Dsk×Lg:=
 if (zbb D (wsO g.h.secs TS)).1=0 then ftF (zbb D (wsO g.h.secs TS)).2 g else((zbb D (wsO g.h.secs TS)).1,(zbb D (wsO g.h.secs TS)).2,g)
theorem qc3:∀(l l':List (Nat×Bys)) (D:Dsk),zbb D (l++l')=if (zbb D l).1=0 then zbb (zbb D l).2 l' else zbb D l
 | [],l',D=>by rw[aJ];rfl
 |q::l,l',D=>by
  rw[aF,zbb,zbb]
  by_cases h:(zbz D q.1 q.2).1=0
  ·rw[if_pos h,if_pos h,qc3 l]
  ·rw[if_neg h,if_neg h,if_neg h]
theorem qgj{n:Nat}:∀{R A:PR},A.Ok n→R.Ok n→(zmv A R).Ok n
 | [],_,hA,_=>hA
 |p::R,A,hA,hR=>qgj (A:=zeb A p.1 p.2) (PR.Ok.ins hA (hR p (.head _)).1 (hR p (.head _)).2) fun q hq=>hR q (.tail _ hq)
theorem qkb{β:Type}(B:List (Nat×β))(h:Nat)(s:β):(zeb B h s).length≤B.length+1:=by
 unfold zeb
 split
 ·rw[aD];omega
 ·rw[aA];exact bA _
theorem zz2:∀(R A:PR),(zmv A R).length≤A.length+R.length
 | [],_=>bA _
 |p::R,A=>by
  have h1:=zz2 R (zeb A p.1 p.2)
  have h2:=qkb A p.1 p.2
  show(zmv (zeb A p.1 p.2) R).length≤_
  rw[aW]
  omega
theorem qss{D:Dsk}{g:Lg}(hD:D.Ok)(h:(ftF D g).1=0):(ftF D g).2.1.Ok∧(ftF D g).2.1.dead=false∧(ftF D g).2.1.wait=[]∧(ftF D g).2.1.on.length=D.on.length∧(ftF D g).2.2={ g with h:=zbk g,at_:=zaz g.at_,used:=0,dead:=false }:=by
 unfold ftF at h⊢
 by_cases e1:(zbi D).1=0
 ·rw[if_pos e1]at h⊢
  simp only at h⊢
  have h1:=zfr hD
  obtain⟨h2,h3⟩:=zms e1
  generalize (zbi D).2=D1 at h h1 h2 h3⊢
  unfold zjd
  rw[if_pos h,h]
  unfold zbc at h⊢
  by_cases e2:(zbz D1 (zaz g.at_) (hdP (zbk g))).1=0
  ·rw[if_pos e2]at h⊢
   obtain⟨w1, -, -,w4, -⟩:=zj9 h1 _ _ e2
   obtain⟨f1,f2⟩:=zms h
   exact⟨zfr w1,f1,(zgs h).2,by rw[f2,w4,h3],rfl⟩
  ·rw[if_neg e2]at h
   exact absurd h e2
 ·rw[if_neg e1]at h
  exact absurd h e1
abbrev qij(TS:List PR):List Value:=zr4 (TS.map zc7)
structure Opd (s:Pg) (D:Dsk) (g:Lg) (n:Nat) (note:Bys):Prop where
 hg:s.g=g
 hn:s.n=n
 hnote:s.note=note
 hK:s.K=[(0,zcn D (2+g.h.secs))]
 hR:s.R=[]
 hC:s.C=[]
 hdead:s.dead=false
theorem qi5{secs n:Nat}:∀{TS:List PR},(∀R∈TS,R.Ok n∧R.length≤1024)→(wsO secs TS).length≤1024*TS.length
 | [],_=>aZ _
 |R::TS,h=>by
  have h1:=qi5 (secs:=secs) (TS:=TS) fun R hR=>h R (.tail _ hR)
  have h2:=zz2 R []
  have h3:=(h R (.head _)).2
  have h4:(wsP secs (zmv [] R)).length=(zmv [] R).length:=by rw[wsP,aD,zb2,aD,zhk,aD]
  unfold wsO at h1⊢
  rw[aV,aA,aW,h4]
  simp at h2
  omega
theorem zwc(secs:Nat)(TS:List PR)(R:PR):wsO secs (TS++[R])=wsO secs TS++wsP secs (zmv [] R):=by simp[wsO]
theorem zx9(d:Dk)(ok:d.D.Ok)(hlive:d.D.dead=false)(hkl:d.D.keep.length≤1000000)(hwl:d.D.wait.length≤10000)(h2:2≤d.D.on.length)(h:Hd)(c:Nat)(hc:c=0∨c=1)(hlk:zdo d.D 2=(h,(c:Int)))(ho:h.Ok)(hs1:1≤h.secs)(hs2:h.secs≤512)
  (hne:∀p∈zbm d.D h.secs h.secs,p.2.text.length≤497∧p.2.text≠[]) (n:Nat) (note:Bys) (hnote:h.note=beN 2 n++note) (hn1:64≤n) (hn2:n≤1024) (hno:note.length≤40) (hroom:2+h.secs+n≤d.D.on.length)
  (TS:List PR) (hTS:zvk d.D h=TS.map zc7) (hTO:∀R∈TS,R.Ok n∧R.length≤1024) (hTl:TS.length≤512) (S:Nat→Bool) (hU:(opF d.D (zcz d.D h c) TS).1=0→zcn (opF d.D (zcz d.D h c) TS).2.1 (2+h.secs)=bmB n S∧zrl n S∧S 0=true):
  Cw Tryz.prog 74 #[.pointer (some ⟨d.b,0,none⟩)] [dkI d,ctI] (fun x:Dk×Pg=>.tuple #[.pointer (if (opF d.D (zcz d.D h c) TS).1=0 then some ⟨x.2.b,0,none⟩else none),.int .i64 ((opF d.D (zcz d.D h c) TS).1:Nat)])
   (fun x=>zfz d (opF d.D (zcz d.D h c) TS).2.1 x.1∧((opF d.D (zcz d.D h c) TS).1=0→Opd x.2 (opF d.D (zcz d.D h c) TS).2.1 (opF d.D (zcz d.D h c) TS).2.2 n note))
   (fun x=>if (opF d.D (zcz d.D h c) TS).1=0 then[pgI x.2 x.1,dkI x.1,ctI]else[dkI x.1,ctI]):=by
 intro w hw ha
 refine za2 [_] _ Tryz.func74 rfl rfl hw ha ?_
 have hsecs:=ho.secs
 simp only[zaa]
 refine goA ?_
 refine zeh rfl (zfb (pre:=[dkI d,ctI]) (m:=[]) rfl kQ rfl (zbo d) (fun w1 hw1 hh1 ha1=>qa3 d ok hlive oQ h2 h c hlk ho.first hs1 oQ hne w1 hh1 ha1)) fun⟨⟨bl,so⟩,_⟩=>?_
 rw[hTS]
 dsimp only
 refine goA ?_
 refine za1 rfl (zgu (q:=.i64) rfl) fun⟨kb,hkb⟩=>?_
 refine za1 rfl (zgu (q:=.i64) rfl) fun⟨db,hdb⟩=>?_
 refine za1 rfl (zgu (q:=.i64) rfl) fun⟨cb,hcb⟩=>?_
 refine goA ?_
 obtain⟨g0,hg0⟩:∃g0,zcz d.D h c=g0:=⟨_,rfl⟩
 have hgh:g0.h=h:=by rw[←hg0];rfl
 have hgat:g0.at_=c:=by rw[←hg0];rfl
 have hgdd:g0.dead=false:=by rw[←hg0];rfl
 have hgnx:g0.next<18446744073709551616:=by rw[←hg0];exact qb1 ho.first
 rw[hg0]at hU⊢
 refine zd2 31 _ (.agg (pgA ⟨0,bl,kb,db,cb,g0,0,[],[],[],[],false⟩ d)) rfl rfl ?_
 refine zbp rfl rfl fun b hb=>?_
 refine zcy (m':=pgL ⟨b,bl,kb,db,cb,g0,0,[],[],[],[],false⟩ d++[own 9 1 so TS.length (qij TS),dkI d,ctI]) (fun w' hw'=>by rw[aD]at hw';exact hw'.pick [0,4,3,2,1,5,6,7] rfl rfl) ?_
 unfold pgL
 dsimp only
 rw[aD]
 refine goA ?_
 refine lPu rfl (fun w1 hw1=>zxo bl d g0 w1 (zbq.of (hw1.item (lgI bl d g0) sQ) (zab _ _ _))) ?_
 rw[hgh,hnote]
 have htxl:(beN 2 n++note).length≤42:=by rw[aA,zal];omega
 have e1:opN 2 (beN 2 n++note,false)=(n,(note,false)):=zgc oQ _
 have e2:opT note.length (note,false)=(note,([],false)):=by have:=zqb note [];rw[bC]at this;exact this
 obtain⟨tx,htx⟩:∃tx,beN 2 n++note=tx:=⟨_,rfl⟩
 rw[htx]at htxl e1⊢
 refine za1 rfl (zs3 rfl rfl rfl rfl) fun⟨p1,_,_⟩=>?_
 dsimp only
 rw[bal]
 refine goA ?_
 refine zdy rfl rfl kQ rfl (fun w1 hw1=>zih (some ⟨p1.1,0,none⟩) tx.length p1.2 tx rfl oQ w1 (.inr ⟨p1.1,0,rfl,zib (hw1.item (zmk 5 tx p1.1 p1.2) (.head _)).1⟩)) fun x hx=>?_
 obtain⟨ob,oD⟩:=x
 simp only at hx⊢
 have hsD:(own 5 1 oD tx.length (zae tx)).Stable none':=zac _ _ _ _ _ _
 generalize own 5 1 oD tx.length (zae tx)=D at hx hsD
 refine goA ?_
 refine lCu [opI ob (slA oD) (slC oD) (tx,false),D] rfl (by simp[zak,hsD]) (fun w1 hw1 hh1 ha1=>zhh n (note,false) e1 hsD hx (.inr (.inl rfl)) (by simp only;omega) hh1 ha1) fun⟨y1,hy1⟩=>?_
 simp only at hy1
 dsimp only
 refine goA ?_
 refine za1 rfl (zah (zfq _ _ _ _ _) (zai rfl rfl rfl rfl rfl rfl (show(2:Nat)<8 from dQ))) fun _=>?_
 refine zcy (m':=[opI ob y1.1 y1.2 (note,false),D,pgC ⟨b,bl,kb,db,cb,g0,n,[],[],[],[],false⟩ d,lgI bl d g0,zck .i64 kb (toP []),zck .i64 db (toB []),zck .i64 cb (toP []),own 9 1 so TS.length (qij TS),dkI d,ctI]) (fun w' hw'=>hw'.pick [1,2,0,4,5,6,7,8,9,10] rfl rfl) ?_
 refine goA ?_
 refine lPu rfl (fun w1 hw1=>zgt ob y1.1 y1.2 (note,false) w1 (zbq.of (hw1.item (opI ob y1.1 y1.2 (note,false)) (.head _)) (zak _ _ _ _))) ?_
 refine lCu [opI ob y1.1 y1.2 (note,false),D] rfl (by simp[zak,hsD]) (fun w1 hw1 hh1 ha1=>zp7 note ([],false) e2 hsD hy1 (by simp only;omega) hh1 ha1) fun⟨y2,hy2⟩=>?_
 dsimp only
 refine goA ?_
 refine za1 rfl (zah (zdf _ _ _ _) (zai rfl rfl rfl rfl rfl rfl (show(3:Nat)<8 from dQ))) fun _=>?_
 refine zcy (m':=[opI ob y2.1 y2.2 ([],false),pgC ⟨b,bl,kb,db,cb,g0,n,note,[],[],[],false⟩ d,lgI bl d g0,zck .i64 kb (toP []),zck .i64 db (toB []),zck .i64 cb (toP []),own 9 1 so TS.length (qij TS),dkI d,ctI]) (fun w' hw'=>hw'.pick [1,0,3,4,5,6,7,8,9] rfl rfl) ?_
 refine goA ?_
 refine lPu rfl (fun w1 hw1=>zwz ob y2.1 y2.2 ([],false) w1 (zbq.of (hw1.item (opI ob y2.1 y2.2 ([],false)) (.head _)) (zak _ _ _ _))) ?_
 rw[if_pos rfl]
 obtain⟨s0,hs0⟩:∃s0:Pg,s0=⟨b,bl,kb,db,cb,g0,n,note,[],[],[],false⟩:=⟨_,rfl⟩
 refine zcy (m':=[pgI s0 d,dkI d,ctI,own 9 1 so TS.length (qij TS)]) (fun w' hw'=>by rw[hs0];exact zdm (s:=⟨b,bl,kb,db,cb,g0,n,note,[],[],[],false⟩) (m:=[dkI d,ctI,own 9 1 so TS.length (qij TS)]) (hw'.pick [1,2,3,4,5,7,8,6] rfl rfl)) ?_
 have hsb:s0.b=b:=by rw[hs0]
 have hsn:s0.n=n:=by rw[hs0]
 have hsg:s0.g=g0:=by rw[hs0]
 have hsnote:s0.note=note:=by rw[hs0]
 have hpg:∀{m:List Eng.Item} {w1:World},Hp w (za4 [dkI d,ctI]) (pgI s0 d::m) w1→zbq (pgI s0 d) w1:=fun hw1=>zbq.of (hw1.item (pgI s0 d) (.head _)) (zbv s0 d)
 rw[←hsb]
 refine goA ?_
 refine l_w rfl (za0 (v:=.int .i64 (n:Int)) rfl rfl (fun w' hw'=>zkv (hpg hw') 2 (by rw[←hsn];rfl))) ?_
 refine goA ?_
 refine l_w rfl (za0 (v:=.int .i64 (n:Int)) rfl rfl (fun w' hw'=>zkv (hpg hw') 2 (by rw[←hsn];rfl))) ?_
 refine goA ?_
 refine lPu rfl (fun w1 hw1=>zr0 s0 d oQ (by rw[hsg,hgh];exact hsecs) w1 (hpg hw1)) ?_
 rw[hsg,hgh,hsn]
 refine goA ?_
 refine lPu rfl (fun w1 hw1=>zhy d w1 (zbq.of (hw1.item (dkI d) sQ) (zad _))) ?_
 refine goA ?_
 refine l_w rfl (za0 (v:=.string ⟨note.toArray⟩) rfl rfl (fun w' hw'=>zkv (hpg hw') 3 (by rw[←hsnote];rfl))) ?_
 have hbn:=bal note
 refine goA ?_
 refine zch (fun w hw=>(zas (hw.item (own 9 1 so TS.length (qij TS)) sQ).1)) fun⟨hsl,_⟩=>?_
 rw[hsl]
 refine goA ?_
 have hpre:∀k,k≤TS.length→(wsO h.secs (TS.take k)).length≤1024*512:=fun k hk=>by
  have:=qi5 (secs:=h.secs) (TS:=TS.take k) fun R hR=>hTO R (bY hR)
  rw[aM]at this
  omega
 have hstp:∀k (hk:k<TS.length),wsO h.secs (TS.take (k+1))=wsO h.secs (TS.take k)++wsP h.secs (zmv [] TS[k]):=fun k hk=>by
  rw[dA hk,zwc]
 have hbad:∀k (hk:k<TS.length),(zbb d.D (wsO h.secs (TS.take (k+1)))).1≠0→zbb d.D (wsO h.secs TS)=zbb d.D (wsO h.secs (TS.take (k+1))):=fun k hk he=>by
  have h1:wsO h.secs TS=wsO h.secs (TS.take (k+1))++wsO h.secs (TS.drop (k+1)):=by
   unfold wsO
   rw[←bB,bF]
  rw[h1]
  exact zmp _ _ d.D he
 have hall:wsO h.secs (TS.take TS.length)=wsO h.secs TS:=by rw[gD]
 have hopF:opF d.D g0 TS=if (zbb d.D (wsO h.secs TS)).1=0 then ftF (zbb d.D (wsO h.secs TS)).2 g0 else((zbb d.D (wsO h.secs TS)).1,(zbb d.D (wsO h.secs TS)).2,g0):=by rw[opF,hgh]
 refine zc0 (α:=Nat×Dk) (fun y=>[(0,.pointer (some ⟨d.b,0,none⟩)),(4,.pointer (some ⟨bl,0,none⟩)),(7,.pointer (some ⟨s0.b,0,none⟩)),(82,.slice (slA so) TS.length (slC so)),(83,.int .i64 TS.length),(84,.int .i64 y.1)]) (fun y=>y.1≤TS.length∧(zbb d.D (wsO h.secs (TS.take y.1))).1=0∧zfz d (zbb d.D (wsO h.secs (TS.take y.1))).2 y.2) (fun y=>[pgI s0 y.2,dkI y.2,ctI,own 9 1 so TS.length (qij TS)]) (fun y=>TS.length - y.1) (0,d) ⟨rfl,rfl,rfl,rfl,rfl,rfl,trivial⟩ ⟨aZ _,rfl,rfl,rfl,rfl⟩ (fun w hw=>hw) fun⟨k,d1⟩ ⟨hk,h0,hd1⟩=>?_
 simp only at hk h0 hd1⊢
 by_cases hkn:k<TS.length
 ·have hst:=hstp k hkn
  have hbad2:=hbad k hkn
  have hpk:=hpre k oQ
  have hpk2:=hpre (k+1) hkn
  have hRO:=hTO TS[k] (aT hkn)
  have hstr:(qij TS)[k]? =some (.string ⟨(zc7 TS[k]).toArray⟩):=by simp[qij,zr4,hkn]
  generalize TS[k]=R at hst hRO hstr
  obtain⟨hkk1,hkk2⟩:=ze7 (wsO h.secs (TS.take k)) d.D ok h0
  have hokd:=zf7 (wsO h.secs (TS.take k)) d.D ok
  have hwr:zbb d.D (wsO h.secs (TS.take (k+1)))=zbb (zbb d.D (wsO h.secs (TS.take k))).2 (wsP h.secs (zmv [] R)):=by rw[hst,qc3,if_pos h0]
  generalize zbb d.D (wsO h.secs (TS.take k))=r at*
  obtain⟨hd1a,hd1b,hd1c⟩:=hd1
  rw[←hd1c]at hkk1 hkk2 hokd hwr
  have hil:=zz2 R []
  have hio:=qgj (n:=n) (A:=[]) (fun _ h=>nomatch h) hRO.1
  rcases so with _|⟨sob,soc⟩
  ·refine zhm (fun w hw=>(hw.item (own 9 1 none TS.length (qij TS)) sQ).1.2) fun h=>?_
   exact absurd h oQ
  have hcell:∀{m:List Eng.Item} {w2:World} {F2:Nat→Prop} (w':World),Hp w2 F2 m w'→own 9 1 (some (sob,soc)) TS.length (qij TS)∈m→w'.cell? ⟨sob,k,none⟩=some (.string ⟨(zc7 R).toArray⟩):=fun w' hw' hm=>zby (hw'.item _ hm).1 k _ hstr
  simp only[slA,slC]
  refine goA ?_
  refine l_w rfl (za0 (v:=.string ⟨(zc7 R).toArray⟩) rfl rfl (fun w' hw'=>by rw[aH];exact hcell w' hw' sQ)) ?_
  refine goA ?_
  refine zdy rfl rfl kQ rfl (fun w1 hw1=>zxf s0 d1 R oQ (by rw[hsn];exact hRO.1) oQ w1 (zbq.of (hw1.item (pgI s0 d1) sQ) (zbv _ _))) fun x hx=>?_
  refine goA ?_
  refine zay [2,1,0,3,4] rfl rfl ?_
  refine zeh rfl (zfb (pre:=[dkI d1,pgI s0 d1,zck .i64 x (toP (zmv [] R))]) rfl kQ rfl (ziz _ _ _ _) (val:=fun _:Dk=>.int .i64 ((zbb d.D (wsO h.secs (TS.take (k+1)))).1:Nat)) (φ:=zfz d1 (zbb d.D (wsO h.secs (TS.take (k+1)))).2) (its:=fun d'=>[dkI d',pgI s0 d',zck .i64 x (toP (zmv [] R))]) (fun w1 hw1 hh1 ha1=>by
   have hq:=zmo s0 d1 x (zmv [] R) hokd (by rw[hkk1];exact hkl) (by rw[hkk2];simp at hil;omega) oQ (by rw[hsg,hgh];exact hsecs) (by rw[hsn];exact hio) w1 hh1 ha1
   rw[hsg,hgh,←hwr]at hq
   exact hq)) fun⟨d2,hd2⟩=>?_
  dsimp only
  have hok2:zfz d (zbb d.D (wsO h.secs (TS.take (k+1)))).2 d2:=⟨hd2.1.trans hd1a,hd2.2.1.trans hd1b,hd2.2.2⟩
  refine goA ?_
  by_cases he:(zbb d.D (wsO h.secs (TS.take (k+1)))).1=0
  ·have hne:(((zbb d.D (wsO h.secs (TS.take (k+1)))).1:Int) != 0)=false:=by simp[he]
   rw[hne]
   refine goA ?_
   exact zaw (k+1,d2) ⟨rfl,rfl,rfl,rfl,rfl,rfl,trivial⟩ ⟨hkn,he,hok2⟩ (fun w hw=>hw.pick [1,0,3,4] rfl rfl) (by show TS.length - (k+1)<TS.length - k;omega)
  ·have hne:(((zbb d.D (wsO h.secs (TS.take (k+1)))).1:Int) != 0)=true:=by simp[he]
   have hop:opF d.D g0 TS=((zbb d.D (wsO h.secs (TS.take (k+1)))).1,(zbb d.D (wsO h.secs (TS.take (k+1)))).2,g0):=by rw[hopF,hbad2 he,if_neg he]
   rw[hne]
   simp only[hop,if_neg he]
   refine goA ?_
   exact zc1 (d2,s0) rfl rfl rfl rfl ⟨hok2,fun h=>absurd h he⟩ (.cons_cons _ (.cons _ (.cons _ (.cons_cons _ (aK _))))) (zbo d2)
 ·obtain rfl:k=TS.length:=oQ
  rw[hall]at h0 hd1
  rw[if_pos h0]at hopF
  have hpl:=hpre TS.length (bA _)
  rw[hall]at hpl
  obtain⟨hkk1,hkk2⟩:=ze7 (wsO h.secs TS) d.D ok h0
  have hokd:=zf7 (wsO h.secs TS) d.D ok
  have hlen1:=zwb (wsO h.secs TS) d.D ok h0
  generalize zbb d.D (wsO h.secs TS)=r at*
  obtain⟨hd1a,hd1b,hd1c⟩:=hd1
  rw[←hd1c]at hkk1 hkk2 hokd hlen1 hopF
  have hsbl:s0.bl=bl:=by rw[hs0]
  have hs0C:s0.C=[]∧s0.K=[]∧s0.R=[]∧s0.dead=false:=by rw[hs0];exact⟨rfl,rfl,rfl,rfl⟩
  rw[hopF]at hU
  simp only[hopF]
  rw[←hd1a,←hsbl]
  refine goA ?_
  refine l_w rfl (qix (vs:=[.pointer (some ⟨d1.b,0,none⟩)]) rfl) ?_
  refine goA ?_
  refine l_w rfl (qix (vs:=[.pointer (some ⟨s0.bl,0,none⟩)]) rfl) ?_
  refine za1 rfl (za3 rfl rfl rfl rfl rfl rfl) fun⟨bq,hbq⟩=>?_
  refine zcy (m':=[pgI s0 d1,dkI d1,ctI,fvI bq 2 (ftV s0 d1)]) (fun w' hw'=>hw'.pick [1,2,3,0] rfl rfl) ?_
  refine zeh rfl (zfb (pre:=[pgI s0 d1,dkI d1,ctI,fvI bq 2 (ftV s0 d1)]) (m:=[]) rfl kQ rfl (by
   intro it hm
   rcases hm with _|⟨_,_|⟨_,_|⟨_,_|⟨_,hm⟩⟩⟩⟩
   ·exact zbv _ _
   ·exact zad _
   ·exact zcb _
   ·exact zac _ _ _ _ _ _
   ·exact nomatch hm) (val:=fun _:Dk=>.int .i64 ((ftF d1.D g0).1:Nat)) (φ:=zfz d1 (ftF d1.D g0).2.1) (its:=fun d'=>[pgI { s0 with g:=(ftF d1.D g0).2.2 } d',dkI d',ctI]) (fun w1 hw1 hh1 ha1=>by
   have hq:=qj6 s0 d1 bq hokd (by rw[hkk1];exact hkl) (by rw[hkk2];omega) (by rw[hsg,hgh];exact ho) (by rw[hsg];exact hgnx) (by rw[hsg,hgat];exact hc) (by rw[hsg];exact hgdd) w1 hh1 ha1
   rw[hsg]at hq
   exact hq)) fun⟨d3,hd3⟩=>?_
  have hok3:zfz d (ftF d1.D g0).2.1 d3:=⟨hd3.1.trans hd1a,hd3.2.1.trans hd1b,hd3.2.2⟩
  have hfo:=qss (g:=g0) hokd
  dsimp only
  refine goA ?_
  by_cases he:(ftF d1.D g0).1=0
  ·have hne:(((ftF d1.D g0).1:Int) != 0)=false:=by simp[he]
   obtain⟨f1,f2,f3,f4,f5⟩:=hfo he
   obtain⟨hu1,hu2,hu3⟩:=hU he
   rw[hne]
   simp only[if_pos he]
   rw[he]
   generalize ftF d1.D g0=r3 at*
   obtain⟨e3,D3,g3⟩:=r3
   simp only at f1 f2 f3 f4 f5 hu1 hok3⊢
   obtain⟨s1,hs1⟩:∃s1:Pg,s1={ s0 with g:=g3 }:=⟨_,rfl⟩
   refine zg8 (m':=[pgI s1 d3,dkI d3,ctI]) (fun w' hw'=>by rw[hs1];exact hw') ?_
   have hb1:s1.b=s0.b:=by rw[hs1]
   have hC1:s1.C=[]:=by rw[hs1];exact hs0C.1
   have hK1:s1.K=[]:=by rw[hs1];exact hs0C.2.1
   have hR1:s1.R=[]:=by rw[hs1];exact hs0C.2.2.1
   have hde1:s1.dead=false:=by rw[hs1];exact hs0C.2.2.2
   have hn1':s1.n=n:=by rw[hs1];exact hsn
   have hno1:s1.note=note:=by rw[hs1];exact hsnote
   have hg1:s1.g=g3:=by rw[hs1]
   have hsc1:s1.g.h.secs=h.secs:=by rw[hg1,f5];show g0.h.secs=h.secs;rw[hgh]
   have hD3:=hok3.2.2
   have hpb:pageB s1 d3.D 0=bmB s1.n S:=by
    unfold pageB
    rw[hC1,hK1,hsc1,hD3,hn1']
    exact hu1
   have hps:zb1 s1 d3.D 0={ s1 with K:=[(0,zcn D3 (2+g3.h.secs))] }:=by
    unfold zb1
    rw[hC1,hK1,hg1,hD3]
    rfl
   rw[←hb1]
   refine goA ?_
   refine lCu [pgI s1 d3,dkI d3] rfl (zdp s1 d3) (fun w1 hw1 hh1 ha1=>zj1 s1 d3 (by rw[hD3];exact f1) (by rw[hD3];exact f2) (by rw[hD3,f3];decide) hde1 ⟨oQ,by rw[hsc1];exact hsecs,by rw[hsc1,hD3,f4,hlen1];omega,(by rw[hC1];exact fun _ h=>(nomatch h)),(by rw[hK1];exact fun _ h=>(nomatch h))⟩ oQ S hpb (by rw[hn1'];exact hu2) hu3 w1 hh1 ha1) fun⟨_,_⟩=>?_
   rw[hps]
   refine goA ?_
   refine zam rfl rfl fun b15 hb15=>?_
   refine za1 rfl (zaf (cs':=zif s1.n S) rfl rfl rfl (by rw[za6];rfl) (zey _ _) (by rw[za6];rfl)) fun _=>?_
   refine goA ?_
   exact zc1 (d3,{ s1 with K:=[(0,zcn D3 (2+g3.h.secs))] }) rfl rfl rfl rfl ⟨hok3,fun _=>⟨hg1,hn1',hno1,rfl,hR1,hC1,hde1⟩⟩ (.cons _ (.refl _)) (zdq _ _)
  ·have hne:(((ftF d1.D g0).1:Int) != 0)=true:=by simp[he]
   rw[hne]
   simp only[if_neg he]
   refine goA ?_
   exact zc1 (d3,s0) rfl rfl rfl rfl ⟨hok3,fun h=>absurd h he⟩ (.cons _ (.refl _)) (zbo d3)
end Go.Proofs.YthafakdplhdfjaaGreatDoor
namespace Go.Proofs.YthafakdplhdfjaaGreatDoor
open Go.Eng
def zed(D:Dsk)(n i:Nat):Bool:=zjc (zcn D (2+i))&&decide (za9 (zgl (zcn D (2+i))).seq n=2+i)
theorem zz3(B:zfn)(h:Nat)(s:Sht)(k:Nat):(qgl B h s).lookup k=if k=h then some s else B.lookup k:=by
 unfold qgl
 split
 ·rename_i hs
  have:∀L:zfn,(L.map fun p=>if p.1=h then(h,s)else p).lookup k=if k=h then(L.lookup k).map (fun _=>s)else L.lookup k:=by
   intro L
   induction L with
   |nil=>simp
   |cons p L ih=>
    obtain⟨q,x⟩:=p
    rw[bG]
    by_cases hq:q=h
    ·subst hq
     rw[if_pos rfl,cJ,cJ]
     by_cases hk:k=q
     ·subst hk;simp
     ·have:(k==q)=false:=by simpa using hk
      rw[this]
      simp only[if_neg hk]at ih⊢
      exact ih
    ·rw[if_neg hq,cJ,cJ,ih]
     by_cases hk:k=q
     ·subst hk
      simp[hq]
     ·have:(k==q)=false:=by simpa using hk
      rw[this]
  rw[this]
  by_cases hk:k=h
  ·subst hk
   rw[if_pos rfl,if_pos rfl]
   cases hb:B.lookup k with
   |none=>rw[hb]at hs;cases hs
   |some x=>rfl
  ·rw[if_neg hk,if_neg hk]
 ·rename_i hs
  have hs':B.lookup h=none:=by
   cases hb:B.lookup h with
   |none=>rfl
   |some x=>rw[hb]at hs;exact absurd rfl hs
  by_cases hk:k=h
  ·subst hk
   rw[if_pos rfl,iT,hs']
   simp
  ·rw[if_neg hk,iT]
   have:([(h,s)]:zfn).lookup k=none:=by
    rw[cJ,show(k==h)=false by simpa using hk];rfl
   rw[this]
   cases B.lookup k<;>rfl
theorem zfe(D:Dsk)(n:Nat)(q:Nat):∀i,(zbm D n i).lookup q=if q%n<i∧zed D n (q%n)=true∧(zgl (zcn D (za9 q n))).seq=q then some (zgl (zcn D (za9 q n)))else none
 |0=>by
  rw[if_neg oQ]
  rfl
 |i+1=>by
  have ih:=zfe D n q i
  rw[zbm]
  by_cases hs:zed D n i=true
  ·have hs':=hs
   unfold zed at hs'
   rw[hs',if_pos rfl,zz3,ih]
   simp only[bH,decide_eq_true_eq]at hs'
   have hp:=hs'.2
   by_cases hq:q=(zgl (zcn D (2+i))).seq
   ·have hqi:q%n=i:=by rw[←hq]at hp;unfold za9 at hp;omega
    rw[if_pos hq,if_pos]
    ·unfold za9;rw[hqi]
    ·refine⟨oQ,by rw[hqi];exact hs,?_⟩
     unfold za9;rw[hqi];exact hq.symm
   ·rw[if_neg hq]
    by_cases hqi:q%n=i
    ·rw[if_neg oQ,if_neg]
     rintro⟨_,_,h3⟩
     unfold za9 at h3
     rw[hqi]at h3
     exact hq h3.symm
    ·by_cases hc:q%n<i∧zed D n (q%n)=true∧(zgl (zcn D (za9 q n))).seq=q
     ·rw[if_pos hc,if_pos ⟨oQ,hc.2⟩]
     ·rw[if_neg hc,if_neg (fun h=>hc ⟨oQ,h.2⟩)]
  ·have hs':(zjc (zcn D (2+i))&&decide (za9 (zgl (zcn D (2+i))).seq n=2+i))=false:=by
    rw[←Bool.not_eq_true];exact hs
   rw[hs',if_neg dQ,ih]
   by_cases hqi:q%n=i
   ·rw[if_neg oQ,if_neg (by rw[hqi];exact fun h=>hs h.2.1)]
   ·by_cases hc:q%n<i∧zed D n (q%n)=true∧(zgl (zcn D (za9 q n))).seq=q
    ·rw[if_pos hc,if_pos ⟨oQ,hc.2⟩]
    ·rw[if_neg hc,if_neg (fun h=>hc ⟨oQ,h.2⟩)]
variable{s:Sht}
theorem qkf{B:zfn}{h:Nat}{p:Nat×Sht}(hp:p∈qgl B h s):p=(h,s)∨p∈B:=by
 unfold qgl at hp
 split at hp
 ·obtain⟨q,hq,rfl⟩:=aS.1 hp
  split
  ·exact .inl rfl
  ·exact .inr hq
 ·rcases aR.1 hp with hp|hp
  ·exact .inr hp
  ·exact .inl (aN.1 hp)
theorem zvu(D:Dsk)(n:Nat):∀i,∀p∈zbm D n i,∃j,j<i∧zed D n j=true∧p=((zgl (zcn D (2+j))).seq,zgl (zcn D (2+j)))
 |0,_,h=>nomatch h
 |i+1,p,h=>by
  rw[zbm]at h
  by_cases hs:zed D n i=true
  ·have hs':=hs
   unfold zed at hs'
   rw[hs',if_pos rfl]at h
   rcases qkf h with rfl|h
   ·exact⟨i,oQ,hs,rfl⟩
   ·obtain⟨j,h1,h2⟩:=zvu D n i p h
    exact⟨j,oQ,h2⟩
  ·have hs':(zjc (zcn D (2+i))&&decide (za9 (zgl (zcn D (2+i))).seq n=2+i))=false:=by
    rw[←Bool.not_eq_true];exact hs
   rw[hs',if_neg dQ]at h
   obtain⟨j,h1,h2⟩:=zvu D n i p h
   exact⟨j,oQ,h2⟩
variable{D:Dsk}{n:Nat}
theorem ztf(hw:D.wait=[])(hn:0<n)(hq:s.seq<18446744073709551616)(ht:s.text.length≤497)(h:D.on[za9 s.seq n]? =some (zmh s)):(zbm D n n).lookup s.seq=some s:=by
 obtain⟨h1,h2⟩:=qmq hq ht
 have hc:zcn D (za9 s.seq n)=zmh s:=by rw[zfk hw,aE,h];rfl
 have hm:=dY s.seq hn
 rw[zfe,hc,h2,if_pos]
 refine⟨hm,?_,rfl⟩
 unfold zed
 rw[show 2+s.seq%n=za9 s.seq n from rfl,hc,h1,h2]
 simp
theorem qh2{q:Nat}(h:zed D n (q%n)=true→(zgl (zcn D (za9 q n))).seq≠q):(zbm D n n).lookup q=none:=by
 rw[zfe,if_neg]
 rintro⟨_,h2,h3⟩
 exact h h2 h3
theorem zxu{first lo hi:Nat}(hf:first≤hi)(hhi:hi<18446744073709551616)(hl:lo≤first∨∃s,(zbm D n n).lookup (lo - 1)=some s)(hb:∀i,i<n→zed D n i=true→(zgl (zcn D (2+i))).seq<hi):
  lo≤ze8 (zg7 D n n) first∧first≤ze8 (zg7 D n n) first∧ze8 (zg7 D n n) first≤hi∧∀i,i<n→zed D n i=true→(zgl (zcn D (2+i))).seq<ze8 (zg7 D n n) first:=by
 have hrows:∀p∈zg7 D n n,p.1<hi:=by
  intro p hp
  rw[←zo4]at hp
  obtain⟨q,hq,rfl⟩:=aS.1 hp
  obtain⟨j,h1,h2,rfl⟩:=zvu D n n q hq
  exact hb j h1 h2
 have hle:=(zio (zg7 D n n) first (ze8 (zg7 D n n) first)).1 (bA _)
 have hrow:∀q s,(zbm D n n).lookup q=some s→q<ze8 (zg7 D n n) first:=by
  intro q s hs
  have hm:(q,Value.agg (zjf s))∈zg7 D n n:=by
   rw[←zo4]
   exact aS.2 ⟨(q,s),zim hs,rfl⟩
  have h1:=hle.2 _ hm
  have h2:=hrows _ hm
  simp only at h1 h2
  rw[zp6 oQ]at h1
  omega
 refine⟨?_,hle.1,(zio _ _ _).2 ⟨hf,fun p hp=>?_⟩,fun i hi2 hs=>?_⟩
 ·rcases hl with h|⟨s,hs⟩
  ·omega
  ·have:=hrow _ s hs
   omega
 ·have:=hrows p hp
  rw[zp6 oQ]
  omega
 ·have hs2:=hs
  unfold zed at hs2
  simp only[bH,decide_eq_true_eq]at hs2
  have hp:=hs2.2
  generalize hqq:(zgl (zcn D (2+i))).seq=q at hp⊢
  have hqi:q%n=i:=by unfold za9 at hp;omega
  refine hrow q (zgl (zcn D (2+i))) ?_
  rw[zfe,hp,if_pos ⟨oQ,by rw[hqi];exact hs,hqq⟩]
end Go.Proofs.YthafakdplhdfjaaGreatDoor
namespace Go.Proofs.YthafakdplhdfjaaGreatDoor
open Go.Eng
theorem zkp(f:Nat→Bys):∀(ws:List (Nat×Bys)) (on:List Bys) (j:Nat),j<on.length→(∀p∈ws,p.2=f p.1)→(zeg on ws)[j]? =if j∈ws.map (·.1)then some (f j)else on[j]?
 | [],_,_,_,_=>by simp[zeg]
 |p::l,on,j,hj,h=>by
  rw[zeg,zkp f l (on.set p.1 p.2) j (by rw[bE];exact hj) fun q hq=>h q (.tail _ hq)]
  by_cases h1:j∈l.map (·.1)
  ·rw[if_pos h1,if_pos (by rw[bG];exact .tail _ h1)]
  ·rw[if_neg h1]
   by_cases h2:p.1=j
   ·rw[if_pos (by rw[bG,h2];exact .head _),←h2,dS (by rw[h2];exact hj),h p (.head _)]
   ·rw[fG h2,if_neg (by rw[bG,aL];rintro(h3|h3);exact h2 h3.symm;exact h1 h3)]
def zil(TS:List PR)(i:Nat):Option Bys:=TS.foldl (fun acc R=>((zmv [] R).lookup i).or acc) none
theorem zkj(TS:List PR)(R:PR)(i:Nat):zil (TS++[R]) i=((zmv [] R).lookup i).or (zil TS i):=by simp[zil]
variable{A:PR}{p:Nat×Bys}
theorem zqo(h:p∈zb2 A):A.lookup p.1=some p.2:=by
 obtain⟨i,hi,rfl⟩:=aS.1 h
 obtain⟨b,hb⟩:=zjw (zhl.1 hi)
 simp only[hb,eD]
variable{i:Nat}
theorem znh:i∈(zb2 A).map (·.1)↔(A.lookup i).isSome=true:=by
 rw[zci,zb2,dJ]
 have:((fun x:Nat×Bys=>x.1)∘fun i=>(i,(A.lookup i).getD []))=id:=rfl
 rw[this,List.map_id]
 exact zhl
variable{secs:Nat}{on:List Bys}
theorem qr8(hi:2+secs+i<on.length):(zeg on (wsP secs A))[2+secs+i]? =(A.lookup i).or on[2+secs+i]? :=by
 rw[zkp (fun j=>(A.lookup (j - (2+secs))).getD []) _ _ _ hi fun p hp=>by
  obtain⟨q,hq,rfl⟩:=aS.1 hp
  show q.2=(A.lookup (2+secs+q.1 - (2+secs))).getD []
  rw[show 2+secs+q.1 - (2+secs)=q.1 by omega,zqo hq]
  rfl]
 have hk:(2+secs+i∈(wsP secs A).map (·.1))↔(A.lookup i).isSome=true:=by
  rw[←znh,wsP,dJ]
  constructor
  ·intro h
   obtain⟨q,hq,he⟩:=aS.1 h
   have he:2+secs+q.1=2+secs+i:=he
   exact aS.2 ⟨q,hq,oQ⟩
  ·intro h
   obtain⟨q,hq,he⟩:=aS.1 h
   exact aS.2 ⟨q,hq,by show 2+secs+q.1=_;rw[he]⟩
 rw[show 2+secs+i - (2+secs)=i by omega]
 cases hl:A.lookup i with
 |none=>rw[if_neg (fun h=>by have:=hk.1 h;rw[hl]at this;cases this)];rfl
 |some b=>rw[if_pos (hk.2 (by rw[hl];rfl))];rfl
theorem zmf:∀(a b:List (Nat×Bys)) (on:List Bys),zeg on (a++b)=zeg (zeg on a) b
 | [],_,_=>rfl
 |p::a,b,on=>zmf a b _
theorem qr7(hi:2+secs+i<on.length)(TS:List PR):(zeg on (wsO secs TS))[2+secs+i]? =(zil TS i).or on[2+secs+i]? :=by
 induction TS using qo1 with
 |h0=>rfl
 |hs TS R ih=>
  rw[zwc,zmf,qr8 (by rw[zgy];exact hi),ih,zkj,Option.or_assoc]
theorem qa5:∀{TS:List PR} {p:Nat×Bys},p∈wsO secs TS→∃i,p.1=2+secs+i∧(zil TS i).isSome=true∧∃R∈TS,(zmv [] R).lookup i=some p.2:=fun {TS}=>by
 induction TS using qo1 with
 |h0=>intro p h;cases h
 |hs TS R ih=>
  intro p h
  rw[zwc]at h
  rcases aR.1 h with h|h
  ·obtain⟨i,h1,h2,R',h3,h4⟩:=ih h
   refine⟨i,h1,?_,R',aP _ h3,h4⟩
   rw[zkj]
   cases (zmv [] R).lookup i with
   |none=>exact h2
   |some b=>rfl
  ·obtain⟨q,hq,rfl⟩:=aS.1 h
   have:=zqo hq
   refine⟨q.1,rfl,?_,R,aU _ (.head _),this⟩
   rw[zkj,this]
   rfl
theorem zte{D D':Dsk}{n:Nat}:∀(i:Nat),(∀j,j<i→zcn D (2+j)=zcn D' (2+j))→zbm D n i=zbm D' n i
 |0,_=>rfl
 |i+1,h=>by
  rw[zbm,zbm,h i oQ,zte i fun j hj=>h j oQ]
variable{D:Dsk}{h:Hd}{c:Nat}
theorem qkp(hc:c=0∨c=1)(h1:zrt (zcn D c)=true)(h2:hdT (zcn D c)=h)(h3:zrt (zcn D (1 - c))=true→(hdT (zcn D (1 - c))).gen<h.gen):zdo D 2=(h,(c:Int)):=by
 unfold zdo zdo zdo
 rcases hc with rfl|rfl
 ·have e1:zi9 (zcn D 0) (0:Nat) (qae, -1)=(h,0):=by
   unfold zi9
   rw[h1,h2]
   rfl
  rw[show((0:Nat):Int)=0 from rfl]at*
  unfold zi9 at e1⊢
  rw[e1]
  by_cases h4:zrt (zcn D 1)=true
  ·have:(hdT (zcn D 1)).gen<h.gen:=h3 h4
   rw[h4]
   simp
   omega
  ·simp[h4]
 ·have h3':zrt (zcn D 0)=true→(hdT (zcn D 0)).gen<h.gen:=h3
  by_cases h4:zrt (zcn D 0)=true
  ·have:=h3' h4
   unfold zi9
   simp[h4,h1,h2,this]
  ·unfold zi9
   simp[h4,h1,h2]
structure zy4 (D:Dsk) (h:Hd) (c:Nat) (tx:List Bys) (hi:Nat):Prop where
 c01:c=0∨c=1
 hok:h.Ok
 secs:1≤h.secs
 head:D.on[c]? =some (hdP h)
 other:zrt (D.on.getD (1 - c) [])=true→(hdT (D.on.getD (1 - c) [])).gen<h.gen
 sheets:∀i,i<h.secs→zed D h.secs i=true→(zgl (zcn D (2+i))).seq<hi∧(zgl (zcn D (2+i))).text≠[]
 read:zvk D h=tx
 first:h.first≤hi
structure zwh (D:Dsk) (g:Lg) (tx:List Bys):Prop where
 c01:g.at_=0∨g.at_=1
 hok:g.h.Ok
 secs:1≤g.h.secs
 head:D.on[g.at_]? =some (hdP g.h)
 other:zrt (D.on.getD (1 - g.at_) [])=true→(hdT (D.on.getD (1 - g.at_) [])).gen<g.h.gen
 sheets:∀i,i<g.h.secs→zed D g.h.secs i=true→(zgl (zcn D (2+i))).seq<g.next∧(zgl (zcn D (2+i))).text≠[]
 has:zy3 (zbm D g.h.secs g.h.secs) g.h.first tx
 next:g.next=zlq g.h.first tx
 used:g.h.first+g.used=g.next
 usedle:g.used≤g.h.secs
 dead:g.dead=false
theorem Dsk.cur(h:D.wait=[]){s:Bys}(hs:D.on[i]? =some s):zcn D i=s:=by
 rw[zfk h,aE,hs];rfl
variable{tx:List Bys}{hi:Nat}
theorem zy4.look(hw:D.wait=[])(L:zy4 D h c tx hi):zdo D 2=(h,(c:Int)):=by
 obtain⟨h1,h2⟩:=qqw L.hok
 have hc:=Dsk.cur hw L.head
 refine qkp L.c01 (by rw[hc];exact h1) (by rw[hc];exact h2) fun h3=>?_
 rw[zfk hw]at h3⊢
 exact L.other h3
variable{n:Nat}
theorem zvx{q:Nat}(hn:0<n)(h:∀i,i<n→zed D n i=true→(zgl (zcn D (2+i))).seq<q)(k:Nat)(hk:q≤k):(zbm D n n).lookup k=none:=by
 refine qh2 fun hs he=>?_
 have:=h (k%n) (dY _ hn) hs
 rw[show 2+k%n=za9 k n from rfl,he]at this
 omega
variable{g:Lg}
theorem zwh.rec'(L:zwh D g tx)(hn:g.next<18446744073709551616):zy4 D g.h g.at_ tx g.next where
 c01:=L.c01
 hok:=L.hok
 secs:=L.secs
 head:=L.head
 other:=L.other
 sheets:=L.sheets
 read:=by
  refine znq (by rw[←L.next];exact hn) L.has (zyq ?_)
  rw[←L.next]
  exact zvx L.secs (fun i hi hs=>(L.sheets i hi hs).1) _ (bA _)
 first:=by rw[L.next];exact zpk _ _
def zhq(D D':Dsk)(n:Nat):Prop:=∀i,i<n→zcn D (2+i)=zcn D' (2+i)
variable{D':Dsk}
theorem zhq.read(h:zhq D D' n):zbm D n n=zbm D' n n:=zte n h
theorem zhq.at_(h:zhq D D' n)(hi:i<n):zed D n i=zed D' n i:=by unfold zed;rw[h i hi]
theorem zy4.ext(L:zy4 D h c tx hi)(h2:∀i,i<2→D.on[i]? =D'.on[i]?)(hs:zhq D D' h.secs):zy4 D' h c tx hi where
 c01:=L.c01
 hok:=L.hok
 secs:=L.secs
 head:=by rw[←h2 c (by have:=L.c01;omega)];exact L.head
 other:=by
  have e:D'.on.getD (1 - c) []=D.on.getD (1 - c) []:=by rw[aE,aE,h2 (1 - c) oQ]
  rw[e];exact L.other
 sheets:=fun i hi h3=>by
  rw[←hs i hi]
  exact L.sheets i hi (by rw[hs.at_ hi];exact h3)
 read:=by
  have:=L.read
  unfold zvk at this⊢
  rw[←hs.read];exact this
 first:=L.first
theorem zwh.ext(L:zwh D g tx)(h2:∀i,i<2→D.on[i]? =D'.on[i]?)(hs:zhq D D' g.h.secs):zwh D' g tx where
 c01:=L.c01
 hok:=L.hok
 secs:=L.secs
 head:=by rw[←h2 _ (by have:=L.c01;omega)];exact L.head
 other:=by
  have e:D'.on.getD (1 - g.at_) []=D.on.getD (1 - g.at_) []:=by rw[aE,aE,h2 (1 - g.at_) oQ]
  rw[e];exact L.other
 sheets:=fun i hi h3=>by
  rw[←hs i hi]
  exact L.sheets i hi (by rw[hs.at_ hi];exact h3)
 has:=by rw[←hs.read];exact L.has
 next:=L.next
 used:=L.used
 usedle:=L.usedle
 dead:=L.dead
theorem qhk(h:c=0∨c=1):zaz (c:Int)=1 - c∧(1 - c=0∨1 - c=1)∧1 - (1 - c)=c∧1 - c≠c:=by
 rcases h with rfl|rfl
 ·exact⟨rfl,.inr rfl,rfl,dQ⟩
 ·exact⟨rfl,.inl rfl,rfl,dQ⟩
theorem qcz(hw:D.wait=[])(hw':D'.wait=[])(L:zy4 D g.h g.at_ tx hi)(hg1:g.h.gen+1<18446744073709551616)(hq:g.next<18446744073709551616)(hsq:∀i,i<g.h.secs→zed D g.h.secs i=true→(zgl (zcn D (2+i))).seq<g.next)
  (hnew:D'.on[1 - g.at_]? =some (hdP (zbk g))) (hold:D'.on[g.at_]? =D.on[g.at_]?) (hs:zhq D D' g.h.secs):
  zwh D' { g with h:=zbk g,at_:=zaz g.at_,used:=0,dead:=false } []:=by
 obtain⟨o1,o2,o3,o4⟩:=qhk L.c01
 have hgen:(zbk g).gen=g.h.gen+1:=bD hg1
 obtain⟨k1,k2⟩:=qqw L.hok
 refine⟨by rw[o1];exact o2,⟨dY _ dQ,hq,L.hok.secs,L.hok.note⟩,L.secs,by rw[o1];exact hnew,?_,fun i hi h3=>?_,trivial,rfl,rfl,aZ _,rfl⟩
 ·show zrt (D'.on.getD (1 - zaz g.at_) [])=true→_
  rw[o1,o3]
  intro _
  rw[aE,hold,L.head]
  show(hdT (hdP g.h)).gen<(zbk g).gen
  rw[k2,hgen]
  exact eN _
 ·have h3':zed D g.h.secs i=true:=by rw[hs.at_ hi];exact h3
  show(zgl (zcn D' (2+i))).seq<g.next∧_
  rw[←hs i hi]
  exact⟨hsq i hi h3',(L.sheets i hi h3').2⟩
structure qp5 (D D':Dsk):Prop where
 left:D.left≠none
 dead:D'.dead=true
 wait:D'.wait=[]
 left':D'.left=none
 keep:D'.keep=[]
structure zig (D D':Dsk):Prop where
 rest:D'.Rest
 keep:D'.keep=D.keep
 left:D.left=none→D'.left=none
variable{ws:List (Nat×Bys)}
theorem qpz(hr:D.Rest)(hw:qjg D ws):((zcm D ws).1=0∧zig D (zcm D ws).2∧(zcm D ws).2.on=zeg D.on ws)∨((zcm D ws).1=4∧qp5 D (zcm D ws).2∧Mix D.on ws (zcm D ws).2.on):=by
 rcases qfe hr hw with ⟨a,b,c,d,e⟩ |⟨a,b,c,d,e,f,g⟩
 ·exact .inl ⟨a,⟨b,d,e⟩,c⟩
 ·exact .inr ⟨b,⟨a,c,d,e,f⟩,g⟩
theorem zqt(hw:D.wait=[])(hw':D'.wait=[])(h:∀i,i<n→D'.on[2+i]? =D.on[2+i]?):zhq D D' n:=fun i hi=>by
 rw[zfk hw,zfk hw',aE,aE,h i hi]
theorem qcy(hr:D.Rest)(hlen:2+g.h.secs≤D.on.length)(L:zy4 D g.h g.at_ tx hi)(hg1:g.h.gen+1<18446744073709551616)(hq:g.next<18446744073709551616)(hsq:∀i,i<g.h.secs→zed D g.h.secs i=true→(zgl (zcn D (2+i))).seq<g.next):
  ((zcm D [(zaz g.at_,hdP (zbk g))]).1=0∧zig D (zcm D [(zaz g.at_,hdP (zbk g))]).2∧zwh (zcm D [(zaz g.at_,hdP (zbk g))]).2 { g with h:=zbk g,at_:=zaz g.at_,used:=0,dead:=false } []∧(∀i,2≤i→(zcm D [(zaz g.at_,hdP (zbk g))]).2.on[i]? =D.on[i]?)∧(zcm D [(zaz g.at_,hdP (zbk g))]).2.on.length=D.on.length)∨
  ((zcm D [(zaz g.at_,hdP (zbk g))]).1=4∧qp5 D (zcm D [(zaz g.at_,hdP (zbk g))]).2∧(zy4 (zcm D [(zaz g.at_,hdP (zbk g))]).2 g.h g.at_ tx hi∨zy4 (zcm D [(zaz g.at_,hdP (zbk g))]).2 (zbk g) (1 - g.at_) [] g.next)∧(∀i,2≤i→(zcm D [(zaz g.at_,hdP (zbk g))]).2.on[i]? =D.on[i]?)∧(zcm D [(zaz g.at_,hdP (zbk g))]).2.on.length=D.on.length):=by
 obtain⟨o1,o2,o3,o4⟩:=qhk L.c01
 have hws:qjg D [(zaz g.at_,hdP (zbk g))]:=fun p hp=>by
  rw[aN]at hp
  subst hp
  exact⟨by show zaz g.at_<_;rw[o1];omega,zut L.hok.note⟩
 rw[o1]at hws⊢
 rcases qpz hr hws with ⟨e,hl,hon⟩ |⟨e,hd,hm⟩
 ·left
  generalize zcm D [(1 - g.at_,hdP (zbk g))]=r at e hl hon⊢
  have hon:r.2.on=D.on.set (1 - g.at_) (hdP (zbk g)):=hon
  have h2:∀i,2≤i→r.2.on[i]? =D.on[i]? :=fun i hi=>by rw[hon,fG oQ]
  have hT:=qcz (D':=r.2) hr.wait hl.rest.wait L hg1 hq hsq (by rw[hon,dS oQ]) (by rw[hon,fG o4]) (zqt hr.wait hl.rest.wait fun i _=>h2 (2+i) oQ)
  rw[o1]at hT
  exact⟨e,hl,hT,h2,by rw[hon,bE]⟩
 ·right
  generalize zcm D [(1 - g.at_,hdP (zbk g))]=r at e hd hm⊢
  have hlen':=hm.1
  have h1:∀i,i≠1 - g.at_→r.2.on[i]? =D.on[i]? :=fun i hi=>by
   by_cases hil:i<D.on.length
   ·rcases hm.2 i hil with h|⟨s,hs, -⟩
    ·exact h
    ·rw[aN]at hs
     cases hs
     exact absurd rfl hi
   ·rw[dG oQ,dG oQ]
  have h2:∀i,2≤i→r.2.on[i]? =D.on[i]? :=fun i hi=>h1 i oQ
  have hs:=zqt (n:=g.h.secs) hr.wait hd.wait fun i _=>h2 (2+i) oQ
  refine⟨e,hd,?_,h2,hlen'⟩
  rcases hm.2 (1 - g.at_) oQ with h|⟨s,hs',h⟩
  ·refine .inl (L.ext (fun i hi=>?_) hs)
   by_cases hi2:i=1 - g.at_
   ·rw[hi2,h]
   ·rw[h1 i hi2]
  ·rw[aN]at hs'
   cases hs'
   have hT:=qcz (D':=r.2) hr.wait hd.wait L hg1 hq hsq h (h1 _ (Ne.symm o4)) hs
   rw[o1]at hT
   exact .inr (hT.rec' hq)
theorem zma{a b:Nat}(h1:a<b)(h2:b - a<n):za9 a n≠za9 b n:=by
 intro h
 unfold za9 at h
 have h3:(b - a)%n=0:=by
  have h4:b%n=a%n:=oQ
  exact Nat.sub_mod_eq_zero_of_mod_eq h4
 rw[bD h2]at h3
 omega
theorem zy3.mono{B B':zfn}:∀{ts:List Bys} {q:Nat},zy3 B q ts→(∀k,q≤k→k<zlq q ts→B'.lookup k=B.lookup k)→zy3 B' q ts
 | [],_,_,_=>trivial
 |t::ts,q,h,he=>by
  have h1:=zpk ts (q+zao t.length)
  refine⟨fun j hj=>?_,zy3.mono h.2 fun k hk1 hk2=>he k oQ hk2⟩
  rw[he (q+j) oQ (by rw[zlq];omega)]
  exact h.1 j hj
theorem zxr{k:Nat}(h:zcn D (za9 k n)=zcn D' (za9 k n)):(zbm D' n n).lookup k=(zbm D n n).lookup k:=by
 rw[zfe,zfe]
 unfold zed
 have h':zcn D (2+k%n)=zcn D' (2+k%n):=h
 rw[h',show za9 k n=2+k%n from rfl,h']
variable{t:Bys}
theorem zrh(h:p∈wsC g t):∃j,j<zao t.length∧p=(za9 (g.next+j) g.h.secs,zmh (pcS g.next t j)):=by
 unfold wsC zs7 at h
 rw[dJ]at h
 obtain⟨j,hj,rfl⟩:=aS.1 h
 exact⟨j,dL.1 hj,rfl⟩
theorem qm7{j:Nat}(hj:j<zao t.length):(za9 (g.next+j) g.h.secs,zmh (pcS g.next t j))∈wsC g t:=by
 unfold wsC zs7
 rw[dJ]
 exact aS.2 ⟨j,dL.2 hj,rfl⟩
structure Mid (D D':Dsk) (g:Lg) (tx:List Bys) (t:Bys):Prop where
 low:∀i,i<2→D'.on[i]? =D.on[i]?
 high:∀i,2+g.h.secs≤i→D'.on[i]? =D.on[i]?
 sheets:∀i,i<g.h.secs→zed D' g.h.secs i=true→(zgl (zcn D' (2+i))).seq<g.next+zao t.length∧(zgl (zcn D' (2+i))).text≠[]
 has:zy3 (zbm D' g.h.secs g.h.secs) g.h.first tx
 piece:∀j,j<zao t.length→(zbm D' g.h.secs g.h.secs).lookup (g.next+j)=some (pcS g.next t j)∨(zbm D' g.h.secs g.h.secs).lookup (g.next+j)=none
theorem qmk(hw:D.wait=[])(hw':D'.wait=[])(L:zwh D g tx)(hlen:2+g.h.secs≤D.on.length)(ht:t≠[])(hroom:g.used+zao t.length≤g.h.secs)(hnx:g.next+zao t.length<18446744073709551616)(hm:Mix D.on (wsC g t) D'.on):Mid D D' g tx t:=by
 have hs0:=L.secs
 have hpl:∀j,za9 (g.next+j) g.h.secs<2+g.h.secs∧2≤za9 (g.next+j) g.h.secs:=fun j=>by
  have:=dY (g.next+j) hs0
  unfold za9
  omega
 have hout:∀i,(∀j,j<zao t.length→i≠za9 (g.next+j) g.h.secs)→D'.on[i]? =D.on[i]? :=fun i hi=>by
  by_cases hil:i<D.on.length
  ·rcases hm.2 i hil with h|⟨s,hs, -⟩
   ·exact h
   ·obtain⟨j,hj,he⟩:=zrh hs
    exact absurd (congrArg Prod.fst he) (hi j hj)
  ·rw[dG (by have:=hm.1;omega),dG oQ]
 have hcur:∀i,D'.on[i]? =D.on[i]? →zcn D i=zcn D' i:=fun i h=>by
  rw[zfk hw,zfk hw',aE,aE,h]
 refine⟨fun i hi=>hout i fun j hj=>?_,fun i hi=>hout i fun j hj=>?_,fun i hi h3=>?_,L.has.mono fun k hk1 hk2=>?_,fun j hj=>?_⟩
 ·have:=(hpl j).2;omega
 ·have:=(hpl j).1;omega
 ·rcases hm.2 (2+i) oQ with h|⟨s,hs,h⟩
  ·have hc:=hcur _ h
   have h3':zed D g.h.secs i=true:=by unfold zed at h3⊢;rw[hc];exact h3
   have:=L.sheets i hi h3'
   rw[←hc]
   exact⟨aY this.1 (gE _ _),this.2⟩
  ·obtain⟨j,hj,he⟩:=zrh hs
   have hs2:s=zmh (pcS g.next t j):=congrArg Prod.snd he
   have hc:zcn D' (2+i)=zmh (pcS g.next t j):=by rw[Dsk.cur hw' h,hs2]
   have hso:=qmq (s:=pcS g.next t j) (by show g.next+j<_;omega) (zna _ _ _)
   rw[hc,hso.2]
   exact⟨by show g.next+j<_;omega,qrf ht hj⟩
 ·refine zxr (hcur _ (hout _ fun j hj=>?_))
  have hu:=L.used
  have hx:=L.next
  exact zma oQ oQ
 ·rcases hm.2 (za9 (g.next+j) g.h.secs) (by have:=(hpl j).1;omega)with h|⟨s,hs,h⟩
  ·right
   rw[zxr (hcur _ h)]
   exact zvx hs0 (fun i hi hs=>(L.sheets i hi hs).1) _ (gE _ _)
  ·left
   obtain⟨j',hj',he⟩:=zrh hs
   have hp:za9 (g.next+j) g.h.secs=za9 (g.next+j') g.h.secs:=congrArg Prod.fst he
   have hjj:j=j':=by
    rcases iH j j' with hlt|h|hlt
    ·exact absurd hp (zma oQ oQ)
    ·exact h
    ·exact absurd hp.symm (zma oQ oQ)
   subst hjj
   have hs2:s=zmh (pcS g.next t j):=congrArg Prod.snd he
   rw[hs2]at h
   exact ztf (s:=pcS g.next t j) hw' hs0 (by show g.next+j<_;omega) (zna _ _ _) h
theorem Mid.back(L:zwh D g tx)(hnx:g.next+zao t.length<18446744073709551616)(M:Mid D D' g tx t):zy4 D' g.h g.at_ tx (g.next+zao t.length)∨zy4 D' g.h g.at_ (tx++[t]) (g.next+zao t.length):=by
 have hhead:D'.on[g.at_]? =some (hdP g.h):=by rw[M.low _ (by have:=L.c01;omega)];exact L.head
 have hother:zrt (D'.on.getD (1 - g.at_) [])=true→(hdT (D'.on.getD (1 - g.at_) [])).gen<g.h.gen:=by
  have e:D'.on.getD (1 - g.at_) []=D.on.getD (1 - g.at_) []:=by rw[aE,aE,M.low (1 - g.at_) oQ]
  rw[e];exact L.other
 have hfi:g.h.first≤g.next+zao t.length:=by have:=L.used;omega
 by_cases hall:∀j,j<zao t.length→(zbm D' g.h.secs g.h.secs).lookup (g.next+j)=some (pcS g.next t j)
 ·right
  refine⟨L.c01,L.hok,L.secs,hhead,hother,M.sheets,?_,hfi⟩
  have hend:zlq g.h.first (tx++[t])=g.next+zao t.length:=by rw[zud,←L.next]
  refine znq (by rw[hend];exact hnx) (M.has.app (by rw[←L.next];exact hall)) (zyq ?_)
  rw[hend]
  exact zvx L.secs (fun i hi hs=>(M.sheets i hi hs).1) _ (bA _)
 ·left
  refine⟨L.c01,L.hok,L.secs,hhead,hother,M.sheets,?_,hfi⟩
  have hex:∃k,k<zao t.length∧(zbm D' g.h.secs g.h.secs).lookup (g.next+k)=none∧∀j,j<k→(zbm D' g.h.secs g.h.secs).lookup (g.next+j)=some (pcS g.next t j):=by
   have:∀m,m≤zao t.length→(∀j,j<m→(zbm D' g.h.secs g.h.secs).lookup (g.next+j)=some (pcS g.next t j))∨∃k,k<m∧(zbm D' g.h.secs g.h.secs).lookup (g.next+k)=none∧∀j,j<k→(zbm D' g.h.secs g.h.secs).lookup (g.next+j)=some (pcS g.next t j):=by
    intro m
    induction m with
    |zero=>exact fun _=>.inl fun j hj=>absurd hj (fQ _)
    |succ m ih=>
     intro hm
     rcases ih oQ with h|⟨k,h1,h2,h3⟩
     ·rcases M.piece m hm with h4|h4
      ·exact .inl fun j hj=>by
        rcases Nat.lt_succ_iff_lt_or_eq.1 hj with h5|rfl
        ·exact h j h5
        ·exact h4
      ·exact .inr ⟨m,eN _,h4,h⟩
     ·exact .inr ⟨k,oQ,h2,h3⟩
   rcases this _ (bA _)with h|h
   ·exact absurd h hall
   ·exact h
  obtain⟨k,hk1,hk2,hk3⟩:=hex
  refine znq (by rw[←L.next];omega) M.has ?_
  rw[←L.next]
  exact qii hnx hk1 hk3 hk2
theorem Mid.done(L:zwh D g tx)(hroom:g.used+zao t.length≤g.h.secs)(M:Mid D D' g tx t)(hall:∀j,j<zao t.length→(zbm D' g.h.secs g.h.secs).lookup (g.next+j)=some (pcS g.next t j)):
  zwh D' { g with next:=g.next+zao t.length,used:=g.used+zao t.length,dead:=false } (tx++[t]) where
 c01:=L.c01
 hok:=L.hok
 secs:=L.secs
 head:=by show D'.on[g.at_]? =some (hdP g.h);rw[M.low g.at_ (by have:=L.c01;omega)];exact L.head
 other:=by
  have e:D'.on.getD (1 - g.at_) []=D.on.getD (1 - g.at_) []:=by rw[aE,aE,M.low (1 - g.at_) oQ]
  show zrt (D'.on.getD (1 - g.at_) [])=true→_
  rw[e];exact L.other
 sheets:=M.sheets
 has:=M.has.app (by rw[←L.next];exact hall)
 next:=by
  show g.next+_=zlq g.h.first (tx++[t])
  rw[zud,←L.next]
 used:=by
  show g.h.first+(g.used+_)=g.next+_
  have:=L.used;omega
 usedle:=hroom
 dead:=rfl
theorem qdb(hr:D.Rest)(L:zwh D g tx)(hlen:2+g.h.secs≤D.on.length)(ht:t≠[])(hroom:g.used+zao t.length≤g.h.secs)(hnx:g.next+zao t.length<18446744073709551616):
  ((zcm D (wsC g t)).1=0∧zig D (zcm D (wsC g t)).2∧zwh (zcm D (wsC g t)).2 { g with next:=g.next+zao t.length,used:=g.used+zao t.length,dead:=false } (tx++[t])∧(∀i,2+g.h.secs≤i→(zcm D (wsC g t)).2.on[i]? =D.on[i]?)∧(zcm D (wsC g t)).2.on.length=D.on.length)∨
  ((zcm D (wsC g t)).1=4∧qp5 D (zcm D (wsC g t)).2∧(zy4 (zcm D (wsC g t)).2 g.h g.at_ tx (g.next+zao t.length)∨zy4 (zcm D (wsC g t)).2 g.h g.at_ (tx++[t]) (g.next+zao t.length))∧(∀i,2+g.h.secs≤i→(zcm D (wsC g t)).2.on[i]? =D.on[i]?)∧(zcm D (wsC g t)).2.on.length=D.on.length):=by
 have hs0:=L.secs
 have hws:qjg D (wsC g t):=fun p hp=>by
  obtain⟨j,hj,rfl⟩:=zrh hp
  refine⟨?_,zvz (zna _ _ _)⟩
  have:=dY (g.next+j) hs0
  show za9 (g.next+j) g.h.secs<_
  unfold za9
  omega
 rcases qpz hr hws with ⟨e,hl,hon⟩ |⟨e,hd,hm⟩
 ·left
  generalize zcm D (wsC g t)=r at e hl hon⊢
  have hm:Mix D.on (wsC g t) r.2.on:=by rw[hon];exact Mix.all _ _
  have M:=qmk hr.wait hl.rest.wait L hlen ht hroom hnx hm
  refine⟨e,hl,M.done L hroom fun j hj=>?_,M.high,hm.1⟩
  have hpl:za9 (g.next+j) g.h.secs<D.on.length:=(hws _ (qm7 hj)).1
  refine ztf (s:=pcS g.next t j) hl.rest.wait hs0 (by show g.next+j<_;omega) (zna _ _ _) ?_
  show r.2.on[za9 (g.next+j) g.h.secs]? =_
  -- the writes' places are apart,so the last one at a place is the only one
  have hlast:∀(ws:List (Nat×Bys)) (on:List Bys) (a:Nat) (s:Bys),a<on.length→(a,s)∈ws→(∀p∈ws,p.1=a→p.2=s)→(zeg on ws)[a]? =some s:=by
   intro ws
   induction ws with
   |nil=>intro on a s _ h;cases h
   |cons p l ih=>
    intro on a s ha hin hall
    rw[zeg]
    by_cases hin2:(a,s)∈l
    ·exact ih _ a s (by rw[bE];exact ha) hin2 fun q hq=>hall q (.tail _ hq)
    ·rcases aL.1 hin with rfl|h
     ·rw[zff fun q hq he=>hin2 (by have:=hall q (.tail _ hq) he;rw[←he,←this];exact hq)]
      exact dS ha
     ·exact absurd h hin2
  rw[hon]
  refine hlast _ _ _ _ hpl (qm7 hj) fun p hp he=>?_
  obtain⟨j',hj',rfl⟩:=zrh hp
  have hjj:j'=j:=by
   have he:za9 (g.next+j') g.h.secs=za9 (g.next+j) g.h.secs:=he
   rcases iH j' j with hlt|h|hlt
   ·exact absurd he (zma oQ oQ)
   ·exact h
   ·exact absurd he.symm (zma oQ oQ)
  rw[hjj]
 ·right
  generalize zcm D (wsC g t)=r at e hd hm⊢
  have M:=qmk hr.wait hd.wait L hlen ht hroom hnx hm
  exact⟨e,hd,M.back L hnx,M.high,hm.1⟩
structure qto (TS:List PR) (n:Nat):Prop where
 each:∀R∈TS,R.Ok n∧R≠[]∧R.length≤1024
 many:TS.length≤512
structure zy7 (D:Dsk) (n secs:Nat) (note:Bys) (V:List Bys) (B:Nat) (h:Hd) (c:Nat) (TS:List PR):Prop where
 log:zy4 D h c (TS.map zc7) B
 hs:h.secs=secs
 hnote:h.note=beN 2 n++note
 gen:h.gen≤B
 ts:qto TS n
 rep:∀i,i<n→(zil TS i).or D.on[2+secs+i]? =V[i]?
structure Siz (D:Dsk) (n secs:Nat) (note:Bys) (V:List Bys):Prop where
 n1:64≤n
 n2:n≤1024
 s1:1≤secs
 s2:secs≤512
 note:note.length≤40
 room:2+secs+n≤D.on.length
 Vl:V.length=n
 Vs:∀p∈V,p.length=512
 ok:D.Ok
structure StI (s:Pg) (D:Dsk) (n secs:Nat) (note:Bys) (V:List Bys) (B:Nat) (TS:List PR):Prop where
 siz:Siz D n secs note V
 rest:D.Rest
 hn:s.n=n
 hnote:s.note=note
 hsecs:s.g.h.secs=secs
 hhnote:s.g.h.note=beN 2 n++note
 log:zwh D s.g (TS.map zc7)
 ts:∀R∈TS,R.Ok n∧R≠[]∧R.length≤1024
 dead:s.dead=false
 Kok:s.K.Ok n
 Kv:∀i b,s.K.lookup i=some b→V[i]? =some b
 Rk:∀i∈s.R,(s.K.lookup i).isSome=true∧(zil TS i).isSome=true∧i<n
 Rn:s.R.Nodup
 pages:∀i,i<n→i∉s.R→D.on[2+secs+i]? =V[i]?
 rep:∀i b,zil TS i=some b→V[i]? =some b
 Cok:s.C.Ok n
 Cn:(s.C.map (·.1)).Nodup
 gen:s.g.h.gen≤B
 next:s.g.next≤B
variable{note:Bys}{V:List Bys}
theorem Siz.ext(h:Siz D n secs note V)(ho:D'.Ok)(hl:D'.on.length=D.on.length):Siz D' n secs note V:=
 ⟨h.n1,h.n2,h.s1,h.s2,h.note,by rw[hl];exact h.room,h.Vl,h.Vs,ho⟩
theorem qlh{R:PR}(h:R≠[]):zc7 R≠[]:=by
 cases R with
 |nil=>exact absurd rfl h
 |cons p R=>
  intro he
  have:=congrArg List.length he
  rw[zto,aA,zal]at this
  simp at this
theorem zwh.many(L:zwh D g tx):tx.length≤g.used:=by
 have h1:=qbj tx g.h.first
 have h2:=L.next
 have h3:=L.used
 omega
theorem StI.rec'{s:Pg}{D:Dsk}{n secs:Nat}{note:Bys}{V:List Bys}{B:Nat}{TS:List PR}(h:StI s D n secs note V B TS)(hB:B<9223372036854775808):zy7 D n secs note V B s.g.h s.g.at_ TS where
 log:=by
  have:=h.log.rec' (by have:=h.next;omega)
  exact⟨this.c01,this.hok,this.secs,this.head,this.other,fun i hi hs=>⟨aY (this.sheets i hi hs).1 h.next,(this.sheets i hi hs).2⟩,this.read,cH this.first h.next⟩
 hs:=h.hsecs
 hnote:=h.hhnote
 gen:=h.gen
 ts:=⟨h.ts,by have h1:=h.log.many;have h2:=h.log.usedle;have h3:=h.siz.s2;rw[aD]at h1;rw[h.hsecs]at h2;omega⟩
 rep:=fun i hi=>by
  cases hl:zil TS i with
  |some b=>exact(h.rep i b hl).symm
  |none=>
   have:i∉s.R:=fun hr=>by have:=(h.Rk i hr).2.1;rw[hl]at this;cases this
   rw[←h.pages i hi this];rfl
theorem qop(D:Dsk)(g:Lg)(TS:List PR):opF D g TS=if (zcm D (wsO g.h.secs TS)).1=0 then((zcm (zcm D (wsO g.h.secs TS)).2 [(zaz g.at_,hdP (zbk g))]).1,(zcm (zcm D (wsO g.h.secs TS)).2 [(zaz g.at_,hdP (zbk g))]).2,{ zjd g (zcm D (wsO g.h.secs TS)).2 with dead:=decide ((zcm (zcm D (wsO g.h.secs TS)).2 [(zaz g.at_,hdP (zbk g))]).1=4) })else((zcm D (wsO g.h.secs TS)).1,(zcm D (wsO g.h.secs TS)).2,g):=by
 rw[←zha]
 unfold opF ftF zcm
 by_cases h:(zbb D (wsO g.h.secs TS)).1=0
 ·rw[if_pos h,if_pos h]
 ·rw[if_neg h,if_neg h,if_neg h]
theorem qek{b:Bys}(h:zjc b=true):(zgl b).text.length≤497:=by
 unfold zgl
 rw[h,if_pos rfl]
 unfold zjc at h
 simp only[bH,decide_eq_true_eq]at h
 exact h.2.1
variable{B:Nat}{TS:List PR}
theorem zy7.pages(R:zy7 D n secs note V B h c TS)(hw:D.wait=[])(hw':D'.wait=[])(hlow:∀i,i<2+secs→D'.on[i]? =D.on[i]?)(hp:∀i,i<n→zil TS i=none→D'.on[2+secs+i]? =D.on[2+secs+i]?):zy7 D' n secs note V B h c TS where
 log:=R.log.ext (fun i hi=>(hlow i oQ).symm) (zqt hw hw' fun i hi=>hlow (2+i) (by have:=R.hs;omega))
 hs:=R.hs
 hnote:=R.hnote
 gen:=R.gen
 ts:=R.ts
 rep:=fun i hi=>by
  rw[←R.rep i hi]
  cases hl:zil TS i with
  |some b=>rfl
  |none=>rw[hp i hi hl]
theorem zva{on':List Bys}(hm:Mix on ws on')(h:∀p∈ws,p.1≠i):on'[i]? =on[i]? :=by
 by_cases hi:i<on.length
 ·rcases hm.2 i hi with h1|⟨s,hs, -⟩
  ·exact h1
  ·exact absurd rfl (h _ hs)
 ·rw[dG (by have:=hm.1;omega),dG oQ]
theorem zlt(h:D.Ok)(ws:List (Nat×Bys)):(zcm D ws).2.Ok:=by
 unfold zcm
 split
 ·exact zfr (zf7 _ _ h)
 ·exact zf7 _ _ h
theorem qhj(z:Siz D n secs note V)(hr:D.Rest)(hB:B+1<9223372036854775808)(R:zy7 D n secs note V B h c TS):
  ((opF D (zcz D h c) TS).1=0∧zig D (opF D (zcz D h c) TS).2.1∧(∀s,Opd s (opF D (zcz D h c) TS).2.1 (opF D (zcz D h c) TS).2.2 n note→StI s (opF D (zcz D h c) TS).2.1 n secs note V (B+1) [])∧some (zcn (opF D (zcz D h c) TS).2.1 (2+h.secs))=V[0]?)∨
  ((opF D (zcz D h c) TS).1=4∧qp5 D (opF D (zcz D h c) TS).2.1∧Siz (opF D (zcz D h c) TS).2.1 n secs note V∧∃h' c' TS',zy7 (opF D (zcz D h c) TS).2.1 n secs note V (B+1) h' c' TS'):=by
 have hgs:(zcz D h c).h=h:=rfl
 have hsecs:=R.hs
 have hroom:=z.room
 have hTO:∀Q∈TS,Q.Ok n:=fun Q hQ=>(R.ts.each Q hQ).1
 have hws:qjg D (wsO secs TS):=fun p hp=>by
  obtain⟨i,h1, -,Q,hQ,hl⟩:=qa5 hp
  have:=qgj (n:=n) (A:=[]) (fun _ h=>nomatch h) (hTO Q hQ) _ (zbt hl)
  exact⟨by rw[h1];have:=this.1;simp only at this;omega,this.2⟩
 have hout:∀i,i<2+secs→∀p∈wsO secs TS,p.1≠i:=fun i hi p hp=>by
  obtain⟨j,h1, -⟩:=qa5 hp
  omega
 have hun:∀i,zil TS i=none→∀p∈wsO secs TS,p.1≠2+secs+i:=fun i hi p hp=>by
  obtain⟨j,h1,h2, -⟩:=qa5 hp
  intro he
  have:j=i:=oQ
  rw[this,hi]at h2
  cases h2
 have hnx:=zxu (D:=D) (n:=h.secs) (first:=h.first) (lo:=0) (hi:=B) R.log.first oQ (.inl (aZ _)) fun i hi hs=>(R.log.sheets i hi hs).1
 rw[qop,show(zcz D h c).h.secs=secs from hsecs]
 rcases qpz hr hws with ⟨e,hl,hon⟩ |⟨e,hd,hm⟩
 ·rw[if_pos e]
  have hok1:=zlt z.ok (wsO secs TS)
  generalize zcm D (wsO secs TS)=r at e hl hon hok1⊢
  have hlow:∀i,i<2+secs→r.2.on[i]? =D.on[i]? :=fun i hi=>by rw[hon];exact zff (hout i hi)
  have hlen:r.2.on.length=D.on.length:=by rw[hon,zgy]
  have hpg:∀i,i<n→r.2.on[2+secs+i]? =V[i]? :=fun i hi=>by
   rw[hon,qr7 oQ,R.rep i hi]
  have hsame:zhq D r.2 h.secs:=zqt hr.wait hl.rest.wait fun i hi=>hlow (2+i) oQ
  have L1:zy4 r.2 (zcz D h c).h (zcz D h c).at_ (TS.map zc7) B:=R.log.ext (fun i hi=>(hlow i oQ).symm) hsame
  have hgn:(zcz D h c).h.gen+1<18446744073709551616:=by have:=R.gen;show h.gen+1<_;omega
  have hq:(zcz D h c).next<18446744073709551616:=by have:=hnx.2.2.1;show ze8 _ _<_;omega
  have hsq:∀i,i<(zcz D h c).h.secs→zed r.2 (zcz D h c).h.secs i=true→(zgl (zcn r.2 (2+i))).seq<(zcz D h c).next:=fun i hi hs=>by
   have hi':i<h.secs:=hi
   rw[←hsame i hi']
   exact hnx.2.2.2 i hi' (by rw[hsame.at_ hi'];exact hs)
  have hroom1:2+(zcz D h c).h.secs≤r.2.on.length:=by show 2+h.secs≤_;omega
  have hok2:=zlt hok1 [(zaz (zcz D h c).at_,hdP (zbk (zcz D h c)))]
  rcases qcy hl.rest hroom1 L1 hgn hq hsq with ⟨e2,hl2,L2,h2,hlen2⟩ |⟨e2,hd2,L2,h2,hlen2⟩
  ·left
   have htg:({ zjd (zcz D h c) r.2 with dead:=decide ((zcm r.2 [(zaz (zcz D h c).at_,hdP (zbk (zcz D h c)))]).1=4) }:Lg)={ zcz D h c with h:=zbk (zcz D h c),at_:=zaz (zcz D h c).at_,used:=0,dead:=false }:=by
    unfold zjd
    rw[zha,if_pos e2,e2]
    rfl
   rw[htg]
   generalize zcm r.2 [(zaz (zcz D h c).at_,hdP (zbk (zcz D h c)))]=r2 at e2 hl2 L2 h2 hlen2 hok2⊢
   have hpg2:∀i,i<n→r2.2.on[2+secs+i]? =V[i]? :=fun i hi=>by rw[h2 _ oQ,hpg i hi]
   refine⟨e2,⟨hl2.rest,hl2.keep.trans hl.keep,fun h=>hl2.left (hl.left h)⟩,fun s O=>?_,?_⟩
   ·have hs0:0<n:=by have:=z.n1;omega
    refine⟨z.ext hok2 (by rw[hlen2,hlen]),hl2.rest,O.hn,O.hnote,by rw[O.hg];exact hsecs,by rw[O.hg];exact R.hnote,by rw[O.hg];exact L2,(fun _ hh=>(nomatch hh)),O.hdead,?_,fun i b hb=>?_,by rw[O.hR];exact fun _ hh=>(nomatch hh),by rw[O.hR];exact eT,fun i hi _=>hpg2 i hi,fun i b hb=>(by cases hb),by rw[O.hC];exact fun _ hh=>(nomatch hh),by rw[O.hC];exact eT,by rw[O.hg];show(zbk (zcz D h c)).gen≤_;rw[show(zbk (zcz D h c)).gen=h.gen+1 from bD hgn];have:=R.gen;omega,by rw[O.hg];have:=hnx.2.2.1;show ze8 _ _≤_;omega⟩
    ·rw[O.hK]
     intro p hp
     rw[aN]at hp
     subst hp
     exact⟨hs0,zt6 hok2 (by show 2+h.secs<_;omega)⟩
    ·rw[O.hK]at hb
     have hi0:i=0∧zcn r2.2 (2+h.secs)=b:=by
      rw[cJ]at hb
      by_cases hi:i=0
      ·subst hi
       simp at hb
       exact⟨rfl,hb⟩
      ·rw[show(i==0)=false by simpa using hi]at hb
       cases hb
     rw[hi0.1,←hpg2 0 hs0,←hi0.2,zfk hl2.rest.wait,aE,hsecs,fU]
     rw[aB oQ]
     rfl
   ·rw[←hpg2 0 (by have:=z.n1;omega),zfk hl2.rest.wait,aE,hsecs,fU,aB (by have:=z.n1;omega)]
    rfl
  ·right
   generalize zcm r.2 [(zaz (zcz D h c).at_,hdP (zbk (zcz D h c)))]=r2 at e2 hd2 L2 h2 hlen2 hok2⊢
   have hpg2:∀i,i<n→r2.2.on[2+secs+i]? =V[i]? :=fun i hi=>by rw[h2 _ oQ,hpg i hi]
   refine⟨e2,⟨fun h=>hd2.left (hl.left h),hd2.dead,hd2.wait,hd2.left',hd2.keep⟩,z.ext hok2 (by rw[hlen2,hlen]),?_⟩
   rcases L2 with L2|L2
   ·refine⟨h,c,TS,⟨⟨L2.c01,L2.hok,L2.secs,L2.head,L2.other,fun i hi hs=>⟨aY (L2.sheets i hi hs).1 oQ,(L2.sheets i hi hs).2⟩,L2.read,cH L2.first oQ⟩,hsecs,R.hnote,by have:=R.gen;omega,R.ts,fun i hi=>?_⟩⟩
    rw[hpg2 i hi]
    cases hlt:zil TS i with
    |none=>rfl
    |some b=>
     have:=R.rep i hi
     rw[hlt]at this
     exact this
   ·refine⟨_,_,[],⟨⟨L2.c01,L2.hok,L2.secs,L2.head,L2.other,fun i hi hs=>⟨aY (L2.sheets i hi hs).1 (by have:=hnx.2.2.1;show ze8 _ _≤_;omega),(L2.sheets i hi hs).2⟩,L2.read,cH L2.first (by have:=hnx.2.2.1;show ze8 _ _≤_;omega)⟩,hsecs,R.hnote,by rw[show(zbk (zcz D h c)).gen=h.gen+1 from bD hgn];have:=R.gen;omega,⟨(fun _ hh=>(nomatch hh)),dQ⟩,fun i hi=>?_⟩⟩
    rw[hpg2 i hi];rfl
 ·right
  rw[if_neg (by rw[e];decide)]
  have hok1:=zlt z.ok (wsO secs TS)
  generalize zcm D (wsO secs TS)=r at e hd hm hok1⊢
  refine⟨e,hd,z.ext hok1 hm.1,h,c,TS,?_⟩
  have R2:=R.pages (D':=r.2) hr.wait hd.wait (fun i hi=>zva hm (hout i hi)) (fun i hi hlt=>zva hm (hun i hlt))
  exact⟨⟨R2.log.c01,R2.log.hok,R2.log.secs,R2.log.head,R2.log.other,fun i hi hs=>⟨aY (R2.log.sheets i hi hs).1 oQ,(R2.log.sheets i hi hs).2⟩,R2.log.read,cH R2.log.first oQ⟩,R2.hs,R2.hnote,by have:=R2.gen;omega,R2.ts,R2.rep⟩
def zd9(V:List Bys)(C:PR):List Bys:=(List.range V.length).map fun i=>(C.lookup i).getD (V.getD i [])
theorem qhn(V:List Bys)(C:PR):(zd9 V C).length=V.length:=by simp[zd9]
variable{C:PR}
theorem qcb(h:i<V.length):(zd9 V C)[i]? =(C.lookup i).or V[i]? :=by
 have e:(zd9 V C)[i]? =some ((C.lookup i).getD (V.getD i [])):=by
  unfold zd9
  rw[aO,eO h]
  rfl
 rw[e,aE,aB h]
 cases C.lookup i<;>rfl
theorem qgi{f:Nat→Option Bys}:∀(R A:PR) (i:Nat),(∀p∈R,f p.1=some p.2)→(zmv A R).lookup i=if i∈R.map (·.1)then f i else A.lookup i
 | [],A,i,_=>by simp[zmv]
 |p::R,A,i,h=>by
  show(zmv (zeb A p.1 p.2) R).lookup i=_
  rw[qgi R _ i fun q hq=>h q (.tail _ hq),zcp]
  by_cases h1:i∈R.map (·.1)
  ·rw[if_pos h1,if_pos (by rw[bG];exact .tail _ h1)]
  ·rw[if_neg h1]
   by_cases h2:i=p.1
   ·rw[if_pos h2,if_pos (by rw[bG,h2];exact .head _),h2,h p (.head _)]
   ·rw[if_neg h2,if_neg (by rw[bG,aL];rintro(h3|h3);exact h2 h3;exact h1 h3)]
theorem qka(C:PR)(i:Nat):(zmv [] (zb2 C)).lookup i=C.lookup i:=by
 rw[qgi (f:=fun i=>C.lookup i) _ _ _ fun p hp=>zqo hp]
 by_cases h:(C.lookup i).isSome=true
 ·rw[if_pos (znh.2 h)]
 ·rw[if_neg (fun hc=>h (znh.1 hc))]
  cases hl:C.lookup i with
  |none=>rfl
  |some b=>rw[hl]at h;exact absurd rfl h
theorem zqn(C:PR):(zb2 C).length=C.length:=by rw[zb2,aD,zhk,aD]
theorem zz7(hC:C.Ok n)(hn:(C.map (·.1)).Nodup):C.length≤n:=by
 have:=zkk (L:=List.range n) hn fun x hx=>by
  obtain⟨p,hp,rfl⟩:=aS.1 hx
  exact dL.2 (hC p hp).1
 rwa[aD,fX]at this
def zmr(D D':Dsk)(n secs:Nat)(note:Bys)(V:List Bys)(B:Nat):Prop:=qp5 D D'∧Siz D' n secs note V∧∃h c TS,zy7 D' n secs note V B h c TS
theorem zy7.more{B':Nat}(R:zy7 D n secs note V B h c TS)(hB:B≤B'):zy7 D n secs note V B' h c TS:=
 ⟨⟨R.log.c01,R.log.hok,R.log.secs,R.log.head,R.log.other,fun i hi hs=>⟨aY (R.log.sheets i hi hs).1 hB,(R.log.sheets i hi hs).2⟩,R.log.read,cH R.log.first hB⟩,R.hs,R.hnote,cH R.gen hB,R.ts,R.rep⟩
theorem Siz.over(z:Siz D n secs note V)(hC:C.Ok n):Siz D n secs note (zd9 V C):=by
 refine⟨z.n1,z.n2,z.s1,z.s2,z.note,z.room,by rw[qhn,z.Vl],fun p hp=>?_,z.ok⟩
 obtain⟨i,hi,rfl⟩:=aS.1 hp
 have hi:=dL.1 hi
 cases hl:C.lookup i with
 |some b=>exact(hC _ (zbt hl)).2
 |none=>
  show(V.getD i []).length=512
  rw[aE,aB hi]
  exact z.Vs _ (aT hi)
variable{s:Pg}
theorem qk2(h:StI s D n secs note V B TS)(hB:B+1<9223372036854775808):
  ((zge s D).1=0∧zig D (zge s D).2.1∧StI { zvl s D with dead:=s.dead||decide ((zge s D).1=4) } (zge s D).2.1 n secs note V (B+1) [])∨((zge s D).1=4∧zmr D (zge s D).2.1 n secs note V (B+1)):=by
 have z:=h.siz
 have hroom:=z.room
 have hk:∀i∈s.R,∃b,s.K.lookup i=some b∧V[i]? =some b:=fun i hi=>by
  obtain⟨b,hb⟩:=cI.1 (h.Rk i hi).1
  exact⟨b,hb,h.Kv i b hb⟩
 have hmem:∀p∈wsD s,∃i∈s.R,p.1=2+secs+i∧s.K.lookup i=some p.2:=fun p hp=>by
  obtain⟨q,hq,rfl⟩:=aS.1 hp
  obtain⟨i,hi,rfl⟩:=aS.1 hq
  have hi:=zhl.1 hi
  obtain⟨b,hb, -⟩:=hk i hi
  refine⟨i,hi,by show 2+s.g.h.secs+i=_;rw[h.hsecs],?_⟩
  simp only[hb,eD]
 have hin:∀i∈s.R,2+secs+i∈(wsD s).map (·.1):=fun i hi=>by
  refine aS.2 ⟨(2+secs+i,(s.K.lookup i).getD []),?_,rfl⟩
  rw[←h.hsecs]
  exact aS.2 ⟨(i,(s.K.lookup i).getD []),aS.2 ⟨i,zhl.2 hi,rfl⟩,rfl⟩
 have hws:qjg D (wsD s):=fun p hp=>by
  obtain⟨i,hi,h1,h2⟩:=hmem p hp
  have:=h.Kok _ (zbt h2)
  have h3:=(h.Rk i hi).2.2
  exact⟨oQ,this.2⟩
 have hout:∀i,i<2+secs→∀p∈wsD s,p.1≠i:=fun i hi p hp=>by
  obtain⟨j, -,h1, -⟩:=hmem p hp
  omega
 have hun:∀i,i∉s.R→∀p∈wsD s,p.1≠2+secs+i:=fun i hi p hp he=>by
  obtain⟨j,hj,h1, -⟩:=hmem p hp
  have:j=i:=oQ
  exact hi (this▸hj)
 have R0:=h.rec' oQ
 unfold zvl zge
 rcases qpz h.rest hws with ⟨e,hl,hon⟩ |⟨e,hd,hm⟩
 ·have hok1:=zlt z.ok (wsD s)
  simp only[if_pos e]
  generalize zcm D (wsD s)=r at e hl hon hok1⊢
  have hlow:∀i,i<2+secs→r.2.on[i]? =D.on[i]? :=fun i hi=>by rw[hon];exact zff (hout i hi)
  have hlen:r.2.on.length=D.on.length:=by rw[hon,zgy]
  have hpg:∀i,i<n→r.2.on[2+secs+i]? =V[i]? :=fun i hi=>by
   by_cases hiR:i∈s.R
   ·obtain⟨b,hb,hv⟩:=hk i hiR
    rw[hon,zkp (fun j=>(s.K.lookup (j - (2+secs))).getD []) _ _ _ oQ fun p hp=>by
     obtain⟨j, -,h1,h2⟩:=hmem p hp
     show p.2=(s.K.lookup (p.1 - (2+secs))).getD []
     rw[h1,show 2+secs+j - (2+secs)=j by omega,h2]
     rfl]
    rw[if_pos (hin i hiR),show 2+secs+i - (2+secs)=i by omega,hb,hv]
    rfl
   ·rw[hon,zff (hun i hiR)]
    exact h.pages i hi hiR
  have hsame:zhq D r.2 s.g.h.secs:=zqt h.rest.wait hl.rest.wait fun i hi=>hlow (2+i) (by have:=h.hsecs;omega)
  have L1:zwh r.2 s.g (TS.map zc7):=h.log.ext (fun i hi=>(hlow i oQ).symm) hsame
  have hnx:s.g.next<18446744073709551616:=by have:=h.next;omega
  have hgn:s.g.h.gen+1<18446744073709551616:=by have:=h.gen;omega
  have hok2:=zlt hok1 [(zaz s.g.at_,hdP (zbk s.g))]
  rw[zha]
  rcases qcy hl.rest (by rw[h.hsecs,hlen];omega) (L1.rec' hnx) hgn hnx (fun i hi hs=>(L1.sheets i hi hs).1)with ⟨e2,hl2,L2,h2,hlen2⟩ |⟨e2,hd2,L2,h2,hlen2⟩
  ·left
   have htg:({ zjd s.g r.2 with dead:=decide ((zcm r.2 [(zaz s.g.at_,hdP (zbk s.g))]).1=4) }:Lg)={ s.g with h:=zbk s.g,at_:=zaz s.g.at_,used:=0,dead:=false }:=by
    unfold zjd
    rw[zha,if_pos e2,e2]
    rfl
   rw[htg]
   generalize zcm r.2 [(zaz s.g.at_,hdP (zbk s.g))]=r2 at e2 hl2 L2 h2 hlen2 hok2⊢
   rw[if_pos e2,e2]
   refine⟨rfl,⟨hl2.rest,hl2.keep.trans hl.keep,fun h=>hl2.left (hl.left h)⟩,?_⟩
   refine⟨z.ext hok2 (by rw[hlen2,hlen]),hl2.rest,h.hn,h.hnote,h.hsecs,h.hhnote,L2,(fun _ hh=>(nomatch hh)),?_,h.Kok,h.Kv,(fun _ hh=>(nomatch hh)),eT,fun i hi _=>by rw[h2 _ oQ];exact hpg i hi,fun i b hb=>(by cases hb),h.Cok,h.Cn,?_,?_⟩
   ·show(s.dead||decide ((0:Nat)=4))=false
    rw[h.dead];rfl
   ·show(zbk s.g).gen≤B+1
    rw[show(zbk s.g).gen=s.g.h.gen+1 from bD hgn]
    have:=h.gen;omega
   ·show s.g.next≤B+1
    have:=h.next;omega
  ·right
   generalize zcm r.2 [(zaz s.g.at_,hdP (zbk s.g))]=r2 at e2 hd2 L2 h2 hlen2 hok2⊢
   have hpg2:∀i,i<n→r2.2.on[2+secs+i]? =V[i]? :=fun i hi=>by rw[h2 _ oQ,hpg i hi]
   refine⟨e2,⟨fun h=>hd2.left (hl.left h),hd2.dead,hd2.wait,hd2.left',hd2.keep⟩,z.ext hok2 (by rw[hlen2,hlen]),?_⟩
   rcases L2 with L2|L2
   ·refine⟨s.g.h,s.g.at_,TS,⟨⟨L2.c01,L2.hok,L2.secs,L2.head,L2.other,fun i hi hs=>⟨aY (L2.sheets i hi hs).1 (by have:=h.next;omega),(L2.sheets i hi hs).2⟩,L2.read,cH L2.first (by have:=h.next;omega)⟩,h.hsecs,h.hhnote,by have:=h.gen;omega,R0.ts,fun i hi=>?_⟩⟩
    rw[hpg2 i hi]
    cases hlt:zil TS i with
    |none=>rfl
    |some b=>exact(h.rep i b hlt).symm
   ·refine⟨_,_,[],⟨⟨L2.c01,L2.hok,L2.secs,L2.head,L2.other,fun i hi hs=>⟨aY (L2.sheets i hi hs).1 (by have:=h.next;omega),(L2.sheets i hi hs).2⟩,L2.read,cH L2.first (by have:=h.next;omega)⟩,h.hsecs,h.hhnote,by rw[show(zbk s.g).gen=s.g.h.gen+1 from bD hgn];have:=h.gen;omega,⟨(fun _ hh=>(nomatch hh)),dQ⟩,fun i hi=>?_⟩⟩
    rw[hpg2 i hi];rfl
 ·right
  have hok1:=zlt z.ok (wsD s)
  have e':¬(zcm D (wsD s)).1=0:=by rw[e];decide
  simp only[if_neg e']
  generalize zcm D (wsD s)=r at e hd hm hok1⊢
  refine⟨e,hd,z.ext hok1 hm.1,s.g.h,s.g.at_,TS,?_⟩
  refine(R0.pages (D':=r.2) h.rest.wait hd.wait (fun i hi=>zva hm (hout i hi)) (fun i hi hlt=>zva hm (hun i fun hR=>?_))).more oQ
  have:=(h.Rk i hR).2.1
  rw[hlt]at this
  cases this
theorem qbz(h:StI s D n secs note V B TS)(hB:B+600<9223372036854775808)(hC0:s.C≠[])(hroom:s.g.used+zao (tC s).length≤secs):
  ((qey s D).1=0∧zig D (qey s D).2.1∧∀x,qgt (qey s D).2.2 x→StI { (qey s D).2.2 with K:=x.1,R:=x.2,C:=[] } (qey s D).2.1 n secs note (zd9 V s.C) (B+600) (TS++[zb2 s.C]))∨
  ((qey s D).1=4∧(zmr D (qey s D).2.1 n secs note V (B+600)∨zmr D (qey s D).2.1 n secs note (zd9 V s.C) (B+600))):=by
 have z:=h.siz
 have hrm:=z.room
 have hsz:=h.hsecs
 have hs2:=z.s2
 have hrn:zb2 s.C≠[]:=fun hc=>hC0 (bQ (by rw[←zqn,hc];rfl))
 have htn:tC s≠[]:=qlh hrn
 have hCl:=zz7 h.Cok h.Cn
 have hro:(zb2 s.C).Ok n∧zb2 s.C≠[]∧(zb2 s.C).length≤1024:=⟨zmc h.Cok,hrn,by rw[zqn];have:=z.n2;omega⟩
 have hTS':(TS++[zb2 s.C]).map zc7=TS.map zc7++[tC s]:=by rw[cC];rfl
 have hlast:∀i,zil (TS++[zb2 s.C]) i=(s.C.lookup i).or (zil TS i):=fun i=>by rw[zkj,qka]
 have hVl:=z.Vl
 have hov:∀i,i<n→(zd9 V s.C)[i]? =(s.C.lookup i).or V[i]? :=fun i hi=>qcb oQ
 have hcm:zop D s.g (tC s)=zcm D (wsC s.g (tC s)):=by
  rw[zop,if_neg oQ,if_neg oQ]
 have hnx:s.g.next+zao (tC s).length<18446744073709551616:=by have:=h.next;omega
 have R0:=h.rec' oQ
 have hok1:=zlt z.ok (wsC s.g (tC s))
 have hcb:=qdb h.rest h.log (by rw[hsz];omega) htn (by rw[hsz];exact hroom) hnx
 unfold qey
 rw[hcm]
 have hcg:qjd D s.g (tC s)=if (zcm D (wsC s.g (tC s))).1=0 then { s.g with next:=s.g.next+zao (tC s).length,used:=s.g.used+zao (tC s).length } else s.g:=by rw[qjd,hcm]
 rw[hcg]
 have hlt2:∀i b,(zil (TS++[zb2 s.C]) i)=some b→(zd9 V s.C)[i]? =some b:=fun i b hb=>by
  rw[hlast]at hb
  cases hl:s.C.lookup i with
  |some b'=>
   rw[hl]at hb
   rw[hov i (h.Cok _ (zbt hl)).1,hl]
   exact hb
  |none=>
   rw[hl]at hb
   have hv:=h.rep i b hb
   have hi:i<n:=by
    have:=(aC.1 hv).1
    omega
   rw[hov i hi,hl]
   exact hv
 rcases hcb with ⟨e,hl,L2,hhi,hlen⟩ |⟨e,hd,L2,hhi,hlen⟩
 ·left
  generalize zcm D (wsC s.g (tC s))=r at e hl L2 hhi hlen hok1⊢
  have hg2:({ (if r.1=0 then { s.g with next:=s.g.next+zao (tC s).length,used:=s.g.used+zao (tC s).length } else s.g:Lg)with dead:=decide (r.1=4) }:Lg)={ s.g with next:=s.g.next+zao (tC s).length,used:=s.g.used+zao (tC s).length,dead:=false }:=by
   rw[if_pos e,e];rfl
  rw[hg2]
  refine⟨e,hl,fun x hx=>?_⟩
  obtain⟨k1,k2,k3,k4⟩:=hx
  simp only at k1 k2 k3 k4
  refine⟨(z.ext hok1 hlen).over h.Cok,hl.rest,h.hn,h.hnote,h.hsecs,h.hhnote,by rw[hTS'];exact L2,fun Q hQ=>?_,?_,by rw[←h.hn];exact k3,fun i b hb=>?_,fun i hi=>?_,k4 h.Rn,fun i hi hiR=>?_,hlt2,(fun _ hh=>(nomatch hh)),eT,?_,?_⟩
  ·rcases aR.1 hQ with hQ|hQ
   ·exact h.ts Q hQ
   ·rw[aN]at hQ
    subst hQ
    exact hro
  ·show(s.dead||decide (r.1=4))=false
   rw[h.dead,e];rfl
  ·have hi:i<n:=by rw[←h.hn];exact(k3 _ (zbt hb)).1
   have hb:x.1.lookup i=some b:=hb
   rw[k1]at hb
   rw[hov i hi]
   cases hl':s.C.lookup i with
   |some b'=>rw[hl']at hb;exact hb
   |none=>rw[hl']at hb;exact h.Kv i b hb
  ·have hi:i∈x.2:=hi
   rw[hlast]
   show(x.1.lookup i).isSome=true∧_
   rw[k1]
   rcases(k2 i).1 hi with h1|h1
   ·obtain⟨a1,a2,a3⟩:=h.Rk i h1
    refine⟨?_,?_,a3⟩
    ·cases s.C.lookup i with
     |some b=>rfl
     |none=>exact a1
    ·cases s.C.lookup i with
     |some b=>rfl
     |none=>exact a2
   ·obtain⟨b,hb⟩:=cI.1 h1
    rw[hb]
    exact⟨rfl,rfl,(h.Cok _ (zbt hb)).1⟩
  ·have hiR:i∉x.2:=hiR
   rw[k2]at hiR
   rw[hhi _ oQ,hov i hi]
   have hc:s.C.lookup i=none:=by
    cases hl':s.C.lookup i with
    |none=>rfl
    |some b=>exact absurd (.inr (by rw[hl'];rfl)) hiR
   rw[hc]
   exact h.pages i hi fun hR=>hiR (.inl hR)
  ·show s.g.h.gen≤B+600
   have:=h.gen;omega
  ·show s.g.next+zao (tC s).length≤B+600
   have:=h.next;omega
 ·right
  generalize zcm D (wsC s.g (tC s))=r at e hd L2 hhi hlen hok1⊢
  refine⟨e,?_⟩
  have hbd:s.g.next+zao (tC s).length≤B+600:=by have:=h.next;omega
  rcases L2 with L2|L2
  ·left
   refine⟨hd,z.ext hok1 hlen,s.g.h,s.g.at_,TS,⟨⟨L2.c01,L2.hok,L2.secs,L2.head,L2.other,fun i hi hs=>⟨aY (L2.sheets i hi hs).1 hbd,(L2.sheets i hi hs).2⟩,L2.read,cH L2.first hbd⟩,h.hsecs,h.hhnote,by have:=h.gen;omega,R0.ts,fun i hi=>?_⟩⟩
   rw[hhi _ oQ]
   exact R0.rep i hi
  ·right
   have hmany:(TS++[zb2 s.C]).length≤512:=by
    have h1:=h.log.many
    have h2:=zh5 (tC s).length
    rw[aD]at h1
    rw[aA,cA]
    omega
   refine⟨hd,(z.ext hok1 hlen).over h.Cok,s.g.h,s.g.at_,TS++[zb2 s.C],⟨⟨L2.c01,L2.hok,L2.secs,L2.head,L2.other,fun i hi hs=>⟨aY (L2.sheets i hi hs).1 hbd,(L2.sheets i hi hs).2⟩,by rw[hTS'];exact L2.read,cH L2.first hbd⟩,h.hsecs,h.hhnote,by have:=h.gen;omega,⟨fun Q hQ=>?_,hmany⟩,fun i hi=>?_⟩⟩
   ·rcases aR.1 hQ with hQ|hQ
    ·exact h.ts Q hQ
    ·rw[aN]at hQ
     subst hQ
     exact hro
   ·rw[hhi _ oQ]
    cases hlt:zil (TS++[zb2 s.C]) i with
    |some b=>exact(hlt2 i b hlt).symm
    |none=>
     rw[hlast]at hlt
     have hc:s.C.lookup i=none∧zil TS i=none:=by
      cases hl':s.C.lookup i with
      |some b=>rw[hl']at hlt;cases hlt
      |none=>rw[hl']at hlt;exact⟨rfl,hlt⟩
     have:=R0.rep i hi
     rw[hc.2]at this
     rw[hov i hi,hc.1]
     exact this
theorem zig.trans{D D1 D2:Dsk}(h:zig D D1)(h':zig D1 D2):zig D D2:=⟨h'.rest,h'.keep.trans h.keep,fun hl=>h'.left (h.left hl)⟩
theorem zmr.trans{D1 D2:Dsk}(h:zig D D1)(h':zmr D1 D2 n secs note V B):zmr D D2 n secs note V B:=
 ⟨⟨fun hl=>h'.1.left (h.left hl),h'.1.dead,h'.1.wait,h'.1.left',h'.1.keep⟩,h'.2⟩
theorem zmr.more{D D':Dsk}{n secs:Nat}{note:Bys}{V:List Bys}{B B':Nat}(h:zmr D D' n secs note V B)(hB:B≤B'):zmr D D' n secs note V B':=by
 obtain⟨a,b,hd,c,TS,R⟩:=h
 exact⟨a,b,hd,c,TS,R.more hB⟩
theorem StI.more{B':Nat}(h:StI s D n secs note V B TS)(hB:B≤B'):StI s D n secs note V B' TS:=
 ⟨h.siz,h.rest,h.hn,h.hnote,h.hsecs,h.hhnote,h.log,h.ts,h.dead,h.Kok,h.Kv,h.Rk,h.Rn,h.pages,h.rep,h.Cok,h.Cn,cH h.gen hB,cH h.next hB⟩
def StV(s:Pg)(D:Dsk)(n secs:Nat)(note:Bys)(V:List Bys)(B:Nat):Prop:=∃TS,StI s D n secs note V B TS
structure Off (D:Dsk) (n secs:Nat) (note:Bys) (V:List Bys) (B:Nat):Prop where
 dead:D.dead=true
 wait:D.wait=[]
 left:D.left=none
 keep:D.keep=[]
 siz:Siz D n secs note V
 has:∃h c TS,zy7 D n secs note V B h c TS
theorem zmr.off(h:zmr D D' n secs note V B):Off D' n secs note V B:=
 ⟨h.1.dead,h.1.wait,h.1.left',h.1.keep,h.2.1,h.2.2⟩
theorem qnm(h:StV s D n secs note V B)(hB:B+700<9223372036854775808)(hC0:s.C≠[])(hneed:zao (tC s).length≤secs):
  ((cmF s D).1=0∧zig D (cmF s D).2.1∧∀x,qgt (cmF s D).2.2 x→StV (cmR s D x) (cmF s D).2.1 n secs note (zd9 V s.C) (B+601))∨
  ((cmF s D).1=4∧(zmr D (cmF s D).2.1 n secs note V (B+601)∨zmr D (cmF s D).2.1 n secs note (zd9 V s.C) (B+601))):=by
 obtain⟨TS,h⟩:=h
 have hsz:=h.hsecs
 have hul:=h.log.usedle
 unfold cmR cmF
 by_cases hl:s.g.h.secs - s.g.used<zao (tC s).length
 ·have e1:zoo s D=((zge s D).1,(zge s D).2.1,{ zvl s D with dead:=s.dead||decide ((zge s D).1=4) }):=by unfold zoo;rw[if_pos hl]
  rw[e1]
  simp only
  rcases qk2 h oQ with ⟨o1,o2,o3⟩ |⟨o1,o2⟩
  ·simp only[if_pos o1]
   have ht:tC { zvl s D with dead:=s.dead||decide ((zge s D).1=4) }=tC s:=rfl
   have hg0:(zge s D).2.2.used=0:=by
    have:=o3.log.next
    have h2:=o3.log.used
    have e2:zlq ({ zvl s D with dead:=s.dead||decide ((zge s D).1=4) }:Pg).g.h.first []=({ zvl s D with dead:=s.dead||decide ((zge s D).1=4) }:Pg).g.h.first:=rfl
    rw[jZ,e2]at this
    have e3:({ zvl s D with dead:=s.dead||decide ((zge s D).1=4) }:Pg).g=(zge s D).2.2:=rfl
    rw[e3]at this h2
    omega
   have hC':({ zvl s D with dead:=s.dead||decide ((zge s D).1=4) }:Pg).C=s.C:=rfl
   rcases qbz o3 oQ (by rw[hC'];exact hC0) (by rw[ht];show(zge s D).2.2.used+_≤_;omega)with ⟨l1,l2,l3⟩ |⟨l1,l2⟩
   ·left
    refine⟨l1,o2.trans l2,fun x hx=>?_⟩
    rw[if_pos l1]
    exact⟨_,l3 x hx⟩
   ·right
    refine⟨l1,?_⟩
    rcases l2 with l2|l2
    ·exact .inl (l2.trans o2)
    ·exact .inr (l2.trans o2)
  ·right
   rw[if_neg (by rw[o1];decide)]
   exact⟨o1,.inl (o2.more oQ)⟩
 ·have e1:zoo s D=(0,D,s):=by unfold zoo;rw[if_neg hl]
  rw[e1]
  simp only[if_true]
  rcases qbz h oQ hC0 oQ with ⟨l1,l2,l3⟩ |⟨l1,l2⟩
  ·left
   refine⟨l1,l2,fun x hx=>?_⟩
   rw[if_pos l1]
   exact⟨_,(l3 x hx).more oQ⟩
  ·right
   exact⟨l1,l2.imp (fun h=>h.more oQ) (fun h=>h.more oQ)⟩
end Go.Proofs.YthafakdplhdfjaaGreatDoor
namespace Go.Proofs.YthafakdplhdfjaaGreatDoor
open Go.Eng.Bm
open Go.Eng
def ze5(V:List Bys)(C:PR)(i:Nat):Bys:=(C.lookup i).getD (V.getD i [])
variable{s:Pg}{D:Dsk}{n secs:Nat}{note:Bys}{V:List Bys}{TS:List PR}
theorem StI.ok{B:Nat}(h:StI s D n secs note V B TS):s.Ok D:=by
 have z:=h.siz
 have h1:=z.n2
 have h2:=z.s2
 have h3:=z.room
 exact⟨by rw[h.hn];exact h1,by rw[h.hsecs];omega,by rw[h.hn,h.hsecs];exact h3,by rw[h.hn];exact h.Cok,by rw[h.hn];exact h.Kok⟩
variable{i:Nat}
theorem StI.cur{B:Nat}(h:StI s D n secs note V B TS)(hi:i<n)(hR:i∉s.R):zcn D (2+s.g.h.secs+i)=V.getD i []:=by
 rw[zfk h.rest.wait,aE,aE,h.hsecs,h.pages i hi hR]
theorem StI.view{B:Nat}(h:StI s D n secs note V B TS)(hi:i<n):pageB s D i=ze5 V s.C i:=by
 unfold pageB ze5
 cases hc:s.C.lookup i with
 |some b=>rfl
 |none=>
  cases hk:s.K.lookup i with
  |some b=>
   show b=V.getD i []
   rw[aE,h.Kv i b hk];rfl
  |none=>exact h.cur hi fun hR=>by have:=(h.Rk i hR).1;rw[hk]at this;cases this
theorem StI.page{B:Nat}(h:StI s D n secs note V B TS)(hi:i<n):StI (zb1 s D i) D n secs note V B TS:=by
 unfold zb1
 split
 ·exact h
 ·rename_i hn
  have hk:s.K.lookup i=none:=by
   cases hk:s.K.lookup i with
   |none=>rfl
   |some b=>rw[hk]at hn;cases hc:s.C.lookup i<;>rw[hc]at hn<;>exact absurd rfl hn
  have hR:i∉s.R:=fun hR=>by have:=(h.Rk i hR).1;rw[hk]at this;cases this
  have hcu:=h.cur hi hR
  have hVl:=h.siz.Vl
  have hV:V[i]? =some (V.getD i []):=by rw[aE,aB oQ];rfl
  refine⟨h.siz,h.rest,h.hn,h.hnote,h.hsecs,h.hhnote,h.log,h.ts,h.dead,?_,fun j b hj=>?_,fun j hj=>?_,h.Rn,h.pages,h.rep,h.Cok,h.Cn,h.gen,h.next⟩
  ·exact h.Kok.ins hi (by rw[hcu];exact h.siz.Vs _ (bI hV))
  ·have hj:(zeb s.K i (zcn D (2+s.g.h.secs+i))).lookup j=some b:=hj
   rw[zcp]at hj
   by_cases hji:j=i
   ·rw[if_pos hji]at hj
    cases hj
    rw[hji,hcu];exact hV
   ·rw[if_neg hji]at hj
    exact h.Kv j b hj
  ·obtain⟨a1,a2,a3⟩:=h.Rk j hj
   refine⟨?_,a2,a3⟩
   show((zeb s.K i (zcn D (2+s.g.h.secs+i))).lookup j).isSome=true
   rw[zcp]
   split
   ·rfl
   ·exact a1
theorem zm9(s:Pg)(D:Dsk)(i:Nat):(zb1 s D i).C=s.C:=by unfold zb1;split<;>rfl
theorem qhq(s:Pg)(D:Dsk)(i:Nat):(zb1 s D i).b=s.b:=by unfold zb1;split<;>rfl
theorem zmx{A:PR}{b:Bys}(h:(A.map (·.1)).Nodup):((zeb A i b).map (·.1)).Nodup:=by
 unfold zeb
 split
 ·have e:(A.map fun p=>if p.1=i then(i,b)else p).map (·.1)=A.map (·.1):=by
   rw[dJ]
   refine cT fun p _=>?_
   show(if p.1=i then(i,b)else p).1=p.1
   split
   ·rename_i hp;exact hp.symm
   ·rfl
  rw[e];exact h
 ·rename_i hn
  rw[cC,cN]
  refine⟨h,by simp,fun x hx y hy=>?_⟩
  simp only[bG,jZ,aN]at hy
  subst hy
  rintro rfl
  exact hn (zci.2 hx)
variable{C:PR}
theorem StI.setC{B:Nat}(h:StI s D n secs note V B TS)(hC:C.Ok n)(hn:(C.map (·.1)).Nodup):StI { s with C:=C } D n secs note V B TS:=
 ⟨h.siz,h.rest,h.hn,h.hnote,h.hsecs,h.hhnote,h.log,h.ts,h.dead,h.Kok,h.Kv,h.Rk,h.Rn,h.pages,h.rep,hC,hn,h.gen,h.next⟩
theorem StI.ins{s:Pg}{D:Dsk}{n secs:Nat}{note:Bys}{V:List Bys}{B:Nat}{TS:List PR}(h:StI s D n secs note V B TS){i:Nat}{b:Bys}(hi:i<n)(hb:b.length=512):StI { s with C:=zeb s.C i b } D n secs note V B TS:=
 h.setC (h.Cok.ins hi hb) (zmx h.Cn)
theorem zo7(V:List Bys)(C:PR)(i j:Nat)(b:Bys):ze5 V (zeb C i b) j=if j=i then b else ze5 V C j:=by
 unfold ze5
 rw[zcp]
 split<;>rfl
theorem zx6(hi:i<V.length):(zd9 V C).getD i []=ze5 V C i:=by
 rw[aE,qcb hi]
 unfold ze5
 rw[aE,aB hi]
 cases C.lookup i<;>rfl
theorem qhm{C':PR}(h:∀i,C.lookup i=C'.lookup i):zd9 V C=zd9 V C':=by
 unfold zd9
 exact cT fun i _=>by rw[h i]
theorem qh8{A A':PR}(h:∀i,A.lookup i=A'.lookup i)(hn:(A.map (·.1)).Nodup)(hn':(A'.map (·.1)).Nodup):A.length=A'.length:=by
 have h1:A.length≤A'.length:=by
  have:=zkk hn (L:=A'.map (·.1)) fun x hx=>zci.1 (by rw[←h];exact zci.2 hx)
  simpa using this
 have h2:A'.length≤A.length:=by
  have:=zkk hn' (L:=A.map (·.1)) fun x hx=>zci.1 (by rw[h];exact zci.2 hx)
  simpa using this
 omega
def zy6(n:Nat)(b:Bys)(S:Nat→Bool):Prop:=b=bmB n S∧zrl n S∧S 0=true
theorem zws{S:Nat→Bool}{u:Bool}(h:zrl n S)(hi:i<n):zrl n (upd S i u):=fun j hj=>by
 unfold upd
 rw[if_neg oQ]
 exact h j hj
theorem zw1{S:Nat→Bool}{n:Nat}(h:zrl n S):∀k,cnt S (n+k)=cnt S n
 |0=>rfl
 |k+1=>by
  show cnt S (n+k)+(S (n+k)).toNat=_
  rw[zw1 h k,h (n+k) (gE _ _)];rfl
theorem qsx(h:s.C.Ok n)(h0:s.C≠[]):zao (tC s).length=(514*s.C.length+496)/497:=by
 have:=zj5 (zmc h)
 rw[zqn]at this
 rw[show(tC s).length=514*s.C.length from this]
 have h1:0<s.C.length:=iP.2 h0
 unfold zao
 omega
end Go.Proofs.YthafakdplhdfjaaGreatDoor
namespace Go.Proofs.YthafakdplhdfjaaGreatDoor
open Go.Eng.Bm
open Go.Eng
def zy2:Bys:=List.replicate 512 0
theorem qgc:zrt zy2=false:=by decide+kernel
theorem qlf:zjc zy2=false:=by decide+kernel
theorem ql9(n:Nat)(h:1≤n):zy6 n (bm0 n) (upd noU 0 true):=by
 refine⟨rfl,fun j hj=>?_,rfl⟩
 unfold upd
 rw[if_neg oQ];rfl
def V0(n:Nat):List Bys:=(List.range n).map fun i=>if i=0 then bm0 n else zej
theorem qp9(n:Nat):(V0 n).length=n:=by simp[V0]
variable{n:Nat}
theorem qng{i:Nat}(h:i<n):(V0 n)[i]? =some (if i=0 then bm0 n else zej):=by
 unfold V0
 rw[aO,eO h];rfl
theorem qp8:∀p∈V0 n,p.length=512:=fun p hp=>by
 obtain⟨i, -,rfl⟩:=aS.1 hp
 split
 ·exact zpb _ _
 ·exact cD
variable{D:Dsk}
theorem qg3(hw:D.wait=[])(h:∀i,i<2→D.on[i]? =some zy2):zdo D 2=(qae, -1):=by
 have e:∀i,i<2→zrt (zcn D i)=false:=fun i hi=>by
  rw[Dsk.cur hw (h i hi)];exact qgc
 unfold zdo zdo zdo zi9
 rw[e 0 dQ,e 1 dQ]
 rfl
theorem zqx(hw:D.wait=[])(h:∀i,i<n→D.on[2+i]? =some zy2):∀i,i<n→zed D n i=false:=fun i hi=>by
 unfold zed
 rw[Dsk.cur hw (h i hi),qlf];rfl
theorem zvv{D:Dsk}{n:Nat}(h:∀i,i<n→zed D n i=false):∀i,i≤n→zbm D n i=[]
 |0,_=>rfl
 |i+1,hi=>by
  rw[zbm,if_neg (by rw[show(zjc (zcn D (2+i))&&decide (za9 (zgl (zcn D (2+i))).seq n=2+i))=zed D n i from rfl,h i oQ];decide)]
  exact zvv h i oQ
theorem qol{N i:Nat}(h:i<N):(zvd N).on[i]? =some zy2:=by
 show(List.replicate N (List.replicate 512 0))[i]? =_
 rw[iZ,if_pos h];rfl
theorem qnw{N log:Nat}{note:Bys}(hN:N≤4096)(hl1:1≤log)(hlg:log≤512)(hn1:64≤n)(hn2:n≤1024)(hno:note.length≤40)(hroom:2+log+n≤N):
  (qe1 (zvd N) log n note).1=0∧(qe1 (zvd N) log n note).2.Rest∧(qe1 (zvd N) log n note).2.left=none∧(qe1 (zvd N) log n note).2.keep=[]∧Siz (qe1 (zvd N) log n note).2 n log note (V0 n)∧∃h,zy7 (qe1 (zvd N) log n note).2 n log note (V0 n) 1 h 1 []:=by
 have hr:(zvd N).Rest:=⟨rfl,rfl⟩
 have hlen:(zvd N).on.length=N:=cD
 have hok:(zvd N).Ok:=qg8 hN
 have hws:qjg (zvd N) (zhp log n):=fun p hp=>by
  obtain⟨i,hi,rfl⟩:=aS.1 hp
  have hi:=dL.1 hi
  refine⟨by show 2+log+i<_;omega,?_⟩
  show(if i=0 then bm0 n else zej).length=512
  split
  ·exact zpb _ _
  ·exact cD
 have hout:∀i,i<2+log→∀p∈zhp log n,p.1≠i:=fun i hi p hp=>by
  obtain⟨j, -,rfl⟩:=aS.1 hp
  show 2+log+j≠i
  omega
 unfold qe1
 rcases qpz hr hws with ⟨e,hl,hon⟩ |⟨-,hd, -⟩
 ·have hok1:=zlt hok (zhp log n)
  rw[if_pos e]
  generalize zcm (zvd N) (zhp log n)=r at e hl hon hok1⊢
  have hlow:∀i,i<2+log→r.2.on[i]? =some zy2:=fun i hi=>by
   rw[hon,zff (hout i hi)]
   exact qol oQ
  have hlen1:r.2.on.length=N:=by rw[hon,zgy,hlen]
  have hpg:∀i,i<n→r.2.on[2+log+i]? =(V0 n)[i]? :=fun i hi=>by
   rw[qng hi,hon,zkp (fun j=>if j - (2+log)=0 then bm0 n else zej) _ _ _ oQ fun p hp=>by
    obtain⟨j, -,rfl⟩:=aS.1 hp
    show _=if 2+log+j - (2+log)=0 then _ else _
    rw[show 2+log+j - (2+log)=j by omega]]
   have hmem:2+log+i∈(zhp log n).map (·.1):=aS.2 ⟨_,aS.2 ⟨i,dL.2 hi,rfl⟩,rfl⟩
   rw[if_pos hmem,show 2+log+i - (2+log)=i by omega]
  have hlk:zdo r.2 2=(qae, -1):=qg3 hl.rest.wait fun i hi=>hlow i oQ
  have hsn:=zqx (D:=r.2) (n:=log) hl.rest.wait fun i hi=>hlow (2+i) oQ
  have hrd:=zvv hsn log (bA _)
  have hnh:qd1 r.2 log (beN 2 n++note)=⟨1,1,log,beN 2 n++note⟩:=by
   unfold qd1
   rw[hlk,←zo4,hrd]
   rfl
  have hh:Hd.Ok ⟨1,1,log,beN 2 n++note⟩:=⟨by show 1<18446744073709551616;decide,by show 1<18446744073709551616;decide,by show log<65536;omega,by show(beN 2 n++note).length≤64;rw[aA,zal];omega⟩
  rw[hlk,hnh,show zaz ((qae,(-1:Int)).2)=1 from rfl,zha]
  have hws2:qjg r.2 [(1,hdP ⟨1,1,log,beN 2 n++note⟩)]:=fun p hp=>by
   rw[aN]at hp
   subst hp
   exact⟨by show 1<_;omega,zut hh.note⟩
  rcases qpz hl.rest hws2 with ⟨e2,hl2,hon2⟩ |⟨-,hd2, -⟩
  ·have hok2:=zlt hok1 [(1,hdP ⟨1,1,log,beN 2 n++note⟩)]
   generalize zcm r.2 [(1,hdP ⟨1,1,log,beN 2 n++note⟩)]=r2 at e2 hl2 hon2 hok2⊢
   have hother:∀i,i≠1→r2.2.on[i]? =r.2.on[i]? :=fun i hi=>by
    rw[hon2]
    exact zff fun p hp=>by
     rw[aN]at hp
     subst hp
     exact hi.symm
   have hsn2:=zqx (D:=r2.2) (n:=log) hl2.rest.wait fun i hi=>by rw[hother _ oQ];exact hlow (2+i) oQ
   have hrd2:=zvv hsn2 log (bA _)
   refine⟨e2,hl2.rest,hl2.left (hl.left rfl),hl2.keep.trans hl.keep,⟨hn1,hn2,hl1,hlg,hno,by rw[hon2,zgy,hlen1];exact hroom,qp9 n,qp8,hok2⟩,_,⟨⟨.inr rfl,hh,hl1,?_,fun h0=>?_,fun i hi hs=>?_,?_,bA _⟩,rfl,rfl,bA _,⟨(fun _ hh=>(nomatch hh)),dQ⟩,fun i hi=>?_⟩⟩
   ·rw[hon2]
    exact dS oQ
   ·rw[aE,hother 0 dQ,hlow 0 oQ]at h0
    rw[show(some zy2).getD []=zy2 from rfl,qgc]at h0
    cases h0
   ·rw[hsn2 i hi]at hs
    cases hs
   ·show zvk r2.2 ⟨1,1,log,beN 2 n++note⟩=[]
    unfold zvk
    show zda (zbm r2.2 log log) ((zbm r2.2 log log).length+1) 1 [] []=[]
    rw[hrd2]
    rfl
   ·rw[hother _ oQ,hpg i hi];rfl
  ·exact absurd (hl.left rfl) hd2.left
 ·exact absurd rfl hd.left
end Go.Proofs.YthafakdplhdfjaaGreatDoor
namespace Go.Proofs.YthafakdplhdfjaaGreatDoor
open Go.RowKit Go.Eng Go.Eng.Bm
end Go.Proofs.YthafakdplhdfjaaGreatDoor
namespace Go.Proofs.YthafakdplhdfjaaGreatDoor
open Go.RowKit Go.Eng Go.Eng.Bm
def cpF(C:PR):Nat→PR
 |0=>[]
 |k+1=>(C.lookup k).elim (cpF C k) (zeb (cpF C k) k)
theorem zsf(C:PR)(i:Nat):∀n,(cpF C n).lookup i=if i<n then C.lookup i else none
 |0=>rfl
 |k+1=>by
  have ih:=zsf C i k
  unfold cpF
  by_cases hik:i=k
  ·subst hik
   rw[if_pos (eN _)]
   cases hl:C.lookup i with
   |some x=>
    show(zeb (cpF C i) i x).lookup i=_
    rw[zcp,if_pos rfl]
   |none=>
    show(cpF C i).lookup i=none
    rw[ih,if_neg (Nat.lt_irrefl _)]
  ·have e:(if i<k+1 then C.lookup i else none)=if i<k then C.lookup i else none:=by
    by_cases h:i<k
    ·rw[if_pos h,if_pos oQ]
    ·rw[if_neg h,if_neg oQ]
   rw[e,←ih]
   cases C.lookup k with
   |some x=>
    show(zeb (cpF C k) k x).lookup i=_
    rw[zcp,if_neg hik]
   |none=>rfl
theorem zpj(C:PR):∀n,((cpF C n).map (·.1)).Nodup
 |0=>eT
 |k+1=>by
  unfold cpF
  cases C.lookup k with
  |some x=>exact zmx (zpj C k)
  |none=>exact zpj C k
def qpu(n:Nat)(C:PR)(i:Nat)(s:Bys):PR:=zeb (cpF C n) i s
end Go.Proofs.YthafakdplhdfjaaGreatDoor
namespace Go.Eng
open Go.RowKit
end Go.Eng
namespace Go.Proofs.YthafakdplhdfjaaGreatDoor
open Go.RowKit Go.Eng Go.Eng.Bm
end Go.Proofs.YthafakdplhdfjaaGreatDoor
namespace Go.Eng
open Go.RowKit
end Go.Eng
namespace Go.Proofs.YthafakdplhdfjaaGreatDoor
open Go.RowKit Go.Eng Go.Eng.Bm
end Go.Proofs.YthafakdplhdfjaaGreatDoor
