/- Parts: package pages; The two steps of an assignment to a map's entry among others. No condition. -/
import Derived.Test.YthafakdplhdfjaaGreatDoorHf09
import Derived.Test.YthafakdplhdfjaaGreatDoorHf02
set_option maxRecDepth 100000
set_option maxHeartbeats 40000000
namespace Go.Proofs.YthafakdplhdfjaaGreatDoor
open Go.RowKit Go.Eng Go.Eng.Bm
def zc7(R:PR):Bys:=R.flatMap fun p=>beN 2 p.1++p.2
theorem zj5{R:PR}{n:Nat}(h:R.Ok n):(zc7 R).length=514*R.length:=by
 induction R with
 |nil=>rfl
 |cons p R ih=>
  have h1:=(h p (.head _)).2
  have h2:=ih fun q hq=>h q (.tail _ hq)
  unfold zc7 at h2⊢
  rw[aV,aA,aA,zal,h1,h2,aW]
  omega
theorem qeq(R:PR)(p:Nat×Bys):zc7 (R++[p])=zc7 R++beN 2 p.1++p.2:=by
 simp[zc7]
theorem zya(s:Pg)(d:Dk)(hn:s.n≤1024)(hC:s.C.Ok s.n)(hCl:s.C.length≤1024):
  Cv Tryz.prog 131 #[.pointer (some ⟨s.b,0,none⟩)] [pgI s d] (fun _:Unit=>.string ⟨(zc7 (zb2 s.C)).toArray⟩) (fun _=>True) (fun _=>[pgI s d]):=by
 intro w hw
 refine za2 [_] _ Tryz.func131 rfl rfl hw (.cons (fun _ h=>nomatch h) .nil) ?_
 simp only[zaa]
 refine zg8 (m':=pgL s d) (fun w h=>ze1 (m:=[]) h) ?_
 unfold pgL
 refine goA ?_
 refine zdy rfl rfl kQ rfl (fun w1 hw1=>zg6 w1) fun x hx=>?_
 obtain⟨pb,hpb⟩:∃pb,pb=x:=⟨x,rfl⟩
 subst hpb
 refine goA ?_
 refine zd2 13 _ (.map (some s.cb)) rfl rfl ?_
 refine zdy rfl rfl kQ rfl (fun w1 hw1=>zsq s.cb w1) fun x hx=>?_
 have hkl2:(toP s.C).length=s.C.length:=by simp[toP]
 have hke:zjv (toP s.C)=s.C.map (·.1):=by simp[zjv,toP,fV]
 refine zay [0,7,1,2,3,4,5,6] rfl rfl ?_
 refine lCu (kyI x s.cb (toP s.C)) rfl (zki _ _ _) (fun w1 hw1 hh1 ha1=>zi3 x s.cb (toP s.C) oQ w1 hh1 ha1) fun⟨o,_⟩=>?_
 rw[hkl2,hke]
 dsimp only
 refine zch (fun w hw=>(zas (hw.item (own 3 1 o s.C.length (zeq (zkq (s.C.map (·.1))))) (.head _)).1)) fun⟨hsl,hcap⟩=>?_
 rw[hsl]
 refine goA ?_
 have hrl:(zb2 s.C).length=s.C.length:=by rw[zb2,aD,zhk,aD]
 have hro:=zmc hC
 have htk:∀k (hk:k<s.C.length),zc7 ((zb2 s.C).take (k+1))=zc7 ((zb2 s.C).take k)++beN 2 ((zb2 s.C)[k]'oQ).1++((zb2 s.C)[k]'oQ).2:=fun k hk=>by
  rw[cV,aB oQ]
  exact qeq _ _
 have htl:∀k,k≤s.C.length→(zc7 ((zb2 s.C).take k)).length=514*k:=fun k hk=>by
  rw[zj5 (n:=s.n) (fun p hp=>hro p (bY hp)),aM,hrl,dB hk]
 have hall:(zb2 s.C).take s.C.length=zb2 s.C:=bJ oQ
 refine zc0 (α:=Nat×Option (Nat×Nat)) (fun y=>[(0,.pointer (some ⟨s.b,0,none⟩)),(3,.pointer (some ⟨pb,0,none⟩)),(15,.slice (slA o) s.C.length (slC o)),(16,.int .i64 s.C.length),(17,.int .i64 y.1)]) (fun y=>y.1≤s.C.length) (fun y=>pks pb y.2 (zc7 ((zb2 s.C).take y.1))++[pgC s d,lgI s.bl d s.g,zck .i64 s.kb (toP s.K),zck .i64 s.db (toB s.R),zck .i64 s.cb (toP s.C),own 3 1 o s.C.length (zeq (zkq (s.C.map (·.1))))]) (fun y=>s.C.length - y.1) (0,none) ⟨rfl,rfl,rfl,rfl,rfl,trivial⟩ (aZ _) (fun w hw=>hw.pick [2,3,4,5,6,7,1,0] rfl rfl) fun⟨k,po⟩ hk=>?_
 simp only at hk⊢
 by_cases hkn:k<s.C.length
 ·have htk2:=htk k hkn
  have htl1:=htl k oQ
  generalize zc7 ((zb2 s.C).take k)=tx at htk2 htl1⊢
  have hin:=hro _ (aT (l:=zb2 s.C) (n:=k) oQ)
  have hsk:(zkq (s.C.map (·.1)))[k]? =some ((zb2 s.C)[k]'oQ).1:=by
   rw[aB (by rw[zhk,aD];exact hkn)]
   simp[zb2]
  have hlk:s.C.lookup ((zb2 s.C)[k]'oQ).1=some ((zb2 s.C)[k]'oQ).2:=by
   have h1:((zb2 s.C)[k]'oQ).1∈s.C.map (·.1):=zhl.1 (bI hsk)
   obtain⟨b,hb⟩:=zjw h1
   rw[hb]
   simp only[zb2,cS]at hb⊢
   rw[hb]
   rfl
  generalize (zb2 s.C)[k]'oQ=p at hin hsk hlk htk2
  obtain⟨i,bs⟩:=p
  simp only at hin hsk hlk htk2
  rcases o with _|⟨ob,oc⟩
  ·refine zhm (fun w hw=>(hw.item (own 3 1 none s.C.length (zeq (zkq (s.C.map (·.1))))) sQ).1.2) fun h=>?_
   exact absurd h oQ
  have hcell:∀{m:List Eng.Item} {w2:World} {F2:Nat→Prop} (w':World),Hp w2 F2 m w'→own 3 1 (some (ob,oc)) s.C.length (zeq (zkq (s.C.map (·.1))))∈m→w'.cell? ⟨ob,k,none⟩=some (.int .i64 (i:Int)):=fun w' hw' hm=>zby (hw'.item _ hm).1 k _ (by simp[zeq,hsk])
  simp only[slA,slC]
  have hbl:(zae bs).length=512:=by rw[zan,hin.2]
  refine goA ?_
  refine l_w rfl (za0 (v:=.int .i64 (i:Int)) rfl rfl (fun w' hw'=>by rw[aH];exact hcell w' hw' sQ)) ?_
  refine goA ?_
  refine l_w rfl (zv5 (q:=.i64) (h:=i) (A:=toP s.C) (b:=s.cb) rfl rfl rfl rfl rfl (okI oQ) sQ) ?_
  rw[zic,hlk]
  simp only[bZ,eD,pgV]
  refine goA ?_
  refine zam rfl rfl fun b7 hb7=>?_
  refine za1 rfl (zaf (cs':=(zae bs).toArray) rfl rfl rfl (by rw[aI,hbl];rfl) (zdd _) (by rw[aI,hbl];rfl)) fun _=>?_
  refine goA ?_
  refine zcx [1,2,0,3,4,5,6,7,8] rfl rfl ?_
  refine zap [2,3,4,5,6,7,8] 7 rfl rfl kQ ?_
  (repeat first|refine dAv [4] rfl rfl rfl ?_ |refine dno [4] rfl rfl rfl ?_ |refine dT [4] rfl rfl rfl rfl ?_ |refine dF [4] rfl rfl rfl rfl ?_)
  refine d_v [3] rfl rfl kQ (fun _ h=>goH h) rfl rfl (zg9 (n:=512) rfl rfl rfl rfl) ?_
  refine d_v [3] rfl rfl kQ (fun _ h=>goH h) rfl rfl (ztt (bs:=bs) rfl hin.2.symm rfl rfl (fun w' hw'=>.inr ⟨b7,0,rfl,zbf (hw'.get (b:=b7) (.head _))⟩)) ?_
  refine zat 3 ⟨kQ,dQ⟩ rfl rfl (zfb (pre:=pks pb po tx) rfl kQ rfl (by simp[zab,zac]) (fun w1 hw1 hh1 ha1=>zdr pb po tx 2 i (.inr (.inl rfl)) oQ oQ w1 hh1 ha1)) (fun _ _ h=>goH h) fun⟨o1,_⟩=>?_
  refine goE ?_
  have hlen2:(tx++beN 2 i).length=514*k+2:=by rw[aA,zal,htl1]
  refine zat 6 ⟨kQ,dQ⟩ rfl rfl (zfb (pre:=pks pb o1 (tx++beN 2 i)) rfl kQ rfl (by simp[zab,zac]) (fun w1 hw1 hh1 ha1=>zen pb o1 (tx++beN 2 i) ⟨bs.toArray⟩ (by rw[hlen2,bal,hin.2];omega) w1 hh1 ha1)) (fun _ _ h=>goH h) fun⟨o2,_⟩=>?_
  refine zdn kQ ?_
  refine goA ?_
  refine zaw (k+1,o2) ⟨rfl,rfl,rfl,rfl,rfl,trivial⟩ hkn (fun w hw=>?_) (by show s.C.length - (k+1)<s.C.length - k;omega)
  show Hp _ _ (pks pb o2 (zc7 ((zb2 s.C).take (k+1)))++_) w
  rw[htk2]
  exact hw.pick [0,1,3,4,5,6,7,8] rfl rfl
 ·obtain rfl:k=s.C.length:=oQ
  rw[hall]
  have htl1:=htl _ (bA _)
  rw[hall]at htl1
  generalize zc7 (zb2 s.C)=tx at htl1⊢
  refine goA ?_
  refine lCu (pks pb po tx) rfl (by simp[zab,zac]) (fun w1 hw1 hh1 ha1=>zdv pb po tx oQ w1 hh1 ha1) fun⟨o2,_⟩=>?_
  dsimp only
  refine zch (fun w hw=>(zas (hw.item (own 5 1 o2 tx.length (zae tx)) (.head _)).1)) fun⟨hsl2,_⟩=>?_
  rw[hsl2]
  refine goA ?_
  refine l_w rfl (ztt (bs:=tx) rfl rfl rfl rfl (fun w' hw'=>za8 (hw'.item (own 5 1 o2 tx.length (zae tx)) (.head _)).1)) ?_
  refine goA ?_
  exact zbr (m':=[pgI s d]) (fun w' hw'=>zdm (m:=[]) (hw'.pick [3,4,5,6,7] rfl rfl)) (zbd () rfl rfl rfl trivial (.refl _) (zbl _ _))
def zmv(A:PR)(R:PR):PR:=R.foldl (fun A p=>zeb A p.1 p.2) A
theorem qgh(A R:PR)(p:Nat×Bys):zmv A (R++[p])=zeb (zmv A R) p.1 p.2:=by simp[zmv]
theorem zto(p:Nat×Bys)(R:PR):zc7 (p::R)=beN 2 p.1++(p.2++zc7 R):=by simp[zc7]
theorem zxf(s:Pg)(d:Dk)(R:PR)(hn:s.n≤1024)(hR:R.Ok s.n)(hRl:R.length≤100000)(w:World)(h:zbq (pgI s d) w):
  Ct Tryz.prog 115 #[.pointer (some ⟨s.b,0,none⟩),.string ⟨(zc7 R).toArray⟩] w none' (fun b:Nat=>.tuple #[.map (some b),.bool true]) (fun _=>True) (fun b=>[zck .i64 b (toP (zmv [] R))]):=by
 refine zes [_,_] Tryz.func115 rfl rfl ?_
 have htl:=zj5 hR
 have hbal:=bal (zc7 R)
 simp only[zaa,Nat.reduceAdd]
 refine goA ?_
 refine za1 rfl (zs3 rfl rfl rfl rfl) fun⟨p1,hp1,hp2⟩=>?_
 dsimp only
 rw[hbal]
 refine goA ?_
 refine zdy rfl rfl kQ rfl (fun w1 hw1=>zih (some ⟨p1.1,0,none⟩) (zc7 R).length p1.2 (zc7 R) rfl oQ w1 (.inr ⟨p1.1,0,rfl,zib (hw1.item (zmk 5 (zc7 R) p1.1 p1.2) (.head _)).1⟩)) fun x hx=>?_
 obtain⟨b,oD⟩:=x
 simp only at hx⊢
 have hsD:(own 5 1 oD (zc7 R).length (zae (zc7 R))).Stable none':=zac _ _ _ _ _ _
 generalize own 5 1 oD (zc7 R).length (zae (zc7 R))=D at hx hsD
 refine goA ?_
 refine za1 rfl (zgu (q:=.i64) rfl) fun⟨mb,hmb⟩=>?_
 refine goA ?_
 refine zc0 (α:=Nat×(Option Addr×Nat)) (fun y=>[(0,.pointer (some ⟨s.b,0,none⟩)),(6,.pointer (some ⟨b,0,none⟩)),(7,.map (some mb))]) (fun y=>y.1≤R.length∧zjg D y.2.1 y.2.2 (zc7 (R.drop y.1))) (fun y=>[opI b y.2.1 y.2.2 (zc7 (R.drop y.1),false),D,zck .i64 mb (toP (zmv [] (R.take y.1)))]) (fun y=>R.length - y.1) (0,(slA oD,slC oD)) ⟨rfl,rfl,rfl,trivial⟩ ⟨aZ _,hx⟩ (fun w hw=>hw.pick [1,2,0] rfl rfl) fun⟨k,y⟩ ⟨hk,hy⟩=>?_
 simp only at hk hy⊢
 have htlk:=zj5 (R:=R.drop k) (n:=s.n) (fun p hp=>hR p (cE hp))
 rw[aX]at htlk
 by_cases hkn:k<R.length
 ·have hdr:R.drop k=R[k]::R.drop (k+1):=(dU ..).symm
  have hpk:=hR _ (aT hkn)
  have hik:zmv [] (R.take (k+1))=zeb (zmv [] (R.take k)) R[k].1 R[k].2:=by rw[dA hkn,qgh]
  rw[hdr,zto]at hy htlk⊢
  generalize R[k]=p at hpk hik hy htlk⊢
  obtain⟨i,bs⟩:=p
  simp only at hpk hik hy htlk⊢
  obtain⟨rest,hrest⟩:∃r,zc7 (R.drop (k+1))=r:=⟨_,rfl⟩
  rw[hrest]at hy htlk⊢
  obtain⟨hin,hbs⟩:=hpk
  have hbl:(zae bs).length=512:=by rw[zan,hbs]
  have e1:opN 2 (beN 2 i++(bs++rest),false)=(i,(bs++rest,false)):=zgc oQ _
  have e2:opT 512 (bs++rest,false)=(bs,(rest,false)):=by rw[←hbs];exact zqb bs rest
  refine goA ?_
  refine lPu rfl (fun w1 hw1=>zgt b y.1 y.2 _ w1 (zbq.of (hw1.item (opI b y.1 y.2 (beN 2 i++(bs++rest),false)) (.head _)) (zak _ _ _ _))) ?_
  simp only[htlk]
  refine goA ?_
  refine lCu [opI b y.1 y.2 (beN 2 i++(bs++rest),false),D] rfl (by simp[zak,hsD]) (fun w1 hw1 hh1 ha1=>zhh i (bs++rest,false) e1 hsD hy (.inr (.inl rfl)) (by simp only[htlk];omega) hh1 ha1) fun⟨y1,hy1⟩=>?_
  simp only at hy1
  have hl2:(bs++rest).length≤1000000000:=by
   rw[aA,zal]at htlk
   omega
  refine goA ?_
  refine lCu [opI b y1.1 y1.2 (bs++rest,false),D] rfl (by simp[zak,hsD]) (fun w1 hw1 hh1 ha1=>zp7 bs (rest,false) e2 hsD hy1 hl2 hh1 ha1) fun⟨y2,hy2⟩=>?_
  simp only at hy2
  refine goA ?_
  refine lPu rfl (fun w1 hw1=>zev b y2.1 y2.2 (rest,false) w1 (zbq.of (hw1.item (opI b y2.1 y2.2 (rest,false)) (.head _)) (zak _ _ _ _))) ?_
  simp only[bT,if_false]
  refine goA ?_
  refine l_w rfl (za0 (v:=.int .i64 (s.n:Int)) rfl rfl (fun w' hw'=>zkv (h.keep hw') 2 rfl)) ?_
  refine goA ?_
  refine za1 rfl (zs3 rfl rfl rfl rfl) fun⟨p2,_,_⟩=>?_
  dsimp only
  rw[bal,hbs]
  refine goA ?_
  refine l_w rfl (ztu rfl rfl dQ) ?_
  refine goA ?_
  refine l_w rfl (zgp (xs:=zae bs) (c:=(zae bs).toArray) rfl (by rw[hbl];rfl) (fun w' hw'=>zib (hw'.item (zmk 5 bs p2.1 p2.2) (.head _)).1) rfl) ?_
  refine zay [3,0,1,2] rfl rfl ?_
  refine za1 rfl (zir (h:=i) (v:=pgV bs) rfl rfl rfl rfl rfl rfl (okI oQ)) fun _=>?_
  rw[←zln,←hik]
  refine goA ?_
  exact zaw (k+1,y2) ⟨rfl,rfl,rfl,trivial⟩ ⟨hkn,by show zjg _ _ _ (zc7 (R.drop (k+1)));rw[hrest];exact hy2⟩ (fun w hw=>by show Hp _ _ [opI _ _ _ (zc7 (R.drop (k+1)),false),_,_] w;rw[hrest];exact hw.pick [2,3,0] rfl rfl) (by show R.length - (k+1)<R.length - k;omega)
 ·obtain rfl:k=R.length:=oQ
  have hd0:R.drop R.length=[]:=kT
  rw[hd0,gD]
  refine goA ?_
  refine lPu rfl (fun w1 hw1=>zgt b y.1 y.2 _ w1 (zbq.of (hw1.item (opI b y.1 y.2 (zc7 [],false)) (.head _)) (zak _ _ _ _))) ?_
  rw[show((zc7 [],false):Opn).1.length=0 from rfl]
  refine goA ?_
  exact zc1 mb rfl rfl rfl rfl trivial (.cons _ (.cons _ (.refl _))) (by simp[zax])
end Go.Proofs.YthafakdplhdfjaaGreatDoor
namespace Go.Proofs.YthafakdplhdfjaaGreatDoor
open Go.RowKit Go.Eng
def qpw{σ:Type}:List ((σ→Nat)×(σ→σ→Prop))→σ→Nat×σ→Prop
 | [],s,x=>x=(0,s)
 |t::r,s,x=>∃s',t.2 s s'∧(if t.1 s=0 then qpw r s' x else x=(t.1 s,s'))
def fvV(f:FuncId×List Value×List Value):Value:=.func (.func f.1) f.2.1.toArray f.2.2.toArray
abbrev fvI(qb qc:Nat)(fv:List (FuncId×List Value×List Value)):Eng.Item:=own 60 1 (some (qb,qc)) fv.length (fv.map fvV)
theorem zwk{σ:Type}(B:σ→List Eng.Item)(fv:List (FuncId×List Value×List Value))(st:List ((σ→Nat)×(σ→σ→Prop)))(hl:st.length=fv.length)(I:Nat→σ→Prop)(s0:σ)(h0:I 0 s0)
  (hB:∀s,∀it∈B s,it.Stable none') (hfl:fv.length≤1000)
  (hstep:∀k f t s,fv[k]? =some f→st[k]? =some t→I k s→za7 Tryz.prog f.1=true∧∀w,(∀it∈B s,zbq it w)→(B s).Pairwise Eng.Item.Apart→Ct Tryz.prog f.1 (f.2.1++f.2.2).toArray w (za4 (B s)) (fun _:σ=>.int .i64 (t.1 s:Nat)) (t.2 s) (fun s'=>B s'))
  (hI:∀k t s s',st[k]? =some t→I k s→t.2 s s'→t.1 s=0→I (k+1) s')
  (qb qc:Nat):
  Cw Tryz.prog 117 #[.slice (some ⟨qb,0,none⟩) fv.length qc] (B s0++[fvI qb qc fv]) (fun x:Nat×σ=>.int .i64 (x.1:Nat)) (qpw st s0) (fun x=>B x.2):=by
 intro w hw ha
 refine za2 [_] _ Tryz.func117 rfl rfl hw ha ?_
 simp only[zaa]
 refine goA ?_
 refine zc0 (α:=Nat×σ) (fun y=>[(6,.slice (some ⟨qb,0,none⟩) fv.length qc),(7,.int .i64 fv.length),(8,.int .i64 y.1)]) (fun y=>y.1≤fv.length∧I y.1 y.2∧∀x,qpw (st.drop y.1) y.2 x→qpw st s0 x) (fun y=>B y.2++[fvI qb qc fv]) (fun y=>fv.length - y.1) (0,s0) ⟨rfl,rfl,rfl,trivial⟩ ⟨aZ _,h0,fun _ h=>h⟩ (fun w h=>h) fun⟨k,s⟩ ⟨hk,hIk,hR⟩=>?_
 simp only at hk hIk hR⊢
 by_cases hkn:k<fv.length
 ·have hf:fv[k]? =some fv[k]:=aB hkn
  have ht:st[k]? =some (st[k]'oQ):=aB oQ
  have hcell:∀{m:List Eng.Item} {w2:World} {F2:Nat→Prop} (w':World),Hp w2 F2 m w'→fvI qb qc fv∈m→w'.cell? ⟨qb,k,none⟩=some (fvV fv[k]):=fun w' hw' hm=>zby (hw'.item _ hm).1 k _ (by simp[hkn])
  have hdr:st.drop k=st[k]'oQ::st.drop (k+1):=(dU ..).symm
  rw[hdr]at hR
  generalize st[k]'oQ=t at ht hR
  generalize fv[k]=f at hf hcell
  obtain⟨hb,hc⟩:=hstep k f t s hf ht hIk
  have hI2:=hI k t s
  obtain⟨f,fs,cs⟩:=f
  simp only at hb hc
  have hV:fvV (f,fs,cs)= .func (.func f) fs.toArray cs.toArray:=rfl
  rw[hV]at hcell
  refine goA ?_
  refine l_w rfl (za0 rfl rfl (fun w' hw'=>by rw[aH];exact hcell w' hw' sQ)) ?_
  refine goA ?_
  refine zeh rfl (zx1 (pre:=B s) (fs:=fs) (cs:=cs) (vs:=[]) rfl hb rfl rfl rfl (hB s) (fun w1 hw1 hh1 ha1=>hc w1 hh1 ha1)) fun⟨s',hs'⟩=>?_
  dsimp only
  refine goA ?_
  by_cases he:t.1 s=0
  ·have hne:((t.1 s:Int) != 0)=false:=by simp[he]
   rw[hne]
   refine goA ?_
   exact zaw (k+1,s') ⟨rfl,rfl,rfl,trivial⟩ ⟨hkn,hI2 s' ht hIk hs' he,fun x hx=>hR x ⟨s',hs',by rw[if_pos he];exact hx⟩⟩ (fun w hw=>hw) (by show fv.length - (k+1)<fv.length - k;omega)
  ·have hne:((t.1 s:Int) != 0)=true:=by simp[he]
   rw[hne]
   refine goA ?_
   exact zbd (t.1 s,s') rfl rfl rfl (hR _ ⟨s',hs',by rw[if_neg he]⟩) (fD _ _) (hB s')
 ·obtain rfl:k=fv.length:=oQ
  have hd0:st.drop fv.length=[]:=fI oQ
  rw[hd0]at hR
  refine goA ?_
  exact zbd (0,s) rfl rfl rfl (hR _ rfl) (fD _ _) (hB s)
end Go.Proofs.YthafakdplhdfjaaGreatDoor
namespace Go.Eng
open Go.RowKit
theorem Ct.conv{P:Program}{f:FuncId}{args:Array Value}{w:World}{pre pre2 rest:List Item}{α α2:Type}{val:α→Value}{φ:α→Prop}{its:α→List Item}{val2:α2→Value}{φ2:α2→Prop}{its2:α2→List Item}(g:α2→α)
  (h0:Hp w (za4 pre) (pre2++rest) w) (hs2:∀it∈pre2,it.Stable none') (h:(∀it∈pre2,zbq it w)→pre2.Pairwise Item.Apart→Ct P f args w (za4 pre2) val2 φ2 its2)
  (hv:∀x,φ2 x→val2 x=val (g x)) (hφ:∀x,φ2 x→φ (g x)) (hst:∀x,∀it∈its x,it.Stable none') (hout:∀x w',φ2 x→Hp w (za4 pre) (its2 x++rest) w'→Hp w (za4 pre) (its (g x)) w'):Ct P f args w (za4 pre) val φ its:=by
 have h1:=h (fun it hm=>zbq.of (h0.item it (aP _ hm)) (hs2 it hm)) (bN.1 h0.apart).1
 unfold Ct at h1⊢
 refine h1.mono ?_
 rintro e w' ⟨x,he,hx,hi⟩
 exact⟨g x,by rw[he,hv x hx],hφ x hx,(hout x w' hx (h0.call hi fun _ _ ⟨it,hm,hk⟩=>⟨it,hm,hk⟩)).its (.refl _) (hst _)⟩
end Go.Eng
namespace Go.Proofs.YthafakdplhdfjaaGreatDoor
open Go.RowKit Go.Eng
abbrev sbI(b a:Nat):Eng.Item:=pt b (.cells #[.pointer (some ⟨a,0,none⟩)] 98 (0,0))
abbrev mvI(b mb:Nat):Eng.Item:=pt b (.cells #[.map (some mb)] 165 (0,0))
theorem qd7(s:Pg)(d:Dk)(lb:Nat)(A:PR)(bs bm:Nat)(ok:d.D.Ok)(hkl:d.D.keep.length≤1000000)(hwl:d.D.wait.length+A.length≤1000000)(hn:s.n≤1024)(hsecs:s.g.h.secs<65536)(hA:A.Ok s.n):
  Cw Tryz.prog 182 #[.pointer (some ⟨bs,0,none⟩),.pointer (some ⟨bm,0,none⟩)] [dkI d,pgI s d,zck .i64 lb (toP A),sbI bs s.b,mvI bm lb] (fun _:Dk=>.int .i64 ((zbb d.D (wsP s.g.h.secs A)).1:Nat)) (zfz d (zbb d.D (wsP s.g.h.secs A)).2) (fun d'=>[dkI d',pgI s d',zck .i64 lb (toP A),sbI bs s.b,mvI bm lb]):=by
 intro w hw ha
 refine za2 [_,_] _ Tryz.func182 rfl rfl hw ha ?_
 simp only[zaa,Nat.reduceAdd]
 refine goA ?_
 refine lCu [dkI d,pgI s d,zck .i64 lb (toP A)] rfl (ziz _ _ _ _) (fun w1 hw1 hh1 ha1=>zmo s d lb A ok hkl hwl hn hsecs hA w1 hh1 ha1) fun⟨d',hd'⟩=>?_
 refine goA ?_
 refine zbd d' rfl rfl rfl hd' (.refl _) ?_
 intro it hm
 rcases hm with _|⟨_,_|⟨_,_|⟨_,_|⟨_,_|⟨_,hm⟩⟩⟩⟩⟩
 ·exact zad _
 ·exact zbv _ _
 ·exact zax _ _ _ _
 ·exact zab _ _ _
 ·exact zab _ _ _
 ·exact nomatch hm
def qfv(K:PR)(R:List Nat):PR:=(zkq R).map fun i=>(i,(K.lookup i).getD [])
def kpP(K:PR)(R:List Nat):PR:=R.map fun i=>(i,(K.lookup i).getD [])
theorem qgx(K:PR)(R:List Nat):(kpP K R).map (·.1)=R:=by simp[kpP,fV]
variable{K:PR}{i:Nat}
theorem qob{R:List Nat}(h:i∈R):(kpP K R).lookup i=some ((K.lookup i).getD []):=by
 induction R with
 |nil=>cases h
 |cons x R ih=>
  unfold kpP at ih⊢
  rw[bG,cJ]
  by_cases e:i=x
  ·subst e;simp
  ·rw[show(i==x)=false by simpa using e]
   exact ih ((aL.1 h).resolve_left e)
theorem qoc{R R':List Nat}(h:R'.Perm R):zb2 (kpP K R')=qfv K R:=by
 unfold zb2 qfv
 rw[qgx,zyp h]
 refine cT fun i hi=>?_
 rw[qob (h.mem_iff.2 (zhl.1 hi))]
 rfl
theorem qq0{k:List Nat}{b:Bys}(hi:i∉k)(hb:K.lookup i=some b):zeb (kpP K k) i b=kpP K (k++[i]):=by
 unfold zeb
 have hn:(kpP K k).lookup i=none:=by
  cases hl:(kpP K k).lookup i with
  |none=>rfl
  |some x=>
   have:i∈(kpP K k).map (·.1):=aS.2 ⟨(i,x),zbt hl,rfl⟩
   rw[qgx]at this
   exact absurd this hi
 rw[hn]
 simp[kpP,hb]
end Go.Proofs.YthafakdplhdfjaaGreatDoor
namespace Go.Eng
open Go.RowKit
theorem qix{P:Program}{l:zav}{H:World→Prop}{ty:TypeId}{f:FuncId}{xs:List Operand}{vs:List Value}(hx:evs l xs=some vs):OV P (.makeFunc (.func f) xs.toArray #[]) ty l H (.func (.func f) vs.toArray #[]):=ov fun _ _ _ w _=>by
 simp only[execOp,fS,zij hx]
 rfl
end Go.Eng
namespace Go.Proofs.YthafakdplhdfjaaGreatDoor
open Go.RowKit Go.Eng
theorem zv1(R:List Nat):zjv (toB R)=R:=by simp[zjv,toB,fV]
def wsD(s:Pg):List (Nat×Bys):=(qfv s.K s.R).map fun p=>(2+s.g.h.secs+p.1,p.2)
def zge(s:Pg)(D:Dsk):Nat×Dsk×Lg:=
 if (zcm D (wsD s)).1=0 then((zbc (zcm D (wsD s)).2 (zaz s.g.at_) (zbk s.g)).1,(zbc (zcm D (wsD s)).2 (zaz s.g.at_) (zbk s.g)).2,{ zjd s.g (zcm D (wsD s)).2 with dead:=decide ((zbc (zcm D (wsD s)).2 (zaz s.g.at_) (zbk s.g)).1=4) })
 else((zcm D (wsD s)).1,(zcm D (wsD s)).2,s.g)
def zvl(s:Pg)(D:Dsk):Pg:={ s with g:=(zge s D).2.2,R:=if (zge s D).1=0 then[]else s.R }
theorem zdq(s:Pg)(d:Dk):∀it∈[pgI s d,dkI d,ctI],it.Stable none':=by
 intro it hm
 rcases hm with _|⟨_,_|⟨_,_|⟨_,hm⟩⟩⟩
 ·exact zbv s d
 ·exact zad _
 ·exact zcb _
 ·exact nomatch hm
theorem zgs{D:Dsk}(h:(zbi D).1=0):(zbi D).2.keep=D.keep∧(zbi D).2.wait=[]:=by
 unfold zbi at h⊢
 split at h
 ·cases h
 ·rename_i hd
  rw[if_neg hd]
  by_cases ha:(zhb D).1=0
  ·rw[if_pos ha]
   exact⟨(zkb ha).2.2.2,rfl⟩
  ·rw[if_neg ha]at h
   exact absurd h ha
abbrev ouT(s:Pg):List ((Dk×Lg→Nat)×(Dk×Lg→Dk×Lg→Prop)):=
  [(fun x=>(zbb x.1.D (wsD s)).1,fun x x'=>zfz x.1 (zbb x.1.D (wsD s)).2 x'.1∧x'.2=x.2),
   (fun x=>(zbi x.1.D).1,fun x x'=>zfz x.1 (zbi x.1.D).2 x'.1∧x'.2=x.2),
   (fun x=>(zbc x.1.D (zaz x.2.at_) (zbk x.2)).1,fun x x'=>zfz x.1 (zbc x.1.D (zaz x.2.at_) (zbk x.2)).2 x'.1∧x'.2={ zjd x.2 x.1.D with dead:=decide ((zbc x.1.D (zaz x.2.at_) (zbk x.2)).1=4) })]
theorem zfz.trans{d d' d2:Dk}{D D':Dsk}(h:zfz d D d')(h2:zfz d' D' d2):zfz d D' d2:=⟨h2.1.trans h.1,h2.2.1.trans h.2.1,h2.2.2⟩
theorem qmm{s:Pg}{d:Dk}{x:Nat×(Dk×Lg)}(h:qpw (ouT s) (d,s.g) x):x.1=(zge s d.D).1∧zfz d (zge s d.D).2.1 x.2.1∧x.2.2=(zge s d.D).2.2:=by
 obtain⟨⟨d1,g1⟩,⟨h1,h2⟩,h⟩:=h
 simp only at h1 h2 h
 subst h2
 unfold zge zcm
 by_cases e1:(zbb d.D (wsD s)).1=0
 ·rw[if_pos e1]at h⊢
  obtain⟨⟨d2,g2⟩,⟨h3,h4⟩,h⟩:=h
  simp only at h3 h4 h
  subst h4
  rw[h1.2.2]at h3 h
  by_cases e2:(zbi (zbb d.D (wsD s)).2).1=0
  ·rw[if_pos e2]at h⊢
   obtain⟨⟨d3,g3⟩,⟨h5,h6⟩,h⟩:=h
   simp only at h5 h6 h
   rw[h3.2.2]at h5 h6 h
   have hx:x=((zbc (zbi (zbb d.D (wsD s)).2).2 (zaz s.g.at_) (zbk s.g)).1,(d3,g3)):=by
    by_cases e3:(zbc (zbi (zbb d.D (wsD s)).2).2 (zaz s.g.at_) (zbk s.g)).1=0
    ·rw[if_pos e3]at h
     rw[e3];exact h
    ·rw[if_neg e3]at h;exact h
   subst hx
   exact⟨rfl,(h1.trans h3).trans h5,h6⟩
  ·rw[if_neg e2]at h⊢
   subst h
   exact⟨rfl,h1.trans h3,rfl⟩
 ·rw[if_neg e1]at h⊢
  rw[if_neg e1]
  subst h
  exact⟨rfl,h1,rfl⟩
def ouB(s:Pg)(lb:Nat)(A:PR)(bs bm:Nat)(x:Dk×Lg):List Eng.Item:=[pgC s x.1,sbI bs s.b,lgI s.bl x.1 x.2,zck .i64 s.kb (toP s.K),zck .i64 s.db (toB s.R),zck .i64 s.cb (toP s.C),dkI x.1,zck .i64 lb (toP A),mvI bm lb,ctI]
theorem zh7(s:Pg)(lb:Nat)(A:PR)(bs bm:Nat)(x:Dk×Lg):∀it∈ouB s lb A bs bm x,it.Stable none':=by
 intro it hm
 rcases hm with _|⟨_,_|⟨_,_|⟨_,_|⟨_,_|⟨_,_|⟨_,_|⟨_,_|⟨_,_|⟨_,_|⟨_,hm⟩⟩⟩⟩⟩⟩⟩⟩⟩⟩
 ·exact zab _ _ _
 ·exact zab _ _ _
 ·exact zab _ _ _
 ·exact zax _ _ _ _
 ·exact zax _ _ _ _
 ·exact zax _ _ _ _
 ·exact zad _
 ·exact zax _ _ _ _
 ·exact zab _ _ _
 ·exact zcb _
 ·exact nomatch hm
def ouV(s:Pg)(d:Dk)(bs bm:Nat):List (FuncId×List Value×List Value):=[(182,[],[.pointer (some ⟨bs,0,none⟩),.pointer (some ⟨bm,0,none⟩)]),(118,[.pointer (some ⟨d.b,0,none⟩)],[]),(119,[.pointer (some ⟨s.bl,0,none⟩)],[])]
def ouI(s:Pg)(d:Dk)(k:Nat)(x:Dk×Lg):Prop:=match k with
 |0=>x=(d,s.g)
 |1=>zfz d (zbb d.D (wsD s)).2 x.1∧(zbb d.D (wsD s)).1=0∧x.2=s.g
 |2=>zfz d (zbi (zbb d.D (wsD s)).2).2 x.1∧(zbb d.D (wsD s)).1=0∧(zbi (zbb d.D (wsD s)).2).1=0∧x.2=s.g
 |_=>True
theorem qor(s:Pg)(d:Dk)(lb:Nat)(A:PR)(bs bm:Nat)(ok:d.D.Ok)(hkl:d.D.keep.length≤1000000)(hwl:d.D.wait.length≤10000)(hn:s.n≤1024)(hgo:s.g.h.Ok)(hnx:s.g.next<18446744073709551616)(hat:s.g.at_=0∨s.g.at_=1)(hgd:s.g.dead=false)(hA:A.Ok s.n)(hAl:A.length≤1024)(hws:wsP s.g.h.secs A=wsD s):
  ∀(k:Nat) (f:FuncId×List Value×List Value) (t:(Dk×Lg→Nat)×(Dk×Lg→Dk×Lg→Prop)) (x:Dk×Lg),(ouV s d bs bm)[k]? =some f→(ouT s)[k]? =some t→ouI s d k x→
   za7 Tryz.prog f.1=true∧∀w,(∀it∈ouB s lb A bs bm x,zbq it w)→(ouB s lb A bs bm x).Pairwise Eng.Item.Apart→Ct Tryz.prog f.1 (f.2.1++f.2.2).toArray w (za4 (ouB s lb A bs bm x)) (fun _:Dk×Lg=>.int .i64 (t.1 x:Nat)) (t.2 x) (fun x'=>ouB s lb A bs bm x'):=by
 have hsecs:=hgo.secs
 intro k f t x hf ht hI
 have hwsl:(wsD s).length≤1024:=by rw[←hws,wsP,aD,zb2,aD,zhk,aD];exact hAl
 have hok1:(zbb d.D (wsD s)).2.Ok:=zf7 _ _ ok
 have hst1:∀d',∀it∈[dkI d',pgI s d',zck .i64 lb (toP A),sbI bs s.b,mvI bm lb],it.Stable none':=by
  intro d' it hm
  rcases hm with _|⟨_,_|⟨_,_|⟨_,_|⟨_,_|⟨_,hm⟩⟩⟩⟩⟩
  ·exact zad _
  ·exact zbv _ _
  ·exact zax _ _ _ _
  ·exact zab _ _ _
  ·exact zab _ _ _
  ·exact nomatch hm
 match k,hf,ht,hI with
 |0,hf,ht,hI=>
  cases hf;cases ht
  have hI:x=(d,s.g):=hI
  subst hI
  refine⟨kQ,fun w hw ha=>?_⟩
  refine Ct.conv (fun d'=>(d',s.g)) (pre2:=[dkI d,pgI s d,zck .i64 lb (toP A),sbI bs s.b,mvI bm lb]) (rest:=[ctI]) ?_ (hst1 d) (fun hh ha2=>qd7 s d lb A bs bm ok hkl oQ hn hsecs hA w hh ha2) (fun _ _=>by rw[hws]) (fun d' hd'=>⟨by rw[←hws];exact hd',rfl⟩) (zh7 s lb A bs bm) (fun d' w' _ h=>?_)
  ·have h:=Hp.begin hw ha _ (fun _ h=>h)
   exact(zdm (s:=s) (m:=[sbI bs s.b,dkI d,zck .i64 lb (toP A),mvI bm lb,ctI]) (h.pick [0,2,3,4,5,1,6,7,8,9] rfl rfl)).pick [2,0,3,1,4,5] rfl rfl
  ·exact(ze1 (s:=s) (m:=[sbI bs s.b,dkI d',zck .i64 lb (toP A),mvI bm lb,ctI]) (h.pick [1,3,0,2,4,5] rfl rfl)).pick [0,5,1,2,3,4,6,7,8,9] rfl rfl
 |1,hf,ht,hI=>
  cases hf;cases ht
  obtain⟨d1,g1⟩:=x
  obtain⟨hd1,e1,rfl⟩:zfz d (zbb d.D (wsD s)).2 d1∧(zbb d.D (wsD s)).1=0∧g1=s.g:=hI
  have hk1:=ze7 (wsD s) d.D ok e1
  refine⟨kQ,fun w hw ha=>?_⟩
  have hb:=hd1.1
  have hDD:=hd1.2.2
  refine Ct.conv (fun d'=>(d',s.g)) (pre2:=[dkI d1]) (rest:=[pgC s d1,sbI bs s.b,lgI s.bl d1 s.g,zck .i64 s.kb (toP s.K),zck .i64 s.db (toB s.R),zck .i64 s.cb (toP s.C),zck .i64 lb (toP A),mvI bm lb,ctI]) ?_ (by intro it hm;rcases hm with _|⟨_,hm⟩<;>first|exact zad _|exact(nomatch hm)) (fun hh ha2=>by
   have:=zg4 d1 (by rw[hDD];exact hok1) (by rw[hDD,hk1.1];exact hkl) (by rw[hDD,hk1.2];omega) w hh
   rw[hb]at this
   exact this) (fun _ _=>rfl) (fun d' hd'=>⟨hd',rfl⟩) (zh7 s lb A bs bm) (fun d' w' hd' h=>?_)
  ·exact(Hp.begin hw ha _ (fun _ h=>h)).pick [6,0,1,2,3,4,5,7,8,9] rfl rfl
  ·have e:pgC s d1=pgC s d':=by unfold pgC pgA;rw[hd'.1]
   have e2:lgI s.bl d1 s.g=lgI s.bl d' s.g:=by unfold lgI lgA;rw[hd'.1]
   rw[e,e2]at h
   exact h.pick [1,2,3,4,5,6,0,7,8,9] rfl rfl
 |2,hf,ht,hI=>
  cases hf;cases ht
  obtain⟨d1,g1⟩:=x
  obtain⟨hd1,e1,e2,rfl⟩:zfz d (zbi (zbb d.D (wsD s)).2).2 d1∧(zbb d.D (wsD s)).1=0∧(zbi (zbb d.D (wsD s)).2).1=0∧g1=s.g:=hI
  have hk1:=ze7 (wsD s) d.D ok e1
  have hk2:=zgs e2
  have hDD:=hd1.2.2
  refine⟨kQ,fun w hw ha=>?_⟩
  refine Ct.conv (fun d'=>(d',{ zjd s.g d1.D with dead:=decide ((zbc d1.D (zaz s.g.at_) (zbk s.g)).1=4) })) (pre2:=[lgI s.bl d1 s.g,dkI d1,ctI]) (rest:=[pgC s d1,sbI bs s.b,zck .i64 s.kb (toP s.K),zck .i64 s.db (toB s.R),zck .i64 s.cb (toP s.C),zck .i64 lb (toP A),mvI bm lb]) ?_ (by intro it hm;rcases hm with _|⟨_,hm⟩<;>first|exact zab _ _ _|exact zbo d1 it hm) (fun hh ha2=>zts s.bl d1 s.g (by rw[hDD];exact zfr hok1) (by rw[hDD,hk2.1,hk1.1];exact hkl) (by rw[hDD,hk2.2];decide) hgo hnx hat hgd w hh ha2) (fun _ _=>rfl) (fun d' hd'=>⟨hd',rfl⟩) (zh7 s lb A bs bm) (fun d' w' hd' h=>?_)
  ·exact(Hp.begin hw ha _ (fun _ h=>h)).pick [2,6,9,0,1,3,4,5,7,8] rfl rfl
  ·have e:pgC s d1=pgC s d':=by unfold pgC pgA;rw[hd'.1]
   rw[e]at h
   exact h.pick [3,4,0,5,6,7,1,8,9,2] rfl rfl
 |k+3,hf,_,_=>cases hf
theorem qhl(s:Pg)(d:Dk)(ok:d.D.Ok)(hkl:d.D.keep.length≤1000000)(hwl:d.D.wait.length≤10000)(hn:s.n≤1024)(hgo:s.g.h.Ok)(hnx:s.g.next<18446744073709551616)(hat:s.g.at_=0∨s.g.at_=1)(hgd:s.g.dead=false)(hK:s.K.Ok s.n)(hRK:∀i∈s.R,∃b,s.K.lookup i=some b)(hRl:s.R.length≤1024):
  Cw Tryz.prog 136 #[.pointer (some ⟨s.b,0,none⟩)] [pgI s d,dkI d,ctI] (fun _:Dk=>.int .i64 ((zge s d.D).1:Nat)) (zfz d (zge s d.D).2.1) (fun d'=>[pgI (zvl s d.D) d',dkI d',ctI]):=by
 intro w hw ha
 refine za2 [_] _ Tryz.func136 rfl rfl hw ha ?_
 have hsecs:=hgo.secs
 simp only[zaa]
 refine goA ?_
 refine zc9 rfl rfl rfl fun bs _=>?_
 refine goA ?_
 refine za1 rfl (zgu (q:=.i64) rfl) fun⟨lb,hlb⟩=>?_
 refine goA ?_
 refine zdg rfl rfl rfl fun bm hbm=>?_
 refine za1 rfl (zai rfl rfl rfl rfl rfl rfl sQ) fun _=>?_
 refine zcy (m':=pgL s d++[dkI d,ctI,zck .i64 lb [],sbI bs s.b,mvI bm lb]) (fun w' hw'=>ze1 (m:=[dkI d,ctI,zck .i64 lb [],sbI bs s.b,mvI bm lb]) (hw'.pick [3,4,5,1,2,0] rfl rfl)) ?_
 unfold pgL
 refine zch (fun w hw=>zld (hw.item (zck .i64 s.db (toB s.R)) sQ).1) fun hnd=>?_
 rw[zv1]at hnd
 refine goA ?_
 refine zd2 11 _ (.map (some s.db)) rfl rfl ?_
 refine zay [3,0,1,2,4,5,6,7,8,9] rfl rfl ?_
 refine za1 rfl (zov rfl rfl rfl) fun⟨r,hr⟩=>?_
 refine goA ?_
 refine zc0 (α:=zcs×List Nat×Option (Nat×Value)) (fun y=>[(1,.pointer (some ⟨bs,0,none⟩)),(3,.pointer (some ⟨bm,0,none⟩)),(12,.pointer (some ⟨r,0,none⟩))]) (fun y=>y.1=(toB s.R).filter (fun x=>decide (x.1∉y.2.1))∧y.2.1.Nodup∧(∀z∈y.2.1,z∈s.R)) (fun y=>[itN .i64 r s.db (toB s.R) y.1 y.2.2,zck .i64 lb (toP (kpP s.K y.2.1)),pgC s d,lgI s.bl d s.g,zck .i64 s.kb (toP s.K),zck .i64 s.cb (toP s.C),dkI d,ctI,sbI bs s.b,mvI bm lb]) (fun y=>y.1.length) (toB s.R,[],none) ⟨rfl,rfl,rfl,trivial⟩ ⟨by show toB s.R=(toB s.R).filter (fun x=>decide (x.1∉([]:List Nat)));exact(cY.2 fun _ _=>by simp).symm,eT,(fun _ (h:_∈([]:List Nat))=>nomatch h)⟩ (fun w h=>h.pick [0,7,1,2,3,4,5,6,8,9] rfl rfl) fun⟨L,k,c⟩ ⟨hL,hk,hkR⟩=>?_
 simp only at hL hk hkR⊢
 refine goA ?_
 refine za1 rfl (zvh rfl rfl) fun⟨y,hyy⟩=>?_
 cases y with
 |some p=>
  simp only at hyy⊢
  have hpk:p.1∉k∧p.1∈s.R:=by
   rw[hL]at hyy
   obtain⟨h1,h2⟩:=dP.1 hyy
   refine⟨by simpa using h2,?_⟩
   have:p.1∈(toB s.R).map (·.1):=aS.2 ⟨p,h1,rfl⟩
   rw[show(toB s.R).map (·.1)=s.R from zv1 s.R]at this
   exact this
  have hnd2:(k++[p.1]).Nodup:=by
   rw[cN]
   refine⟨hk,by simp,fun a ha b hb=>?_⟩
   rw[aN]at hb
   subst hb
   exact fun e=>hpk.1 (e▸ha)
  have hmem2:∀z∈k++[p.1],z∈s.R:=fun z hz=>by
   rcases aR.1 hz with hz|hz
   ·exact hkR z hz
   ·rw[aN]at hz;subst hz;exact hpk.2
  have hlt:=zow hyy
  have hof:=zm8 hL p
  obtain⟨b,hb⟩:=hRK p.1 hpk.2
  have hpn:=(hK _ (zbt hb)).1
  have hki:=qq0 hpk.1 hb
  refine goA ?_
  refine l_w rfl (zo6 rfl (.head _)) ?_
  refine goA ?_
  refine zcx [1,0,2,3,4,5,6,7,8,9] rfl rfl ?_
  refine zap [1,2,3,4,5,6,7,8,9] 9 rfl rfl kQ ?_
  refine goE ?_
  refine zro 22 _ (.map (some s.kb)) rfl rfl ?_
  refine goV rfl rfl (zv5 (q:=.i64) (h:=p.1) (A:=toP s.K) (b:=s.kb) rfl rfl rfl rfl rfl (okI oQ) sQ) ?_
  rw[zic,hb]
  simp only[bZ,eD]
  refine zat 8 ⟨kQ,dQ⟩ rfl rfl (zir (h:=p.1) (v:=pgV b) rfl rfl rfl rfl rfl rfl (okI oQ)) (fun _ _ h=>goH h) fun _=>?_
  refine zdn kQ ?_
  rw[←zln,hki]
  refine goA ?_
  exact zaw (qca L p,k++[p.1],some p) ⟨rfl,rfl,rfl,trivial⟩ ⟨hof,hnd2,hmem2⟩ (fun w hw=>hw.pick [1,0,2,3,4,5,6,7,8,9] rfl rfl) hlt
 |none=>
  simp only at hyy⊢
  subst hyy
  have hperm:k.Perm s.R:=by
   refine(kI hk hnd).2 fun z=>⟨hkR z,fun hz=>?_⟩
   by_cases h:z∈k
   ·exact h
   ·have:(z,Value.bool true)∈(toB s.R).filter (fun x=>decide (x.1∉k)):=dP.2 ⟨aS.2 ⟨z,hz,rfl⟩,by simpa using h⟩
    rw[←hL]at this
    exact nomatch this
  have hrows:=qoc (K:=s.K) hperm
  have hAok:(kpP s.K k).Ok s.n:=fun p hp=>by
   obtain⟨i,hi,rfl⟩:=aS.1 hp
   obtain⟨b,hb⟩:=hRK i (hkR i hi)
   rw[hb]
   exact hK _ (zbt hb)
  have hAl:(kpP s.K k).length≤1024:=by
   rw[kpP,aD,hperm.length_eq]
   exact hRl
  have hws:wsP s.g.h.secs (kpP s.K k)=wsD s:=by rw[wsP,hrows];rfl
  generalize kpP s.K k=A at hAok hAl hws
  refine goA ?_
  refine l_w rfl (zhw rfl) ?_
  refine goA ?_
  refine zg8 (m':=[zck .i64 s.db (toB s.R),zck .i64 lb (toP A),pgC s d,lgI s.bl d s.g,zck .i64 s.kb (toP s.K),zck .i64 s.cb (toP s.C),dkI d,ctI,sbI bs s.b,mvI bm lb]) (fun w' hw'=>zpu hw') ?_
  refine zcx [2,8,3,4,0,5,6,1,9,7] rfl rfl ?_
  refine zap [0,1] 14 rfl rfl kQ ?_
  refine goE ?_
  refine d_v [6] rfl rfl kQ (fun _ h=>goH h) rfl rfl (qix (vs:=[.pointer (some ⟨d.b,0,none⟩)]) rfl) ?_
  refine goE ?_
  refine goV rfl rfl (qix (vs:=[.pointer (some ⟨s.bl,0,none⟩)]) rfl) ?_
  refine zat 11 ⟨kQ,dQ⟩ rfl rfl (za3 rfl rfl rfl rfl rfl rfl) (fun _ _ h=>goH h) fun⟨bq,hbq⟩=>?_
  have hstp:=qor s d lb A bs bm ok hkl hwl hn hgo hnx hat hgd hAok hAl hws
  have hI:∀k (t:(Dk×Lg→Nat)×(Dk×Lg→Dk×Lg→Prop)) x x',(ouT s)[k]? =some t→ouI s d k x→t.2 x x'→t.1 x=0→ouI s d (k+1) x':=by
   intro k t x x' ht hI h2 h1
   match k,ht,hI with
   |0,ht,hI=>
    cases ht
    have hI:x=(d,s.g):=hI
    subst hI
    exact⟨h2.1,h1,h2.2⟩
   |1,ht,hI=>
    cases ht
    obtain⟨hd1,e1,e2⟩:zfz d (zbb d.D (wsD s)).2 x.1∧(zbb d.D (wsD s)).1=0∧x.2=s.g:=hI
    simp only at h1 h2
    rw[hd1.2.2]at h1 h2
    exact⟨hd1.trans h2.1,e1,h1,h2.2.trans e2⟩
   |2,ht,hI=>trivial
   |k+3,ht,_=>cases ht
  refine zat 12 ⟨kQ,dQ⟩ rfl rfl (zah (m':=(ouB s lb A bs bm (d,s.g)++[fvI bq 3 (ouV s d bs bm)])++[]) (by rw[bC];exact cW (l₁:=[fvI bq 3 (ouV s d bs bm)]) (l₂:=ouB s lb A bs bm (d,s.g))) (zfb (pre:=ouB s lb A bs bm (d,s.g)++[fvI bq 3 (ouV s d bs bm)]) rfl kQ rfl (by
   intro it hm
   rcases aR.1 hm with hm|hm
   ·exact zh7 _ _ _ _ _ _ it hm
   ·rw[aN]at hm;subst hm;exact zac _ _ _ _ _ _) (fun w1 hw1 hh1 ha1=>zwk (ouB s lb A bs bm) (ouV s d bs bm) (ouT s) rfl (ouI s d) (d,s.g) rfl (zh7 s lb A bs bm) (by show(3:Nat)≤1000;decide) hstp hI bq 3 w1 hh1 ha1))) (fun x w h=>by
    have hx:=(qmm x.2).2.1.1
    have e:pgC s x.1.2.1=pgC s d:=by unfold pgC pgA;rw[hx]
    have h1:Hp _ _ (pgC s x.1.2.1::sbI bs s.b::_) w:=h
    rw[e]at h1
    exact h1.sub (.cons_cons _ (.cons_cons _ (aK _)))) fun⟨⟨e,d',g'⟩,hx⟩=>?_
  dsimp only at hx⊢
  obtain⟨hx1,hx2,hx3⟩:=qmm hx
  simp only at hx1 hx2 hx3
  subst hx1 hx3
  have e:pgC s d'=pgC s d:=by unfold pgC pgA;rw[hx2.1]
  unfold ouB
  rw[e,bC]
  refine goX ?_
  dsimp only
  by_cases he:(zge s d.D).1=0
  ·have hS:zvl s d.D={ s with g:=(zge s d.D).2.2,R:=[] }:=by unfold zvl;rw[if_pos he]
   rw[hS,he]
   generalize (zge s d.D).2.2=g2
   refine goA ?_
   refine zd2 44 _ (.map (some s.db)) rfl rfl ?_
   refine zay [4,0,1,2,3,5,6,7,8,9] rfl rfl ?_
   refine za1 rfl (zx0 rfl rfl rfl) fun _=>?_
   refine goA ?_
   refine zbr (m':=[pgI { s with g:=g2,R:=[] } d',dkI d',ctI]) (fun w' hw'=>?_) (zbd d' rfl rfl rfl hx2 (.refl _) (zdq _ _))
   rw[←e]at hw'
   exact zdm (s:={ s with g:=g2,R:=[] }) (m:=[dkI d',ctI]) (hw'.pick [1,3,4,0,5,6,9] rfl rfl)
  ·have hS:zvl s d.D={ s with g:=(zge s d.D).2.2 }:=by unfold zvl;rw[if_neg he]
   have hne:(((zge s d.D).1:Int)==0)=false:=by simp[he]
   rw[hS,hne]
   generalize (zge s d.D).2.2=g2
   refine goA ?_
   refine zbr (m':=[pgI { s with g:=g2 } d',dkI d',ctI]) (fun w' hw'=>?_) (zbd d' rfl rfl rfl hx2 (.refl _) (zdq _ _))
   rw[←e]at hw'
   exact zdm (s:={ s with g:=g2 }) (m:=[dkI d',ctI]) (hw'.pick [0,2,3,4,5,6,9] rfl rfl)
end Go.Proofs.YthafakdplhdfjaaGreatDoor
namespace Go.Eng
open Go.RowKit
section
variable{P:Program}{Q:Exit→Act→World→Prop}{N:Fm}{l:zav}{w0:World}{F:Nat→Prop}{m:List Item}{ty:TypeId}{pos:String}{after:Array Edge}{g:Option (Nat×Bool)}{d:Nat}{q:IntKind}{x y z:Operand}{T k e:TypeId}{b:Nat}{A:zcs}{h s:Nat}{zv v:Value}
def qq8(q:IntKind)(b:Nat)(A:zcs)(h s:Nat):Item:=⟨fun k=>k=b,fun w=>∃es clk,w.heap[b]? =some (.map es clk)∧Rows' q A es clk∧∃e∈es.toList,e.key= .int q (h:Int)∧e.born=s⟩
theorem zpz(ro:Nat→Prop)(q:IntKind)(b:Nat)(A:zcs)(h s:Nat):(qq8 q b A h s).Stable ro:=by
 intro w w' hb hp
 obtain⟨es,clk,h1,h2⟩:=hp
 exact⟨es,clk,by rw[hb b (.inr rfl)];exact h1,h2⟩
variable{w:World}
theorem zxs(hk:P.underlying k=some (.int q))(hT:P.underlying T=some (.map k e))(hz:(P.info? e).bind (·.zero)=some zv)(hh:okN q h)(hw:Hp w0 F (zck q b A::m) w):
  ∃(s:Nat) (w':World),(Instr.mapEntry T (.map (some b)) (.int q (h:Int))).run P w= .ok (.tuple #[(A.lookup h).getD zv,.int .i64 (s:Int)]) w'∧Hp w0 F (qq8 q b (zjs A h ((A.lookup h).getD zv)) h s::m) w':=by
 obtain⟨es,clk,h3,R⟩:=(hw.item _ (.head _)).1
 have h4:=R.rows
 have hg:(getObj b).run P w= .ok (.map es clk) w:=by simp[getObj,Sem.run,h3]
 have hset:∀o,(setObj b o).run P w= .ok () (w.putObj b o):=fun o=>by simp[setObj,Sem.run,h3,World.putObj]
 have hkey:=Maps.keyOf_int_mk hk hh
 have hc:=(Maps.int_keyed hk).check w false hkey
 have hzr:(zeroValue e).run P w= .ok zv w:=by
  cases hq:P.info? e with
  |none=>simp[hq]at hz
  |some i=>
   have hz':i.zero=some zv:=by simpa[hq]using hz
   simp[zeroValue,typeInfo,hq,hz']
 have hw1:Hp w0 F (pt b (.map es clk)::m) w:=hw.imp (fun _ h=>h) (fun _=>h3) (zab _ _ _)
 have hlen:es.toList.length=A.length:=by have:=congrArg List.length h4;simpa using this
 generalize hv0:(A.lookup h).getD zv=v
 have hins:∀p∈zjs A h v,okN q p.1:=fun p hp=>by
  unfold zjs at hp
  split at hp
  ·obtain⟨r,hr,rfl⟩:=aS.1 hp
   split
   ·exact hh
   ·exact R.ok r hr
  ·rcases aR.1 hp with hp|hp
   ·exact R.ok p hp
   ·rw[aN]at hp;subst hp;exact hh
 have hnd:((zjs A h v).map (·.1)).Nodup:=by
  rw[zl3]
  split
  ·exact R.nodup
  ·rename_i hm
   refine cN.2 ⟨R.nodup,cP.2 ⟨by simp,.nil⟩,fun a ha c hc e=>?_⟩
   rw[aN]at hc
   subst hc;subst e;exact hm ha
 simp only[Instr.mapEntry]
 simp only[Sem.run_bind,run_underlying hT w,Result.andThen_ok,hg]
 simp only[Sem.run_bind,Result.andThen_ok,hc]
 rcases qf1 hk R hh w with ⟨e1,e2⟩ |⟨j,u,e1,e2,e3⟩
 ·have hvz:v=zv:=by rw[←hv0,e2];rfl
  simp only[e1,Result.andThen_ok,Sem.run_bind,hzr,hset,Sem.run_pure]
  refine⟨clk,_,by rw[hvz];rfl,(hw1.put _).imp (fun _ h=>h) (fun hp=>⟨_,_,hp,⟨hnd,hins,?_,?_,?_⟩,?_⟩) (zpz _ _ _ _ _ _)⟩
  ·have:zjs A h v=A++[(h,v)]:=by unfold zjs;rw[if_neg (by rw[e2];simp)]
   rw[this,hvz]
   simp[h4,qcj]
  ·rw[iF,cC]
   refine cN.2 ⟨R.apart,cP.2 ⟨by simp,.nil⟩,fun a ha c hc e=>?_⟩
   obtain⟨x,hx,rfl⟩:=aS.1 ha
   have h1:=R.old x hx
   rw[List.map_singleton,aN]at hc
   subst hc
   omega
  ·intro x hx
   rw[iF]at hx
   rcases aR.1 hx with hx|hx
   ·exact eQ (R.old x hx)
   ·rw[aN]at hx;subst hx;exact eN _
  ·exact⟨_,by rw[iF];exact aU _ (.head _),rfl,rfl⟩
 ·have hj:j<es.size:=by
   have:=(aC.1 e3).1
   rw[←hlen]at this;simpa using this
  have hvu:v=u:=by rw[←hv0,e2];rfl
  have hkv:es[j].key= .int q (h:Int)∧es[j].val=u:=by
   have:=congrArg (fun l=>l[j]?) h4
   simp only[aO,e3,bZ]at this
   have h5:es.toList[j]? =some es[j]:=by simp[hj]
   rw[h5]at this
   simp only[bZ,cO,gU,qcj]at this
   exact this
  have hst:(Instr.keyThatStays (((es[j]?).map (·.key)).getD (.int q (h:Int))) (.int q (h:Int))).run P w= .ok (.int q (h:Int)) w:=by
   rw[dH hj,bZ,eD,hkv.1]
   exact(Maps.int_keyed hk).stays w hkey
  have hsame:(es.modify j fun e=>{ e with key:=.int q (h:Int) })=es:=by
   refine iA fun i=>?_
   rw[fA]
   split
   ·rename_i hij
    subst hij
    rw[dH hj,bZ]
    congr 1
    rw[←hkv.1]
   ·rfl
  simp only[e1,Result.andThen_ok,Sem.run_bind,hst,hset,hsame,Sem.run_pure]
  refine⟨es[j].born,_,by rw[dH hj];rw[hvu];rfl,(hw1.put _).imp (fun _ h=>h) (fun hp=>⟨_,_,hp,⟨hnd,hins,?_,R.apart,R.old⟩,es[j],by simp,hkv.1,rfl⟩) (zpz _ _ _ _ _ _)⟩
  have:zjs A h v=A:=by
   unfold zjs
   rw[if_pos (by rw[e2];simp)]
   refine(cT fun p hp=>?_).trans (List.map_id _)
   by_cases hph:p.1=h
   ·rw[if_pos hph]
    have:=zu7 R.nodup hp
    rw[hph,e2]at this
    injection this with this
    rw[hvu,this,←hph]
    rfl
   ·rw[if_neg hph];rfl
  rw[this]
  exact h4
theorem zs0(hk:P.underlying k=some (.int q))(hok:zee N l (.mapEntry T x y) d=true)(hx:evO l x=some (.map (some b)))(hy:evO l y=some (.int q (h:Int)))(hT:P.underlying T=some (.map k e))(hz:(P.info? e).bind (·.zero)=some zv)(hh:okN q h):
  HO P ⟨some d,.mapEntry T x y,ty,pos,after,g⟩ Q N l (Hp w0 F (zck q b A::m)) (α:=Nat) (fun s=>(d,.tuple #[(A.lookup h).getD zv,.int .i64 (s:Int)])::l) (fun s=>Hp w0 F (qq8 q b (zjs A h ((A.lookup h).getD zv)) h s::m)):=
 zh6 (val:=fun s:Nat=>.tuple #[(A.lookup h).getD zv,.int .i64 (s:Int)]) hok (fun w hw=>by
  obtain⟨s,w',h1,h2⟩:=zxs hk hT hz hh hw
  refine⟨s,w',?_,h2⟩
  simp only[execOp,zar hx,zar hy,Sem.run_bind,h1];rfl)
theorem zrr(hw:Hp w0 F (qq8 q b A h s::m) w):∃w',(Instr.entryStore T (.map (some b)) (.int .i64 (s:Int)) v).run P w= .ok () w'∧Hp w0 F (zck q b (A.map fun p=>if p.1=h then(h,v)else p)::m) w':=by
 obtain⟨es,clk,h3,R,e0,he0,hk0,hb0⟩:=(hw.item _ (.head _)).1
 have h4:=R.rows
 have hg:(getObj b).run P w= .ok (.map es clk) w:=by simp[getObj,Sem.run,h3]
 have hset:∀o,(setObj b o).run P w= .ok () (w.putObj b o):=fun o=>by simp[setObj,Sem.run,h3,World.putObj]
 have hw1:Hp w0 F (pt b (.map es clk)::m) w:=hw.imp (fun _ h=>h) (fun _=>h3) (zab _ _ _)
 have hlen:es.toList.length=A.length:=by have:=congrArg List.length h4;simpa using this
 obtain⟨j,hj,hje⟩:=bL he0
 have hj':j<es.size:=by simpa using hj
 have hje':es[j]=e0:=by simpa using hje
 have hbi:∀i (hi:i<es.size),es[i].born=s→i=j:=fun i hi hb=>by
  rcases iH i j with hlt|rfl|hlt
  ·have:=cG.1 R.apart i j (by simpa using hi) (by simpa using hj') hlt
   simp only[cS,Array.getElem_toList]at this
   exact absurd (by rw[hb,hje',hb0]) this
  ·rfl
  ·have:=cG.1 R.apart j i (by simpa using hj') (by simpa using hi) hlt
   simp only[cS,Array.getElem_toList]at this
   exact absurd (by rw[hb,hje',hb0]) this
 have hfind:es.findIdx? (fun e=>(e.born:Int)==(s:Int))=some j:=by
  rw[Array.findIdx?_eq_some_iff_getElem]
  refine⟨hj',by rw[hje',hb0];simp,fun i hij=>?_⟩
  intro hc
  have h5:es[i].born=s:=by
   have hc':(es[i].born:Int)=(s:Int):=by simpa using hc
   omega
  have:=hbi i oQ h5
  omega
 simp only[Instr.entryStore]
 simp only[Sem.run_bind,Result.andThen_ok,hg]
 have has:(asInt (.int .i64 (s:Int))).run P w= .ok (s:Int) w:=rfl
 simp only[Sem.run_bind,Result.andThen_ok,has,hfind,hset]
 have hborn:(es.modify j fun e=>{ e with val:=v }).toList.map (·.born)=es.toList.map (·.born):=by
  apply List.ext_getElem?
  intro i
  simp only[aO]
  rw[dZ,fA,dZ]
  split
  ·cases es[i]? <;>rfl
  ·rfl
 have hkeys:(A.map fun p=>if p.1=h then(h,v)else p).map (·.1)=A.map (·.1):=by
  rw[dJ]
  refine cT fun p _=>?_
  show(if p.1=h then(h,v)else p).1=p.1
  split
  ·rename_i hp;exact hp.symm
  ·rfl
 refine⟨_,rfl,(hw1.put _).imp (fun _ h=>h) (fun hp=>⟨_,_,hp,⟨by rw[hkeys];exact R.nodup,?_,?_,by rw[hborn];exact R.apart,?_⟩⟩) (zax _ _ _ _)⟩
 ·intro p hp
  obtain⟨r,hr,rfl⟩:=aS.1 hp
  split
  ·rename_i hrh
   rw[←hrh]
   exact R.ok r hr
  ·exact R.ok r hr
 ·apply List.ext_getElem?
  intro i
  have hi4:=congrArg (fun l=>l[i]?) h4
  simp only[aO]at hi4⊢
  rw[dZ,fA]
  cases hA:A[i]? with
  |none=>
   rw[hA]at hi4
   have:es[i]? =none:=by
    cases hes:es[i]? with
    |none=>rfl
    |some x=>rw[dZ,hes]at hi4;cases hi4
   rw[this]
   split<;>rfl
  |some p=>
   rw[hA]at hi4
   have hi:i<es.size:=by
    have:=(aC.1 hA).1
    rw[←hlen]at this;simpa using this
   rw[dZ,dH hi]at hi4
   simp only[bZ,cO]at hi4
   rw[dH hi]
   have hkp:es[i].key= .int q (p.1:Int):=congrArg Prod.fst hi4
   have hvp:es[i].val=p.2:=congrArg Prod.snd hi4
   by_cases hij:j=i
   ·subst hij
    rw[if_pos rfl]
    have hph:p.1=h:=by rw[hje',hk0]at hkp;exact(zuz hkp).symm
    simp only[bZ,if_pos hph,qcj]
    rw[hkp,hph]
   ·rw[if_neg hij]
    have hph:p.1≠h:=fun hc=>by
     have h7:es[i].key=es[j].key:=by rw[hkp,hc,hje',hk0]
     have hK:=R.keys
     rcases iU hij with hlt|hlt
     ·have:=cG.1 hK j i (by simpa using hj') (by simpa using hi) hlt
      simp only[cS,Array.getElem_toList]at this
      exact this h7.symm
     ·have:=cG.1 hK i j (by simpa using hi) (by simpa using hj') hlt
      simp only[cS,Array.getElem_toList]at this
      exact this h7
    simp only[bZ,if_neg hph]
    rw[hi4]
 ·intro x hx
  have:x.born∈es.toList.map (·.born):=by rw[←hborn];exact aS.2 ⟨x,hx,rfl⟩
  obtain⟨y,hy,hxy⟩:=aS.1 this
  rw[←hxy];exact R.old y hy
theorem qgo(A:zcs)(h:Nat)(u v:Value):(zjs A h u).map (fun p=>if p.1=h then(h,v)else p)=zjs A h v:=by
 unfold zjs
 split
 ·rw[dJ]
  refine cT fun p _=>?_
  show(if (if p.1=h then(h,u)else p).1=h then(h,v)else if p.1=h then(h,u)else p)=_
  by_cases hp:p.1=h
  ·simp[hp]
  ·simp[hp]
 ·rename_i hn
  rw[cC]
  congr 1
  ·refine(cT fun p hp=>?_).trans (List.map_id _)
   have:p.1≠h:=fun e=>hn (zl5.2 (aS.2 ⟨p,hp,e⟩))
   rw[if_neg this];rfl
  ·simp
theorem zn3{u:Value}(hok:(zez (.entryStore T x y z)&&zec l (.entryStore T x y z))=true)(hx:evO l x=some (.map (some b)))(hy:evO l y=some (.int .i64 (s:Int)))(hz:evO l z=some v):
  HO P ⟨none,.entryStore T x y z,ty,pos,after,g⟩ Q N l (Hp w0 F (qq8 q b (zjs A h u) h s::m)) (α:=Unit) (fun _=>l) (fun _=>Hp w0 F (zck q b (zjs A h v)::m)):=
 zs1 hok (fun w hw=>by
  obtain⟨w',h1,h2⟩:=zrr (T:=T) (v:=v) (P:=P) hw
  rw[qgo]at h2
  refine⟨(),w',?_,h2⟩
  simp only[execOp,zar hx,zar hy,zar hz,Sem.run_bind,h1];rfl)
end
end Go.Eng
namespace Go.Proofs.YthafakdplhdfjaaGreatDoor
open Go.RowKit Go.Eng
def qgt(s:Pg)(x:PR×List Nat):Prop:=(∀i,x.1.lookup i=(s.C.lookup i).or (s.K.lookup i))∧(∀i,i∈x.2↔i∈s.R∨(s.C.lookup i).isSome=true)∧x.1.Ok s.n∧(s.R.Nodup→x.2.Nodup)
theorem zci{A:PR}{i:Nat}:(A.lookup i).isSome=true↔i∈A.map (·.1):=by
 constructor
 ·intro h
  obtain⟨b,hb⟩:=cI.1 h
  exact aS.2 ⟨(i,b),zbt hb,rfl⟩
 ·intro h
  obtain⟨b,hb⟩:=zjw h
  rw[hb];rfl
theorem qo8(R:List Nat)(i:Nat):zjs (toB R) i (.bool true)=toB (if i∈R then R else R++[i]):=by
 unfold zjs
 have hm:((toB R).lookup i).isSome=true↔i∈R:=by rw[zl5,show(toB R).map (·.1)=R from zv1 R]
 by_cases h:i∈R
 ·rw[if_pos (hm.2 h),if_pos h]
  unfold toB
  rw[dJ]
  refine cT fun n _=>?_
  show(if n=i then(i,Value.bool true)else(n,.bool true))=_
  split
  ·rename_i e;subst e;rfl
  ·rfl
 ·rw[if_neg (fun hc=>h (hm.1 hc)),if_neg h]
  simp[toB]
structure KpS where
 L:zcs
 c:Option (Nat×Value)
 k:List Nat
 K:PR
 R:List Nat
structure qpx (s:Pg) (y:KpS):Prop where
 L:y.L=(toP s.C).filter fun x=>decide (x.1∉y.k)
 nd:y.k.Nodup
 sub:∀z∈y.k,z∈s.C.map (·.1)
 look:∀i,y.K.lookup i=if i∈y.k then s.C.lookup i else s.K.lookup i
 mem:∀i,i∈y.R↔i∈s.R∨i∈y.k
 ok:y.K.Ok s.n
 rn:s.R.Nodup→y.R.Nodup
variable{s:Pg}{y:KpS}
theorem qpx.step(h:qpx s y){p:Nat×Value}(hp:p∈y.L){b:Bys}(hb:s.C.lookup p.1=some b)(hbo:p.1<s.n∧b.length=512):qpx s ⟨qca y.L p,some p,y.k++[p.1],zeb y.K p.1 b,if p.1∈y.R then y.R else y.R++[p.1]⟩:=by
 obtain⟨hL,hnd,hsub,hlook,hmem,hok,hrn⟩:=h
 have hpk:p.1∉y.k:=by
  rw[hL]at hp
  simpa using (dP.1 hp).2
 refine⟨zm8 hL p,?_,fun z hz=>?_,fun i=>?_,fun i=>?_,PR.Ok.ins hok hbo.1 hbo.2,?_⟩
 ·rw[cN]
  refine⟨hnd,by simp,fun a ha c hc=>?_⟩
  rw[aN]at hc
  subst hc
  exact fun e=>hpk (e▸ha)
 ·rcases aR.1 hz with hz|hz
  ·exact hsub z hz
  ·rw[aN]at hz;subst hz
   exact zci.1 (by rw[hb];rfl)
 ·show(zeb y.K p.1 b).lookup i=_
  rw[zcp,hlook]
  by_cases e:i=p.1
  ·subst e;simp[hb]
  ·simp[e]
 ·show i∈(if p.1∈y.R then y.R else y.R++[p.1])↔_
  split
  ·rename_i hpR
   rw[hmem]
   simp only[aR,aN]
   constructor
   ·rintro(h|h)
    ·exact .inl h
    ·exact .inr (.inl h)
   ·rintro(h|h|h)
    ·exact .inl h
    ·exact .inr h
    ·subst h;exact(hmem _).1 hpR
  ·simp only[aR,aN,hmem]
   constructor
   ·rintro((h|h) |h)
    ·exact .inl h
    ·exact .inr (.inl h)
    ·exact .inr (.inr h)
   ·rintro(h|h|h)
    ·exact .inl (.inl h)
    ·exact .inl (.inr h)
    ·exact .inr h
 ·intro hn
  show(if p.1∈y.R then y.R else y.R++[p.1]).Nodup
  split
  ·exact hrn hn
  ·rename_i hpR
   rw[cN]
   refine⟨hrn hn,by simp,fun a ha c hc=>?_⟩
   rw[aN]at hc
   subst hc
   exact fun e=>hpR (e▸ha)
theorem qpx.done(h:qpx s y)(h0:y.L=[])(hnd:(s.C.map (·.1)).Nodup):qgt s (y.K,y.R):=by
 have hk:∀i,i∈y.k↔(s.C.lookup i).isSome=true:=fun i=>by
  rw[zci]
  refine⟨h.sub i,fun hi=>?_⟩
  by_cases hc:i∈y.k
  ·exact hc
  ·obtain⟨q,hq,rfl⟩:=aS.1 hi
   have:(q.1,pgV q.2)∈(toP s.C).filter fun x=>decide (x.1∉y.k):=dP.2 ⟨aS.2 ⟨q,hq,rfl⟩,by simpa using hc⟩
   rw[←h.L,h0]at this
   exact nomatch this
 refine⟨fun i=>?_,fun i=>?_,h.ok,?_⟩
 ·show y.K.lookup i=_
  rw[h.look]
  by_cases hc:i∈y.k
  ·rw[if_pos hc]
   obtain⟨b,hb⟩:=cI.1 ((hk i).1 hc)
   rw[hb];rfl
  ·rw[if_neg hc]
   have:s.C.lookup i=none:=by
    cases hl:s.C.lookup i with
    |none=>rfl
    |some b=>exact absurd ((hk i).2 (by rw[hl];rfl)) hc
   rw[this];rfl
 ·show i∈y.R↔_
  rw[h.mem,hk]
 ·exact h.rn
def tC(s:Pg):Bys:=zc7 (zb2 s.C)
def zoo(s:Pg)(D:Dsk):Nat×Dsk×Pg:=
 if s.g.h.secs - s.g.used<zao (tC s).length then((zge s D).1,(zge s D).2.1,{ zvl s D with dead:=s.dead||decide ((zge s D).1=4) })else(0,D,s)
def qey(s:Pg)(D:Dsk):Nat×Dsk×Pg:=
 ((zop D s.g (tC s)).1,(zop D s.g (tC s)).2,{ s with g:={ qjd D s.g (tC s)with dead:=decide ((zop D s.g (tC s)).1=4) },dead:=s.dead||decide ((zop D s.g (tC s)).1=4) })
def cmF(s:Pg)(D:Dsk):Nat×Dsk×Pg:=if (zoo s D).1=0 then qey (zoo s D).2.2 (zoo s D).2.1 else zoo s D
def cmR(s:Pg)(D:Dsk)(x:PR×List Nat):Pg:=if (cmF s D).1=0 then { (cmF s D).2.2 with K:=x.1,R:=x.2,C:=[] } else(cmF s D).2.2
variable{D:Dsk}
theorem qos(hD:D.Ok)(h:(zge s D).1=0):(zge s D).2.2={ s.g with h:=zbk s.g,at_:=zaz s.g.at_,used:=0,dead:=false }∧(zge s D).2.1.Ok∧(zge s D).2.1.keep=D.keep∧(zge s D).2.1.wait=[]:=by
 unfold zge at h⊢
 by_cases e1:(zcm D (wsD s)).1=0
 ·rw[if_pos e1]at h⊢
  simp only at h⊢
  have hb:(zcm D (wsD s)).2.Ok∧(zcm D (wsD s)).2.keep=D.keep:=by
   unfold zcm at e1⊢
   by_cases e2:(zbb D (wsD s)).1=0
   ·rw[if_pos e2]at e1⊢
    exact⟨zfr (zf7 _ _ hD),(zgs e1).1.trans (ze7 _ _ hD e2).1⟩
   ·rw[if_neg e2]at e1
    exact absurd e1 e2
  generalize (zcm D (wsD s)).2=D1 at hb h⊢
  unfold zjd
  rw[if_pos h,h]
  unfold zbc at h⊢
  by_cases e2:(zbz D1 (zaz s.g.at_) (hdP (zbk s.g))).1=0
  ·rw[if_pos e2]at h⊢
   obtain⟨w1,w2, -⟩:=zj9 hb.1 _ _ e2
   obtain⟨f1,f2⟩:=zgs h
   exact⟨rfl,zfr w1,f1.trans (w2.trans hb.2),f2⟩
  ·rw[if_neg e2]at h
   exact absurd h e2
 ·rw[if_neg e1]at h
  exact absurd h e1
structure Cm1 (s s1:Pg) (D D1:Dsk):Prop where
 b:s1.b=s.b
 n:s1.n=s.n
 C:s1.C=s.C
 K:s1.K=s.K
 R:s1.R=s.R∨s1.R=[]
 dead:s1.dead=false
 h:s1.g.h.Ok
 secs:s1.g.h.secs=s.g.h.secs
 used:s1.g.used≤s1.g.h.secs
 next:s1.g.next=s.g.next
 at_:s1.g.at_=0∨s1.g.at_=1
 gdead:s1.g.dead=false
 ok:D1.Ok
 keep:D1.keep=D.keep
 wait:D1.wait.length≤10000
theorem qql(hD:D.Ok)(hwl:D.wait.length≤10000)(hdead:s.dead=false)(hgo:s.g.h.Ok)(hus:s.g.used≤s.g.h.secs)(hnx:s.g.next<18446744073709551616)(hat:s.g.at_=0∨s.g.at_=1)(hgd:s.g.dead=false)(h:(zoo s D).1=0):Cm1 s (zoo s D).2.2 D (zoo s D).2.1:=by
 unfold zoo at h⊢
 split at h
 ·rename_i h5
  rw[if_pos h5]
  simp only at h⊢
  obtain⟨h1,h2,h3,h4⟩:=qos hD h
  unfold zvl
  rw[h1,if_pos h]
  refine⟨rfl,rfl,rfl,rfl,.inr rfl,?_,⟨dY _ dQ,hnx,hgo.secs,hgo.note⟩,rfl,aZ _,rfl,?_,rfl,h2,h3,by rw[h4];decide⟩
  ·show(s.dead||decide ((zge s D).1=4))=false
   rw[hdead,h];rfl
  ·show zaz s.g.at_=0∨zaz s.g.at_=1
   unfold zaz
   split
   ·exact .inr rfl
   ·exact .inl rfl
 ·rename_i h5
  rw[if_neg h5]
  exact⟨rfl,rfl,rfl,rfl,.inl rfl,hdead,hgo,rfl,hus,rfl,hat,hgd,hD,rfl,hwl⟩
theorem zvq(s:Pg)(d:Dk)(hdead:s.dead=false)(hC:s.C=[])(w:World)(h:zbq (pgI s d) w):Pu Tryz.prog 80 #[.pointer (some ⟨s.b,0,none⟩)] w (.int .i64 0):=by
 refine zbn [_] Tryz.func80 rfl rfl ?_
 simp only[zaa]
 refine goA ?_
 refine l_w rfl (za0 (v:=.bool s.dead) rfl rfl (fun w' hw'=>zkv (h.keep hw') 7 rfl)) ?_
 rw[hdead]
 refine goA ?_
 refine l_w rfl (za0 (v:=.map (some s.cb)) rfl rfl (fun w' hw'=>zkv (h.keep hw') 6 rfl)) ?_
 refine goA ?_
 have hmp:=fun(w':World) (hw':Hp w none' [] w')=>(zvp (h.keep hw') (it:=zck .i64 s.cb (toP s.C)) (by simp[pgL])).1
 refine l_w rfl (zyw rfl rfl hmp) ?_
 rw[hC,show(toP []).length=0 from rfl]
 refine goA ?_
 exact zdk rfl rfl rfl
theorem zr1(s:Pg)(d:Dk)(ok:d.D.Ok)(hkl:d.D.keep.length≤1000000)(hwl:d.D.wait.length≤10000)(hdead:s.dead=false)(hn:s.n≤1024)(hgo:s.g.h.Ok)(hs0:0<s.g.h.secs)(hus:s.g.used≤s.g.h.secs)(hnx:s.g.next+zao (tC s).length<18446744073709551616)(hat:s.g.at_=0∨s.g.at_=1)(hgd:s.g.dead=false)(hK:s.K.Ok s.n)(hC:s.C.Ok s.n)(hRK:∀i∈s.R,∃b,s.K.lookup i=some b)(hRl:s.R.length≤1024)(hCl:s.C.length≤1024)(hC0:s.C≠[]):
  Cw Tryz.prog 80 #[.pointer (some ⟨s.b,0,none⟩)] [pgI s d,dkI d,ctI] (fun _:Dk×PR×List Nat=>.int .i64 ((if s.g.h.secs<zao (tC s).length then 6 else(cmF s d.D).1:Nat):Int))
   (fun x=>zfz d (if s.g.h.secs<zao (tC s).length then d.D else(cmF s d.D).2.1) x.1∧(¬s.g.h.secs<zao (tC s).length→(cmF s d.D).1=0→qgt (cmF s d.D).2.2 x.2)) (fun x=>[pgI (if s.g.h.secs<zao (tC s).length then { s with C:=[] } else cmR s d.D x.2) x.1,dkI x.1,ctI]):=by
 intro w hw ha
 refine za2 [_] _ Tryz.func80 rfl rfl hw ha ?_
 have hsecs:=hgo.secs
 have htl:(tC s).length=514*s.C.length:=by
  have:=zj5 (zmc hC)
  rw[show(zb2 s.C).length=s.C.length by rw[zb2,aD,zhk,aD]]at this
  exact this
 have hcl0:s.C.length≠0:=fun h=>hC0 (bQ h)
 have hpg:∀{m:List Eng.Item} {w1:World},Hp w (za4 [pgI s d,dkI d,ctI]) (pgI s d::m) w1→zbq (pgI s d) w1:=fun hw1=>zbq.of (hw1.item (pgI s d) (.head _)) (zbv s d)
 simp only[zaa]
 refine goA ?_
 refine l_w rfl (za0 (v:=.bool false) rfl rfl (fun w' hw'=>zkv (hpg hw') 7 (by rw[←hdead];rfl))) ?_
 refine goA ?_
 refine l_w rfl (za0 (v:=.map (some s.cb)) rfl rfl (fun w' hw'=>zkv (hpg hw') 6 rfl)) ?_
 refine goA ?_
 refine l_w rfl (zyw (A:=toP s.C) rfl rfl (fun w' hw'=>(zvp (hpg hw') (it:=zck .i64 s.cb (toP s.C)) (by simp[pgL])).1)) ?_
 rw[show(toP s.C).length=s.C.length by simp[toP]]
 refine goA ?_
 refine lCu [pgI s d] rfl (zbl s d) (fun w1 hw1 hh1 ha1=>zya s d hn hC hCl w1 hh1) fun⟨_,_⟩=>?_
 rw[show zc7 (zb2 s.C)=tC s from rfl]
 refine goA ?_
 rw[bal]
 refine lPu rfl (fun w1 hw1=>zsw (tC s).length oQ w1) ?_
 refine goA ?_
 refine l_w rfl (za0 (v:=.pointer (some ⟨s.bl,0,none⟩)) rfl rfl (fun w' hw'=>zkv (hpg hw') 0 rfl)) ?_
 refine goA ?_
 refine lPu rfl (fun w1 hw1=>zd6 s.bl d s.g w1 (qhu (hpg hw1))) ?_
 refine l_w rfl (qit rfl rfl) ?_
 by_cases h6:s.g.h.secs<zao (tC s).length
 ·simp only[if_pos h6]
  refine goA ?_
  refine lCu [pgI s d] rfl (zbl s d) (fun w1 hw1 hh1 ha1=>zk2 s d w1 hh1) fun⟨_,_⟩=>?_
  refine goA ?_
  exact zbd (d,[],[]) rfl rfl rfl ⟨⟨rfl,rfl,rfl⟩,fun h=>absurd h6 h⟩ (.refl _) (zdq _ _)
 ·simp only[if_neg h6]
  refine zu3 (zka ?_)
  refine qp3 rfl rfl (fun h=>absurd h oQ) (fun _=>?_)
  refine zq4 (zka ?_)
  refine zr5 ?_
  refine zq3 (w0:=w) (F:=za4 [pgI s d,dkI d,ctI]) (α:=Dk×Pg) (fun _=>[(0,.pointer (some ⟨s.b,0,none⟩)),(3,.string ⟨(tC s).toArray⟩)]) (fun z=>(zoo s d.D).1=0∧zfz d (zoo s d.D).2.1 z.1∧z.2=(zoo s d.D).2.2) (fun z=>[pgI z.2 z.1,dkI z.1,ctI]) ?_ ?_
  ·refine goA ?_
   refine l_w rfl (za0 (v:=.pointer (some ⟨s.bl,0,none⟩)) rfl rfl (fun w' hw'=>zkv (hpg hw') 0 rfl)) ?_
   refine goA ?_
   refine lPu rfl (fun w1 hw1=>znz s.bl d s.g hsecs hus w1 (qhu (hpg hw1))) ?_
   refine l_w rfl (qit rfl rfl) ?_
   by_cases h5:s.g.h.secs - s.g.used<zao (tC s).length
   ·have hcm1:zoo s d.D=((zge s d.D).1,(zge s d.D).2.1,{ zvl s d.D with dead:=s.dead||decide ((zge s d.D).1=4) }):=by rw[zoo,if_pos h5]
    rw[hcm1]
    refine goA ?_
    refine zeh rfl (zfb (pre:=[pgI s d,dkI d,ctI]) (m:=[]) rfl kQ rfl (zdq s d) (fun w1 hw1 hh1 ha1=>qhl s d ok hkl hwl hn hgo oQ hat hgd hK hRK hRl w1 hh1 ha1)) fun⟨d',hd'⟩=>?_
    refine lCu [pgI (zvl s d.D) d'] rfl (zbl _ _) (fun w1 hw1 hh1 ha1=>zni (zvl s d.D) d' (zge s d.D).1 w1 hh1) fun⟨_,_⟩=>?_
    refine goA ?_
    by_cases he:(zge s d.D).1=0
    ·have hne:(((zge s d.D).1:Int) != 0)=false:=by simp[he]
     rw[hne]
     refine goA ?_
     exact zep (d',{ zvl s d.D with dead:=s.dead||decide ((zge s d.D).1=4) }) ⟨rfl,rfl,trivial⟩ ⟨he,hd',rfl⟩ (fun w hw=>hw)
    ·have hne:(((zge s d.D).1:Int) != 0)=true:=by simp[he]
     have hcm:cmF s d.D=zoo s d.D:=by rw[cmF,if_neg (by rw[hcm1];exact he)]
     rw[hne]
     simp only[cmR,hcm,hcm1,if_neg he]
     refine goA ?_
     exact zbd (d',[],[]) rfl rfl rfl ⟨hd',fun _ h=>absurd h he⟩ (.refl _) (zdq _ _)
   ·have hcm1:zoo s d.D=(0,d.D,s):=by rw[zoo,if_neg h5]
    rw[hcm1]
    refine goA ?_
    exact zep (d,s) ⟨rfl,rfl,trivial⟩ ⟨rfl,⟨rfl,rfl,rfl⟩,rfl⟩ (fun w hw=>hw)
  ·rintro⟨d1,s1⟩ ⟨he,hd1,hs1⟩
   simp only at he hd1 hs1⊢
   have hc:=qql ok hwl hdead hgo hus oQ hat hgd he
   have hcm:cmF s d.D=qey (zoo s d.D).2.2 (zoo s d.D).2.1:=by rw[cmF,if_pos he]
   unfold cmR
   rw[hcm]
   rw[←hs1,←hd1.2.2]at hc⊢
   have htC:tC s1=tC s:=by unfold tC;rw[hc.C]
   rw[←hc.b,←htC]
   have hnl:zao (tC s1).length≤1100:=by rw[htC,htl];unfold zao;omega
   have htl1:(tC s1).length≤1000000000:=by rw[htC,htl];omega
   have hsec0:0<s1.g.h.secs:=by rw[hc.secs];exact hs0
   have hnx1:s1.g.next+zao (tC s1).length<18446744073709551616:=by rw[hc.next,htC];exact hnx
   refine zg8 (m':=pgL s1 d1++[dkI d1,ctI]) (fun w' hw'=>ze1 (m:=[dkI d1,ctI]) hw') ?_
   unfold pgL
   refine goA ?_
   refine zay [1,5,6,0,2,3,4] rfl rfl ?_
   refine lCu [lgI s1.bl d1 s1.g,dkI d1,ctI] rfl (by intro it hm;rcases hm with _|⟨_,hm⟩<;>first|exact zab _ _ _|exact zbo d1 it hm) (fun w1 hw1 hh1 ha1=>zrv s1.bl (tC s1) d1 s1.g hc.ok (by rw[hc.keep];exact hkl) (by have:=hc.wait;omega) htl1 hc.h hsec0 hc.used hnx1 hc.gdead w1 hh1 ha1) fun⟨d2,hd2⟩=>?_
   unfold qey
   have hd2':=hd1.trans hd2
   generalize hg2:qjd d1.D s1.g (tC s1)=g2
   generalize hr:zop d1.D s1.g (tC s1)=r at hd2 hd2'⊢
   dsimp only
   refine zcy (m':=[pgI { s1 with g:={ g2 with dead:=decide (r.1=4) } } d2,dkI d2,ctI]) (fun w' hw'=>?_) ?_
   ·have e:pgC s1 d1=pgC s1 d2:=by unfold pgC pgA;rw[hd2.1]
    rw[e]at hw'
    exact zdm (s:={ s1 with g:={ g2 with dead:=decide (r.1=4) } }) (m:=[dkI d2,ctI]) (hw'.pick [3,0,4,5,6,1,2] rfl rfl)
   refine lCu [pgI { s1 with g:={ g2 with dead:=decide (r.1=4) } } d2] rfl (zbl _ _) (fun w1 hw1 hh1 ha1=>zni { s1 with g:={ g2 with dead:=decide (r.1=4) } } d2 r.1 w1 hh1) fun⟨_,_⟩=>?_
   refine goA ?_
   obtain⟨s2,hs2⟩:∃s2:Pg,s2={ s1 with g:={ g2 with dead:=decide (r.1=4) },dead:=s1.dead||decide (r.1=4) }:=⟨_,rfl⟩
   refine zg8 (m':=[pgI s2 d2,dkI d2,ctI]) (fun w' hw'=>by rw[hs2];exact hw') ?_
   rw[←hs2]
   have hb2:s2.b=s1.b:=by rw[hs2]
   have hC2:s2.C=s.C:=by rw[hs2];exact hc.C
   have hK2:s2.K=s.K:=by rw[hs2];exact hc.K
   have hn2:s2.n=s.n:=by rw[hs2];exact hc.n
   rw[←hb2]
   by_cases he2:r.1=0
   ·have hne:((r.1:Int) != 0)=false:=by simp[he2]
    rw[hne]
    simp only[if_pos he2]
    refine zg8 (m':=pgL s2 d2++[dkI d2,ctI]) (fun w' hw'=>ze1 (m:=[dkI d2,ctI]) hw') ?_
    unfold pgL
    refine zhm (fun w hw=>zld (hw.item (zck .i64 s2.cb (toP s2.C)) sQ).1) fun hnd=>?_
    have hke:zjv (toP s2.C)=s2.C.map (·.1):=by simp[zjv,toP,fV]
    have hCo2:s2.C.Ok s2.n:=by rw[hC2,hn2];exact hC
    have hKo2:s2.K.Ok s2.n:=by rw[hK2,hn2];exact hK
    refine goA ?_
    refine zd2 66 _ (.map (some s2.cb)) rfl rfl ?_
    refine zay [4,0,1,2,3,5,6] rfl rfl ?_
    refine za1 rfl (zov rfl rfl rfl) fun⟨rr,hrr⟩=>?_
    refine goA ?_
    refine zc0 (α:=KpS) (fun _=>[(0,.pointer (some ⟨s2.b,0,none⟩)),(67,.pointer (some ⟨rr,0,none⟩))]) (fun y=>qpx s2 y) (fun y=>[itN .i64 rr s2.cb (toP s2.C) y.L y.c,pgC s2 d2,lgI s2.bl d2 s2.g,zck .i64 s2.kb (toP y.K),zck .i64 s2.db (toB y.R),dkI d2,ctI]) (fun y=>y.L.length) ⟨toP s2.C,none,[],s2.K,s2.R⟩ ⟨rfl,rfl,trivial⟩ ⟨by show toP s2.C=(toP s2.C).filter (fun x=>decide (x.1∉([]:List Nat)));exact(cY.2 fun _ _=>by simp).symm,eT,(fun _ (h:_∈([]:List Nat))=>nomatch h),fun i=>by simp,fun i=>by simp,hKo2,id⟩ (fun w h=>h) fun⟨L,c,k,K,R⟩ hy=>?_
    simp only
    refine goA ?_
    refine za1 rfl (zvh rfl rfl) fun⟨y,hyy⟩=>?_
    cases y with
    |none=>
     simp only at hyy⊢
     subst hyy
     have hdn:=hy.done rfl (by rw[←hke];exact hnd)
     refine goA ?_
     refine zcy (m':=[pgI { s2 with K:=K,R:=R } d2,dkI d2,ctI]) (fun w' hw'=>by have h1:=zpu hw';exact zdm (s:={ s2 with K:=K,R:=R }) (m:=[dkI d2,ctI]) (h1.pick [1,2,3,4,0,5,6] rfl rfl)) ?_
     refine lCu [pgI { s2 with K:=K,R:=R } d2] rfl (zbl _ _) (fun w1 hw1 hh1 ha1=>zk2 { s2 with K:=K,R:=R } d2 w1 hh1) fun⟨_,_⟩=>?_
     refine goA ?_
     subst hs2
     exact zbd (d2,K,R) rfl rfl (by rw[he2];rfl) ⟨hd2',fun _ _=>hdn⟩ (.refl _) (zdq _ _)
    |some p=>
     simp only at hyy⊢
     have hpC:p∈toP s2.C:=by
      have h1:=hy.L
      simp only at h1
      rw[h1]at hyy
      exact(dP.1 hyy).1
     have hlk:=zu7 hnd hpC
     rw[zic]at hlk
     obtain⟨i,v⟩:=p
     simp only at hlk
     obtain⟨b,hb,rfl⟩:∃b,s2.C.lookup i=some b∧pgV b=v:=by
      cases hl:s2.C.lookup i with
      |none=>rw[hl]at hlk;cases hlk
      |some b=>rw[hl]at hlk;exact⟨b,rfl,by injection hlk⟩
     have hbo:=hCo2 _ (zbt hb)
     have hstep:=hy.step hyy hb hbo
     simp only at hbo hstep
     have hbl:(zae b).length=512:=by rw[zan,hbo.2]
     have hlt:=zow hyy
     have hi1024:i≤1000000:=by have:=hbo.1;omega
     refine goA ?_
     refine l_w rfl (zo6 rfl (.head _)) ?_
     refine goA ?_
     refine zam rfl rfl fun b8 hb8=>?_
     refine goA ?_
     unfold pgV
     refine za1 rfl (zaf (cs':=(zae b).toArray) rfl rfl rfl (by rw[aI,hbl];rfl) (zdd _) (by rw[aI,hbl];rfl)) fun _=>?_
     refine goA ?_
     refine zcx [4,5,0,1,2,3,6,7] rfl rfl ?_
     refine zap [2,3,4,5,6,7] 17 rfl rfl kQ ?_
     (repeat first|refine dAv [10] rfl rfl rfl ?_ |refine dno [10] rfl rfl rfl ?_ |refine dT [10] rfl rfl rfl rfl ?_ |refine dF [10] rfl rfl rfl rfl ?_)
     refine d_v [11,14] rfl rfl kQ (fun _ h=>goH h) rfl rfl (zcw rfl (by rw[aI,hbl];rfl) (.head _)) ?_
     simp only
     refine zat 11 ⟨kQ,dQ⟩ rfl rfl (zs0 (h:=i) rfl rfl rfl rfl rfl rfl (okI hi1024)) (fun _ _ h=>goH h) fun st1=>?_
     generalize (List.lookup i (toP K)).getD _=u1
     (repeat first|refine dAv [14] rfl rfl rfl ?_ |refine dno [14] rfl rfl rfl ?_ |refine dT [14] rfl rfl rfl rfl ?_ |refine dF [14] rfl rfl rfl rfl ?_)
     refine zat 13 ⟨kQ,dQ⟩ rfl rfl (zn3 (h:=i) (s:=st1) (u:=u1) (v:=pgV b) rfl rfl rfl rfl) (fun _ _ h=>goH h) fun _=>?_
     refine zat 14 ⟨kQ,dQ⟩ rfl rfl (zah (zcg _ _ _) (zs0 (h:=i) rfl rfl rfl rfl rfl rfl (okI hi1024))) (fun _ _ h=>goH h) fun st2=>?_
     generalize (List.lookup i (toB R)).getD _=u2
     refine goE ?_
     refine zat 16 ⟨kQ,dQ⟩ rfl rfl (zn3 (h:=i) (s:=st2) (u:=u2) (v:=.bool true) rfl rfl rfl rfl) (fun _ _ h=>goH h) fun _=>?_
     refine zdn kQ ?_
     rw[←zln,qo8]
     refine goA ?_
     exact zaw ⟨qca L (i,pgV b),some (i,pgV b),k++[i],zeb K i b,if i∈R then R else R++[i]⟩ ⟨rfl,rfl,trivial⟩ hstep (fun w hw=>hw.pick [3,4,5,1,0,6,7] rfl rfl) hlt
   ·have hne:((r.1:Int) != 0)=true:=by simp[he2]
    rw[hne]
    simp only[if_neg he2]
    refine goA ?_
    exact zbd (d2,[],[]) rfl rfl rfl ⟨hd2',fun _ h=>absurd h he2⟩ (.refl _) (zdq _ _)
end Go.Proofs.YthafakdplhdfjaaGreatDoor
namespace Go.Proofs.YthafakdplhdfjaaGreatDoor
open Go.RowKit Go.Eng Go.Eng.Bm
def noU:Nat→Bool:=fun _=>false
def bm0(n:Nat):Bys:=bmB n (upd noU 0 true)
def zhp(log n:Nat):List (Nat×Bys):=(List.range n).map fun i=>(2+log+i,if i=0 then bm0 n else zej)
def qe1(D:Dsk)(log n:Nat)(note:Bys):Nat×Dsk:=
 if (zcm D (zhp log n)).1=0 then zbc (zcm D (zhp log n)).2 (zaz (zdo (zcm D (zhp log n)).2 2).2) (qd1 (zcm D (zhp log n)).2 log (beN 2 n++note))else zcm D (zhp log n)
theorem zms{D:Dsk}(h:(zbi D).1=0):(zbi D).2.dead=false∧(zbi D).2.on.length=D.on.length:=by
 unfold zbi at h⊢
 split at h
 ·cases h
 ·rename_i hd
  rw[if_neg hd]
  by_cases ha:(zhb D).1=0
  ·rw[if_pos ha]
   obtain⟨h1,h2,h3, -⟩:=zkb ha
   refine⟨?_,?_⟩
   ·show(zhb D).2.dead=false
    rw[h3];simpa using hd
   ·show(zjh (zhb D).2.on (zhb D).2.wait _ _).length=_
    rw[zgg,h2]
  ·rw[if_neg ha]at h
   exact absurd h ha
theorem zwb:∀(l:List (Nat×Bys)) (D:Dsk),D.Ok→(zbb D l).1=0→(zbb D l).2.on.length=D.on.length
 | [],_,_,_=>rfl
 |q::l,D,h,h0=>by
  rw[zbb]at h0⊢
  by_cases h':(zbz D q.1 q.2).1=0
  ·rw[if_pos h']at h0⊢
   obtain⟨h1, -, -,h4, -⟩:=zj9 h q.1 q.2 h'
   rw[zwb l _ h1 h0,h4]
  ·rw[if_neg h']at h0
   exact absurd h0 h'
theorem zr2(d:Dk)(ok:d.D.Ok)(hlive:d.D.dead=false)(hkl:d.D.keep.length≤1000000)(hwl:d.D.wait.length≤10000)(log n:Nat)(note:Bys)(hl1:96≤log)(hl2:log≤512)(hn1:64≤n)(hn2:n≤1024)(hno:note.length≤40)(hroom:2+log+n≤d.D.on.length):
  Cw Tryz.prog 78 #[.pointer (some ⟨d.b,0,none⟩),.int .i64 log,.int .i64 n,.string ⟨note.toArray⟩] [dkI d,ctI] (fun _:Dk=>.int .i64 ((qe1 d.D log n note).1:Nat)) (zfz d (qe1 d.D log n note).2) (fun d'=>[dkI d',ctI]):=by
 intro w hw ha
 refine za2 [_,_,_,_] _ Tryz.func78 rfl rfl hw ha ?_
 have hbl:=bal note
 have hmany:=ok.many
 simp only[zaa,Nat.reduceAdd]
 refine goA ?_
 refine lPu rfl (fun w1 _=>qg6 n oQ oQ w1) ?_
 refine goA ?_
 refine zam rfl rfl fun b9 hb9=>?_
 refine za1 rfl (zaf (cs':=zif n noS) rfl rfl rfl (by rw[za6];rfl) (zey _ _) (by rw[za6];rfl)) fun _=>?_
 refine goA ?_
 refine lPu rfl (fun w1 hw1=>zfv log n oQ oQ w1) ?_
 refine goA ?_
 refine lPu rfl (fun w1 hw1=>zhy d w1 (zbq.of (hw1.item (dkI d) sQ) (zad _))) ?_
 refine goA ?_
 refine lPu rfl (fun w1 _=>zm2 n noU 0 true oQ w1) ?_
 rw[show qe5 n noU 0 true=upd noU 0 true from zvy noU true (k:=0) oQ]
 refine zdy rfl rfl kQ rfl (fun w1 hw1=>zn1 n (upd noU 0 true) oQ w1) fun x hx=>?_
 rw[zpa]
 refine goA ?_
 have hwsl:(zhp log n).length=n:=by rw[zhp,aD,fX]
 have hwsk:∀k,k<n→(zhp log n).take (k+1)=(zhp log n).take k++[(2+log+k,if k=0 then bm0 n else zej)]:=fun k hk=>by
  rw[cV,zhp,aO,eO hk]
  rfl
 have hokk:∀k,(zbb d.D ((zhp log n).take k)).2.Ok:=fun k=>zf7 _ _ ok
 have hkeepk:∀k,k≤n→(zbb d.D ((zhp log n).take k)).1=0→(zbb d.D ((zhp log n).take k)).2.keep=d.D.keep∧(zbb d.D ((zhp log n).take k)).2.wait.length=d.D.wait.length+k:=fun k hk h0=>by
  have:=ze7 ((zhp log n).take k) d.D ok h0
  rw[aM,hwsl,dB hk]at this
  exact this
 have hbad:∀k,(zbb d.D ((zhp log n).take k)).1≠0→zbb d.D (zhp log n)=zbb d.D ((zhp log n).take k):=fun k hk=>by
  have h1:=zmp ((zhp log n).take k) ((zhp log n).drop k) d.D hk
  rw[bF]at h1
  exact h1
 have hall:zbb d.D ((zhp log n).take n)=zbb d.D (zhp log n):=by rw[bJ oQ]
 have hcl:∀k:Nat,(if k=0 then bm0 n else zej).length=512:=fun k=>by
  split
  ·exact zpb _ _
  ·simp[zej]
 have hz:(zae zej).toArray=Array.replicate 512 (.int .u8 0):=by
  unfold zae zej
  rw[List.map_replicate,List.toArray_replicate]
  rfl
 refine zc0 (α:=Nat×Dk×Nat) (fun y=>[(0,.pointer (some ⟨d.b,0,none⟩)),(1,.int .i64 (log:Int)),(2,.int .i64 (n:Int)),(3,.string ⟨note.toArray⟩),(56,.int .i64 n),(57,.int .i64 y.1),(11,.slice (some ⟨y.2.2,0,none⟩) 512 512)]) (fun y=>y.1≤n∧(zbb d.D ((zhp log n).take y.1)).1=0∧zfz d (zbb d.D ((zhp log n).take y.1)).2 y.2.1) (fun y=>[dkI y.2.1,pt y.2.2 (.cells (zae (if y.1=0 then bm0 n else zej)).toArray 5 (0,0)),ctI]) (fun y=>n - y.1) (0,d,x) ⟨rfl,rfl,rfl,rfl,rfl,rfl,rfl,trivial⟩ ⟨aZ _,rfl,rfl,rfl,rfl⟩ (fun w hw=>by exact hw.pick [2,0,3] rfl rfl) fun⟨k,d1,xb⟩ ⟨hk,h0,hd1⟩=>?_
 simp only at hk h0 hd1⊢
 by_cases hkn:k<n
 ·have hst:zbb d.D ((zhp log n).take (k+1))=zbz (zbb d.D ((zhp log n).take k)).2 (2+log+k) (if k=0 then bm0 n else zej):=by
   rw[hwsk k hkn,zmq,if_pos h0]
  obtain⟨hkp,hwt⟩:=hkeepk k oQ h0
  have hokd:=hokk k
  have hbad2:=hbad (k+1)
  generalize zbb d.D ((zhp log n).take k)=r at*
  obtain⟨hd1a,hd1b,hd1c⟩:=hd1
  rw[←hd1c]at hkp hwt hokd hst
  have hcur:=hcl k
  generalize (if k=0 then bm0 n else zej)=cur at hst hcur⊢
  refine goA ?_
  refine lPu rfl (fun w1 hw1=>zfv log k oQ oQ w1) ?_
  refine goA ?_
  rw[←hd1a]
  refine lCu [dkI d1] rfl (by intro it hm;rcases hm with _|⟨_,hm⟩<;>first|exact zad _|exact(nomatch hm)) (fun w1 hw1 hh1 ha1=>zuc d1 hokd (by rw[hkp];exact hkl) (by rw[hwt];omega) (2+log+k) oQ cur 512 hcur (some ⟨xb,0,none⟩) 512 dQ w1 hh1 (fun w2 hw2=>.inr ⟨xb,0,rfl,zbf (hw1.still (y:=pt xb (.cells (zae cur).toArray 5 (0,0))) (.head _) (zab _ _ _) hw2)⟩)) fun⟨d2,hd2⟩=>?_
  dsimp only
  rw[←hst]at hd2⊢
  have hok2:zfz d (zbb d.D ((zhp log n).take (k+1))).2 d2:=⟨hd2.1.trans hd1a,hd2.2.1.trans hd1b,hd2.2.2⟩
  refine goA ?_
  by_cases he:(zbb d.D ((zhp log n).take (k+1))).1=0
  ·have hne:(((zbb d.D ((zhp log n).take (k+1))).1:Int) != 0)=false:=by simp[he]
   rw[hne]
   refine goA ?_
   refine qmj rfl rfl rfl rfl rfl rfl dQ dQ fun c _=>?_
   refine goA ?_
   exact zaw (k+1,d2,c) ⟨by rw[hd1a];rfl,rfl,rfl,rfl,rfl,rfl,rfl,trivial⟩ ⟨hkn,he,hok2⟩ (fun w hw=>by show Hp _ _ [dkI d2,pt c (.cells (zae zej).toArray 5 (0,0)),ctI] w;rw[hz];exact hw.pick [1,0,3] rfl rfl) (by show n - (k+1)<n - k;omega)
  ·have hne:(((zbb d.D ((zhp log n).take (k+1))).1:Int) != 0)=true:=by simp[he]
   have hfm:qe1 d.D log n note=zbb d.D ((zhp log n).take (k+1)):=by
    have hb:zcm d.D (zhp log n)=zbb d.D ((zhp log n).take (k+1)):=by rw[zcm,hbad2 he,if_neg he]
    rw[qe1,hb,if_neg he]
   rw[hne,hfm]
   refine goA ?_
   exact zbd d2 rfl rfl rfl hok2 (.cons_cons _ (.cons _ (.refl _))) (zbo d2)
 ·obtain rfl:k=n:=oQ
  rw[hall]at h0 hd1
  have hkk:=hkeepk k (bA _) (by rw[hall];exact h0)
  rw[hall]at hkk
  have hokd:=zf7 (zhp log k) d.D ok
  have hlen1:=zwb (zhp log k) d.D ok h0
  have hbt:zcm d.D (zhp log k)=zbi (zbb d.D (zhp log k)).2:=by rw[zcm,if_pos h0]
  unfold qe1
  rw[hbt]
  generalize zbb d.D (zhp log k)=r at*
  obtain⟨hd1a,hd1b,hd1c⟩:=hd1
  rw[←hd1c]at hkk hokd hlen1⊢
  refine goA ?_
  rw[←hd1a]
  refine lCu [dkI d1] rfl (by intro it hm;rcases hm with _|⟨_,hm⟩<;>first|exact zad _|exact(nomatch hm)) (fun w1 hw1 hh1 ha1=>zg4 d1 hokd (by rw[hkk.1];exact hkl) (by rw[hkk.2];omega) w1 hh1) fun⟨d2,hd2⟩=>?_
  dsimp only
  have hok2:zfz d (zbi d1.D).2 d2:=⟨hd2.1.trans hd1a,hd2.2.1.trans hd1b,hd2.2.2⟩
  have hfo:=zfr hokd
  have hfk:=zgs (D:=d1.D)
  have hfl:=zms (D:=d1.D)
  generalize zbi d1.D=r2 at*
  refine goA ?_
  by_cases he:r2.1=0
  ·have hne:((r2.1:Int) != 0)=false:=by simp[he]
   obtain⟨hk1,hk2⟩:=hfk he
   obtain⟨hl1',hl2'⟩:=hfl he
   rw[hne]
   simp only[if_pos he]
   rw[←hok2.2.2]at hfo hk1 hk2 hl1' hl2'⊢
   refine goA ?_
   refine zdy rfl rfl kQ rfl (fun w1 hw1=>zg6 w1) fun x hx=>?_
   refine goA ?_
   refine lCu (pks x none []) rfl (by simp[zab,zac]) (fun w1 hw1 hh1 ha1=>zdr x none [] 2 k (.inr (.inl rfl)) oQ dQ w1 hh1 ha1) fun⟨o1,_⟩=>?_
   rw[aJ]
   refine goA ?_
   refine lCu (pks x o1 (beN 2 k)) rfl (by simp[zab,zac]) (fun w1 hw1 hh1 ha1=>zen x o1 (beN 2 k) ⟨note.toArray⟩ (by rw[zal,hbl];omega) w1 hh1 ha1) fun⟨o2,_⟩=>?_
   refine zcy (m':=pks x o2 (beN 2 k++note)++[dkI d2,pt xb (.cells (zae (if k=0 then bm0 k else zej)).toArray 5 (0,0)),ctI]) (fun w' hw'=>hw') ?_
   have htl:(beN 2 k++note).length≤42:=by rw[aA,zal];omega
   generalize beN 2 k++note=tx at htl⊢
   refine lCu (pks x o2 tx) rfl (by simp[zab,zac]) (fun w1 hw1 hh1 ha1=>zdv x o2 tx oQ w1 hh1 ha1) fun⟨o3,_⟩=>?_
   dsimp only
   refine zch (fun w hw=>(zas (hw.item (own 5 1 o3 tx.length (zae tx)) (.head _)).1)) fun⟨hsl2,_⟩=>?_
   rw[hsl2]
   refine goA ?_
   refine l_w rfl (ztt (bs:=tx) rfl rfl rfl rfl (fun w' hw'=>za8 (hw'.item (own 5 1 o3 tx.length (zae tx)) (.head _)).1)) ?_
   refine zay [3,5,0,1,2,4] rfl rfl ?_
   rw[←hd2.1]
   refine lCu [dkI d2,ctI] rfl (zbo d2) (fun w1 hw1 hh1 ha1=>zw8 d2 hfo hl1' (by rw[hk1,hkk.1];exact hkl) (by rw[hk2];decide) log hl1 hl2 (by rw[hl2',hlen1];omega) tx oQ w1 hh1 ha1) fun⟨d3,hd3⟩=>?_
   refine goA ?_
   exact zbd d3 rfl rfl rfl ⟨hd3.1.trans hok2.1,hd3.2.1.trans hok2.2.1,hd3.2.2⟩ (.cons_cons _ (.cons_cons _ (aK _))) (zbo d3)
  ·have hne:((r2.1:Int) != 0)=true:=by simp[he]
   rw[hne]
   simp only[if_neg he]
   refine goA ?_
   exact zbd d2 rfl rfl rfl hok2 (.cons_cons _ (.cons _ (.refl _))) (zbo d2)
end Go.Proofs.YthafakdplhdfjaaGreatDoor
namespace Go.Proofs.YthafakdplhdfjaaGreatDoor
open Go.RowKit Go.Eng
abbrev ftT:List ((Dk×Lg→Nat)×(Dk×Lg→Dk×Lg→Prop)):=
  [(fun x=>(zbi x.1.D).1,fun x x'=>zfz x.1 (zbi x.1.D).2 x'.1∧x'.2=x.2),
   (fun x=>(zbc x.1.D (zaz x.2.at_) (zbk x.2)).1,fun x x'=>zfz x.1 (zbc x.1.D (zaz x.2.at_) (zbk x.2)).2 x'.1∧x'.2={ zjd x.2 x.1.D with dead:=decide ((zbc x.1.D (zaz x.2.at_) (zbk x.2)).1=4) })]
def ftV(s:Pg)(d:Dk):List (FuncId×List Value×List Value):=[(118,[.pointer (some ⟨d.b,0,none⟩)],[]),(119,[.pointer (some ⟨s.bl,0,none⟩)],[])]
def ftF(D:Dsk)(g:Lg):Nat×Dsk×Lg:=
 if (zbi D).1=0 then((zbc (zbi D).2 (zaz g.at_) (zbk g)).1,(zbc (zbi D).2 (zaz g.at_) (zbk g)).2,{ zjd g (zbi D).2 with dead:=decide ((zbc (zbi D).2 (zaz g.at_) (zbk g)).1=4) })
 else((zbi D).1,(zbi D).2,g)
theorem qqu{d:Dk}{g:Lg}{x:Nat×(Dk×Lg)}(h:qpw ftT (d,g) x):x.1=(ftF d.D g).1∧zfz d (ftF d.D g).2.1 x.2.1∧x.2.2=(ftF d.D g).2.2:=by
 obtain⟨⟨d1,g1⟩,⟨h1,h2⟩,h⟩:=h
 simp only at h1 h2 h
 subst h2
 unfold ftF
 by_cases e1:(zbi d.D).1=0
 ·rw[if_pos e1]at h⊢
  obtain⟨⟨d2,g2⟩,⟨h3,h4⟩,h⟩:=h
  simp only at h3 h4 h
  rw[h1.2.2]at h3 h4 h
  have hx:x=((zbc (zbi d.D).2 (zaz g1.at_) (zbk g1)).1,(d2,g2)):=by
   by_cases e3:(zbc (zbi d.D).2 (zaz g1.at_) (zbk g1)).1=0
   ·rw[if_pos e3]at h
    rw[e3];exact h
   ·rw[if_neg e3]at h;exact h
  subst hx
  exact⟨rfl,h1.trans h3,h4⟩
 ·rw[if_neg e1]at h⊢
  subst h
  exact⟨rfl,h1,rfl⟩
def ftI(d:Dk)(g:Lg)(k:Nat)(x:Dk×Lg):Prop:=match k with
 |0=>x=(d,g)
 |1=>zfz d (zbi d.D).2 x.1∧(zbi d.D).1=0∧x.2=g
 |_=>True
def ftB(s:Pg)(x:Dk×Lg):List Eng.Item:=[pgI { s with g:=x.2 } x.1,dkI x.1,ctI]
theorem zmt(s:Pg)(x:Dk×Lg):∀it∈ftB s x,it.Stable none':=zdq _ _
theorem qn4(s:Pg)(d:Dk)(ok:d.D.Ok)(hkl:d.D.keep.length≤1000000)(hwl:d.D.wait.length≤1000000)(hgo:s.g.h.Ok)(hnx:s.g.next<18446744073709551616)(hat:s.g.at_=0∨s.g.at_=1)(hgd:s.g.dead=false):
  ∀(k:Nat) (f:FuncId×List Value×List Value) (t:(Dk×Lg→Nat)×(Dk×Lg→Dk×Lg→Prop)) (x:Dk×Lg),(ftV s d)[k]? =some f→ftT[k]? =some t→ftI d s.g k x→
   za7 Tryz.prog f.1=true∧∀w,(∀it∈ftB s x,zbq it w)→(ftB s x).Pairwise Eng.Item.Apart→Ct Tryz.prog f.1 (f.2.1++f.2.2).toArray w (za4 (ftB s x)) (fun _:Dk×Lg=>.int .i64 (t.1 x:Nat)) (t.2 x) (fun x'=>ftB s x'):=by
 intro k f t x hf ht hI
 match k,hf,ht,hI with
 |0,hf,ht,hI=>
  cases hf;cases ht
  have hI:x=(d,s.g):=hI
  subst hI
  refine⟨kQ,fun w hw ha=>?_⟩
  refine Ct.conv (fun d'=>(d',s.g)) (pre2:=[dkI d]) (rest:=[pgI s d,ctI]) ?_ (by intro it hm;rcases hm with _|⟨_,hm⟩<;>first|exact zad _|exact(nomatch hm)) (fun hh ha2=>zg4 d ok hkl oQ w hh) (fun _ _=>rfl) (fun d' hd'=>⟨hd',rfl⟩) (zmt s) (fun d' w' hd' h=>?_)
  ·exact(Hp.begin hw ha _ (fun _ h=>h)).pick [1,0,2] rfl rfl
  ·have e:pgI s d=pgI s d':=(qot hd'.1).symm
   rw[e]at h
   exact h.pick [1,0,2] rfl rfl
 |1,hf,ht,hI=>
  cases hf;cases ht
  obtain⟨d1,g1⟩:=x
  obtain⟨hd1,e1,rfl⟩:zfz d (zbi d.D).2 d1∧(zbi d.D).1=0∧g1=s.g:=hI
  have hk2:=zgs e1
  have hDD:=hd1.2.2
  refine⟨kQ,fun w hw ha=>?_⟩
  refine Ct.conv (fun d'=>(d',{ zjd s.g d1.D with dead:=decide ((zbc d1.D (zaz s.g.at_) (zbk s.g)).1=4) })) (pre2:=[lgI s.bl d1 s.g,dkI d1,ctI]) (rest:=[pgC s d1,zck .i64 s.kb (toP s.K),zck .i64 s.db (toB s.R),zck .i64 s.cb (toP s.C)]) ?_ (by intro it hm;rcases hm with _|⟨_,hm⟩<;>first|exact zab _ _ _|exact zbo d1 it hm) (fun hh ha2=>zts s.bl d1 s.g (by rw[hDD];exact zfr ok) (by rw[hDD,hk2.1];exact hkl) (by rw[hDD,hk2.2];decide) hgo hnx hat hgd w hh ha2) (fun _ _=>rfl) (fun d' hd'=>⟨hd',rfl⟩) (zmt s) (fun d' w' hd' h=>?_)
  ·exact(ze1 (s:=s) (m:=[dkI d1,ctI]) (Hp.begin hw ha _ (fun _ h=>h))).pick [1,5,6,0,2,3,4] rfl rfl
  ·have e:pgC s d1=pgC s d':=by unfold pgC pgA;rw[hd'.1]
   rw[e]at h
   exact zdm (s:={ s with g:={ zjd s.g d1.D with dead:=decide ((zbc d1.D (zaz s.g.at_) (zbk s.g)).1=4) } }) (m:=[dkI d',ctI]) (h.pick [3,0,4,5,6,1,2] rfl rfl)
 |k+2,hf,_,_=>cases hf
theorem qj6(s:Pg)(d:Dk)(bq:Nat)(ok:d.D.Ok)(hkl:d.D.keep.length≤1000000)(hwl:d.D.wait.length≤1000000)(hgo:s.g.h.Ok)(hnx:s.g.next<18446744073709551616)(hat:s.g.at_=0∨s.g.at_=1)(hgd:s.g.dead=false):
  Cw Tryz.prog 117 #[.slice (some ⟨bq,0,none⟩) 2 2] [pgI s d,dkI d,ctI,fvI bq 2 (ftV s d)] (fun _:Dk=>.int .i64 ((ftF d.D s.g).1:Nat)) (zfz d (ftF d.D s.g).2.1) (fun d'=>[pgI { s with g:=(ftF d.D s.g).2.2 } d',dkI d',ctI]):=by
 intro w hw ha
 have hI:∀k (t:(Dk×Lg→Nat)×(Dk×Lg→Dk×Lg→Prop)) x x',ftT[k]? =some t→ftI d s.g k x→t.2 x x'→t.1 x=0→ftI d s.g (k+1) x':=by
  intro k t x x' ht hI h2 h1
  match k,ht,hI with
  |0,ht,hI=>
   cases ht
   have hI:x=(d,s.g):=hI
   subst hI
   exact⟨h2.1,h1,h2.2⟩
  |1,ht,hI=>trivial
  |k+2,ht,_=>cases ht
 have h:=zwk (ftB s) (ftV s d) ftT rfl (ftI d s.g) (d,s.g) rfl (zmt s) (by show(2:Nat)≤1000;decide) (qn4 s d ok hkl hwl hgo hnx hat hgd) hI bq 2 w hw ha
 unfold Ct at h⊢
 refine h.mono ?_
 rintro e w' ⟨⟨e1,d',g'⟩,he,hx,hi⟩
 obtain⟨h1,h2,h3⟩:=qqu hx
 simp only at h1 h2 h3 he
 subst h1 h3
 exact⟨d',he,h2,hi⟩
end Go.Proofs.YthafakdplhdfjaaGreatDoor
