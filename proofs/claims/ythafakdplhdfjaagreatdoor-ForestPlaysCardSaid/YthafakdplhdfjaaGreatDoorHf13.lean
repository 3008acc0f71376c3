/- Parts: tree; law 8; slices. No condition. -/
import Derived.Test.YthafakdplhdfjaaGreatDoorHf12
set_option maxRecDepth 100000
set_option maxHeartbeats 40000000
namespace Go.Proofs.YthafakdplhdfjaaGreatDoor
open Go.RowKit Go.Eng Go.Eng.Bm Go.Eng.Tr
theorem zb6{ε α β:Type}{x:Except ε α}{f:α→Except ε β}{r:β}(h:(x>>= f)= .ok r):∃a,x= .ok a∧f a= .ok r:=by
 cases x with
 |error e=>cases h
 |ok a=>exact⟨a,rfl,h⟩
variable{c:Tc}{root:Int}{s:Pg}{w0 w:World}{F:Nat→Prop}{m:List Eng.Item}
theorem qip(hw:Hp w0 F m w)(hm:tmI c root s∈m):w.rangeAt c.t c.o (trA c root):=
 znr ((hw.item _ hm).1.1 _ (.head _)).1
variable{l:zav}{ty:TypeId}{x:Operand}
theorem qa1(hx:evO l x=some (.pointer (some ⟨c.t,c.o+1,none⟩)))(hm:tmI c root s∈m):OV Tryz.prog (.load 79 x) ty l (Hp w0 F m) (shV c.sh):=
 zgp (xs:=[.int .i64 (c.sh.kw:Int),.int .i64 (c.sh.vw:Int)]) (c:= #[.int .i64 (c.sh.kw:Int),.int .i64 (c.sh.vw:Int)]) hx rfl (fun w' hw'=>by
  exact zfu (k:=2) (zft (k:=1) (qip hw' hm))) rfl
theorem zfg(hx:evO l x=some (.pointer (some ⟨c.t,c.o+3,none⟩)))(hm:tmI c root s∈m):OV Tryz.prog (.load 3 x) ty l (Hp w0 F m) (.int .i64 root):=
 za0 hx rfl (fun _ hw'=>qip hw' hm 3 _ rfl)
variable{g:Sg}
theorem zcv{g':Sg}(h:Tok c g s)(root:Int)(at_:Nat)(n:Nd){ka va da:Option Addr}{kc vc dc nk nv nd:Nat}{lf:Bool}(hlf:n.leaf=lf)(hnk:n.keys.length=nk)(hnv:n.vals.length=nv)(hnd:n.kids.length=nd)(hb:NdB n)(hl:zb8 c.sh c.N g at_ n= .ok g')(w:World)(hr:NdR w n ⟨(ka,kc),(va,vc),(da,dc)⟩)(hA:NdA (za4 [tmI c root s]) ⟨(ka,kc),(va,vc),(da,dc)⟩)(hw:∀it∈[tmI c root s],zbq it w):
  Ct Tryz.prog 108 #[.pointer (some ⟨c.t,c.o,none⟩),.int .i64 (at_:Int),.agg #[.bool lf,.slice ka nk kc,.slice va nv vc,.slice da nd dc]] w (za4 [tmI c root s]) (fun _:Pg=>.tuple #[]) (fun s'=>Tok c g' s') (fun s'=>[tmI c root s']):=by
 subst hlf;subst hnk;subst hnv;subst hnd
 exact save_ok' h root at_ n ⟨(ka,kc),(va,vc),(da,dc)⟩ hb hl w hr hA hw
theorem Rd.take{w:World}{a:Option Addr}{xs:List Value}(h:Rd w a xs)(i:Nat):Rd w a (xs.take i):=by
 rcases h with h|⟨b,off,h1,h2⟩
 ·exact .inl (by rw[h,List.take_nil])
 ·exact .inr ⟨b,off,h1,fun j u hu=>by
   rw[kH]at hu
   split at hu
   ·exact h2 j u hu
   ·cases hu⟩
variable{e:TypeId}{o:Option (Nat×Nat)}{xs:List Value}
theorem zox{n:Nat}(h:(own e 1 o n xs).prop w)(i:Nat):Rd w (zwe (slA o) (decide (slC o=i)) (i*1)) (xs.drop i):=by
 have hl:xs.length=n:=by have:=h.1;rwa[bO]at this
 obtain⟨-,hc⟩:=zas h
 by_cases hi:n≤i
 ·exact .inl (cX oQ)
 ·match o,h,hc with
  |none,h,hc=>have:n=0:=h.2;omega
  |some (b,c),h,hc=>
   have hc:n≤c:=hc
   show Rd w (zwe (some ⟨b,0,none⟩) (decide (c=i)) (i*1)) _
   rw[zcf oQ,aH,bO]
   refine Rd.mk fun j v hj=>?_
   rw[eG]at hj
   exact zby h (i+j) v hj
theorem qtz(b c:Nat):slA (some (b,c))=some ⟨b,0,none⟩:=rfl
theorem qt0(b c:Nat):slC (some (b,c))=c:=rfl
theorem zo1{r:Bool}{k:Nat}(h:∀x:Addr,slA o=some x→¬F x.block):∀x:Addr,zwe (slA o) r k=some x→¬F x.block:=fun x hx=>by
 obtain⟨y,hy,e⟩:=qem hx
 rw[←e]
 exact h y hy
theorem qeo{g':Sg}(h:Tok c g s)(root:Int)(at_:Nat)(n:Nd)(o:Po)(hb:NdB n)(hf:qbn c.sh n=true)(hl:zb8 c.sh c.N g at_ n= .ok g'):
  Cw Tryz.prog 175 #[.pointer (some ⟨c.t,c.o,none⟩),.int .i64 (at_:Int),.agg (ndO n o)] (tmI c root s::ndI n o) (fun _:Pg=>.agg #[kV [],.int .i64 0]) (fun s'=>Tok c g' s') (fun s'=>[tmI c root s']):=by
 intro w hw ha
 have hsh:ShB c.sh:=h.sh
 have hbk:=hb.k
 have hbd:=hb.d
 refine za2 [_,_,_] _ Tryz.func175 rfl rfl hw ha ?_
 obtain⟨hk, -⟩:=zas (hw (own 9 1 o.k n.keys.length (n.keys.map kV)) (by simp[ndI])).1
 obtain⟨hv, -⟩:=zas (hw (own 9 1 o.v n.vals.length (n.vals.map kV)) (by simp[ndI])).1
 obtain⟨hd, -⟩:=zas (hw (own 3 1 o.d n.kids.length (n.kids.map iV)) (by simp[ndI])).1
 simp only[ndO]
 rw[hk,hv,hd]
 obtain⟨lf,hlf⟩:∃x,n.leaf=x:=⟨_,rfl⟩
 unfold qbn at hf
 rw[hlf]at hf⊢
 simp only[zaa,Nat.reduceAdd]
 unfold ndI
 refine goA ?_
 refine zbp rfl rfl fun b5 hb5=>?_
 refine goA ?_
 refine zam rfl rfl fun b6 hb6=>?_
 refine goA ?_
 refine zap [0,1,2,3,4,5] 29 rfl rfl kQ ?_
 cases lf with
 |true=>
  have hf:n.keys.length≤c.sh.cap:=of_decide_eq_true hf
  refine goE ?_
  refine goV rfl rfl (qa1 rfl mm) ?_
  refine dPu 10 rfl rfl (fun w1 hw1=>zjl hsh w1) ?_
  refine goX ?_
  refine zay [2,0,1,3,4,5] rfl rfl ?_
  refine lCu [tmI c root s] rfl (zag c root s) (fun w1 hw1 hh1 ha1=>zcv h root at_ n hlf rfl rfl rfl hb hl w1 ⟨za8 (hw1.item _ (.tail _ (.tail _ (.tail _ (.head _))))).1,za8 (hw1.item _ (.tail _ (.tail _ (.tail _ (.tail _ (.head _)))))).1,za8 (hw1.item _ (.tail _ (.tail _ (.tail _ (.tail _ (.tail _ (.head _))))))).1⟩ ⟨zbx hw1 (.tail _ (.tail _ (.head _))),zbx hw1 (.tail _ (.tail _ (.tail _ (.head _)))),zbx hw1 (.tail _ (.tail _ (.tail _ (.tail _ (.head _)))))⟩ hh1) fun⟨s',h'⟩=>?_
  refine goA ?_
  refine za1 rfl (zah (zcg _ _ _) (zaf rfl rfl rfl rfl rfl rfl)) fun _=>?_
  refine goA ?_
  exact zbd s' rfl ⟨_,rfl,zaq rfl (.head _)⟩ rfl h' (.cons _ (.cons_cons _ (aK _))) (zag _ _ _)
 |false=>
  have hf:n.kids.length≤c.sh.fan:=of_decide_eq_true hf
  refine goE ?_
  refine goV rfl rfl (qa1 rfl mm) ?_
  refine dPu 25 rfl rfl (fun w1 hw1=>zhz hsh w1) ?_
  refine goX ?_
  refine zay [2,0,1,3,4,5] rfl rfl ?_
  refine lCu [tmI c root s] rfl (zag c root s) (fun w1 hw1 hh1 ha1=>zcv h root at_ n hlf rfl rfl rfl hb hl w1 ⟨za8 (hw1.item _ (.tail _ (.tail _ (.tail _ (.head _))))).1,za8 (hw1.item _ (.tail _ (.tail _ (.tail _ (.tail _ (.head _)))))).1,za8 (hw1.item _ (.tail _ (.tail _ (.tail _ (.tail _ (.tail _ (.head _))))))).1⟩ ⟨zbx hw1 (.tail _ (.tail _ (.head _))),zbx hw1 (.tail _ (.tail _ (.tail _ (.head _)))),zbx hw1 (.tail _ (.tail _ (.tail _ (.tail _ (.head _)))))⟩ hh1) fun⟨s',h'⟩=>?_
  refine goA ?_
  refine za1 rfl (zah (zcg _ _ _) (zaf rfl rfl rfl rfl rfl rfl)) fun _=>?_
  refine goA ?_
  exact zbd s' rfl ⟨_,rfl,zaq rfl (.head _)⟩ rfl h' (.cons _ (.cons_cons _ (aK _))) (zag _ _ _)
theorem NdB.sub{n n':Nd}(h:NdB n)(hk:n'.keys.Sublist n.keys)(hv:n'.vals.Sublist n.vals)(hd:n'.kids.Sublist n.kids):NdB n':=
 ⟨cH hk.length_le h.k,cH hv.length_le h.v,cH hd.length_le h.d,fun k hm=>h.kl k (hk.subset hm),fun k hm=>h.vl k (hv.subset hm)⟩
theorem zdj{n:Nat}(h:(own e 1 o n xs).prop w)(h0:0<n):∃b c,o=some (b,c):=by
 cases o with
 |none=>have:n=0:=h.2;omega
 |some p=>exact⟨p.1,p.2,rfl⟩
theorem qav{g1 g2 g3:Sg}(h:Tok c g s)(root:Int)(at_:Nat)(n:Nd)(o:Po)(hb:NdB n)(hlf:n.leaf=true)(hf:c.sh.cap<n.keys.length)(q:Nat)(hp:zh8 c.N g= .ok (q,g1))
  (hl1:zb8 c.sh c.N g1 q (lNd (n.keys.drop (n.keys.length/2)) (n.vals.drop (n.keys.length/2)))= .ok g2) (hl2:zb8 c.sh c.N g2 at_ (lNd (n.keys.take (n.keys.length/2)) (n.vals.take (n.keys.length/2)))= .ok g3):
  Cw Tryz.prog 175 #[.pointer (some ⟨c.t,c.o,none⟩),.int .i64 (at_:Int),.agg (ndO n o)] (tmI c root s::ndI n o) (fun _:Pg=>.agg #[kV ((n.keys.drop (n.keys.length/2)).headD []),.int .i64 (q:Int)]) (fun s'=>Tok c g3 s') (fun s'=>[tmI c root s']):=by
 intro w hw ha
 have hsh:ShB c.sh:=h.sh
 have hbk:=hb.k
 have hbd:=hb.d
 have hkv:n.keys.length=n.vals.length:=by
  unfold zb8 at hl1
  split at hl1
  ·rename_i hm
   have:=(hm.leaf rfl).2.1
   simp only[lNd,aX]at this
   unfold zb8 at hl2
   split at hl2
   ·rename_i hm2
    have:=(hm2.leaf rfl).2.1
    simp only[lNd,aM]at this
    omega
   ·cases hl2
  ·cases hl1
 refine za2 [_,_,_] _ Tryz.func175 rfl rfl hw ha ?_
 obtain⟨kb,kc,hok⟩:=zdj (hw (own 9 1 o.k n.keys.length (n.keys.map kV)) (by simp[ndI])).1 oQ
 obtain⟨hk,hkc⟩:=zas (hw (own 9 1 o.k n.keys.length (n.keys.map kV)) (by simp[ndI])).1
 obtain⟨hv,hvc⟩:=zas (hw (own 9 1 o.v n.vals.length (n.vals.map kV)) (by simp[ndI])).1
 obtain⟨hd, -⟩:=zas (hw (own 3 1 o.d n.kids.length (n.kids.map iV)) (by simp[ndI])).1
 obtain⟨ok,ov,od⟩:=o
 simp only at hok hk hkc hv hvc hd hw ha⊢
 subst hok
 simp only[ndO]
 rw[hk,hv,hd,hlf]
 simp only[qtz,qt0]at hkc⊢
 have hkn:n.keys.length/2<n.keys.length:=oQ
 obtain⟨kq,hkq⟩:∃x,n.keys[n.keys.length/2]? =some x:=⟨_,aB hkn⟩
 have hhd:(n.keys.drop (n.keys.length/2)).headD []=kq:=by
  obtain⟨_,hh⟩:=aC.1 hkq
  rw[bX hkn,hh];rfl
 rw[hhd]
 simp only[zaa,Nat.reduceAdd]
 unfold ndI
 refine goA ?_
 refine zbp rfl rfl fun b5 hb5=>?_
 refine goA ?_
 refine zam rfl rfl fun b6 hb6=>?_
 refine goA ?_
 refine zap [0,1,2,3,4,5] 29 rfl rfl kQ ?_
 refine goE ?_
 refine goV rfl rfl (qa1 rfl mm) ?_
 refine dPu 10 rfl rfl (fun w1 hw1=>zjl hsh w1) ?_
 refine goX ?_
 refine zay [2,0,1,3,4,5] rfl rfl ?_
 refine lCu [tmI c root s] rfl (zag c root s) (fun w1 hw1 hh1 ha1=>zvo h root hp w1 hh1) fun⟨s1,h1⟩=>?_
 dsimp only
 refine goA ?_
 refine zam rfl rfl fun b7 hb7=>?_
 refine zd2 46 _ (.agg #[.string ⟨#[]⟩,.int .i64 (q:Int)]) rfl rfl ?_
 refine za1 rfl (zaf rfl rfl rfl rfl rfl rfl) fun _=>?_
 refine goA ?_
 refine l_w rfl (za0 (v:=kV kq) rfl rfl (fun w' hw'=>zby (hw'.item (own 9 1 (some (kb,kc)) n.keys.length (n.keys.map kV)) mm).1 _ _ (by simp only[aH,bO];rw[aO,hkq];rfl))) ?_
 refine goA ?_
 refine za1 rfl (zai rfl rfl rfl rfl rfl rfl sQ) fun _=>?_
 refine goA ?_
 refine zcx [1,0,2,3,4,5,6] rfl rfl ?_
 refine zap [1,2,3,4,5,6] 13 rfl rfl kQ ?_
 refine goE ?_
 refine zat 12 ⟨kQ,dQ⟩ rfl rfl (zfb (pre:=[tmI c root s1]) rfl kQ rfl (zag c root s1) (fun w1 hw1 hh1 ha1=>zcv h1 root q (lNd (n.keys.drop (n.keys.length/2)) (n.vals.drop (n.keys.length/2))) rfl aX aX rfl (hb.sub (fJ _ _) (fJ _ _) (aK _)) hl1 w1 ⟨by have:=zox (hw1.item (own 9 1 (some (kb,kc)) n.keys.length (n.keys.map kV)) mm).1 (n.keys.length/2);rw[←eL]at this;exact this,by have:=zox (hw1.item (own 9 1 ov n.vals.length (n.vals.map kV)) mm).1 (n.keys.length/2);rw[←eL]at this;exact this,.inl rfl⟩ ⟨zo1 (zbx hw1 (o:=some (kb,kc)) mm),zo1 (zbx hw1 (o:=ov) mm),fun _ h=>nomatch h⟩ hh1)) (fun _ _ h=>goH h) fun⟨s2,h2⟩=>?_
 refine zdn kQ ?_
 refine goA ?_
 refine zap [1,2,3,4,5,6] 12 rfl rfl kQ ?_
 refine goE ?_
 refine zat 11 ⟨kQ,dQ⟩ rfl rfl (zfb (pre:=[tmI c root s2]) rfl kQ rfl (zag c root s2) (fun w1 hw1 hh1 ha1=>zcv h2 root at_ (lNd (n.keys.take (n.keys.length/2)) (n.vals.take (n.keys.length/2))) rfl (by show(n.keys.take (n.keys.length/2)).length=_;rw[aM];omega) (by show(n.vals.take (n.keys.length/2)).length=_;rw[aM];omega) rfl (hb.sub (fL _ _) (fL _ _) (aK _)) hl2 w1 ⟨by have:=Rd.take (za8 (hw1.item (own 9 1 (some (kb,kc)) n.keys.length (n.keys.map kV)) mm).1) (n.keys.length/2);rw[←eM]at this;exact this,by have:=Rd.take (za8 (hw1.item (own 9 1 ov n.vals.length (n.vals.map kV)) mm).1) (n.keys.length/2);rw[←eM]at this;exact this,.inl rfl⟩ ⟨zbx hw1 (o:=some (kb,kc)) mm,zbx hw1 (o:=ov) mm,fun _ h=>nomatch h⟩ hh1)) (fun _ _ h=>goH h) fun⟨s3,h3⟩=>?_
 refine zdn kQ ?_
 refine goA ?_
 refine za1 rfl (zah (zdf _ _ _ _) (zaf rfl rfl rfl rfl rfl rfl)) fun _=>?_
 refine goA ?_
 exact zbd s3 rfl ⟨_,rfl,zaq rfl (.head _)⟩ rfl h3 (.cons _ (.cons_cons _ (aK _))) (zag _ _ _)
theorem zyo{g1 g2 g3:Sg}(h:Tok c g s)(root:Int)(at_:Nat)(n:Nd)(o:Po)(hb:NdB n)(hlf:n.leaf=false)(hf:c.sh.fan<n.kids.length)(q:Nat)(hp:zh8 c.N g= .ok (q,g1))
  (hl1:zb8 c.sh c.N g1 q (iNd (n.keys.drop (n.kids.length/2)) (n.kids.drop (n.kids.length/2)))= .ok g2) (hl2:zb8 c.sh c.N g2 at_ (iNd (n.keys.take (n.kids.length/2 - 1)) (n.kids.take (n.kids.length/2)))= .ok g3):
  Cw Tryz.prog 175 #[.pointer (some ⟨c.t,c.o,none⟩),.int .i64 (at_:Int),.agg (ndO n o)] (tmI c root s::ndI n o) (fun _:Pg=>.agg #[kV (n.keys.getD (n.kids.length/2 - 1) []),.int .i64 (q:Int)]) (fun s'=>Tok c g3 s') (fun s'=>[tmI c root s']):=by
 intro w hw ha
 have hsh:ShB c.sh:=h.sh
 have hbk:=hb.k
 have hbd:=hb.d
 have hkd:n.kids.length=n.keys.length+1:=by
  unfold zb8 at hl1
  split at hl1
  ·rename_i hm
   have:=(hm.inner rfl).2.2.1
   simp only[iNd,aX]at this
   have h9:=(hm.inner rfl).2.2.2.1
   simp only[iNd,aX]at h9
   omega
  ·cases hl1
 have hk1:2≤n.kids.length:=by
  unfold zb8 at hl2
  split at hl2
  ·rename_i hm
   have:=(hm.inner rfl).2.2.2.1
   simp only[iNd,aM]at this
   omega
  ·cases hl2
 refine za2 [_,_,_] _ Tryz.func175 rfl rfl hw ha ?_
 obtain⟨kb,kc,hok⟩:=zdj (hw (own 9 1 o.k n.keys.length (n.keys.map kV)) (by simp[ndI])).1 oQ
 obtain⟨db,dc,hodd⟩:=zdj (hw (own 3 1 o.d n.kids.length (n.kids.map iV)) (by simp[ndI])).1 oQ
 obtain⟨hk,hkc⟩:=zas (hw (own 9 1 o.k n.keys.length (n.keys.map kV)) (by simp[ndI])).1
 obtain⟨hv,hvc⟩:=zas (hw (own 9 1 o.v n.vals.length (n.vals.map kV)) (by simp[ndI])).1
 obtain⟨hd,hdc⟩:=zas (hw (own 3 1 o.d n.kids.length (n.kids.map iV)) (by simp[ndI])).1
 obtain⟨ok,ov,od⟩:=o
 simp only at hok hk hkc hv hvc hd hdc hodd hw ha⊢
 subst hok
 subst hodd
 simp only[ndO]
 rw[hk,hv,hd,hlf]
 simp only[qtz,qt0]at hkc hdc⊢
 have hkn:n.kids.length/2 - 1<n.keys.length:=oQ
 obtain⟨kq,hkq⟩:∃x,n.keys[n.kids.length/2 - 1]? =some x:=⟨_,aB hkn⟩
 have hhd:n.keys.getD (n.kids.length/2 - 1) []=kq:=by rw[aE,hkq];rfl
 rw[hhd]
 simp only[zaa,Nat.reduceAdd]
 unfold ndI
 refine goA ?_
 refine zbp rfl rfl fun b5 hb5=>?_
 refine goA ?_
 refine zam rfl rfl fun b6 hb6=>?_
 refine goA ?_
 refine zap [0,1,2,3,4,5] 29 rfl rfl kQ ?_
 refine goE ?_
 refine goV rfl rfl (qa1 rfl mm) ?_
 refine dPu 25 rfl rfl (fun w1 hw1=>zhz hsh w1) ?_
 refine goX ?_
 refine zay [2,0,1,3,4,5] rfl rfl ?_
 refine lCu [tmI c root s] rfl (zag c root s) (fun w1 hw1 hh1 ha1=>zvo h root hp w1 hh1) fun⟨s1,h1⟩=>?_
 dsimp only
 refine goA ?_
 refine zam rfl rfl fun b7 hb7=>?_
 refine zd2 46 _ (.agg #[.string ⟨#[]⟩,.int .i64 (q:Int)]) rfl rfl ?_
 refine za1 rfl (zaf rfl rfl rfl rfl rfl rfl) fun _=>?_
 refine goA ?_
 refine l_w rfl (za0 (v:=kV kq) rfl rfl (fun w' hw'=>zby (hw'.item (own 9 1 (some (kb,kc)) n.keys.length (n.keys.map kV)) mm).1 _ _ (by simp only[aH,bO];rw[aO,hkq];rfl))) ?_
 refine goA ?_
 refine za1 rfl (zai rfl rfl rfl rfl rfl rfl sQ) fun _=>?_
 refine goA ?_
 refine zcx [1,0,2,3,4,5,6] rfl rfl ?_
 refine zap [1,2,3,4,5,6] 13 rfl rfl kQ ?_
 refine goE ?_
 refine zat 12 ⟨kQ,dQ⟩ rfl rfl (zfb (pre:=[tmI c root s1]) rfl kQ rfl (zag c root s1) (fun w1 hw1 hh1 ha1=>zcv h1 root q (iNd (n.keys.drop (n.kids.length/2)) (n.kids.drop (n.kids.length/2))) rfl aX rfl aX (hb.sub (fJ _ _) (aK _) (fJ _ _)) hl1 w1 ⟨by have:=zox (hw1.item (own 9 1 (some (kb,kc)) n.keys.length (n.keys.map kV)) mm).1 (n.kids.length/2);rw[←eL]at this;exact this,.inl rfl,by have:=zox (hw1.item (own 3 1 (some (db,dc)) n.kids.length (n.kids.map iV)) mm).1 (n.kids.length/2);rw[←eL]at this;exact this⟩ ⟨zo1 (zbx hw1 (o:=some (kb,kc)) mm),(fun _ h=>nomatch h),zo1 (zbx hw1 (o:=some (db,dc)) mm)⟩ hh1)) (fun _ _ h=>goH h) fun⟨s2,h2⟩=>?_
 refine zdn kQ ?_
 refine goA ?_
 refine zap [1,2,3,4,5,6] 13 rfl rfl kQ ?_
 refine goE ?_
 refine zat 12 ⟨kQ,dQ⟩ rfl rfl (zfb (pre:=[tmI c root s2]) rfl kQ rfl (zag c root s2) (fun w1 hw1 hh1 ha1=>zcv h2 root at_ (iNd (n.keys.take (n.kids.length/2 - 1)) (n.kids.take (n.kids.length/2))) rfl (by show(n.keys.take (n.kids.length/2 - 1)).length=_;rw[aM];omega) rfl (by show(n.kids.take (n.kids.length/2)).length=_;rw[aM];omega) (hb.sub (fL _ _) (aK _) (fL _ _)) hl2 w1 ⟨by have:=Rd.take (za8 (hw1.item (own 9 1 (some (kb,kc)) n.keys.length (n.keys.map kV)) mm).1) (n.kids.length/2 - 1);rw[←eM]at this;exact this,.inl rfl,by have:=Rd.take (za8 (hw1.item (own 3 1 (some (db,dc)) n.kids.length (n.kids.map iV)) mm).1) (n.kids.length/2);rw[←eM]at this;exact this⟩ ⟨zbx hw1 (o:=some (kb,kc)) mm,(fun _ h=>nomatch h),zbx hw1 (o:=some (db,dc)) mm⟩ hh1)) (fun _ _ h=>goH h) fun⟨s3,h3⟩=>?_
 refine zdn kQ ?_
 refine goA ?_
 refine za1 rfl (zah (zdf _ _ _ _) (zaf rfl rfl rfl rfl rfl rfl)) fun _=>?_
 refine goA ?_
 exact zbd s3 rfl ⟨_,rfl,zaq rfl (.head _)⟩ rfl h3 (.cons _ (.cons_cons _ (aK _))) (zag _ _ _)
variable{k:K}
theorem ztk{s:Sh}{N:Nat}{g':Sg}{at_:Nat}{n:Nd}{q:Nat}(hl:zcc s N g at_ n= .ok ((k,q),g')):(qbn s n=true∧k=[]∧q=0∧zb8 s N g at_ n= .ok g')∨
  (n.leaf=true∧s.cap<n.keys.length∧∃g1 g2,zh8 N g= .ok (q,g1)∧zb8 s N g1 q (lNd (n.keys.drop (n.keys.length/2)) (n.vals.drop (n.keys.length/2)))= .ok g2∧zb8 s N g2 at_ (lNd (n.keys.take (n.keys.length/2)) (n.vals.take (n.keys.length/2)))= .ok g'∧(n.keys.drop (n.keys.length/2)).headD []=k)∨
  (n.leaf=false∧s.fan<n.kids.length∧∃g1 g2,zh8 N g= .ok (q,g1)∧zb8 s N g1 q (iNd (n.keys.drop (n.kids.length/2)) (n.kids.drop (n.kids.length/2)))= .ok g2∧zb8 s N g2 at_ (iNd (n.keys.take (n.kids.length/2 - 1)) (n.kids.take (n.kids.length/2)))= .ok g'∧n.keys.getD (n.kids.length/2 - 1) []=k):=by
 unfold zcc at hl
 by_cases hf:qbn s n=true
 ·rw[if_pos hf]at hl
  obtain⟨g1,h1,h2⟩:=zb6 hl
  cases h2
  exact .inl ⟨hf,rfl,rfl,h1⟩
 ·rw[if_neg hf]at hl
  obtain⟨⟨q1,g1⟩,h1,h2⟩:=zb6 hl
  unfold qbn at hf
  cases hlf:n.leaf with
  |true=>
   rw[hlf,if_pos rfl]at hf
   simp only[hlf,if_true]at h2
   obtain⟨g2,h3,h4⟩:=zb6 h2
   obtain⟨g3,h5,h6⟩:=zb6 h4
   cases h6
   exact .inr (.inl ⟨rfl,by simpa using hf,g1,g2,h1,h3,h5,rfl⟩)
  |false=>
   rw[hlf,if_neg bK]at hf
   simp only[hlf,bT,if_false]at h2
   obtain⟨g2,h3,h4⟩:=zb6 h2
   obtain⟨g3,h5,h6⟩:=zb6 h4
   cases h6
   exact .inr (.inr ⟨rfl,by simpa using hf,g1,g2,h1,h3,h5,rfl⟩)
theorem zmj{g':Sg}(h:Tok c g s)(root:Int)(at_:Nat)(n:Nd)(o:Po)(hb:NdB n){q:Nat}(hl:zcc c.sh c.N g at_ n= .ok ((k,q),g')):
  Cw Tryz.prog 175 #[.pointer (some ⟨c.t,c.o,none⟩),.int .i64 (at_:Int),.agg (ndO n o)] (tmI c root s::ndI n o) (fun _:Pg=>.agg #[kV k,.int .i64 (q:Int)]) (fun s'=>Tok c g' s') (fun s'=>[tmI c root s']):=by
 intro w hw ha
 rcases ztk hl with ⟨hf,rfl,rfl,h1⟩ |⟨hlf,hf,g1,g2,h1,h2,h3,rfl⟩ |⟨hlf,hf,g1,g2,h1,h2,h3,rfl⟩
 ·exact qeo h root at_ n o hb hf h1 w hw ha
 ·exact qav h root at_ n o hb hlf hf q h1 h2 h3 w hw ha
 ·exact zyo h root at_ n o hb hlf hf q h1 h2 h3 w hw ha
end Go.Proofs.YthafakdplhdfjaaGreatDoor
namespace Go.Eng
theorem Ct.imp{P:Program}{f:FuncId}{args:Array Value}{w:World}{Fc:Nat→Prop}{α α2:Type}{val:α→Value}{φ:α→Prop}{its:α→List Item}{val2:α2→Value}{φ2:α2→Prop}{its2:α2→List Item}
  (h:Ct P f args w Fc val2 φ2 its2) (k:∀x,φ2 x→∃y,val2 x=val y∧φ y∧its y=its2 x):Ct P f args w Fc val φ its:=by
 unfold Ct at h⊢
 refine h.mono ?_
 rintro e w' ⟨x,he,hx,hi⟩
 obtain⟨y,h1,h2,h3⟩:=k x hx
 exact⟨y,by rw[he,h1],h2,by rw[h3];exact hi⟩
end Go.Eng
namespace Go.Proofs.YthafakdplhdfjaaGreatDoor
open Go.RowKit Go.Eng Go.Eng.Bm
theorem qh1{Φ:Sht→Prop}(D:Dsk)(n i:Nat)(h:∀j,j<i→zed D n j=true→Φ (zgl (zcn D (2+j)))):∀p∈zbm D n i,Φ p.2:=by
 induction i with
 |zero=>exact fun _ h=>nomatch h
 |succ i ih=>
  rw[zbm]
  split
  ·rename_i hc
   exact qkd (ih fun j hj=>h j (eQ hj)) (h i (eN i) hc)
  ·exact ih fun j hj=>h j (eQ hj)
abbrev oqV(x:Dk×Option Pg):Value:=.tuple #[.pointer (x.2.map fun s=>⟨s.b,0,none⟩),.int .i64 ((if x.2.isSome then 0 else 4:Nat):Int)]
def oqI(x:Dk×Option Pg):List Eng.Item:=match x.2 with
 |some s=>[pgI s x.1,dkI x.1,ctI]
 |none=>[dkI x.1,ctI]
def oqP(d:Dk)(n secs:Nat)(note:Bys)(V:List Bys)(B:Nat)(x:Dk×Option Pg):Prop:=x.1.b=d.b∧match x.2 with
 |some s=>zig d.D x.1.D∧StX s x.1.D n secs note V [] (B+1)
 |none=>d.D.left≠none∧Off x.1.D n secs note V (B+1)
theorem zqk(d:Dk)(n secs:Nat)(note:Bys)(V:List Bys)(B:Nat)(hkl:d.D.keep.length≤1000000)(hr:d.D.Rest)(z:Siz d.D n secs note V)(hB:B+1<9223372036854775808)(hR:∃h c TS,zy7 d.D n secs note V B h c TS)(hp0:∃S,zy6 n (V.getD 0 []) S):
  Cw Tryz.prog 74 #[.pointer (some ⟨d.b,0,none⟩)] [dkI d,ctI] oqV (oqP d n secs note V B) oqI:=by
 intro w hw ha
 obtain⟨h,c,TS,R⟩:=hR
 obtain⟨S,hS⟩:=hp0
 have hs2:=z.s2
 have hn1:=z.n1
 have hroom:=z.room
 have hst:=qhj z hr hB R
 have hV0:V[0]? =some (V.getD 0 []):=by rw[aE,aB (by rw[z.Vl];omega)];rfl
 refine Ct.imp (zx9 d z.ok hr.live hkl (by rw[hr.wait];decide) oQ h c R.log.c01 (R.log.look hr.wait) R.log.hok R.log.secs (by rw[R.hs];exact z.s2)
  (qh1 (Φ:=fun s=>s.text.length≤497∧s.text≠[]) _ _ _ fun j hj hs=>?_) n note R.hnote z.n1 z.n2 z.note (by rw[R.hs];exact z.room) TS R.log.read (fun Q hQ=>⟨(R.ts.each Q hQ).1,(R.ts.each Q hQ).2.2⟩) R.ts.many S (fun he=>?_) w hw ha) ?_
 ·have h1:zjc (zcn d.D (2+j))=true:=by unfold zed at hs;rw[bH]at hs;exact hs.1
  exact⟨qek h1,(R.log.sheets j hj hs).2⟩
 ·rcases hst with ⟨-, -, -,hc⟩ |⟨h4, -⟩
  ·rw[hV0]at hc
   rw[cR hc]
   exact hS
  ·rw[he]at h4;cases h4
 ·rintro⟨d',s⟩ ⟨hd,ho⟩
  simp only at hd ho
  obtain⟨k1,k2,k3⟩:=hd
  rcases hst with ⟨e,hl,hx, -⟩ |⟨e,hdi,hz,hrec⟩
  ·refine⟨(d',some s),?_,⟨k1,?_⟩,?_⟩
   ·simp only[if_pos e,e];rfl
   ·have O:=ho e
    rw[k3]
    refine⟨hl,⟨⟨[],hx s O⟩,fun i=>by rw[O.hC],eT,by rw[hl.keep];exact hkl,⟨S,hS⟩,fun b hb=>by rw[O.hC]at hb;cases hb⟩⟩
   ·simp only[if_pos e];rfl
  ·have e':¬(opF d.D (zcz d.D h c) TS).1=0:=by rw[e];decide
   refine⟨(d',none),?_,⟨k1,?_⟩,?_⟩
   ·simp only[if_neg e',e];rfl
   ·rw[k3]
    exact⟨hdi.left,hdi.dead,hdi.wait,hdi.left',hdi.keep,hz,hrec⟩
   ·simp only[if_neg e'];rfl
def zvf:Bys:=[110,111,116,101]
theorem zw7(d:Dk)(N log n:Nat)(note:Bys)(hd:d.D=zvd N)(hN:N≤4096)(hl1:96≤log)(hl2:log≤512)(hn1:64≤n)(hn2:n≤1024)(hno:note.length≤40)(hroom:2+log+n≤N):
  Cw Tryz.prog 78 #[.pointer (some ⟨d.b,0,none⟩),.int .i64 (log:Int),.int .i64 (n:Int),.string ⟨note.toArray⟩] [dkI d,ctI] (fun _:Dk=>.int .i64 0) (fun d'=>d'.b=d.b∧d'.D.Rest∧d'.D.left=none∧d'.D.keep.length≤1000000∧Siz d'.D n log note (V0 n)∧∃h,zy7 d'.D n log note (V0 n) 1 h 1 []) (fun d'=>[dkI d',ctI]):=by
 intro w hw ha
 obtain⟨f1,f2,f3,f6,f4,f5⟩:=qnw (N:=N) (log:=log) (n:=n) (note:=note) hN oQ hl2 hn1 hn2 hno hroom
 refine Ct.imp (zr2 d (by rw[hd];exact qg8 hN) (by rw[hd];rfl) (by rw[hd];exact aZ _) (by rw[hd];exact aZ _) log n note hl1 hl2 hn1 hn2 hno (by rw[hd];show 2+log+n≤(List.replicate _ _).length;rw[cD];omega) w hw ha) ?_
 rintro d' ⟨k1, -,k3⟩
 rw[hd]at k3
 refine⟨d',?_,⟨k1,?_⟩,rfl⟩
 ·rw[hd,f1];rfl
 ·rw[k3];exact⟨f2,f3,by rw[f6];exact aZ _,f4,f5⟩
theorem qe8(a b:Bys):seq ⟨a.toArray⟩ ⟨b.toArray⟩=decide (a=b):=by
 rw[eA,qat,decide_eq_true_iff]
 constructor
 ·intro h
  have:=congrArg (fun x:ByteArray=>x.data.toList) h
  simpa using this
 ·intro h;rw[h]
end Go.Proofs.YthafakdplhdfjaaGreatDoor
namespace Go.Eng
open Go.RowKit
theorem qf9{l:zav}:∀{L:zav},Has l L→∀{t:Nat} {v:Value},get L t=some v→get l t=some v
 | [],_,_,_,h=>by cases h
 |(k,u)::r,hl,t,v,h=>by
  rw[zb4]at h
  split at h
  ·rename_i hk
   cases h
   rw[←hk];exact hl.1
  ·exact qf9 hl.2 h
theorem zzm{P:Program}{ops:Array Oper}{Q:Exit→Act→World→Prop}{S:World→Prop}{t n n':Nat}{N:Fm}{listed listed':Array Bool}{l:zav}{w0:World}{F:Nat→Prop}{m:List Item}{α:Type}(L:α→zav)(M:α→List Item)
  (k:∀x,HD P ops Q S t N n' listed' (L x) (Hp w0 F (M x))) (h:(∀x l',Has l' (L x)→HD P ops Q S t N n' listed' l' (Hp w0 F (M x)))→HD P ops Q S t N n listed l (Hp w0 F m)):HD P ops Q S t N n listed l (Hp w0 F m):=
 h fun x l' hl=>by
  have hk:=k x
  unfold HD at hk⊢
  exact fun inv a w s hw=>hk inv a w ⟨s.size,s.defers,fun t' v hv=>s.slot t' v (qf9 hl hv)⟩ hw
end Go.Eng
namespace Go.Proofs.YthafakdplhdfjaaGreatDoor
open Go.RowKit Go.Eng Go.Eng.Bm
end Go.Proofs.YthafakdplhdfjaaGreatDoor
namespace Go.Proofs.YthafakdplhdfjaaGreatDoor
open Go.RowKit Go.Eng Go.Eng.Bm Go.Eng.Tr
variable{s:Sh}{N:Nat}{g:Sg}{at_:Int}{n:Nd}
theorem zgi(hl:zfs s N g at_= .ok n):zf8 s n∧∃i:Nat,at_=(i:Int)∧1≤i∧i<N:=by
 unfold zfs at hl
 split at hl
 ·rename_i hc
  split at hl
  ·rename_i ht;cases hl
   exact⟨(qo7 ht).1,at_.toNat,oQ,oQ,oQ⟩
  ·cases hl
 ·cases hl
theorem zku(hs:ShB s)(h:zf8 s n):NdB n∧n.keys.length≤1000∧n.vals.length≤1000∧n.kids.length≤1000:=by
 have h1:=hs.k1
 have h2:=hs.k2
 have h3:=hs.v2
 have e1:s.cap≤508:=eW _ _
 have e2:s.fan≤508+s.kw:=eW _ _
 have hk:∀k∈n.keys,k.length≤1000000:=fun k hk=>by rw[h.wide k hk];omega
 cases hl:n.leaf with
 |true=>
  obtain⟨a1,a2,a3,a4⟩:=h.leaf hl
  rw[a1]
  refine⟨⟨oQ,oQ,by rw[a1];decide,hk,fun k hk=>by rw[a3 k hk];omega⟩,oQ,oQ,by simp⟩
 |false=>
  obtain⟨a1,a2,a3,a4,a5⟩:=h.inner hl
  rw[a2]
  refine⟨⟨oQ,by rw[a2];decide,oQ,hk,fun k hk=>by rw[a2]at hk;cases hk⟩,oQ,by simp,oQ⟩
def plO(o:Po):Pl:=⟨(slA o.k,slC o.k),(slA o.v,slC o.v),(slA o.d,slC o.d)⟩
variable{o:Po}
theorem zp2{w:World}(hi:∀it∈ndI n o,it.prop w): .agg (ndO n o)=ndV n (plO o)∧NdR w n (plO o):=by
 have hk:=hi (own 9 1 o.k n.keys.length (n.keys.map kV)) (by simp[ndI])
 have hv:=hi (own 9 1 o.v n.vals.length (n.vals.map kV)) (by simp[ndI])
 have hd:=hi (own 3 1 o.d n.kids.length (n.kids.map iV)) (by simp[ndI])
 refine⟨?_,za8 hk,za8 hv,za8 hd⟩
 unfold ndO ndV plO
 rw[(zas hk).1,(zas hv).1,(zas hd).1]
theorem zdw{w w0:World}{F:Nat→Prop}{m:List Eng.Item}(hw:Hp w0 F m w)(hk:own 9 1 o.k n.keys.length (n.keys.map kV)∈m)(hv:own 9 1 o.v n.vals.length (n.vals.map kV)∈m)(hd:own 3 1 o.d n.kids.length (n.kids.map iV)∈m):∀it∈ndI n o,it.prop w:=by
 intro it hm
 rcases hm with _|⟨_,_|⟨_,_|⟨_,hm⟩⟩⟩
 ·exact(hw.item _ hk).1
 ·exact(hw.item _ hv).1
 ·exact(hw.item _ hd).1
 ·cases hm
theorem zl0(hm:zf8 s n)(hb:n.keys.length≤1000)(k:K)(w:World)(hi:∀it∈ndI n o,it.prop w):Pu Tryz.prog 104 #[.agg (ndO n o),kV k] w (.tuple #[.int .i64 (lb n.keys k:Nat),.bool (fd n.keys k)]):=by
 rw[(zp2 hi).1]
 exact zsi n (plO o) hm.sorted oQ k w (zp2 hi).2.k
theorem zoq(hm:zf8 s n)(hb:n.keys.length≤1000)(k:K)(w:World)(hi:∀it∈ndI n o,it.prop w):Pu Tryz.prog 152 #[.agg (ndO n o),kV k] w (.int .i64 (dn n.keys k:Nat)):=by
 rw[(zp2 hi).1]
 exact qde n (plO o) hm.sorted oQ k w (zp2 hi).2.k
theorem qgn{α β:Type}(f:α→β)(l:List α)(i:Nat)(x:α):ins (l.map f) i (f x)=(ins l i x).map f:=by
 unfold ins;rw[cC,bG,eM,eL]
theorem zl4(l:List K):zb7 (l.map kV)=true:=zba.2 fun v hv=>by obtain⟨k, -,rfl⟩:=aS.1 hv;rfl
theorem qgf(l:List Nat):zb7 (l.map iV)=true:=zba.2 fun v hv=>by obtain⟨k, -,rfl⟩:=aS.1 hv;rfl
theorem zis(e:TypeId)(o:Option (Nat×Nat))(n:Nat)(xs:List Value)(vb:Nat)(x:Value):∀it∈[own e 1 o n xs,own e 1 (some (vb,1)) 1 [x]],it.Stable none':=by simp[zac]
variable{val:K}
theorem zql{key:K}{d:Nat}{g':Sg}{k:K}{q:Nat}(hl:Tr.putF s N key val (d+1) g at_= .ok ((k,q),g')):∃n,zfs s N g at_= .ok n∧
    ((n.leaf=true∧zcc s N g at_.toNat (qap n key val)= .ok ((k,q),g'))∨
     (n.leaf=false∧∃k1 q1 g1,Tr.putF s N key val d g (n.kids.getD (dn n.keys key) 0:Nat)= .ok ((k1,q1),g1)∧((q1=0∧k=k1∧q=0∧g'=g1)∨(q1≠0∧zcc s N g1 at_.toNat (iNd (ins n.keys (dn n.keys key) k1) (ins n.kids (dn n.keys key+1) q1))= .ok ((k,q),g'))))):=by
  rw[Tr.putF]at hl
  obtain⟨n,h1,h2⟩:=zb6 hl
  refine⟨n,h1,?_⟩
  cases hlf:n.leaf with
  |true=>
    simp only[hlf,if_true]at h2
    exact .inl ⟨rfl,h2⟩
  |false=>
    simp only[hlf,bT,if_false]at h2
    obtain⟨⟨⟨k1,q1⟩,g1⟩,h3,h4⟩:=zb6 h2
    refine .inr ⟨rfl,k1,q1,g1,h3,?_⟩
    by_cases hq:q1=0
    · simp only[hq,if_true]at h4
      cases h4
      exact .inl ⟨hq,rfl,rfl,rfl⟩
    · simp only[hq,if_false]at h4
      exact .inr ⟨hq,h4⟩
theorem NdB.vset(h:NdB n)(i:Nat)(hv:val.length≤1000000)(kd:List Nat)(hk:kd.length≤100000)(lf:Bool):NdB ⟨lf,n.keys,n.vals.set i val,kd⟩:=
 ⟨h.k,by show(n.vals.set i val).length≤_;rw[bE];exact h.v,hk,h.kl,fun k hk=>by
  rcases cF hk with hk|rfl
  ·exact h.vl k hk
  ·exact hv⟩
theorem NdB.mk'{lf:Bool}{ks vs:List K}{kd:List Nat}(h1:ks.length≤100000)(h2:vs.length≤100000)(h3:kd.length≤100000)(h4:∀k∈ks,k.length≤1000000)(h5:∀k∈vs,k.length≤1000000):NdB ⟨lf,ks,vs,kd⟩:=⟨h1,h2,h3,h4,h5⟩
theorem qgm{l:List K}{i:Nat}{x:K}(h:∀k∈l,k.length≤1000000)(hx:x.length≤1000000):∀k∈ins l i x,k.length≤1000000:=fun k hk=>by
 rcases zf2 hk with rfl|hk
 ·exact hx
 ·exact h k hk
theorem zqz{g':Sg}{at_:Nat}{k:K}{q:Nat}(hl:zcc s N g at_ n= .ok ((k,q),g'))(hb:∀x∈n.keys,x.length≤1000000):k.length≤1000000:=by
 rcases ztk hl with ⟨-,rfl, -, -⟩ |⟨-, -, -, -, -, -, -,rfl⟩ |⟨-, -, -, -, -, -, -,rfl⟩
 ·exact aZ _
 ·cases hd:n.keys.drop (n.keys.length/2)with
  |nil=>exact aZ _
  |cons x l=>exact hb x (cE (i:=n.keys.length/2) (by rw[hd];exact .head _))
 ·rw[aE]
  cases hg:n.keys[n.kids.length/2 - 1]? with
  |none=>exact aZ _
  |some x=>exact hb x (bI hg)
theorem qec{key:K}:∀x∈(qap n key val).keys,x=key∨x∈n.keys:=fun x hx=>by
 unfold qap at hx
 split at hx
 ·exact .inr hx
 ·exact zf2 hx
theorem zvt{s:Sh}(hs:ShB s){N:Nat}{key val:K}(hkl:key.length≤1000000):∀(d:Nat) (g:Sg) (at_:Int) {k:K} {q:Nat} {g':Sg},Tr.putF s N key val d g at_= .ok ((k,q),g')→k.length≤1000000
 |0,_,_,_,_,_,hl=>by rw[Tr.putF]at hl;cases hl
 |d+1,g,at_,k,q,g',hl=>by
  obtain⟨n,h1,hcase⟩:=zql hl
  obtain⟨hmay, -⟩:=zgi h1
  have hb:=(zku hs hmay).1.kl
  rcases hcase with ⟨-,hsp⟩ |⟨-,k1,q1,g1,hp,hcase⟩
  ·refine zqz hsp fun x hx=>?_
   rcases qec x hx with rfl|hx
   ·exact hkl
   ·exact hb x hx
  ·have hk1:=zvt hs hkl d g _ hp
   rcases hcase with ⟨-,rfl, -, -⟩ |⟨-,hsp⟩
   ·exact hk1
   ·refine zqz hsp fun x hx=>?_
    rcases zf2 hx with rfl|hx
    ·exact hk1
    ·exact hb x hx
theorem qow(c:Tc)(root:Int)(key val:K)(hkl:key.length≤1000000)(hvl:val.length≤1000000):∀(d:Nat) (g:Sg) (s:Pg) (at_:Int) {k:K} {q:Nat} {g':Sg},Tok c g s→d≤16→Tr.putF c.sh c.N key val d g at_= .ok ((k,q),g')→∀w:World,(∀it∈[tmI c root s],zbq it w)→
  Ct Tryz.prog 121 #[.pointer (some ⟨c.t,c.o,none⟩),.int .i64 at_,.int .i64 (d:Nat),kV key,kV val] w (za4 [tmI c root s]) (fun _:Pg=>.agg #[kV k,.int .i64 (q:Int)]) (fun s'=>Tok c g' s') (fun s'=>[tmI c root s']):=by
 intro d
 induction d with
 |zero=>
  intro g s at_ k q g' _ _ hl
  rw[Tr.putF]at hl;cases hl
 |succ d ih=>
  intro g s at_ k q g' h hd hl w hw
  obtain⟨n,h1,hcase⟩:=zql hl
  obtain⟨hmay,i0,hi0,hi1,hi2⟩:=zgi h1
  subst hi0
  rw[cB]at hcase
  obtain⟨hnb,hb1,hb2,hb3⟩:=zku h.sh hmay
  refine za2 [_,_,_,_,_] _ Tryz.func121 rfl rfl hw (.cons (fun _ h=>nomatch h) .nil) ?_
  simp only[zaa,Nat.reduceAdd]
  refine goA ?_
  refine zam rfl rfl fun b10 hb10=>?_
  refine goA ?_
  refine lPu rfl (fun w1 hw1=>zvc oQ _ w1) ?_
  refine goA ?_
  refine zay [1,0] rfl rfl ?_
  refine lCu [tmI c root s] rfl (zag c root s) (fun w1 hw1 hh1 ha1=>zmz h root i0 h1 w1 hh1) fun⟨⟨s1,o⟩,hs1⟩=>?_
  have hs1:Tok c g s1:=hs1
  dsimp only
  refine goA ?_
  refine zam rfl rfl fun b11 hb11=>?_
  refine za1 rfl (zaf (cs':=ndO n o) rfl rfl rfl rfl (zdl n o) rfl) fun _=>?_
  unfold ndI
  simp only[aF,aJ]
  rcases hcase with ⟨hlf,hsp⟩ |⟨hlf,k1,q1,g1,hp,hcase⟩
  ·obtain⟨hkd,hkv, -, -⟩:=hmay.leaf hlf
   have hlb:=qkn n.keys key
   obtain⟨lf,ks,vs,kd⟩:=n
   simp only at hlf hkd hkv hlb hb1 hb2 hsp⊢
   subst hlf
   subst hkd
   unfold ndO
   refine goA ?_
   refine lPu rfl (fun w1 hw1=>zl0 hmay hb1 key w1 (zdw hw1 mm mm mm)) ?_
   simp only
   obtain⟨f,hf⟩:∃f,fd ks key=f:=⟨_,rfl⟩
   unfold qap at hsp
   simp only at hsp
   rw[hf]at hsp⊢
   obtain⟨ok,ov,od⟩:=o
   simp only
   cases f with
   |true=>
    rw[if_pos rfl]at hsp
    have hlt:lb ks key<vs.length:=by rw[←hkv];exact(aC.1 (zly.1 hf)).1
    refine zch (fun w hw=>zdj (hw.item (own 9 1 ov vs.length (vs.map kV)) mm).1 oQ) fun⟨vb,vc,e⟩=>?_
    subst e
    refine goA ?_
    refine za1 rfl (zah (zfq _ _ _ _ _) (zvi rfl rfl rfl rfl rfl rfl oQ)) fun _=>?_
    rw[show(vs.map kV).set (0+lb ks key) (kV val)=(vs.set (lb ks key) val).map kV by rw[aH,gO]]
    have hvl':vs.length=(vs.set (lb ks key) val).length:=bE.symm
    rw[hvl']
    refine goA ?_
    refine zay [2,3,0,4,1,5] rfl rfl ?_
    refine lCu (tmI c root s1::ndI ⟨true,ks,vs.set (lb ks key) val,[]⟩ ⟨ok,some (vb,vc),od⟩) rfl (zco _ _ _ _ _) (fun w1 hw1 hh1 ha1=>zmj hs1 root i0 ⟨true,ks,vs.set (lb ks key) val,[]⟩ ⟨ok,some (vb,vc),od⟩ (hnb.vset _ hvl [] dQ true) hsp w1 hh1 ha1) fun⟨s2,h2⟩=>?_
    refine goA ?_
    refine za1 rfl (zah (zdf _ _ _ _) (zaf rfl rfl rfl rfl rfl rfl)) fun _=>?_
    refine goA ?_
    exact zbd s2 rfl ⟨_,rfl,zaq rfl (.head _)⟩ rfl h2 (.cons _ (.cons_cons _ (aK _))) (zag _ _ _)
   |false=>
    rw[if_neg bK]at hsp
    have hA:=fun(vb:Nat) (w1:World)=>ziu ok ks.length (lb ks key) (ks.map kV) (kV key) vb (zl4 ks) rfl hlb oQ w1
    have hB:=fun(vb:Nat) (w1:World)=>ziu ov vs.length (lb ks key) (vs.map kV) (kV val) vb (zl4 vs) rfl oQ oQ w1
    refine goA ?_
    refine zcx [2,3,0,1,4,5] rfl rfl ?_
    refine zap [2,3,4,5] 13 rfl rfl kQ ?_
    refine goE ?_
    refine qft 4 5 10 11 12 (A:=[own 9 1 ok ks.length (ks.map kV)]) (B:=[own 9 1 ov vs.length (vs.map kV)]) (A':=fun o:{ o:Option (Nat×Nat)//True }=>[own 9 1 o.1 (ks.length+1) (ins (ks.map kV) (lb ks key) (kV key))]) (B':=fun o:{ o:Option (Nat×Nat)//True }=>[own 9 1 o.1 (vs.length+1) (ins (vs.map kV) (lb ks key) (kV val))]) kQ rfl rfl rfl rfl kQ rfl rfl rfl rfl rfl rfl rfl rfl rfl rfl rfl rfl rfl rfl (fun _ h=>h) (fun l' m' ext=>zrw (ext 39 _ rfl) kQ rfl rfl rfl) (fun a l' m' ext hd=>qkz (pre:=[own 9 1 ok ks.length (ks.map kV),own 9 1 (some (a.1,1)) 1 [kV key]]) (ext 37 _ rfl) (ext 38 _ rfl) hd kQ kQ (zis _ _ _ _ _ _) (fun w1 hw1 hh1 ha1=>hA a.1 w1 hh1 ha1)) (fun l' m' ext=>zrw (ext 45 _ rfl) kQ rfl rfl rfl) (fun a l' m' ext hd=>qkz (pre:=[own 9 1 ov vs.length (vs.map kV),own 9 1 (some (a.1,1)) 1 [kV val]]) (ext 43 _ rfl) (ext 44 _ rfl) hd kQ kQ (zis _ _ _ _ _ _) (fun w1 hw1 hh1 ha1=>hB a.1 w1 hh1 ha1)) fun⟨ok',_⟩ ⟨ov',_⟩=>?_
    refine zfa [2,0,1,3,4,5] rfl rfl ?_
    refine zor 13 rfl rfl rfl rfl rfl rfl rfl rfl rfl rfl rfl (zct _ _) (zc3 _ _) (zct _ _) (zc3 _ _) kQ kQ (by show(1:Nat)<4;decide) (by show(2:Nat)<4;decide) ?_
    simp only[qgn]
    rw[←zf1 ks (lb ks key) key,←zf1 vs (lb ks key) val]
    refine goA ?_
    refine zay [3,1,2,4,0,5] rfl rfl ?_
    refine lCu (tmI c root s1::ndI ⟨true,ins ks (lb ks key) key,ins vs (lb ks key) val,[]⟩ ⟨ok',ov',od⟩) rfl (zco _ _ _ _ _) (fun w1 hw1 hh1 ha1=>zmj hs1 root i0 ⟨true,ins ks (lb ks key) key,ins vs (lb ks key) val,[]⟩ ⟨ok',ov',od⟩ (NdB.mk' (by rw[zf1];omega) (by rw[zf1];omega) dQ (qgm hnb.kl hkl) (qgm hnb.vl hvl)) hsp w1 hh1 ha1) fun⟨s3,h3⟩=>?_
    refine goA ?_
    refine za1 rfl (zah (zdf _ _ _ _) (zaf rfl rfl rfl rfl rfl rfl)) fun _=>?_
    refine goA ?_
    exact zbd s3 rfl ⟨_,rfl,zaq rfl (.head _)⟩ rfl h3 (.cons _ (.cons_cons _ (aK _))) (zag _ _ _)
  ·obtain⟨hkr,hvs,hkl1,hk1, -⟩:=hmay.inner hlf
   have hk1b:k1.length≤1000000:=zvt h.sh hkl d g _ hp
   have hdn:=zoh n.keys key
   obtain⟨lf,ks,vs,kd⟩:=n
   simp only at hlf hvs hkl1 hk1 hdn hb1 hb3 hp hcase⊢
   subst hlf
   subst hvs
   obtain⟨ok,ov,od⟩:=o
   simp only
   refine zch (fun w hw=>zdj (hw.item (own 3 1 od kd.length (kd.map iV)) mm).1 oQ) fun⟨db,dc,e⟩=>?_
   subst e
   obtain⟨kq,hkq⟩:∃x,kd[dn ks key]? =some x:=⟨_,aB oQ⟩
   rw[show kd.getD (dn ks key) 0=kq by rw[aE,hkq];rfl]at hp
   unfold ndO
   refine goA ?_
   refine lPu rfl (fun w1 hw1=>zoq hmay hb1 key w1 (zdw (o:=⟨ok,ov,some (db,dc)⟩) hw1 mm mm mm)) ?_
   simp only
   obtain⟨i,hi⟩:∃i,dn ks key=i:=⟨_,rfl⟩
   rw[hi]at hkq hcase hdn⊢
   refine goA ?_
   refine l_w rfl (za0 (v:=.int .i64 (kq:Int)) rfl rfl (fun w' hw'=>zby (hw'.item (own 3 1 (some (db,dc)) kd.length (kd.map iV)) mm).1 _ _ (by simp only[aH];rw[aO,hkq];rfl))) ?_
   refine goA ?_
   rw[show d+1 - 1=d by omega]
   refine zay [1,0,2,3,4,5] rfl rfl ?_
   refine lCu [tmI c root s1] rfl (zag c root s1) (fun w1 hw1 hh1 ha1=>ih g s1 (kq:Nat) hs1 oQ hp w1 hh1) fun⟨s2,hs2⟩=>?_
   have hs2:Tok c g1 s2:=hs2
   dsimp only
   refine goA ?_
   refine zam rfl rfl fun b15 hb15=>?_
   refine za1 rfl (zaf rfl rfl rfl rfl rfl rfl) fun _=>?_
   refine goA ?_
   rcases hcase with ⟨rfl,rfl,rfl,rfl⟩ |⟨hq,hsp⟩
   ·refine goA ?_
    refine za1 rfl (zah (znu _ _ _ _ _ _ _ _) (zaf rfl rfl rfl rfl rfl rfl)) fun _=>?_
    refine goA ?_
    exact zbd s2 rfl ⟨_,rfl,zaq rfl (.head _)⟩ rfl hs2 (.cons _ (.cons _ (.cons_cons _ (aK _)))) (zag _ _ _)
   ·have hA:=fun(vb:Nat) (w1:World)=>ziu ok ks.length i (ks.map kV) (kV k1) vb (zl4 ks) rfl oQ oQ w1
    have hB:=fun(vb:Nat) (w1:World)=>zuy (some (db,dc)) kd.length (i+1) (kd.map iV) (iV q1) vb (qgf kd) rfl oQ oQ w1
    refine goA ?_
    simp only[aF,aJ]
    refine zcx [3,5,2,0,1,4,6] rfl rfl ?_
    refine zap [2,3,4,5,6] 16 rfl rfl kQ ?_
    refine goE ?_
    refine qft 5 6 13 14 15 (A:=[own 9 1 ok ks.length (ks.map kV)]) (B:=[own 3 1 (some (db,dc)) kd.length (kd.map iV)]) (A':=fun o:{ o:Option (Nat×Nat)//True }=>[own 9 1 o.1 (ks.length+1) (ins (ks.map kV) i (kV k1))]) (B':=fun o:{ o:Option (Nat×Nat)//True }=>[own 3 1 o.1 (kd.length+1) (ins (kd.map iV) (i+1) (iV q1))]) kQ rfl rfl rfl rfl kQ rfl rfl rfl rfl rfl rfl rfl rfl rfl rfl rfl rfl rfl rfl (fun _ h=>h) (fun l' m' ext=>zrw (ext 76 _ rfl) kQ rfl rfl rfl) (fun a l' m' ext hd=>qkz (pre:=[own 9 1 ok ks.length (ks.map kV),own 9 1 (some (a.1,1)) 1 [kV k1]]) (ext 73 _ rfl) (ext 74 _ rfl) hd kQ kQ (zis _ _ _ _ _ _) (fun w1 hw1 hh1 ha1=>hA a.1 w1 hh1 ha1)) (fun l' m' ext=>zrw (ext 84 _ rfl) kQ rfl rfl rfl) (fun a l' m' ext hd=>qkz (pre:=[own 3 1 (some (db,dc)) kd.length (kd.map iV),own 3 1 (some (a.1,1)) 1 [iV q1]]) (ext 80 _ rfl) (ext 82 _ rfl) hd kQ kQ (zis _ _ _ _ _ _) (fun w1 hw1 hh1 ha1=>hB a.1 w1 hh1 ha1)) fun⟨ok',_⟩ ⟨od',_⟩=>?_
    refine zfa [2,0,1,3,4,5,6] rfl rfl ?_
    refine zor 16 rfl rfl rfl rfl rfl rfl rfl rfl rfl rfl rfl (zct _ _) (zc3 _ _) (zct _ _) (zc3 _ _) kQ kQ (by show(1:Nat)<4;decide) (by show(3:Nat)<4;decide) ?_
    simp only[qgn]
    rw[←zf1 ks i k1,←zf1 kd (i+1) q1]
    refine goA ?_
    refine zay [4,1,5,2,0,3,6] rfl rfl ?_
    refine lCu (tmI c root s2::ndI ⟨false,ins ks i k1,[],ins kd (i+1) q1⟩ ⟨ok',ov,od'⟩) rfl (zco _ _ _ _ _) (fun w1 hw1 hh1 ha1=>zmj hs2 root i0 ⟨false,ins ks i k1,[],ins kd (i+1) q1⟩ ⟨ok',ov,od'⟩ (NdB.mk' (by rw[zf1];omega) dQ (by rw[zf1];omega) (qgm hnb.kl hk1b) (fun _ h=>nomatch h)) hsp w1 hh1 ha1) fun⟨s3,h3⟩=>?_
    refine goA ?_
    refine za1 rfl (zah (zfq _ _ _ _ _) (zaf rfl rfl rfl rfl rfl rfl)) fun _=>?_
    refine goA ?_
    exact zbd s3 rfl ⟨_,rfl,zaq rfl (.head _)⟩ rfl h3 (.cons _ (.cons_cons _ (aK _))) (zag _ _ _)
end Go.Proofs.YthafakdplhdfjaaGreatDoor
namespace Go.Proofs.YthafakdplhdfjaaGreatDoor
open Go.RowKit Go.Eng Go.Eng.Tr
theorem qau(n:Nat)(hn:n≤1000000)(w:World):Ct Tryz.prog 241 #[.slice none 0 0,.int .i64 (n:Nat)] w none' (fun o:Option (Nat×Nat)=>slV o 0) (fun _=>True) (fun o=>[own 9 1 o 0 []]):=by
 refine zes [_,_] Tryz.func241 rfl rfl ?_
 simp only[zaa,Nat.reduceAdd]
 refine goA ?_
 by_cases h0:n=0
 ·subst h0
  refine goA ?_
  refine zbr (fun w hw=>zd1 9 1 hw) ?_
  exact zbd none rfl rfl rfl trivial (.refl _) (by simp[zac])
 ·refine goA ?_
  refine za1 rfl (qb6 (olds:=[]) (z:=.string ⟨#[]⟩) rfl rfl rfl rfl rfl rfl rfl oQ oQ oQ rfl (fun _=>rfl) (fun w' hw'=>.inl rfl)) fun⟨⟨b2,c2⟩,hb2,hc2⟩=>?_
  simp only at hc2⊢
  refine zcy (fun w hw=>hw.own0) ?_
  refine goA ?_
  exact zbd (some (b2,c2)) rfl rfl rfl trivial (.refl _) (by simp[zac])
def qia(L:List (Option Addr×Nat×List Value))(i:Nat):List Value:=(L.take i).flatMap fun p=>p.2.2
def qo2(p:Option Addr×Nat×List Value):Value:=.slice p.1 p.2.2.length p.2.1
variable{L:List (Option Addr×Nat×List Value)}{i:Nat}{p:Option Addr×Nat×List Value}
theorem zyi(h:L[i]? =some p):qia L (i+1)=qia L i++p.2.2:=by
 unfold qia
 rw[cV,h,bB]
 simp
theorem qas(L:List (Option Addr×Nat×List Value))(i:Nat):(qia L i).length≤(L.flatMap fun p=>p.2.2).length:=by
 unfold qia
 conv=>rhs;rw[←bF i L,bB,aA]
 omega
theorem zme(sb:Nat)(L:List (Option Addr×Nat×List Value))(k:Nat)(hk:L.length=k)(hk3:k≤100)(h1:∀p∈L,zb7 p.2.2=true)(hz:(L.flatMap fun p=>p.2.2).length≤1000000)(hnil:∀p∈L,p.1=none→p.2.2=[])(w:World)(hs:w.rangeAt sb 0 (L.map qo2))(hr:∀p∈L,Rd w p.1 p.2.2):
  Ct Tryz.prog 225 #[.slice (some ⟨sb,0,none⟩) k k] w none' (fun o:Option (Nat×Nat)=>slV o (L.flatMap fun p=>p.2.2).length) (fun _=>True) (fun o=>[own 9 1 o (L.flatMap fun p=>p.2.2).length (L.flatMap fun p=>p.2.2)]):=by
 refine zes [_] Tryz.func225 rfl rfl ?_
 have hall:qia L k=L.flatMap fun p=>p.2.2:=by unfold qia;rw[bJ oQ]
 simp only[zaa]
 refine goA ?_
 refine zc0 (α:=Nat) (fun i=>[(0,.slice (some ⟨sb,0,none⟩) k k),(3,.int .i64 ((qia L i).length:Nat)),(9,.slice (some ⟨sb,0,none⟩) k k),(10,.int .i64 (k:Nat)),(11,.int .i64 (i:Nat))]) (fun i=>i≤k) (fun _=>[]) (fun i=>k - i) 0 ⟨rfl,rfl,rfl,rfl,rfl,trivial⟩ (aZ _) (fun w hw=>hw) fun i hi=>?_
 have hci:=qas L i
 by_cases h:i<k
 ·obtain⟨p,hp⟩:∃p,L[i]? =some p:=⟨_,aB oQ⟩
  have hcs:=zyi hp
  have hci2:=qas L (i+1)
  rw[hcs,aA]at hci2
  refine goA ?_
  refine l_w rfl (za0 rfl rfl (fun w' hw'=>za5 hs (fun h=>h) hw' i (qo2 p) (by rw[aO,hp];rfl))) ?_
  unfold qo2
  refine goA ?_
  exact zaw (i+1) ⟨rfl,by rw[hcs,aA];rfl,rfl,rfl,rfl,trivial⟩ oQ (fun w hw=>hw) (by first|omega|(simp only;omega))
 ·obtain rfl:i=k:=oQ
  rw[hall]at hci⊢
  refine goA ?_
  refine zdy rfl rfl kQ rfl (fun w1 hw1=>qau (L.flatMap fun p=>p.2.2).length hz w1) fun x hx=>?_
  refine goA ?_
  refine zc0 (α:=Nat×Option (Nat×Nat)) (fun y=>[(6,slV y.2 (qia L y.1).length),(25,.slice (some ⟨sb,0,none⟩) i i),(26,.int .i64 (i:Nat)),(27,.int .i64 (y.1:Nat))]) (fun y=>y.1≤i) (fun y=>[own 9 1 y.2 (qia L y.1).length (qia L y.1)]) (fun y=>i - y.1) (0,x) ⟨rfl,rfl,rfl,rfl,trivial⟩ (aZ _) (fun w hw=>hw) fun⟨j,o⟩ hj=>?_
  simp only at hj⊢
  by_cases h2:j<i
  ·obtain⟨p,hp⟩:∃p,L[j]? =some p:=⟨_,aB oQ⟩
   have hpm:=bI hp
   have hcs:=zyi hp
   have hci2:=qas L (j+1)
   rw[hcs,aA]at hci2
   refine goA ?_
   refine l_w rfl (za0 rfl rfl (fun w' hw'=>za5 hs (fun h=>h) hw' j (qo2 p) (by rw[aO,hp];rfl))) ?_
   unfold qo2
   refine goA ?_
   refine za1 rfl (zxz (news:=p.2.2) rfl rfl rfl rfl rfl rfl (fun e=>by rw[hnil p hpm e];rfl) (h1 p hpm) oQ (fun w' hw'=>(hr p hpm).keep hw')) fun o'=>?_
   refine goA ?_
   exact zaw (j+1,o') ⟨by rw[hcs,aA];rfl,rfl,rfl,rfl,trivial⟩ (by first|omega|(simp only;omega)) (fun w hw=>by rw[hcs,aA];exact hw) (by first|omega|(simp only;omega))
  ·obtain rfl:j=i:=oQ
   rw[hall]
   refine goA ?_
   exact zbd o rfl rfl rfl trivial (.refl _) (by simp[zac])
theorem zz1(n:Nat)(hn:n≤1000000)(w:World):Ct Tryz.prog 242 #[.slice none 0 0,.int .i64 (n:Nat)] w none' (fun o:Option (Nat×Nat)=>slV o 0) (fun _=>True) (fun o=>[own 3 1 o 0 []]):=by
 refine zes [_,_] Tryz.func242 rfl rfl ?_
 simp only[zaa,Nat.reduceAdd]
 refine goA ?_
 by_cases h0:n=0
 ·subst h0
  refine goA ?_
  refine zbr (fun w hw=>zd1 3 1 hw) ?_
  exact zbd none rfl rfl rfl trivial (.refl _) (by simp[zac])
 ·refine goA ?_
  refine za1 rfl (qb6 (olds:=[]) (z:=.int .i64 0) rfl rfl rfl rfl rfl rfl rfl oQ oQ oQ rfl (fun _=>rfl) (fun w' hw'=>.inl rfl)) fun⟨⟨b2,c2⟩,hb2,hc2⟩=>?_
  simp only at hc2⊢
  refine zcy (fun w hw=>hw.own0) ?_
  refine goA ?_
  exact zbd (some (b2,c2)) rfl rfl rfl trivial (.refl _) (by simp[zac])
def qgg(L:List (Option Addr×Nat×List Value))(i:Nat):List Value:=(L.take i).flatMap fun p=>p.2.2
def qp0(p:Option Addr×Nat×List Value):Value:=.slice p.1 p.2.2.length p.2.1
theorem zxe(h:L[i]? =some p):qgg L (i+1)=qgg L i++p.2.2:=by
 unfold qgg
 rw[cV,h,bB]
 simp
theorem zz0(L:List (Option Addr×Nat×List Value))(i:Nat):(qgg L i).length≤(L.flatMap fun p=>p.2.2).length:=by
 unfold qgg
 conv=>rhs;rw[←bF i L,bB,aA]
 omega
theorem zuw(sb:Nat)(L:List (Option Addr×Nat×List Value))(k:Nat)(hk:L.length=k)(hk3:k≤100)(h1:∀p∈L,zb7 p.2.2=true)(hz:(L.flatMap fun p=>p.2.2).length≤1000000)(hnil:∀p∈L,p.1=none→p.2.2=[])(w:World)(hs:w.rangeAt sb 0 (L.map qp0))(hr:∀p∈L,Rd w p.1 p.2.2):
  Ct Tryz.prog 226 #[.slice (some ⟨sb,0,none⟩) k k] w none' (fun o:Option (Nat×Nat)=>slV o (L.flatMap fun p=>p.2.2).length) (fun _=>True) (fun o=>[own 3 1 o (L.flatMap fun p=>p.2.2).length (L.flatMap fun p=>p.2.2)]):=by
 refine zes [_] Tryz.func226 rfl rfl ?_
 have hall:qgg L k=L.flatMap fun p=>p.2.2:=by unfold qgg;rw[bJ oQ]
 simp only[zaa]
 refine goA ?_
 refine zc0 (α:=Nat) (fun i=>[(0,.slice (some ⟨sb,0,none⟩) k k),(3,.int .i64 ((qgg L i).length:Nat)),(9,.slice (some ⟨sb,0,none⟩) k k),(10,.int .i64 (k:Nat)),(11,.int .i64 (i:Nat))]) (fun i=>i≤k) (fun _=>[]) (fun i=>k - i) 0 ⟨rfl,rfl,rfl,rfl,rfl,trivial⟩ (aZ _) (fun w hw=>hw) fun i hi=>?_
 have hci:=zz0 L i
 by_cases h:i<k
 ·obtain⟨p,hp⟩:∃p,L[i]? =some p:=⟨_,aB oQ⟩
  have hcs:=zxe hp
  have hci2:=zz0 L (i+1)
  rw[hcs,aA]at hci2
  refine goA ?_
  refine l_w rfl (za0 rfl rfl (fun w' hw'=>za5 hs (fun h=>h) hw' i (qp0 p) (by rw[aO,hp];rfl))) ?_
  unfold qp0
  refine goA ?_
  exact zaw (i+1) ⟨rfl,by rw[hcs,aA];rfl,rfl,rfl,rfl,trivial⟩ oQ (fun w hw=>hw) (by first|omega|(simp only;omega))
 ·obtain rfl:i=k:=oQ
  rw[hall]at hci⊢
  refine goA ?_
  refine zdy rfl rfl kQ rfl (fun w1 hw1=>zz1 (L.flatMap fun p=>p.2.2).length hz w1) fun x hx=>?_
  refine goA ?_
  refine zc0 (α:=Nat×Option (Nat×Nat)) (fun y=>[(6,slV y.2 (qgg L y.1).length),(25,.slice (some ⟨sb,0,none⟩) i i),(26,.int .i64 (i:Nat)),(27,.int .i64 (y.1:Nat))]) (fun y=>y.1≤i) (fun y=>[own 3 1 y.2 (qgg L y.1).length (qgg L y.1)]) (fun y=>i - y.1) (0,x) ⟨rfl,rfl,rfl,rfl,trivial⟩ (aZ _) (fun w hw=>hw) fun⟨j,o⟩ hj=>?_
  simp only at hj⊢
  by_cases h2:j<i
  ·obtain⟨p,hp⟩:∃p,L[j]? =some p:=⟨_,aB oQ⟩
   have hpm:=bI hp
   have hcs:=zxe hp
   have hci2:=zz0 L (j+1)
   rw[hcs,aA]at hci2
   refine goA ?_
   refine l_w rfl (za0 rfl rfl (fun w' hw'=>za5 hs (fun h=>h) hw' j (qp0 p) (by rw[aO,hp];rfl))) ?_
   unfold qp0
   refine goA ?_
   refine za1 rfl (zxz (news:=p.2.2) rfl rfl rfl rfl rfl rfl (fun e=>by rw[hnil p hpm e];rfl) (h1 p hpm) oQ (fun w' hw'=>(hr p hpm).keep hw')) fun o'=>?_
   refine goA ?_
   exact zaw (j+1,o') ⟨by rw[hcs,aA];rfl,rfl,rfl,rfl,trivial⟩ (by first|omega|(simp only;omega)) (fun w hw=>by rw[hcs,aA];exact hw) (by first|omega|(simp only;omega))
  ·obtain rfl:j=i:=oQ
   rw[hall]
   refine goA ?_
   exact zbd o rfl rfl rfl trivial (.refl _) (by simp[zac])
end Go.Proofs.YthafakdplhdfjaaGreatDoor
namespace Go.Eng
open Go.RowKit
variable{P:Program}{Q:Exit→Act→World→Prop}{N:Fm}{l:zav}{ops:Array Oper}{w0:World}{F:Nat→Prop}{m:List Item}{ty:TypeId}{pos:String}{after:Array Edge}
variable{g:Option (Nat×Bool)}
theorem qd4{T e:TypeId}{d x y b:Nat}{z v u:Value}(hx:get l x=some v)(hy:get l y=some u)(hd:Nat.ble (d+1) N.n=true)(hT:zmi P T=some e)(hi:zpt P e=some (1,b,z))(hv:v.cells= #[v])(hu:u.cells= #[u]):
  HO P ⟨some d,.buildSlice T 2 #[(0,.tmp x),(1,.tmp y)],ty,pos,after,g⟩ Q N l (Hp w0 F m) (α:={ b:Nat//w0.heap.size≤b }) (fun c=>(d,.slice (some ⟨c.1,0,none⟩) 2 2)::l) (fun c=>Hp w0 F (own e 1 (some (c.1,2)) 2 [v,u]::m)):=by
 have hp:zi2 1 l [(0,.tmp x),(1,.tmp y)]=some [(0*1,1,v),(1*1,1,u)]:=by simp[zi2,evO,hx,hy]
 have h:=za3 (Q:=Q) (N:=N) (m:=m) (w0:=w0) (F:=F) (ty:=ty) (pos:=pos) (after:=after) (g:=g) (len:=2) (ps:=[(0,.tmp x),(1,.tmp y)]) (L:=[(0*1,1,v),(1*1,1,u)]) (d:=d) (by simpa[zee,zez,zec,Op.operands,zex,hx,hy]using hd) hT hi hp dQ (by simp[zdi,hv,hu])
 have e1:zek (zds z (2*1)) [(0*1,1,v),(1*1,1,u)]=[v,u]:=by
  simp[zek,over,zds,hv,hu,List.range,List.range.loop]
 rw[e1]at h
 exact h
theorem qrb{T e:TypeId}{d x y s b:Nat}{z v u t:Value}(hx:get l x=some v)(hy:get l y=some u)(hs:get l s=some t)(hd:Nat.ble (d+1) N.n=true)(hT:zmi P T=some e)(hi:zpt P e=some (1,b,z))(hv:v.cells= #[v])(hu:u.cells= #[u])(ht:t.cells= #[t]):
  HO P ⟨some d,.buildSlice T 3 #[(0,.tmp x),(1,.tmp y),(2,.tmp s)],ty,pos,after,g⟩ Q N l (Hp w0 F m) (α:={ b:Nat//w0.heap.size≤b }) (fun c=>(d,.slice (some ⟨c.1,0,none⟩) 3 3)::l) (fun c=>Hp w0 F (own e 1 (some (c.1,3)) 3 [v,u,t]::m)):=by
 have hp:zi2 1 l [(0,.tmp x),(1,.tmp y),(2,.tmp s)]=some [(0*1,1,v),(1*1,1,u),(2*1,1,t)]:=by simp[zi2,evO,hx,hy,hs]
 have h:=za3 (Q:=Q) (N:=N) (m:=m) (w0:=w0) (F:=F) (ty:=ty) (pos:=pos) (after:=after) (g:=g) (len:=3) (ps:=[(0,.tmp x),(1,.tmp y),(2,.tmp s)]) (L:=[(0*1,1,v),(1*1,1,u),(2*1,1,t)]) (d:=d) (by simpa[zee,zez,zec,Op.operands,zex,hx,hy,hs]using hd) hT hi hp dQ (by simp[zdi,hv,hu,ht])
 have e1:zek (zds z (3*1)) [(0*1,1,v),(1*1,1,u),(2*1,1,t)]=[v,u,t]:=by
  simp[zek,over,zds,hv,hu,ht,List.range,List.range.loop]
 rw[e1]at h
 exact h
theorem ztc{w:World}{xs:List Value}(h:Rd w none xs):xs=[]:=by
 rcases h with h|⟨_,_,h,_⟩
 ·exact h
 ·cases h
end Go.Eng
namespace Go.Proofs.YthafakdplhdfjaaGreatDoor
open Go.RowKit Go.Eng Go.Eng.Bm Go.Eng.Tr
def qao(s:Sh)(n:Nd):Int:=if n.leaf then((s.cap/2:Nat):Int) - (n.keys.length:Int)else((s.fan/2:Nat):Int) - (n.kids.length:Int)
theorem qcd(s:Sh)(n:Nd):decide (qao s n>0)=zqj s n:=by
 unfold qao zqj
 split
 ·rw[decide_eq_decide];omega
 ·rw[decide_eq_decide];omega
variable{c:Tc}{s:Pg}
theorem qpt{l:zav}{w0:World}{m:List Eng.Item}{ty:TypeId}{x:Operand}{root:Int}(h:zbq (tmI c root s) w0)(hx:evO l x=some (.pointer (some ⟨c.t,c.o+1,none⟩))):OV Tryz.prog (.load 79 x) ty l (Hp w0 none' m) (shV c.sh):=
 zgp (xs:=[.int .i64 (c.sh.kw:Int),.int .i64 (c.sh.vw:Int)]) (c:= #[.int .i64 (c.sh.kw:Int),.int .i64 (c.sh.vw:Int)]) hx rfl (fun w' hw'=>by
  exact zfu (k:=2) (zft (k:=1) (znr ((h.keep hw').1.1 _ (.head _)).1))) rfl
variable{g:Sg}
theorem qeb(ht:Tok c g s)(root:Int)(n:Nd)(a:Pl)(hk:n.keys.length≤1000)(hd:n.kids.length≤1000)(w:World)(h:zbq (tmI c root s) w):Pu Tryz.prog 148 #[.pointer (some ⟨c.t,c.o,none⟩),ndV n a] w (.int .i64 (qao c.sh n)):=by
 have hsh:ShB c.sh:=ht.sh
 have e1:c.sh.cap≤508:=eW _ _
 have e2:c.sh.fan≤508+c.sh.kw:=eW _ _
 have e3:=hsh.k2
 refine zbn [_,_] Tryz.func148 rfl rfl ?_
 unfold ndV qao
 obtain⟨lf,hlf⟩:∃x,n.leaf=x:=⟨_,rfl⟩
 rw[hlf]
 simp only[zaa,Nat.reduceAdd]
 refine goA ?_
 refine zbp rfl rfl fun b3 hb3=>?_
 refine goA ?_
 cases lf with
 |true=>
  refine goA ?_
  refine zap [0] 11 rfl rfl kQ ?_
  (repeat first|refine dAv [3] rfl rfl rfl ?_ |refine dno [3] rfl rfl rfl ?_ |refine dT [3] rfl rfl rfl rfl ?_ |refine dF [3] rfl rfl rfl rfl ?_)
  refine goV rfl rfl (qpt h rfl) ?_
  refine dPu 4 rfl rfl (fun w1 hw1=>zjl hsh w1) ?_
  refine goE ?_
  refine goV rfl rfl (ztv rfl rfl oQ) ?_
  refine goX ?_
  exact zdk rfl rfl rfl
 |false=>
  refine goA ?_
  refine zap [0] 11 rfl rfl kQ ?_
  (repeat first|refine dAv [3] rfl rfl rfl ?_ |refine dno [3] rfl rfl rfl ?_ |refine dT [3] rfl rfl rfl rfl ?_ |refine dF [3] rfl rfl rfl rfl ?_)
  refine goV rfl rfl (qpt h rfl) ?_
  refine dPu 4 rfl rfl (fun w1 hw1=>zhz hsh w1) ?_
  refine goE ?_
  refine goV rfl rfl (ztv rfl rfl oQ) ?_
  refine goX ?_
  exact zdk rfl rfl rfl
theorem qqj{sb:Nat}{k1 k2:List K}{a1 a2:Option Addr}{c1 c2 n1 n2:Nat}(h1:k1.length=n1)(h2:k2.length=n2)(hb:n1+n2≤10000)(w:World)(hs:w.rangeAt sb 0 [.slice a1 n1 c1,.slice a2 n2 c2])(r1:Rd w a1 (k1.map kV))(r2:Rd w a2 (k2.map kV)):
  Ct Tryz.prog 225 #[.slice (some ⟨sb,0,none⟩) 2 2] w none' (fun o:Option (Nat×Nat)=>slV o (k1++k2).length) (fun _=>True) (fun o=>[own 9 1 o (k1++k2).length ((k1++k2).map kV)]):=by
 have h:=zme sb [(a1,c1,k1.map kV),(a2,c2,k2.map kV)] 2 rfl dQ (by simp[zl4]) (by simp;omega) (by
  intro p hp e
  rcases aL.1 hp with rfl|hp
  ·simp only at e;subst e;exact ztc r1
  ·rcases aL.1 hp with rfl|hp
   ·simp only at e;subst e;exact ztc r2
   ·cases hp) w (by simpa[qo2,h1,h2]using hs) (by
  intro p hp
  rcases aL.1 hp with rfl|hp
  ·exact r1
  ·rcases aL.1 hp with rfl|hp
   ·exact r2
   ·cases hp)
 have e:([(a1,c1,k1.map kV),(a2,c2,k2.map kV)]:List (Option Addr×Nat×List Value)).flatMap (fun p=>p.2.2)=(k1++k2).map kV:=by simp
 rw[e]at h
 simpa using h
theorem qsk{sb:Nat}{k1 k2:List Nat}{a1 a2:Option Addr}{c1 c2 n1 n2:Nat}(h1:k1.length=n1)(h2:k2.length=n2)(hb:n1+n2≤10000)(w:World)(hs:w.rangeAt sb 0 [.slice a1 n1 c1,.slice a2 n2 c2])(r1:Rd w a1 (k1.map iV))(r2:Rd w a2 (k2.map iV)):
  Ct Tryz.prog 226 #[.slice (some ⟨sb,0,none⟩) 2 2] w none' (fun o:Option (Nat×Nat)=>slV o (k1++k2).length) (fun _=>True) (fun o=>[own 3 1 o (k1++k2).length ((k1++k2).map iV)]):=by
 have h:=zuw sb [(a1,c1,k1.map iV),(a2,c2,k2.map iV)] 2 rfl dQ (by simp[qgf]) (by simp;omega) (by
  intro p hp e
  rcases aL.1 hp with rfl|hp
  ·simp only at e;subst e;exact ztc r1
  ·rcases aL.1 hp with rfl|hp
   ·simp only at e;subst e;exact ztc r2
   ·cases hp) w (by simpa[qp0,h1,h2]using hs) (by
  intro p hp
  rcases aL.1 hp with rfl|hp
  ·exact r1
  ·rcases aL.1 hp with rfl|hp
   ·exact r2
   ·cases hp)
 have e:([(a1,c1,k1.map iV),(a2,c2,k2.map iV)]:List (Option Addr×Nat×List Value)).flatMap (fun p=>p.2.2)=(k1++k2).map iV:=by simp
 rw[e]at h
 simpa using h
variable{key:K}
theorem qsl{sb xb:Nat}{k1 k2:List K}{a1 a2:Option Addr}{c1 c2 n1 n2:Nat}(h1:k1.length=n1)(h2:k2.length=n2)(hb:n1+n2≤10000)(w:World)(hs:w.rangeAt sb 0 [.slice a1 n1 c1,.slice (some ⟨xb,0,none⟩) 1 1,.slice a2 n2 c2])(r1:Rd w a1 (k1.map kV))(r0:Rd w (some ⟨xb,0,none⟩) [kV key])(r2:Rd w a2 (k2.map kV)):
  Ct Tryz.prog 225 #[.slice (some ⟨sb,0,none⟩) 3 3] w none' (fun o:Option (Nat×Nat)=>slV o (k1++key::k2).length) (fun _=>True) (fun o=>[own 9 1 o (k1++key::k2).length ((k1++key::k2).map kV)]):=by
 have h:=zme sb [(a1,c1,k1.map kV),(some ⟨xb,0,none⟩,1,[kV key]),(a2,c2,k2.map kV)] 3 rfl dQ (by
  intro p hp
  rcases aL.1 hp with rfl|hp
  ·exact zl4 _
  ·rcases aL.1 hp with rfl|hp
   ·rfl
   ·rcases aL.1 hp with rfl|hp
    ·exact zl4 _
    ·cases hp) (by simp;omega) (by
  intro p hp e
  rcases aL.1 hp with rfl|hp
  ·simp only at e;subst e;exact ztc r1
  ·rcases aL.1 hp with rfl|hp
   ·cases e
   ·rcases aL.1 hp with rfl|hp
    ·simp only at e;subst e;exact ztc r2
    ·cases hp) w (by simpa[qo2,h1,h2]using hs) (by
  intro p hp
  rcases aL.1 hp with rfl|hp
  ·exact r1
  ·rcases aL.1 hp with rfl|hp
   ·exact r0
   ·rcases aL.1 hp with rfl|hp
    ·exact r2
    ·cases hp)
 have e:([(a1,c1,k1.map kV),(some ⟨xb,0,none⟩,1,[kV key]),(a2,c2,k2.map kV)]:List (Option Addr×Nat×List Value)).flatMap (fun p=>p.2.2)=(k1++key::k2).map kV:=by simp
 rw[e]at h
 simpa using h
theorem zxk(x y:Nd)(ax ay:Pl)(key:K)(hx1:x.keys.length≤1000)(hx2:x.vals.length≤1000)(hx3:x.kids.length≤1000)(hy1:y.keys.length≤1000)(hy2:y.vals.length≤1000)(hy3:y.kids.length≤1000)(w:World)(rx:NdR w x ax)(ry:NdR w y ay):
  Ct Tryz.prog 199 #[ndV x ax,ndV y ay,kV key] w none' (fun o:Po=>.agg (ndO (zcq x y key) o)) (fun _=>True) (fun o=>ndI (zcq x y key) o):=by
 obtain⟨⟨ka,kc⟩,⟨va,vc⟩,⟨da,dc⟩⟩:=ax
 obtain⟨⟨ka2,kc2⟩,⟨va2,vc2⟩,⟨da2,dc2⟩⟩:=ay
 refine zes [_,_,_] Tryz.func199 rfl rfl ?_
 unfold ndV
 simp only
 obtain⟨lf,hlf⟩:∃b,x.leaf=b:=⟨_,rfl⟩
 unfold zcq
 rw[hlf]
 simp only[zaa,Nat.reduceAdd]
 refine goA ?_
 refine zbp rfl rfl fun b3 hb3=>?_
 refine goA ?_
 refine zbp rfl rfl fun b4 hb4=>?_
 refine goA ?_
 refine zam rfl rfl fun b6 hb6=>?_
 refine goA ?_
 cases lf with
 |true=>
  rw[if_pos rfl]
  refine goA ?_
  refine zap [1,2] 13 rfl rfl kQ ?_
  refine goE ?_
  refine qmb 4 5 10 11 (A:=[]) (B:=[]) (A':=fun o:{ o:Option (Nat×Nat)//True }=>[own 9 1 o.1 (x.keys++y.keys).length ((x.keys++y.keys).map kV)]) (B':=fun o:{ o:Option (Nat×Nat)//True }=>[own 9 1 o.1 (x.vals++y.vals).length ((x.vals++y.vals).map kV)]) kQ rfl rfl rfl rfl rfl rfl rfl rfl rfl rfl rfl rfl rfl (fun _ h=>h.sub (.cons _ (.refl _))) (fun l' m' ext=>qd4 (ext 10 _ rfl) (ext 12 _ rfl) kQ rfl rfl rfl rfl) (fun a l' m' ext hd=>qbs (fun _=>.cons_cons _ (.cons _ (.refl _))) (qd5 hd kQ kQ (fun w1 hw1=>qqj rfl rfl oQ w1 (zd7 (hw1.item _ (.head _)).1) (rx.k.keep hw1) (ry.k.keep hw1)))) (fun l' m' ext=>qd4 (ext 16 _ rfl) (ext 18 _ rfl) kQ rfl rfl rfl rfl) (fun a l' m' ext hd=>qbs (fun _=>.cons_cons _ (.cons _ (.refl _))) (qd5 hd kQ kQ (fun w1 hw1=>qqj rfl rfl oQ w1 (zd7 (hw1.item _ (.head _)).1) (rx.v.keep hw1) (ry.v.keep hw1)))) fun⟨o1,_⟩ ⟨o2,_⟩=>?_
  refine qma (fun w hw=>And.intro (zas (hw.item (own 9 1 o1 (x.keys++y.keys).length ((x.keys++y.keys).map kV)) mm).1).1 (zas (hw.item (own 9 1 o2 (x.vals++y.vals).length ((x.vals++y.vals).map kV)) mm).1).1) fun⟨f1,f2⟩=>?_
  rw[f1,f2]
  refine goE ?_
  refine zfa [2,0,1,3,4] rfl rfl ?_
  refine zet ⟨kQ,kQ⟩ rfl rfl (zaf (cs':= #[.bool true,.slice (slA o1) (x.keys++y.keys).length (slC o1),.slice (slA o2) (x.vals++y.vals).length (slC o2),.slice none 0 0]) rfl rfl rfl rfl rfl rfl) fun _=>?_
  refine goA ?_
  refine zbr (m':=[own 9 1 o1 (x.keys++y.keys).length ((x.keys++y.keys).map kV),own 9 1 o2 (x.vals++y.vals).length ((x.vals++y.vals).map kV),own 3 1 none 0 [],pt b6 (.cells #[.bool true,.slice (slA o1) (x.keys++y.keys).length (slC o1),.slice (slA o2) (x.vals++y.vals).length (slC o2),.slice none 0 0] 185 (0,0))]) (fun w hw=>(zd1 3 1 hw).pick [2,3,0,1] rfl rfl) ?_
  exact zbd ⟨o1,o2,none⟩ rfl ⟨_,rfl,zaq rfl (.tail _ (.tail _ (.tail _ (.head _))))⟩ (by simp only[ndO,lNd];rw[f1,f2];rfl) trivial (.cons_cons _ (.cons_cons _ (.cons_cons _ (aK _)))) (zm3 _ _)
 |false=>
  rw[if_neg bK]
  refine goA ?_
  refine zap [1,2] 15 rfl rfl kQ ?_
  refine goE ?_
  have s29:=fun(xb a:Nat) (M:List Eng.Item) (w1:World) (hw1:Hp w none' M w1) (ha:own 35 1 (some (a,3)) 3 [.slice ka x.keys.length kc,.slice (some ⟨xb,0,none⟩) 1 1,.slice ka2 y.keys.length kc2]∈M) (hx:own 9 1 (some (xb,1)) 1 [kV key]∈M)=>qsl (sb:=a) (xb:=xb) (key:=key) (c1:=kc) (c2:=kc2) rfl rfl oQ w1 (zd7 (hw1.item _ ha).1) (rx.k.keep hw1) (Rd.mk (zd7 (hw1.item _ hx).1)) (ry.k.keep hw1)
  have s35:=fun(a:Nat) (M:List Eng.Item) (w1:World) (hw1:Hp w none' M w1) (ha:own 183 1 (some (a,2)) 2 [.slice da x.kids.length dc,.slice da2 y.kids.length dc2]∈M)=>qsk (sb:=a) (c1:=dc) (c2:=dc2) rfl rfl oQ w1 (zd7 (hw1.item _ ha).1) (rx.d.keep hw1) (ry.d.keep hw1)
  refine zzm (n':=2) (listed':= #[true,true,true,true,true,true,true,true,true,true,true,true,true,true,false,false]) (fun y':Option (Nat×Nat)×Option (Nat×Nat)=>[(6,.pointer (some ⟨b6,0,none⟩)),(29,slV y'.1 (x.keys++key::y.keys).length),(35,slV y'.2 (x.kids++y.kids).length)]) (fun y'=>[own 9 1 y'.1 (x.keys++key::y.keys).length ((x.keys++key::y.keys).map kV),own 3 1 y'.2 (x.kids++y.kids).length ((x.kids++y.kids).map iV),pt b6 (.cells #[.bool false,.slice none 0 0,.slice none 0 0,.slice none 0 0] 185 (0,0)),pt b4 (.cells #[.bool y.leaf,.slice ka2 y.keys.length kc2,.slice va2 y.vals.length vc2,.slice da2 y.kids.length dc2] 185 (0,0)),pt b3 (.cells #[.bool false,.slice ka x.keys.length kc,.slice va x.vals.length vc,.slice da x.kids.length dc] 185 (0,0))]) ?_ (fun hk=>?_)
  rotate_left
  ·refine zt7 3 12 ⟨kQ,dQ,dQ⟩ rfl rfl rfl rfl (zrw (v:=kV key) rfl rfl rfl rfl rfl) (qd4 (v:=.slice da x.kids.length dc) (u:=.slice da2 y.kids.length dc2) rfl rfl rfl rfl rfl rfl rfl) (fun _ _ h=>goH h) (fun _ _ h=>goH h) (fun⟨xb,_⟩=>?_) (fun⟨cb,_⟩=>?_)
   ·refine qmb 6 7 12 13 (A:=[own 9 1 (some (xb,1)) 1 [kV key]]) (B:=[]) (A':=fun o:{ o:Option (Nat×Nat)//True }=>[own 9 1 o.1 (x.keys++key::y.keys).length ((x.keys++key::y.keys).map kV)]) (B':=fun o:{ o:Option (Nat×Nat)//True }=>[own 3 1 o.1 (x.kids++y.kids).length ((x.kids++y.kids).map iV)]) kQ rfl rfl rfl rfl rfl rfl rfl rfl rfl rfl rfl rfl rfl (fun _ h=>h.sub (.cons _ (.refl _))) (fun l' m' ext=>qrb (ext 23 _ rfl) (ext 25 _ rfl) (ext 27 _ rfl) kQ rfl rfl rfl rfl rfl) (fun a l' m' ext hd=>qbs (fun _=>.cons_cons _ (.cons _ (.cons _ (.refl _)))) (qd5 hd kQ kQ (fun w1 hw1=>s29 xb a.1 _ w1 hw1 (.tail _ (.head _)) (.head _)))) (fun l' m' ext=>qd4 (ext 31 _ rfl) (ext 33 _ rfl) kQ rfl rfl rfl rfl) (fun a l' m' ext hd=>qbs (fun _=>.cons_cons _ (.cons _ (.refl _))) (qd5 hd kQ kQ (fun w1 hw1=>s35 a.1 _ w1 hw1 (.head _)))) fun⟨o1,_⟩ ⟨o2,_⟩=>?_
    exact hk (o1,o2) _ ⟨rfl,rfl,rfl,trivial⟩
   ·refine zat 3 ⟨kQ,dQ⟩ rfl rfl (zrw (v:=kV key) rfl rfl rfl rfl rfl) (fun _ _ h=>goH h) fun⟨xb,_⟩=>?_
    refine zat 6 ⟨kQ,dQ⟩ rfl rfl (qrb (v:=.slice ka x.keys.length kc) (u:=.slice (some ⟨xb,0,none⟩) 1 1) (t:=.slice ka2 y.keys.length kc2) rfl rfl rfl rfl rfl rfl rfl rfl rfl) (fun _ _ h=>goH h) fun⟨ab,_⟩=>?_
    refine zat 7 ⟨kQ,dQ⟩ rfl rfl (qd5 rfl rfl kQ (fun w1 hw1=>s29 xb ab _ w1 hw1 (.head _) (.tail _ (.head _)))) (fun _ _ h=>goH h) fun⟨o1,_⟩=>?_
    refine zat 13 ⟨kQ,dQ⟩ rfl rfl (qd5 rfl rfl kQ (fun w1 hw1=>s35 cb _ w1 hw1 (.tail _ (.tail _ (.tail _ (.head _)))))) (fun _ _ h=>goH h) fun⟨o2,_⟩=>?_
    refine zfa [1,0,5,6,7] rfl rfl ?_
    exact hk (o1,o2) _ ⟨rfl,rfl,rfl,trivial⟩
  ·intro ⟨o1,o2⟩
   simp only
   refine qma (fun w hw=>And.intro (zas (hw.item (own 9 1 o1 (x.keys++key::y.keys).length ((x.keys++key::y.keys).map kV)) mm).1).1 (zas (hw.item (own 3 1 o2 (x.kids++y.kids).length ((x.kids++y.kids).map iV)) mm).1).1) fun⟨f1,f2⟩=>?_
   rw[f1,f2]
   refine goE ?_
   refine zfa [2,0,1,3,4] rfl rfl ?_
   refine zet ⟨kQ,kQ⟩ rfl rfl (zaf (cs':= #[.bool false,.slice (slA o1) (x.keys++key::y.keys).length (slC o1),.slice none 0 0,.slice (slA o2) (x.kids++y.kids).length (slC o2)]) rfl rfl rfl rfl rfl rfl) fun _=>?_
   refine goA ?_
   refine zbr (m':=[own 9 1 o1 (x.keys++key::y.keys).length ((x.keys++key::y.keys).map kV),own 9 1 none 0 [],own 3 1 o2 (x.kids++y.kids).length ((x.kids++y.kids).map iV),pt b6 (.cells #[.bool false,.slice (slA o1) (x.keys++key::y.keys).length (slC o1),.slice none 0 0,.slice (slA o2) (x.kids++y.kids).length (slC o2)] 185 (0,0))]) (fun w hw=>(zd1 9 1 hw).pick [2,0,3,1] rfl rfl) ?_
   exact zbd ⟨o1,none,o2⟩ rfl ⟨_,rfl,zaq rfl (.tail _ (.tail _ (.tail _ (.head _))))⟩ (by simp only[ndO,iNd];rw[f1,f2];rfl) trivial (.cons_cons _ (.cons_cons _ (.cons_cons _ (aK _)))) (zm3 _ _)
theorem qg5{s:Sh}{N:Nat}{g':Sg}{n n':Nd}{i:Nat}(hl:zhg s N g n i= .ok (n',g')):∃x y,zfs s N g (n.kids.getD (i - 1) 0:Nat)= .ok x∧zfs s N g (n.kids.getD (i - 1+1) 0:Nat)= .ok y∧x.leaf=y.leaf∧
    ((zv7 s (zcq x y (n.keys.getD (i - 1) []))=true∧∃g1 k q,zf0 N g (n.kids.getD (i - 1+1) 0)= .ok g1∧zcc s N g1 (n.kids.getD (i - 1) 0) (zcq x y (n.keys.getD (i - 1) []))= .ok ((k,q),g')∧n'=iNd (n.keys.set (i - 1) k) (n.kids.set (i - 1+1) q))∨
     (zv7 s (zcq x y (n.keys.getD (i - 1) []))=false∧∃g1,zf0 N g (n.kids.getD (i - 1+1) 0)= .ok g1∧zb8 s N g1 (n.kids.getD (i - 1) 0) (zcq x y (n.keys.getD (i - 1) []))= .ok g'∧n'=iNd (n.keys.eraseIdx (i - 1)) (n.kids.eraseIdx (i - 1+1)))):=by
  unfold zhg at hl
  obtain⟨x,h1,hl⟩:=zb6 hl
  obtain⟨y,h2,hl⟩:=zb6 hl
  refine⟨x,y,h1,h2,?_⟩
  by_cases hxy:x.leaf=y.leaf
  · rw[if_neg (fun h=>h hxy)]at hl
    refine⟨hxy,?_⟩
    cases hw:zv7 s (zcq x y (n.keys.getD (i - 1) []))with
    |true=>
      rw[hw,if_pos rfl]at hl
      obtain⟨g1,h3,hl⟩:=zb6 hl
      obtain⟨⟨⟨k,q⟩,g2⟩,h4,hl⟩:=zb6 hl
      cases hl
      exact .inl ⟨rfl,g1,k,q,h3,h4,rfl⟩
    |false=>
      rw[hw,if_neg bK]at hl
      obtain⟨g1,h3,hl⟩:=zb6 hl
      obtain⟨g2,h4,hl⟩:=zb6 hl
      cases hl
      exact .inr ⟨rfl,g1,h3,h4,rfl⟩
  · rw[if_pos hxy]at hl
    cases hl
theorem zw2{α β:Type}(f:α→β):∀(l:List α) (i:Nat),(l.map f).eraseIdx i=(l.eraseIdx i).map f
 | [],_=>rfl
 |_::_,0=>rfl
 |x::l,i+1=>by rw[bG,iY,iY,bG,zw2 f l i]
theorem qdp{s1 s2:Sh}{x y:Nd}{ox oy:Po}(key:K)(hs1:ShB s1)(hs2:ShB s2)(hx:zf8 s1 x)(hy:zf8 s2 y)(w:World)(hix:∀it∈ndI x ox,it.prop w)(hiy:∀it∈ndI y oy,it.prop w):
  Ct Tryz.prog 199 #[.agg (ndO x ox),.agg (ndO y oy),kV key] w none' (fun o:Po=>.agg (ndO (zcq x y key) o)) (fun _=>True) (fun o=>ndI (zcq x y key) o):=by
 obtain⟨-,a1,a2,a3⟩:=zku hs1 hx
 obtain⟨-,b1,b2,b3⟩:=zku hs2 hy
 rw[(zp2 hix).1,(zp2 hiy).1]
 exact zxk x y (plO ox) (plO oy) key a1 a2 a3 b1 b2 b3 w (zp2 hix).2 (zp2 hiy).2
theorem qkj{s1 s2:Sh}{x y:Nd}(hs1:ShB s1)(hs2:ShB s2)(hx:zf8 s1 x)(hy:zf8 s2 y)(hk:key.length≤1000000):NdB (zcq x y key)∧(zcq x y key).keys.length≤3000∧(zcq x y key).kids.length≤3000:=by
 obtain⟨hb,a1,a2,a3⟩:=zku hs1 hx
 obtain⟨hb',b1,b2,b3⟩:=zku hs2 hy
 unfold zcq
 split
 ·refine⟨NdB.mk' (by rw[aA];omega) (by rw[aA];omega) dQ (fun k hm=>?_) (fun k hm=>?_),by simp only[lNd];rw[aA];omega,by simp[lNd]⟩
  ·rcases aR.1 hm with h|h
   ·exact hb.kl k h
   ·exact hb'.kl k h
  ·rcases aR.1 hm with h|h
   ·exact hb.vl k h
   ·exact hb'.vl k h
 ·refine⟨NdB.mk' (by rw[aA,aW];omega) dQ (by rw[aA];omega) (fun k hm=>?_) (fun _ h=>nomatch h),by simp only[iNd];rw[aA,aW];omega,by simp only[iNd];rw[aA];omega⟩
  rcases aR.1 hm with h|h
  ·exact hb.kl k h
  ·rcases aL.1 h with rfl|h
   ·exact hk
   ·exact hb'.kl k h
theorem qks{g':Sg}(h:Tok c g s)(root:Int){n n':Nd}(o:Po)(hlf:n.leaf=false)(hv:n.vals=[])(hb:NdB n)(i:Nat)(hi1:i - 1<n.keys.length)(hkl:n.kids.length=n.keys.length+1)(hsm:n.keys.length≤1000)(hl:zhg c.sh c.N g n i= .ok (n',g')):
  Cw Tryz.prog 156 #[.pointer (some ⟨c.t,c.o,none⟩),.agg (ndO n o),.int .i64 (i:Nat)] (tmI c root s::ndI n o) (fun x:Pg×Po=>.agg (ndO n' x.2)) (fun x=>Tok c g' x.1) (fun x=>tmI c root x.1::ndI n' x.2):=by
 intro w hw ha
 have hsh:ShB c.sh:=h.sh
 have e1:c.sh.cap≤508:=eW _ _
 have e2:c.sh.fan≤508+c.sh.kw:=eW _ _
 have e3:=hsh.k2
 obtain⟨x,y,hx,hy,hxy,hcase⟩:=qg5 hl
 obtain⟨hmx, -⟩:=zgi hx
 obtain⟨hmy, -⟩:=zgi hy
 obtain⟨hbx,hx1,hx2,hx3⟩:=zku hsh hmx
 obtain⟨hby,hy1,hy2,hy3⟩:=zku hsh hmy
 obtain⟨lf,ks,vs,kd⟩:=n
 simp only at hlf hv hi1 hkl hsm hx hy hcase⊢
 subst hlf
 subst hv
 obtain⟨ok,ov,od⟩:=o
 obtain⟨kb,kc,e⟩:=zdj (hw (own 9 1 ok ks.length (ks.map kV)) (by simp[ndI])).1 oQ
 subst e
 obtain⟨db,dc,e⟩:=zdj (hw (own 3 1 od kd.length (kd.map iV)) (by simp[ndI])).1 oQ
 subst e
 obtain⟨j,hj⟩:∃j,i - 1=j:=⟨_,rfl⟩
 rw[hj]at hi1 hx hy hcase
 obtain⟨ka,hka⟩:∃x,kd[j]? =some x:=⟨_,aB oQ⟩
 obtain⟨kc2,hkc2⟩:∃x,kd[j+1]? =some x:=⟨_,aB oQ⟩
 obtain⟨key,hkey⟩:∃x,ks[j]? =some x:=⟨_,aB oQ⟩
 rw[show kd.getD j 0=ka by rw[aE,hka];rfl]at hx hcase
 rw[show kd.getD (j+1) 0=kc2 by rw[aE,hkc2];rfl]at hy hcase
 rw[show ks.getD j []=key by rw[aE,hkey];rfl]at hcase
 refine za2 [_,_,_] _ Tryz.func156 rfl rfl hw ha ?_
 unfold ndO ndI
 simp only
 simp only[zaa,Nat.reduceAdd]
 refine goA ?_
 refine zbp rfl rfl fun b4 hb4=>?_
 refine goA ?_
 refine zam rfl rfl fun b6 hb6=>?_
 refine goA ?_
 refine l_w rfl (ztv rfl rfl oQ) ?_
 refine l_w rfl (zoc (c:=(j:Int)) rfl rfl oQ) ?_
 refine goA ?_
 refine zap [0,1,2,3,4,5] 13 rfl rfl kQ ?_
 (repeat first|refine dAv [4,10] rfl rfl rfl ?_ |refine dno [4,10] rfl rfl rfl ?_ |refine dT [4,10] rfl rfl rfl rfl ?_ |refine dF [4,10] rfl rfl rfl rfl ?_)
 refine d_v [10] rfl rfl kQ (fun _ h=>goH h) rfl rfl (za0 (v:=.int .i64 (ka:Int)) rfl rfl (fun w' hw'=>zby (hw'.item (own 3 1 (some (db,dc)) kd.length (kd.map iV)) mm).1 _ _ (by simp only[aH];rw[aO,hka];rfl))) ?_
 (repeat first|refine dAv [10] rfl rfl rfl ?_ |refine dno [10] rfl rfl rfl ?_ |refine dT [10] rfl rfl rfl rfl ?_ |refine dF [10] rfl rfl rfl rfl ?_)
 refine goV rfl rfl (za0 (v:=.int .i64 (kc2:Int)) rfl rfl (fun w' hw'=>zby (hw'.item (own 3 1 (some (db,dc)) kd.length (kd.map iV)) mm).1 _ _ (by simp only[aH];rw[aO,hkc2];rfl))) ?_
 refine goX ?_
 refine zay [2,0,1,3,4,5] rfl rfl ?_
 refine lCu [tmI c root s] rfl (zag c root s) (fun w1 hw1 hh1 ha1=>zmz h root ka hx w1 hh1) fun⟨⟨s1,ox⟩,h1⟩=>?_
 have h1:Tok c g s1:=h1
 dsimp only
 unfold ndI
 simp only[aF,aJ]
 refine goA ?_
 refine lCu [tmI c root s1] rfl (zag c root s1) (fun w1 hw1 hh1 ha1=>zmz h1 root kc2 hy w1 hh1) fun⟨⟨s2,oy⟩,h2⟩=>?_
 have h2:Tok c g s2:=h2
 dsimp only
 unfold ndI
 simp only[aF,aJ]
 refine goA ?_
 refine zam rfl rfl fun b9 hb9=>?_
 refine zam rfl rfl fun b10 hb10=>?_
 refine za1 rfl (zah (zcg _ _ _) (zaf (cs':=ndO x ox) rfl rfl rfl rfl (zdl x ox) rfl)) fun _=>?_
 refine za1 rfl (zah (zcg _ _ _) (zaf (cs':=ndO y oy) rfl rfl rfl rfl (zdl y oy) rfl)) fun _=>?_
 refine goA ?_
 refine zd2 37 _ (.bool true) rfl (by show Value.bool (x.leaf==y.leaf)=_;rw[hxy];simp) ?_
 refine lPu rfl (fun w1 hw1=>zin _ w1) ?_
 refine goA ?_
 refine zap [0,1,2,3,4,5,6,7,8,9,10,11,12,13] 9 rfl rfl kQ ?_
 (repeat first|refine dAv [6] rfl rfl rfl ?_ |refine dno [6] rfl rfl rfl ?_ |refine dT [6] rfl rfl rfl rfl ?_ |refine dF [6] rfl rfl rfl rfl ?_)
 refine goV rfl rfl (za0 (v:=kV key) rfl rfl (fun w' hw'=>zby (hw'.item (own 9 1 (some (kb,kc)) ks.length (ks.map kV)) mm).1 _ _ (by simp only[aH];rw[aO,hkey];rfl))) ?_
 refine goE ?_
 have hJ:=fun(w1:World) (hix:∀it∈ndI x ox,it.prop w1) (hiy:∀it∈ndI y oy,it.prop w1)=>qdp key hsh hsh hmx hmy w1 hix hiy
 have hB:=qkj hsh hsh hmx hmy (hb.kl key (bI hkey))
 obtain⟨both,hboth⟩:∃b,zcq x y key=b:=⟨_,rfl⟩
 rw[hboth]at hJ hcase hB
 obtain⟨hB,hB1,hB2⟩:=hB
 refine zzm (n':=1) (listed':= #[true,true,true,true,true,true,true,true,true,false]) (fun z:Nat×Po=>[(0,.pointer (some ⟨c.t,c.o,none⟩)),(2,.int .i64 (j:Int)),(4,.pointer (some ⟨b4,0,none⟩)),(6,.pointer (some ⟨b6,0,none⟩)),(7,.int .i64 (ka:Int)),(8,.int .i64 (kc2:Int)),(11,.pointer (some ⟨z.1,0,none⟩)),(46,.agg (ndO both z.2))]) (fun z=>[pt z.1 (.cells #[.bool false,.slice none 0 0,.slice none 0 0,.slice none 0 0] 185 (0,0)),own 9 1 z.2.k both.keys.length (both.keys.map kV),own 9 1 z.2.v both.vals.length (both.vals.map kV),own 3 1 z.2.d both.kids.length (both.kids.map iV),tmI c root s2,pt b6 (.cells #[.bool false,.slice none 0 0,.slice none 0 0,.slice none 0 0] 185 (0,0)),pt b4 (.cells #[.bool false,slV (some (kb,kc)) ks.length,slV ov 0,slV (some (db,dc)) kd.length] 185 (0,0)),own 9 1 (some (kb,kc)) ks.length (ks.map kV),own 9 1 ov 0 [],own 3 1 (some (db,dc)) kd.length (kd.map iV)]) ?_ (fun hk=>?_)
 rotate_left
 ·refine zt7 7 8 ⟨kQ,dQ,dQ⟩ rfl rfl rfl rfl (qhd rfl kQ rfl (fun w1 hw1=>hJ w1 (zdw hw1 mm mm mm) (zdw hw1 mm mm mm))) (zlg rfl rfl) (fun _ _ h=>goH h) (fun _ _ h=>goH h) (fun⟨ob,_⟩=>?_) (fun⟨b11,_⟩=>?_)
  ·refine zat 8 ⟨kQ,dQ⟩ rfl rfl (zlg rfl rfl) (fun _ _ h=>goH h) fun⟨b11,_⟩=>?_
   unfold ndI
   simp only[aF,aJ]
   refine zfa [0,1,2,3,6,13,14,15,16,17] rfl rfl ?_
   exact hk (b11,ob) _ ⟨rfl,rfl,rfl,rfl,rfl,rfl,rfl,rfl,trivial⟩
  ·refine zat 7 ⟨kQ,dQ⟩ rfl rfl (qhd rfl kQ rfl (fun w1 hw1=>hJ w1 (zdw hw1 mm mm mm) (zdw hw1 mm mm mm))) (fun _ _ h=>goH h) fun⟨ob,_⟩=>?_
   unfold ndI
   simp only[aF,aJ]
   refine zfa [3,0,1,2,6,13,14,15,16,17] rfl rfl ?_
   exact hk (b11,ob) _ ⟨rfl,rfl,rfl,rfl,rfl,rfl,rfl,rfl,trivial⟩
 ·intro ⟨b11,ob⟩
  simp only
  refine zet ⟨kQ,kQ⟩ rfl rfl (zaf (cs':=ndO both ob) rfl rfl rfl rfl (zdl both ob) rfl) fun _=>?_
  refine qi7 (fun w hw=>And.intro (zas (hw.item (own 9 1 ob.k both.keys.length (both.keys.map kV)) mm).1).1 (And.intro (zas (hw.item (own 9 1 ob.v both.vals.length (both.vals.map kV)) mm).1).1 (zas (hw.item (own 3 1 ob.d both.kids.length (both.kids.map iV)) mm).1).1)) fun⟨f1,f2,f3⟩=>?_
  unfold ndO
  rw[f1,f2,f3]
  obtain⟨bl,hbl⟩:∃b,both.leaf=b:=⟨_,rfl⟩
  obtain⟨wd,hwd⟩:∃b,zv7 c.sh both=b:=⟨_,rfl⟩
  rw[hbl]
  refine zka ?_
  refine zr5 ?_
  refine zr5 ?_
  refine zq3 (w0:=w) (F:=za4 [tmI c root s,own 9 1 (some (kb,kc)) ks.length (ks.map kV),own 9 1 ov 0 [],own 3 1 (some (db,dc)) kd.length (kd.map iV)]) (α:=Unit) (fun _=>[(0,.pointer (some ⟨c.t,c.o,none⟩)),(2,.int .i64 (j:Int)),(4,.pointer (some ⟨b4,0,none⟩)),(6,.pointer (some ⟨b6,0,none⟩)),(7,.int .i64 (ka:Int)),(8,.int .i64 (kc2:Int)),(11,.pointer (some ⟨b11,0,none⟩)),(70,.bool wd)]) (fun _=>True) (fun _=>[pt b11 (.cells #[.bool bl,.slice (slA ob.k) both.keys.length (slC ob.k),.slice (slA ob.v) both.vals.length (slC ob.v),.slice (slA ob.d) both.kids.length (slC ob.d)] 185 (0,0)),own 9 1 ob.k both.keys.length (both.keys.map kV),own 9 1 ob.v both.vals.length (both.vals.map kV),own 3 1 ob.d both.kids.length (both.kids.map iV),tmI c root s2,pt b6 (.cells #[.bool false,.slice none 0 0,.slice none 0 0,.slice none 0 0] 185 (0,0)),pt b4 (.cells #[.bool false,slV (some (kb,kc)) ks.length,slV ov 0,slV (some (db,dc)) kd.length] 185 (0,0)),own 9 1 (some (kb,kc)) ks.length (ks.map kV),own 9 1 ov 0 [],own 3 1 (some (db,dc)) kd.length (kd.map iV)]) ?_ fun _ _=>?_
  ·refine zap [0,1,2,3,4,5,6,7,8,9] 24 rfl rfl kQ ?_
   unfold zv7 at hwd
   rw[hbl]at hwd
   refine goE ?_
   refine goV rfl rfl (qa1 rfl mm) ?_
   refine dPu 7 rfl rfl (fun w1 hw1=>zjl hsh w1) ?_
   by_cases hA:c.sh.cap<both.keys.length
   ·cases bl with
    |true=>
     obtain rfl:true=wd:=by rw[←hwd,decide_eq_true hA];rfl
     refine goE ?_
     refine zdn kQ ?_
     exact zep () ⟨rfl,rfl,rfl,rfl,rfl,rfl,rfl,rfl,trivial⟩ trivial (fun w' hw'=>hw')
    |false=>
     have hw2:decide ((both.kids.length:Int)>(c.sh.fan:Int))=wd:=by rw[←hwd,eH,gS,decide_eq_decide];omega
     refine goE ?_
     refine goV rfl rfl (qa1 rfl mm) ?_
     refine dPu 21 rfl rfl (fun w1 hw1=>zhz hsh w1) ?_
     refine goE ?_
     refine zdn kQ ?_
     rw[hw2]
     exact zep () ⟨rfl,rfl,rfl,rfl,rfl,rfl,rfl,rfl,trivial⟩ trivial (fun w' hw'=>hw')
   ·have hw2:decide ((both.kids.length:Int)>(c.sh.fan:Int))=wd:=by rw[←hwd,decide_eq_false hA,lI,gS,decide_eq_decide];omega
    refine goE ?_
    refine goV rfl rfl (qa1 rfl mm) ?_
    refine dPu 21 rfl rfl (fun w1 hw1=>zhz hsh w1) ?_
    refine goE ?_
    refine zdn kQ ?_
    rw[hw2]
    exact zep () ⟨rfl,rfl,rfl,rfl,rfl,rfl,rfl,rfl,trivial⟩ trivial (fun w' hw'=>hw')
  ·rw[hwd]at hcase
   rcases hcase with ⟨rfl,g1,k,q,hd1,hsp,rfl⟩ |⟨rfl,g1,hd1,hsv,rfl⟩
   ·refine goA ?_
    refine zay [4,0,1,2,3,5,6,7,8,9] rfl rfl ?_
    refine lCu [tmI c root s2] rfl (zag c root s2) (fun w1 hw1 hh1 ha1=>zub h2 root kc2 hd1 w1 hh1) fun⟨s3,h3⟩=>?_
    have h3:Tok c g1 s3:=h3
    dsimp only
    simp only[aF,aJ]
    refine goA ?_
    rw[←f1,←f2,←f3,←hbl]
    refine zay [0,2,3,4,1,5,6,7,8,9] rfl rfl ?_
    refine lCu (tmI c root s3::ndI both ob) rfl (zco _ _ _ _ _) (fun w1 hw1 hh1 ha1=>zmj h3 root ka both ob hB hsp w1 hh1 ha1) fun⟨s4,h4⟩=>?_
    have h4:Tok c g' s4:=h4
    dsimp only
    simp only[aF,aJ]
    refine goA ?_
    refine zam rfl rfl fun b12 hb12=>?_
    refine za1 rfl (zaf rfl rfl rfl rfl rfl rfl) fun _=>?_
    refine goA ?_
    refine zcx [5,7,0,1,2,3,4,6] rfl rfl ?_
    refine zap [2,3,4,5,6,7] 15 rfl rfl kQ ?_
    refine goE ?_
    refine zat 12 ⟨kQ,dQ⟩ rfl rfl (zvi (v:=kV k) rfl rfl rfl rfl rfl rfl oQ) (fun _ _ h=>goH h) fun _=>?_
    refine zfa [1,0,2,3,4,5,6,7] rfl rfl ?_
    refine goE ?_
    refine zat 14 ⟨kQ,dQ⟩ rfl rfl (zvi (v:=iV q) rfl rfl rfl rfl rfl rfl oQ) (fun _ _ h=>goH h) fun _=>?_
    refine zdn kQ ?_
    rw[show(ks.map kV).set (0+j) (kV k)=(ks.set j k).map kV by rw[aH,gO],show(kd.map iV).set (0+(j+1)) (iV q)=(kd.set (j+1) q).map iV by rw[aH,gO]]
    have l1:ks.length=(ks.set j k).length:=bE.symm
    have l2:kd.length=(kd.set (j+1) q).length:=bE.symm
    refine goA ?_
    refine za1 rfl (zah (zjj _ _ _ _ _ _ _) (zaf rfl rfl rfl rfl (zdl ⟨false,ks,[],kd⟩ ⟨some (kb,kc),ov,some (db,dc)⟩) rfl)) fun _=>?_
    refine zay [4,2,7,1,0] rfl rfl ?_
    refine goA ?_
    exact zbd (s4,⟨some (kb,kc),ov,some (db,dc)⟩) rfl ⟨_,rfl,zaq rfl mm⟩ (by simp only[ndO,iNd];rw[←l1,←l2];rfl) h4 (by simp only[iNd];rw[←l1,←l2];exact .cons_cons _ (.cons_cons _ (.cons_cons _ (.cons_cons _ (aK _))))) (zco _ _ _ _ _)
   ·refine goA ?_
    refine zay [4,0,1,2,3,5,6,7,8,9] rfl rfl ?_
    refine lCu [tmI c root s2] rfl (zag c root s2) (fun w1 hw1 hh1 ha1=>zub h2 root kc2 hd1 w1 hh1) fun⟨s3,h3⟩=>?_
    have h3:Tok c g1 s3:=h3
    dsimp only
    simp only[aF,aJ]
    refine goA ?_
    refine lCu [tmI c root s3] rfl (zag c root s3) (fun w1 hw1 hh1 ha1=>zcv h3 root ka both hbl rfl rfl rfl hB hsv w1 ⟨za8 (hw1.item (own 9 1 ob.k both.keys.length (both.keys.map kV)) mm).1,za8 (hw1.item (own 9 1 ob.v both.vals.length (both.vals.map kV)) mm).1,za8 (hw1.item (own 3 1 ob.d both.kids.length (both.kids.map iV)) mm).1⟩ ⟨zbx hw1 (o:=ob.k) mm,zbx hw1 (o:=ob.v) mm,zbx hw1 (o:=ob.d) mm⟩ hh1) fun⟨s4,h4⟩=>?_
    have h4:Tok c g' s4:=h4
    dsimp only
    simp only[aF,aJ]
    refine goA ?_
    refine zcx [7,9,0,5,6,8] rfl rfl ?_
    refine zap [2,3,4,5] 14 rfl rfl kQ ?_
    refine goE ?_
    refine zat 5 ⟨kQ,dQ⟩ rfl rfl (zfb (pre:=[own 9 1 (some (kb,kc)) ks.length (ks.map kV)]) rfl kQ rfl (by simp[zac]) (fun w1 hw1 hh1 ha1=>zit kb kc ks.length j (ks.map kV) (zl4 ks) oQ oQ w1 hh1)) (fun _ _ h=>goH h) fun⟨_,_⟩=>?_
    refine goE ?_
    refine zfa [1,0,2,3,4,5] rfl rfl ?_
    refine zat 12 ⟨kQ,dQ⟩ rfl rfl (zfb (pre:=[own 3 1 (some (db,dc)) kd.length (kd.map iV)]) rfl kQ rfl (by simp[zac]) (fun w1 hw1 hh1 ha1=>zux db dc kd.length (j+1) (kd.map iV) (qgf kd) oQ oQ w1 hh1)) (fun _ _ h=>goH h) fun⟨_,_⟩=>?_
    simp only[aF,aJ]
    refine zfa [4,0,1,2,3,5] rfl rfl ?_
    refine zor 14 rfl rfl rfl rfl rfl rfl rfl rfl rfl rfl rfl rfl rfl rfl rfl kQ kQ (by show(1:Nat)<4;decide) (by show(3:Nat)<4;decide) ?_
    have l1:ks.length - 1=(ks.eraseIdx j).length:=(eS oQ).symm
    have l2:kd.length - 1=(kd.eraseIdx (j+1)).length:=(eS oQ).symm
    rw[zw2,zw2]
    refine goA ?_
    refine za1 rfl (zah (zji _ _ _ _ _ _) (zaf rfl rfl rfl rfl (zdl ⟨false,ks.eraseIdx j,[],kd.eraseIdx (j+1)⟩ ⟨some (kb,kc),ov,some (db,dc)⟩) rfl)) fun _=>?_
    refine goA ?_
    refine zgf [4,3,5,2,0] rfl rfl ?_
    exact zbd (s4,⟨some (kb,kc),ov,some (db,dc)⟩) rfl ⟨_,rfl,zaq rfl mm⟩ (by simp only[ndO,iNd];rw[←l1,←l2];rfl) h4 (by simp only[iNd];rw[←l1,←l2];exact .cons_cons _ (.cons_cons _ (.cons_cons _ (.cons_cons _ (aK _))))) (zco _ _ _ _ _)
end Go.Proofs.YthafakdplhdfjaaGreatDoor
