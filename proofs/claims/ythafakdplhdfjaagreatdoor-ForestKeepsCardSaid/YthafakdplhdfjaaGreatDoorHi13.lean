/- Parts: law 8; tree; slices; Marks and deferred calls at a function's end. No condition. -/
import Derived.Test.YthafakdplhdfjaaGreatDoorHi12
import Derived.Test.YthafakdplhdfjaaGreatDoorHi07
import Derived.Test.YthafakdplhdfjaaGreatDoorHi11
set_option maxRecDepth 100000
set_option maxHeartbeats 40000000
namespace Go.Proofs.YthafakdplhdfjaaGreatDoor
open Go.RowKit Go.Eng Go.Eng.Bm
theorem qe8(a b:Bys):seq ⟨a.toArray⟩ ⟨b.toArray⟩=decide (a=b):=by
 rw[eA,qat,decide_eq_true_iff]
 constructor
 ·intro h
  have:=congrArg (fun x:ByteArray=>x.data.toList) h
  simpa using this
 ·intro h;rw[h]
end Go.Proofs.YthafakdplhdfjaaGreatDoor
namespace Go.Eng
open Go.RowKit
theorem qf9{l:zav}:∀{L:zav},Has l L→∀{t:Nat} {v:Value},get L t=some v→get l t=some v
 | [],_,_,_,h=>by cases h
 |(k,u)::r,hl,t,v,h=>by
  rw[zb4]at h
  split at h
  ·rename_i hk
   cases h
   rw[←hk];exact hl.1
  ·exact qf9 hl.2 h
theorem zzm{P:Program}{ops:Array Oper}{Q:Exit→Act→World→Prop}{S:World→Prop}{t n n':Nat}{N:Fm}{listed listed':Array Bool}{l:zav}{w0:World}{F:Nat→Prop}{m:List Item}{α:Type}(L:α→zav)(M:α→List Item)
  (k:∀x,HD P ops Q S t N n' listed' (L x) (Hp w0 F (M x))) (h:(∀x l',Has l' (L x)→HD P ops Q S t N n' listed' l' (Hp w0 F (M x)))→HD P ops Q S t N n listed l (Hp w0 F m)):HD P ops Q S t N n listed l (Hp w0 F m):=
 h fun x l' hl=>by
  have hk:=k x
  unfold HD at hk⊢
  exact fun inv a w s hw=>hk inv a w ⟨s.size,s.defers,fun t' v hv=>s.slot t' v (qf9 hl hv)⟩ hw
end Go.Eng
namespace Go.Proofs.YthafakdplhdfjaaGreatDoor
open Go.RowKit Go.Eng Go.Eng.Bm
end Go.Proofs.YthafakdplhdfjaaGreatDoor
namespace Go.Proofs.YthafakdplhdfjaaGreatDoor
open Go.RowKit Go.Eng Go.Eng.Bm Go.Eng.Tr
variable{s:Sh}{N:Nat}{g:Sg}{at_:Int}{n:Nd}
theorem zgi(hl:zfs s N g at_= .ok n):zf8 s n∧∃i:Nat,at_=(i:Int)∧1≤i∧i<N:=by
 unfold zfs at hl
 split at hl
 ·rename_i hc
  split at hl
  ·rename_i ht;cases hl
   exact⟨(qo7 ht).1,at_.toNat,oQ,oQ,oQ⟩
  ·cases hl
 ·cases hl
theorem zku(hs:ShB s)(h:zf8 s n):NdB n∧n.keys.length≤1000∧n.vals.length≤1000∧n.kids.length≤1000:=by
 have h1:=hs.k1
 have h2:=hs.k2
 have h3:=hs.v2
 have e1:s.cap≤508:=eZ _ _
 have e2:s.fan≤508+s.kw:=eZ _ _
 have hk:∀k∈n.keys,k.length≤1000000:=fun k hk=>by rw[h.wide k hk];omega
 cases hl:n.leaf with
 |true=>
  obtain⟨a1,a2,a3,a4⟩:=h.leaf hl
  rw[a1]
  refine⟨⟨oQ,oQ,by rw[a1];decide,hk,fun k hk=>by rw[a3 k hk];omega⟩,oQ,oQ,by simp⟩
 |false=>
  obtain⟨a1,a2,a3,a4,a5⟩:=h.inner hl
  rw[a2]
  refine⟨⟨oQ,by rw[a2];decide,oQ,hk,fun k hk=>by rw[a2]at hk;cases hk⟩,oQ,by simp,oQ⟩
def plO(o:Po):Pl:=⟨(slA o.k,slC o.k),(slA o.v,slC o.v),(slA o.d,slC o.d)⟩
variable{o:Po}
theorem zp2{w:World}(hi:∀it∈ndI n o,it.prop w): .agg (ndO n o)=ndV n (plO o)∧NdR w n (plO o):=by
 have hk:=hi (own 9 1 o.k n.keys.length (n.keys.map kV)) (by simp[ndI])
 have hv:=hi (own 9 1 o.v n.vals.length (n.vals.map kV)) (by simp[ndI])
 have hd:=hi (own 3 1 o.d n.kids.length (n.kids.map iV)) (by simp[ndI])
 refine⟨?_,za8 hk,za8 hv,za8 hd⟩
 unfold ndO ndV plO
 rw[(zas hk).1,(zas hv).1,(zas hd).1]
theorem zdw{w w0:World}{F:Nat→Prop}{m:List Eng.Item}(hw:Hp w0 F m w)(hk:own 9 1 o.k n.keys.length (n.keys.map kV)∈m)(hv:own 9 1 o.v n.vals.length (n.vals.map kV)∈m)(hd:own 3 1 o.d n.kids.length (n.kids.map iV)∈m):∀it∈ndI n o,it.prop w:=by
 intro it hm
 rcases hm with _|⟨_,_|⟨_,_|⟨_,hm⟩⟩⟩
 ·exact(hw.item _ hk).1
 ·exact(hw.item _ hv).1
 ·exact(hw.item _ hd).1
 ·cases hm
theorem zl0(hm:zf8 s n)(hb:n.keys.length≤1000)(k:K)(w:World)(hi:∀it∈ndI n o,it.prop w):Pu Tryz.prog 104 #[.agg (ndO n o),kV k] w (.tuple #[.int .i64 (lb n.keys k:Nat),.bool (fd n.keys k)]):=by
 rw[(zp2 hi).1]
 exact zsi n (plO o) hm.sorted oQ k w (zp2 hi).2.k
theorem zoq(hm:zf8 s n)(hb:n.keys.length≤1000)(k:K)(w:World)(hi:∀it∈ndI n o,it.prop w):Pu Tryz.prog 152 #[.agg (ndO n o),kV k] w (.int .i64 (dn n.keys k:Nat)):=by
 rw[(zp2 hi).1]
 exact qde n (plO o) hm.sorted oQ k w (zp2 hi).2.k
theorem qgn{α β:Type}(f:α→β)(l:List α)(i:Nat)(x:α):ins (l.map f) i (f x)=(ins l i x).map f:=by
 unfold ins;rw[cD,bG,eO,eM]
theorem zl4(l:List K):zb7 (l.map kV)=true:=zba.2 fun v hv=>by obtain⟨k, -,rfl⟩:=aT.1 hv;rfl
theorem qgf(l:List Nat):zb7 (l.map iV)=true:=zba.2 fun v hv=>by obtain⟨k, -,rfl⟩:=aT.1 hv;rfl
theorem zis(e:TypeId)(o:Option (Nat×Nat))(n:Nat)(xs:List Value)(vb:Nat)(x:Value):∀it∈[own e 1 o n xs,own e 1 (some (vb,1)) 1 [x]],it.Stable none':=by simp[zac]
variable{val:K}
theorem zql{key:K}{d:Nat}{g':Sg}{k:K}{q:Nat}(hl:Tr.putF s N key val (d+1) g at_= .ok ((k,q),g')):∃n,zfs s N g at_= .ok n∧
    ((n.leaf=true∧zcc s N g at_.toNat (qap n key val)= .ok ((k,q),g'))∨
     (n.leaf=false∧∃k1 q1 g1,Tr.putF s N key val d g (n.kids.getD (dn n.keys key) 0:Nat)= .ok ((k1,q1),g1)∧((q1=0∧k=k1∧q=0∧g'=g1)∨(q1≠0∧zcc s N g1 at_.toNat (iNd (ins n.keys (dn n.keys key) k1) (ins n.kids (dn n.keys key+1) q1))= .ok ((k,q),g'))))):=by
  rw[Tr.putF]at hl
  obtain⟨n,h1,h2⟩:=zb6 hl
  refine⟨n,h1,?_⟩
  cases hlf:n.leaf with
  |true=>
    simp only[hlf,if_true]at h2
    exact .inl ⟨rfl,h2⟩
  |false=>
    simp only[hlf,bV,if_false]at h2
    obtain⟨⟨⟨k1,q1⟩,g1⟩,h3,h4⟩:=zb6 h2
    refine .inr ⟨rfl,k1,q1,g1,h3,?_⟩
    by_cases hq:q1=0
    · simp only[hq,if_true]at h4
      cases h4
      exact .inl ⟨hq,rfl,rfl,rfl⟩
    · simp only[hq,if_false]at h4
      exact .inr ⟨hq,h4⟩
theorem NdB.vset(h:NdB n)(i:Nat)(hv:val.length≤1000000)(kd:List Nat)(hk:kd.length≤100000)(lf:Bool):NdB ⟨lf,n.keys,n.vals.set i val,kd⟩:=
 ⟨h.k,by show(n.vals.set i val).length≤_;rw[bE];exact h.v,hk,h.kl,fun k hk=>by
  rcases cG hk with hk|rfl
  ·exact h.vl k hk
  ·exact hv⟩
theorem NdB.mk'{lf:Bool}{ks vs:List K}{kd:List Nat}(h1:ks.length≤100000)(h2:vs.length≤100000)(h3:kd.length≤100000)(h4:∀k∈ks,k.length≤1000000)(h5:∀k∈vs,k.length≤1000000):NdB ⟨lf,ks,vs,kd⟩:=⟨h1,h2,h3,h4,h5⟩
theorem qgm{l:List K}{i:Nat}{x:K}(h:∀k∈l,k.length≤1000000)(hx:x.length≤1000000):∀k∈ins l i x,k.length≤1000000:=fun k hk=>by
 rcases zf2 hk with rfl|hk
 ·exact hx
 ·exact h k hk
theorem zqz{g':Sg}{at_:Nat}{k:K}{q:Nat}(hl:zcc s N g at_ n= .ok ((k,q),g'))(hb:∀x∈n.keys,x.length≤1000000):k.length≤1000000:=by
 rcases ztk hl with ⟨-,rfl, -, -⟩ |⟨-, -, -, -, -, -, -,rfl⟩ |⟨-, -, -, -, -, -, -,rfl⟩
 ·exact bA _
 ·cases hd:n.keys.drop (n.keys.length/2)with
  |nil=>exact bA _
  |cons x l=>exact hb x (cF (i:=n.keys.length/2) (by rw[hd];exact .head _))
 ·rw[aI]
  cases hg:n.keys[n.kids.length/2 - 1]? with
  |none=>exact bA _
  |some x=>exact hb x (bH hg)
theorem qec{key:K}:∀x∈(qap n key val).keys,x=key∨x∈n.keys:=fun x hx=>by
 unfold qap at hx
 split at hx
 ·exact .inr hx
 ·exact zf2 hx
theorem zvt{s:Sh}(hs:ShB s){N:Nat}{key val:K}(hkl:key.length≤1000000):∀(d:Nat) (g:Sg) (at_:Int) {k:K} {q:Nat} {g':Sg},Tr.putF s N key val d g at_= .ok ((k,q),g')→k.length≤1000000
 |0,_,_,_,_,_,hl=>by rw[Tr.putF]at hl;cases hl
 |d+1,g,at_,k,q,g',hl=>by
  obtain⟨n,h1,hcase⟩:=zql hl
  obtain⟨hmay, -⟩:=zgi h1
  have hb:=(zku hs hmay).1.kl
  rcases hcase with ⟨-,hsp⟩ |⟨-,k1,q1,g1,hp,hcase⟩
  ·refine zqz hsp fun x hx=>?_
   rcases qec x hx with rfl|hx
   ·exact hkl
   ·exact hb x hx
  ·have hk1:=zvt hs hkl d g _ hp
   rcases hcase with ⟨-,rfl, -, -⟩ |⟨-,hsp⟩
   ·exact hk1
   ·refine zqz hsp fun x hx=>?_
    rcases zf2 hx with rfl|hx
    ·exact hk1
    ·exact hb x hx
theorem qow(c:Tc)(root:Int)(key val:K)(hkl:key.length≤1000000)(hvl:val.length≤1000000):∀(d:Nat) (g:Sg) (s:Pg) (at_:Int) {k:K} {q:Nat} {g':Sg},Tok c g s→d≤16→Tr.putF c.sh c.N key val d g at_= .ok ((k,q),g')→∀w:World,(∀it∈[tmI c root s],zbq it w)→
  Ct Tryz.prog 121 #[.pointer (some ⟨c.t,c.o,none⟩),.int .i64 at_,.int .i64 (d:Nat),kV key,kV val] w (za4 [tmI c root s]) (fun _:Pg=>.agg #[kV k,.int .i64 (q:Int)]) (fun s'=>Tok c g' s') (fun s'=>[tmI c root s']):=by
 intro d
 induction d with
 |zero=>
  intro g s at_ k q g' _ _ hl
  rw[Tr.putF]at hl;cases hl
 |succ d ih=>
  intro g s at_ k q g' h hd hl w hw
  obtain⟨n,h1,hcase⟩:=zql hl
  obtain⟨hmay,i0,hi0,hi1,hi2⟩:=zgi h1
  subst hi0
  rw[cC]at hcase
  obtain⟨hnb,hb1,hb2,hb3⟩:=zku h.sh hmay
  refine za2 [_,_,_,_,_] _ Tryz.func121 rfl rfl hw (.cons (fun _ h=>nomatch h) .nil) ?_
  simp only[zaa,Nat.reduceAdd]
  refine goA ?_
  refine zam rfl rfl fun b10 hb10=>?_
  refine goA ?_
  refine lPu rfl (fun w1 hw1=>zvc oQ _ w1) ?_
  refine goA ?_
  refine zay [1,0] rfl rfl ?_
  refine lCu [tmI c root s] rfl (zag c root s) (fun w1 hw1 hh1 ha1=>zmz h root i0 h1 w1 hh1) fun⟨⟨s1,o⟩,hs1⟩=>?_
  have hs1:Tok c g s1:=hs1
  dsimp only
  refine goA ?_
  refine zam rfl rfl fun b11 hb11=>?_
  refine za1 rfl (zaf (cs':=ndO n o) rfl rfl rfl rfl (zdl n o) rfl) fun _=>?_
  unfold ndI
  simp only[aD,aH]
  rcases hcase with ⟨hlf,hsp⟩ |⟨hlf,k1,q1,g1,hp,hcase⟩
  ·obtain⟨hkd,hkv, -, -⟩:=hmay.leaf hlf
   have hlb:=qkn n.keys key
   obtain⟨lf,ks,vs,kd⟩:=n
   simp only at hlf hkd hkv hlb hb1 hb2 hsp⊢
   subst hlf
   subst hkd
   unfold ndO
   refine goA ?_
   refine lPu rfl (fun w1 hw1=>zl0 hmay hb1 key w1 (zdw hw1 mm mm mm)) ?_
   simp only
   obtain⟨f,hf⟩:∃f,fd ks key=f:=⟨_,rfl⟩
   unfold qap at hsp
   simp only at hsp
   rw[hf]at hsp⊢
   obtain⟨ok,ov,od⟩:=o
   simp only
   cases f with
   |true=>
    rw[if_pos rfl]at hsp
    have hlt:lb ks key<vs.length:=by rw[←hkv];exact(aF.1 (zly.1 hf)).1
    refine zch (fun w hw=>zdj (hw.item (own 9 1 ov vs.length (vs.map kV)) mm).1 oQ) fun⟨vb,vc,e⟩=>?_
    subst e
    refine goA ?_
    refine za1 rfl (zah (zfq _ _ _ _ _) (zvi rfl rfl rfl rfl rfl rfl oQ)) fun _=>?_
    rw[show(vs.map kV).set (0+lb ks key) (kV val)=(vs.set (lb ks key) val).map kV by rw[aJ,gR]]
    have hvl':vs.length=(vs.set (lb ks key) val).length:=bE.symm
    rw[hvl']
    refine goA ?_
    refine zay [2,3,0,4,1,5] rfl rfl ?_
    refine lCu (tmI c root s1::ndI ⟨true,ks,vs.set (lb ks key) val,[]⟩ ⟨ok,some (vb,vc),od⟩) rfl (zco _ _ _ _ _) (fun w1 hw1 hh1 ha1=>zmj hs1 root i0 ⟨true,ks,vs.set (lb ks key) val,[]⟩ ⟨ok,some (vb,vc),od⟩ (hnb.vset _ hvl [] dQ true) hsp w1 hh1 ha1) fun⟨s2,h2⟩=>?_
    refine goA ?_
    refine za1 rfl (zah (zdf _ _ _ _) (zaf rfl rfl rfl rfl rfl rfl)) fun _=>?_
    refine goA ?_
    exact zbd s2 rfl ⟨_,rfl,zaq rfl (.head _)⟩ rfl h2 (.cons _ (.cons_cons _ (aL _))) (zag _ _ _)
   |false=>
    rw[if_neg bR]at hsp
    have hA:=fun(vb:Nat) (w1:World)=>ziu ok ks.length (lb ks key) (ks.map kV) (kV key) vb (zl4 ks) rfl hlb oQ w1
    have hB:=fun(vb:Nat) (w1:World)=>ziu ov vs.length (lb ks key) (vs.map kV) (kV val) vb (zl4 vs) rfl oQ oQ w1
    refine goA ?_
    refine zcx [2,3,0,1,4,5] rfl rfl ?_
    refine zap [2,3,4,5] 13 rfl rfl kQ ?_
    refine goE ?_
    refine qft 4 5 10 11 12 (A:=[own 9 1 ok ks.length (ks.map kV)]) (B:=[own 9 1 ov vs.length (vs.map kV)]) (A':=fun o:{ o:Option (Nat×Nat)//True }=>[own 9 1 o.1 (ks.length+1) (ins (ks.map kV) (lb ks key) (kV key))]) (B':=fun o:{ o:Option (Nat×Nat)//True }=>[own 9 1 o.1 (vs.length+1) (ins (vs.map kV) (lb ks key) (kV val))]) kQ rfl rfl rfl rfl kQ rfl rfl rfl rfl rfl rfl rfl rfl rfl rfl rfl rfl rfl rfl (fun _ h=>h) (fun l' m' ext=>zrw (ext 39 _ rfl) kQ rfl rfl rfl) (fun a l' m' ext hd=>qkz (pre:=[own 9 1 ok ks.length (ks.map kV),own 9 1 (some (a.1,1)) 1 [kV key]]) (ext 37 _ rfl) (ext 38 _ rfl) hd kQ kQ (zis _ _ _ _ _ _) (fun w1 hw1 hh1 ha1=>hA a.1 w1 hh1 ha1)) (fun l' m' ext=>zrw (ext 45 _ rfl) kQ rfl rfl rfl) (fun a l' m' ext hd=>qkz (pre:=[own 9 1 ov vs.length (vs.map kV),own 9 1 (some (a.1,1)) 1 [kV val]]) (ext 43 _ rfl) (ext 44 _ rfl) hd kQ kQ (zis _ _ _ _ _ _) (fun w1 hw1 hh1 ha1=>hB a.1 w1 hh1 ha1)) fun⟨ok',_⟩ ⟨ov',_⟩=>?_
    refine zfa [2,0,1,3,4,5] rfl rfl ?_
    refine zor 13 rfl rfl rfl rfl rfl rfl rfl rfl rfl rfl rfl (zct _ _) (zc3 _ _) (zct _ _) (zc3 _ _) kQ kQ (by show(1:Nat)<4;decide) (by show(2:Nat)<4;decide) ?_
    simp only[qgn]
    rw[←zf1 ks (lb ks key) key,←zf1 vs (lb ks key) val]
    refine goA ?_
    refine zay [3,1,2,4,0,5] rfl rfl ?_
    refine lCu (tmI c root s1::ndI ⟨true,ins ks (lb ks key) key,ins vs (lb ks key) val,[]⟩ ⟨ok',ov',od⟩) rfl (zco _ _ _ _ _) (fun w1 hw1 hh1 ha1=>zmj hs1 root i0 ⟨true,ins ks (lb ks key) key,ins vs (lb ks key) val,[]⟩ ⟨ok',ov',od⟩ (NdB.mk' (by rw[zf1];omega) (by rw[zf1];omega) dQ (qgm hnb.kl hkl) (qgm hnb.vl hvl)) hsp w1 hh1 ha1) fun⟨s3,h3⟩=>?_
    refine goA ?_
    refine za1 rfl (zah (zdf _ _ _ _) (zaf rfl rfl rfl rfl rfl rfl)) fun _=>?_
    refine goA ?_
    exact zbd s3 rfl ⟨_,rfl,zaq rfl (.head _)⟩ rfl h3 (.cons _ (.cons_cons _ (aL _))) (zag _ _ _)
  ·obtain⟨hkr,hvs,hkl1,hk1, -⟩:=hmay.inner hlf
   have hk1b:k1.length≤1000000:=zvt h.sh hkl d g _ hp
   have hdn:=zoh n.keys key
   obtain⟨lf,ks,vs,kd⟩:=n
   simp only at hlf hvs hkl1 hk1 hdn hb1 hb3 hp hcase⊢
   subst hlf
   subst hvs
   obtain⟨ok,ov,od⟩:=o
   simp only
   refine zch (fun w hw=>zdj (hw.item (own 3 1 od kd.length (kd.map iV)) mm).1 oQ) fun⟨db,dc,e⟩=>?_
   subst e
   obtain⟨kq,hkq⟩:∃x,kd[dn ks key]? =some x:=⟨_,aB oQ⟩
   rw[show kd.getD (dn ks key) 0=kq by rw[aI,hkq];rfl]at hp
   unfold ndO
   refine goA ?_
   refine lPu rfl (fun w1 hw1=>zoq hmay hb1 key w1 (zdw (o:=⟨ok,ov,some (db,dc)⟩) hw1 mm mm mm)) ?_
   simp only
   obtain⟨i,hi⟩:∃i,dn ks key=i:=⟨_,rfl⟩
   rw[hi]at hkq hcase hdn⊢
   refine goA ?_
   refine l_w rfl (za0 (v:=.int .i64 (kq:Int)) rfl rfl (fun w' hw'=>zby (hw'.item (own 3 1 (some (db,dc)) kd.length (kd.map iV)) mm).1 _ _ (by simp only[aJ];rw[aN,hkq];rfl))) ?_
   refine goA ?_
   rw[show d+1 - 1=d by omega]
   refine zay [1,0,2,3,4,5] rfl rfl ?_
   refine lCu [tmI c root s1] rfl (zag c root s1) (fun w1 hw1 hh1 ha1=>ih g s1 (kq:Nat) hs1 oQ hp w1 hh1) fun⟨s2,hs2⟩=>?_
   have hs2:Tok c g1 s2:=hs2
   dsimp only
   refine goA ?_
   refine zam rfl rfl fun b15 hb15=>?_
   refine za1 rfl (zaf rfl rfl rfl rfl rfl rfl) fun _=>?_
   refine goA ?_
   rcases hcase with ⟨rfl,rfl,rfl,rfl⟩ |⟨hq,hsp⟩
   ·refine goA ?_
    refine za1 rfl (zah (znu _ _ _ _ _ _ _ _) (zaf rfl rfl rfl rfl rfl rfl)) fun _=>?_
    refine goA ?_
    exact zbd s2 rfl ⟨_,rfl,zaq rfl (.head _)⟩ rfl hs2 (.cons _ (.cons _ (.cons_cons _ (aL _)))) (zag _ _ _)
   ·have hA:=fun(vb:Nat) (w1:World)=>ziu ok ks.length i (ks.map kV) (kV k1) vb (zl4 ks) rfl oQ oQ w1
    have hB:=fun(vb:Nat) (w1:World)=>zuy (some (db,dc)) kd.length (i+1) (kd.map iV) (iV q1) vb (qgf kd) rfl oQ oQ w1
    refine goA ?_
    simp only[aD,aH]
    refine zcx [3,5,2,0,1,4,6] rfl rfl ?_
    refine zap [2,3,4,5,6] 16 rfl rfl kQ ?_
    refine goE ?_
    refine qft 5 6 13 14 15 (A:=[own 9 1 ok ks.length (ks.map kV)]) (B:=[own 3 1 (some (db,dc)) kd.length (kd.map iV)]) (A':=fun o:{ o:Option (Nat×Nat)//True }=>[own 9 1 o.1 (ks.length+1) (ins (ks.map kV) i (kV k1))]) (B':=fun o:{ o:Option (Nat×Nat)//True }=>[own 3 1 o.1 (kd.length+1) (ins (kd.map iV) (i+1) (iV q1))]) kQ rfl rfl rfl rfl kQ rfl rfl rfl rfl rfl rfl rfl rfl rfl rfl rfl rfl rfl rfl (fun _ h=>h) (fun l' m' ext=>zrw (ext 76 _ rfl) kQ rfl rfl rfl) (fun a l' m' ext hd=>qkz (pre:=[own 9 1 ok ks.length (ks.map kV),own 9 1 (some (a.1,1)) 1 [kV k1]]) (ext 73 _ rfl) (ext 74 _ rfl) hd kQ kQ (zis _ _ _ _ _ _) (fun w1 hw1 hh1 ha1=>hA a.1 w1 hh1 ha1)) (fun l' m' ext=>zrw (ext 84 _ rfl) kQ rfl rfl rfl) (fun a l' m' ext hd=>qkz (pre:=[own 3 1 (some (db,dc)) kd.length (kd.map iV),own 3 1 (some (a.1,1)) 1 [iV q1]]) (ext 80 _ rfl) (ext 82 _ rfl) hd kQ kQ (zis _ _ _ _ _ _) (fun w1 hw1 hh1 ha1=>hB a.1 w1 hh1 ha1)) fun⟨ok',_⟩ ⟨od',_⟩=>?_
    refine zfa [2,0,1,3,4,5,6] rfl rfl ?_
    refine zor 16 rfl rfl rfl rfl rfl rfl rfl rfl rfl rfl rfl (zct _ _) (zc3 _ _) (zct _ _) (zc3 _ _) kQ kQ (by show(1:Nat)<4;decide) (by show(3:Nat)<4;decide) ?_
    simp only[qgn]
    rw[←zf1 ks i k1,←zf1 kd (i+1) q1]
    refine goA ?_
    refine zay [4,1,5,2,0,3,6] rfl rfl ?_
    refine lCu (tmI c root s2::ndI ⟨false,ins ks i k1,[],ins kd (i+1) q1⟩ ⟨ok',ov,od'⟩) rfl (zco _ _ _ _ _) (fun w1 hw1 hh1 ha1=>zmj hs2 root i0 ⟨false,ins ks i k1,[],ins kd (i+1) q1⟩ ⟨ok',ov,od'⟩ (NdB.mk' (by rw[zf1];omega) dQ (by rw[zf1];omega) (qgm hnb.kl hk1b) (fun _ h=>nomatch h)) hsp w1 hh1 ha1) fun⟨s3,h3⟩=>?_
    refine goA ?_
    refine za1 rfl (zah (zfq _ _ _ _ _) (zaf rfl rfl rfl rfl rfl rfl)) fun _=>?_
    refine goA ?_
    exact zbd s3 rfl ⟨_,rfl,zaq rfl (.head _)⟩ rfl h3 (.cons _ (.cons_cons _ (aL _))) (zag _ _ _)
end Go.Proofs.YthafakdplhdfjaaGreatDoor
namespace Go.Proofs.YthafakdplhdfjaaGreatDoor
open Go.RowKit Go.Eng Go.Eng.Tr
theorem qau(n:Nat)(hn:n≤1000000)(w:World):Ct Tryz.prog 241 #[.slice none 0 0,.int .i64 (n:Nat)] w none' (fun o:Option (Nat×Nat)=>slV o 0) (fun _=>True) (fun o=>[own 9 1 o 0 []]):=by
 refine zes [_,_] Tryz.func241 rfl rfl ?_
 simp only[zaa,Nat.reduceAdd]
 refine goA ?_
 by_cases h0:n=0
 ·subst h0
  refine goA ?_
  refine zbr (fun w hw=>zd1 9 1 hw) ?_
  exact zbd none rfl rfl rfl trivial (.refl _) (by simp[zac])
 ·refine goA ?_
  refine za1 rfl (qb6 (olds:=[]) (z:=.string ⟨#[]⟩) rfl rfl rfl rfl rfl rfl rfl oQ oQ oQ rfl (fun _=>rfl) (fun w' hw'=>.inl rfl)) fun⟨⟨b2,c2⟩,hb2,hc2⟩=>?_
  simp only at hc2⊢
  refine zcy (fun w hw=>hw.own0) ?_
  refine goA ?_
  exact zbd (some (b2,c2)) rfl rfl rfl trivial (.refl _) (by simp[zac])
def qia(L:List (Option Addr×Nat×List Value))(i:Nat):List Value:=(L.take i).flatMap fun p=>p.2.2
def qo2(p:Option Addr×Nat×List Value):Value:=.slice p.1 p.2.2.length p.2.1
variable{L:List (Option Addr×Nat×List Value)}{i:Nat}{p:Option Addr×Nat×List Value}
theorem zyi(h:L[i]? =some p):qia L (i+1)=qia L i++p.2.2:=by
 unfold qia
 rw[cV,h,bD]
 simp
theorem qas(L:List (Option Addr×Nat×List Value))(i:Nat):(qia L i).length≤(L.flatMap fun p=>p.2.2).length:=by
 unfold qia
 conv=>rhs;rw[←bF i L,bD,aA]
 omega
theorem zme(sb:Nat)(L:List (Option Addr×Nat×List Value))(k:Nat)(hk:L.length=k)(hk3:k≤100)(h1:∀p∈L,zb7 p.2.2=true)(hz:(L.flatMap fun p=>p.2.2).length≤1000000)(hnil:∀p∈L,p.1=none→p.2.2=[])(w:World)(hs:w.rangeAt sb 0 (L.map qo2))(hr:∀p∈L,Rd w p.1 p.2.2):
  Ct Tryz.prog 225 #[.slice (some ⟨sb,0,none⟩) k k] w none' (fun o:Option (Nat×Nat)=>slV o (L.flatMap fun p=>p.2.2).length) (fun _=>True) (fun o=>[own 9 1 o (L.flatMap fun p=>p.2.2).length (L.flatMap fun p=>p.2.2)]):=by
 refine zes [_] Tryz.func225 rfl rfl ?_
 have hall:qia L k=L.flatMap fun p=>p.2.2:=by unfold qia;rw[bI oQ]
 simp only[zaa]
 refine goA ?_
 refine zc0 (α:=Nat) (fun i=>[(0,.slice (some ⟨sb,0,none⟩) k k),(3,.int .i64 ((qia L i).length:Nat)),(9,.slice (some ⟨sb,0,none⟩) k k),(10,.int .i64 (k:Nat)),(11,.int .i64 (i:Nat))]) (fun i=>i≤k) (fun _=>[]) (fun i=>k - i) 0 ⟨rfl,rfl,rfl,rfl,rfl,trivial⟩ (bA _) (fun w hw=>hw) fun i hi=>?_
 have hci:=qas L i
 by_cases h:i<k
 ·obtain⟨p,hp⟩:∃p,L[i]? =some p:=⟨_,aB oQ⟩
  have hcs:=zyi hp
  have hci2:=qas L (i+1)
  rw[hcs,aA]at hci2
  refine goA ?_
  refine l_w rfl (za0 rfl rfl (fun w' hw'=>za5 hs (fun h=>h) hw' i (qo2 p) (by rw[aN,hp];rfl))) ?_
  unfold qo2
  refine goA ?_
  exact zaw (i+1) ⟨rfl,by rw[hcs,aA];rfl,rfl,rfl,rfl,trivial⟩ oQ (fun w hw=>hw) (by first|omega|(simp only;omega))
 ·obtain rfl:i=k:=oQ
  rw[hall]at hci⊢
  refine goA ?_
  refine zdy rfl rfl kQ rfl (fun w1 hw1=>qau (L.flatMap fun p=>p.2.2).length hz w1) fun x hx=>?_
  refine goA ?_
  refine zc0 (α:=Nat×Option (Nat×Nat)) (fun y=>[(6,slV y.2 (qia L y.1).length),(25,.slice (some ⟨sb,0,none⟩) i i),(26,.int .i64 (i:Nat)),(27,.int .i64 (y.1:Nat))]) (fun y=>y.1≤i) (fun y=>[own 9 1 y.2 (qia L y.1).length (qia L y.1)]) (fun y=>i - y.1) (0,x) ⟨rfl,rfl,rfl,rfl,trivial⟩ (bA _) (fun w hw=>hw) fun⟨j,o⟩ hj=>?_
  simp only at hj⊢
  by_cases h2:j<i
  ·obtain⟨p,hp⟩:∃p,L[j]? =some p:=⟨_,aB oQ⟩
   have hpm:=bH hp
   have hcs:=zyi hp
   have hci2:=qas L (j+1)
   rw[hcs,aA]at hci2
   refine goA ?_
   refine l_w rfl (za0 rfl rfl (fun w' hw'=>za5 hs (fun h=>h) hw' j (qo2 p) (by rw[aN,hp];rfl))) ?_
   unfold qo2
   refine goA ?_
   refine za1 rfl (zxz (news:=p.2.2) rfl rfl rfl rfl rfl rfl (fun e=>by rw[hnil p hpm e];rfl) (h1 p hpm) oQ (fun w' hw'=>(hr p hpm).keep hw')) fun o'=>?_
   refine goA ?_
   exact zaw (j+1,o') ⟨by rw[hcs,aA];rfl,rfl,rfl,rfl,trivial⟩ (by first|omega|(simp only;omega)) (fun w hw=>by rw[hcs,aA];exact hw) (by first|omega|(simp only;omega))
  ·obtain rfl:j=i:=oQ
   rw[hall]
   refine goA ?_
   exact zbd o rfl rfl rfl trivial (.refl _) (by simp[zac])
theorem zz1(n:Nat)(hn:n≤1000000)(w:World):Ct Tryz.prog 242 #[.slice none 0 0,.int .i64 (n:Nat)] w none' (fun o:Option (Nat×Nat)=>slV o 0) (fun _=>True) (fun o=>[own 3 1 o 0 []]):=by
 refine zes [_,_] Tryz.func242 rfl rfl ?_
 simp only[zaa,Nat.reduceAdd]
 refine goA ?_
 by_cases h0:n=0
 ·subst h0
  refine goA ?_
  refine zbr (fun w hw=>zd1 3 1 hw) ?_
  exact zbd none rfl rfl rfl trivial (.refl _) (by simp[zac])
 ·refine goA ?_
  refine za1 rfl (qb6 (olds:=[]) (z:=.int .i64 0) rfl rfl rfl rfl rfl rfl rfl oQ oQ oQ rfl (fun _=>rfl) (fun w' hw'=>.inl rfl)) fun⟨⟨b2,c2⟩,hb2,hc2⟩=>?_
  simp only at hc2⊢
  refine zcy (fun w hw=>hw.own0) ?_
  refine goA ?_
  exact zbd (some (b2,c2)) rfl rfl rfl trivial (.refl _) (by simp[zac])
def qgg(L:List (Option Addr×Nat×List Value))(i:Nat):List Value:=(L.take i).flatMap fun p=>p.2.2
def qp0(p:Option Addr×Nat×List Value):Value:=.slice p.1 p.2.2.length p.2.1
theorem zxe(h:L[i]? =some p):qgg L (i+1)=qgg L i++p.2.2:=by
 unfold qgg
 rw[cV,h,bD]
 simp
theorem zz0(L:List (Option Addr×Nat×List Value))(i:Nat):(qgg L i).length≤(L.flatMap fun p=>p.2.2).length:=by
 unfold qgg
 conv=>rhs;rw[←bF i L,bD,aA]
 omega
theorem zuw(sb:Nat)(L:List (Option Addr×Nat×List Value))(k:Nat)(hk:L.length=k)(hk3:k≤100)(h1:∀p∈L,zb7 p.2.2=true)(hz:(L.flatMap fun p=>p.2.2).length≤1000000)(hnil:∀p∈L,p.1=none→p.2.2=[])(w:World)(hs:w.rangeAt sb 0 (L.map qp0))(hr:∀p∈L,Rd w p.1 p.2.2):
  Ct Tryz.prog 226 #[.slice (some ⟨sb,0,none⟩) k k] w none' (fun o:Option (Nat×Nat)=>slV o (L.flatMap fun p=>p.2.2).length) (fun _=>True) (fun o=>[own 3 1 o (L.flatMap fun p=>p.2.2).length (L.flatMap fun p=>p.2.2)]):=by
 refine zes [_] Tryz.func226 rfl rfl ?_
 have hall:qgg L k=L.flatMap fun p=>p.2.2:=by unfold qgg;rw[bI oQ]
 simp only[zaa]
 refine goA ?_
 refine zc0 (α:=Nat) (fun i=>[(0,.slice (some ⟨sb,0,none⟩) k k),(3,.int .i64 ((qgg L i).length:Nat)),(9,.slice (some ⟨sb,0,none⟩) k k),(10,.int .i64 (k:Nat)),(11,.int .i64 (i:Nat))]) (fun i=>i≤k) (fun _=>[]) (fun i=>k - i) 0 ⟨rfl,rfl,rfl,rfl,rfl,trivial⟩ (bA _) (fun w hw=>hw) fun i hi=>?_
 have hci:=zz0 L i
 by_cases h:i<k
 ·obtain⟨p,hp⟩:∃p,L[i]? =some p:=⟨_,aB oQ⟩
  have hcs:=zxe hp
  have hci2:=zz0 L (i+1)
  rw[hcs,aA]at hci2
  refine goA ?_
  refine l_w rfl (za0 rfl rfl (fun w' hw'=>za5 hs (fun h=>h) hw' i (qp0 p) (by rw[aN,hp];rfl))) ?_
  unfold qp0
  refine goA ?_
  exact zaw (i+1) ⟨rfl,by rw[hcs,aA];rfl,rfl,rfl,rfl,trivial⟩ oQ (fun w hw=>hw) (by first|omega|(simp only;omega))
 ·obtain rfl:i=k:=oQ
  rw[hall]at hci⊢
  refine goA ?_
  refine zdy rfl rfl kQ rfl (fun w1 hw1=>zz1 (L.flatMap fun p=>p.2.2).length hz w1) fun x hx=>?_
  refine goA ?_
  refine zc0 (α:=Nat×Option (Nat×Nat)) (fun y=>[(6,slV y.2 (qgg L y.1).length),(25,.slice (some ⟨sb,0,none⟩) i i),(26,.int .i64 (i:Nat)),(27,.int .i64 (y.1:Nat))]) (fun y=>y.1≤i) (fun y=>[own 3 1 y.2 (qgg L y.1).length (qgg L y.1)]) (fun y=>i - y.1) (0,x) ⟨rfl,rfl,rfl,rfl,trivial⟩ (bA _) (fun w hw=>hw) fun⟨j,o⟩ hj=>?_
  simp only at hj⊢
  by_cases h2:j<i
  ·obtain⟨p,hp⟩:∃p,L[j]? =some p:=⟨_,aB oQ⟩
   have hpm:=bH hp
   have hcs:=zxe hp
   have hci2:=zz0 L (j+1)
   rw[hcs,aA]at hci2
   refine goA ?_
   refine l_w rfl (za0 rfl rfl (fun w' hw'=>za5 hs (fun h=>h) hw' j (qp0 p) (by rw[aN,hp];rfl))) ?_
   unfold qp0
   refine goA ?_
   refine za1 rfl (zxz (news:=p.2.2) rfl rfl rfl rfl rfl rfl (fun e=>by rw[hnil p hpm e];rfl) (h1 p hpm) oQ (fun w' hw'=>(hr p hpm).keep hw')) fun o'=>?_
   refine goA ?_
   exact zaw (j+1,o') ⟨by rw[hcs,aA];rfl,rfl,rfl,rfl,trivial⟩ (by first|omega|(simp only;omega)) (fun w hw=>by rw[hcs,aA];exact hw) (by first|omega|(simp only;omega))
  ·obtain rfl:j=i:=oQ
   rw[hall]
   refine goA ?_
   exact zbd o rfl rfl rfl trivial (.refl _) (by simp[zac])
end Go.Proofs.YthafakdplhdfjaaGreatDoor
namespace Go.Eng
open Go.RowKit
variable{P:Program}{Q:Exit→Act→World→Prop}{N:Fm}{l:zav}{ops:Array Oper}{w0:World}{F:Nat→Prop}{m:List Item}{ty:TypeId}{pos:String}{after:Array Edge}
variable{g:Option (Nat×Bool)}
theorem qd4{T e:TypeId}{d x y b:Nat}{z v u:Value}(hx:get l x=some v)(hy:get l y=some u)(hd:Nat.ble (d+1) N.n=true)(hT:zmi P T=some e)(hi:zpt P e=some (1,b,z))(hv:v.cells= #[v])(hu:u.cells= #[u]):
  HO P ⟨some d,.buildSlice T 2 #[(0,.tmp x),(1,.tmp y)],ty,pos,after,g⟩ Q N l (Hp w0 F m) (α:={ b:Nat//w0.heap.size≤b }) (fun c=>(d,.slice (some ⟨c.1,0,none⟩) 2 2)::l) (fun c=>Hp w0 F (own e 1 (some (c.1,2)) 2 [v,u]::m)):=by
 have hp:zi2 1 l [(0,.tmp x),(1,.tmp y)]=some [(0*1,1,v),(1*1,1,u)]:=by simp[zi2,evO,hx,hy]
 have h:=za3 (Q:=Q) (N:=N) (m:=m) (w0:=w0) (F:=F) (ty:=ty) (pos:=pos) (after:=after) (g:=g) (len:=2) (ps:=[(0,.tmp x),(1,.tmp y)]) (L:=[(0*1,1,v),(1*1,1,u)]) (d:=d) (by simpa[zee,zez,zec,Op.operands,zex,hx,hy]using hd) hT hi hp dQ (by simp[zdi,hv,hu])
 have e1:zek (zds z (2*1)) [(0*1,1,v),(1*1,1,u)]=[v,u]:=by
  simp[zek,over,zds,hv,hu,List.range,List.range.loop]
 rw[e1]at h
 exact h
theorem qrb{T e:TypeId}{d x y s b:Nat}{z v u t:Value}(hx:get l x=some v)(hy:get l y=some u)(hs:get l s=some t)(hd:Nat.ble (d+1) N.n=true)(hT:zmi P T=some e)(hi:zpt P e=some (1,b,z))(hv:v.cells= #[v])(hu:u.cells= #[u])(ht:t.cells= #[t]):
  HO P ⟨some d,.buildSlice T 3 #[(0,.tmp x),(1,.tmp y),(2,.tmp s)],ty,pos,after,g⟩ Q N l (Hp w0 F m) (α:={ b:Nat//w0.heap.size≤b }) (fun c=>(d,.slice (some ⟨c.1,0,none⟩) 3 3)::l) (fun c=>Hp w0 F (own e 1 (some (c.1,3)) 3 [v,u,t]::m)):=by
 have hp:zi2 1 l [(0,.tmp x),(1,.tmp y),(2,.tmp s)]=some [(0*1,1,v),(1*1,1,u),(2*1,1,t)]:=by simp[zi2,evO,hx,hy,hs]
 have h:=za3 (Q:=Q) (N:=N) (m:=m) (w0:=w0) (F:=F) (ty:=ty) (pos:=pos) (after:=after) (g:=g) (len:=3) (ps:=[(0,.tmp x),(1,.tmp y),(2,.tmp s)]) (L:=[(0*1,1,v),(1*1,1,u),(2*1,1,t)]) (d:=d) (by simpa[zee,zez,zec,Op.operands,zex,hx,hy,hs]using hd) hT hi hp dQ (by simp[zdi,hv,hu,ht])
 have e1:zek (zds z (3*1)) [(0*1,1,v),(1*1,1,u),(2*1,1,t)]=[v,u,t]:=by
  simp[zek,over,zds,hv,hu,ht,List.range,List.range.loop]
 rw[e1]at h
 exact h
theorem ztc{w:World}{xs:List Value}(h:Rd w none xs):xs=[]:=by
 rcases h with h|⟨_,_,h,_⟩
 ·exact h
 ·cases h
end Go.Eng
namespace Go.Proofs.YthafakdplhdfjaaGreatDoor
open Go.RowKit Go.Eng Go.Eng.Bm Go.Eng.Tr
def qao(s:Sh)(n:Nd):Int:=if n.leaf then((s.cap/2:Nat):Int) - (n.keys.length:Int)else((s.fan/2:Nat):Int) - (n.kids.length:Int)
theorem qcd(s:Sh)(n:Nd):decide (qao s n>0)=zqj s n:=by
 unfold qao zqj
 split
 ·rw[decide_eq_decide];omega
 ·rw[decide_eq_decide];omega
variable{w0:World}{m:List Eng.Item}{c:Tc}{s:Pg}
theorem qpt{l:zav}{ty:TypeId}{x:Operand}{root:Int}(h:zbq (tmI c root s) w0)(hx:evO l x=some (.pointer (some ⟨c.t,c.o+1,none⟩))):OV Tryz.prog (.load 79 x) ty l (Hp w0 none' m) (shV c.sh):=
 zgp (xs:=[.int .i64 (c.sh.kw:Int),.int .i64 (c.sh.vw:Int)]) (c:= #[.int .i64 (c.sh.kw:Int),.int .i64 (c.sh.vw:Int)]) hx rfl (fun w' hw'=>by
  exact zfu (k:=2) (zft (k:=1) (znr ((h.keep hw').1.1 _ (.head _)).1))) rfl
variable{g:Sg}
theorem qeb(ht:Tok c g s)(root:Int)(n:Nd)(a:Pl)(hk:n.keys.length≤1000)(hd:n.kids.length≤1000)(w:World)(h:zbq (tmI c root s) w):Pu Tryz.prog 148 #[.pointer (some ⟨c.t,c.o,none⟩),ndV n a] w (.int .i64 (qao c.sh n)):=by
 have hsh:ShB c.sh:=ht.sh
 have e1:c.sh.cap≤508:=eZ _ _
 have e2:c.sh.fan≤508+c.sh.kw:=eZ _ _
 have e3:=hsh.k2
 refine zbn [_,_] Tryz.func148 rfl rfl ?_
 unfold ndV qao
 obtain⟨lf,hlf⟩:∃x,n.leaf=x:=⟨_,rfl⟩
 rw[hlf]
 simp only[zaa,Nat.reduceAdd]
 refine goA ?_
 refine zbp rfl rfl fun b3 hb3=>?_
 refine goA ?_
 cases lf with
 |true=>
  refine goA ?_
  refine zap [0] 11 rfl rfl kQ ?_
  (repeat first|refine dAv [3] rfl rfl rfl ?_ |refine dno [3] rfl rfl rfl ?_ |refine dT [3] rfl rfl rfl rfl ?_ |refine dF [3] rfl rfl rfl rfl ?_)
  refine goV rfl rfl (qpt h rfl) ?_
  refine dPu 4 rfl rfl (fun w1 hw1=>zjl hsh w1) ?_
  refine goE ?_
  refine goV rfl rfl (ztv rfl rfl oQ) ?_
  refine goX ?_
  exact zdk rfl rfl rfl
 |false=>
  refine goA ?_
  refine zap [0] 11 rfl rfl kQ ?_
  (repeat first|refine dAv [3] rfl rfl rfl ?_ |refine dno [3] rfl rfl rfl ?_ |refine dT [3] rfl rfl rfl rfl ?_ |refine dF [3] rfl rfl rfl rfl ?_)
  refine goV rfl rfl (qpt h rfl) ?_
  refine dPu 4 rfl rfl (fun w1 hw1=>zhz hsh w1) ?_
  refine goE ?_
  refine goV rfl rfl (ztv rfl rfl oQ) ?_
  refine goX ?_
  exact zdk rfl rfl rfl
theorem qqj{sb:Nat}{k1 k2:List K}{a1 a2:Option Addr}{c1 c2 n1 n2:Nat}(h1:k1.length=n1)(h2:k2.length=n2)(hb:n1+n2≤10000)(w:World)(hs:w.rangeAt sb 0 [.slice a1 n1 c1,.slice a2 n2 c2])(r1:Rd w a1 (k1.map kV))(r2:Rd w a2 (k2.map kV)):
  Ct Tryz.prog 225 #[.slice (some ⟨sb,0,none⟩) 2 2] w none' (fun o:Option (Nat×Nat)=>slV o (k1++k2).length) (fun _=>True) (fun o=>[own 9 1 o (k1++k2).length ((k1++k2).map kV)]):=by
 have h:=zme sb [(a1,c1,k1.map kV),(a2,c2,k2.map kV)] 2 rfl dQ (by simp[zl4]) (by simp;omega) (by
  intro p hp e
  rcases aK.1 hp with rfl|hp
  ·simp only at e;subst e;exact ztc r1
  ·rcases aK.1 hp with rfl|hp
   ·simp only at e;subst e;exact ztc r2
   ·cases hp) w (by simpa[qo2,h1,h2]using hs) (by
  intro p hp
  rcases aK.1 hp with rfl|hp
  ·exact r1
  ·rcases aK.1 hp with rfl|hp
   ·exact r2
   ·cases hp)
 have e:([(a1,c1,k1.map kV),(a2,c2,k2.map kV)]:List (Option Addr×Nat×List Value)).flatMap (fun p=>p.2.2)=(k1++k2).map kV:=by simp
 rw[e]at h
 simpa using h
theorem qsk{sb:Nat}{k1 k2:List Nat}{a1 a2:Option Addr}{c1 c2 n1 n2:Nat}(h1:k1.length=n1)(h2:k2.length=n2)(hb:n1+n2≤10000)(w:World)(hs:w.rangeAt sb 0 [.slice a1 n1 c1,.slice a2 n2 c2])(r1:Rd w a1 (k1.map iV))(r2:Rd w a2 (k2.map iV)):
  Ct Tryz.prog 226 #[.slice (some ⟨sb,0,none⟩) 2 2] w none' (fun o:Option (Nat×Nat)=>slV o (k1++k2).length) (fun _=>True) (fun o=>[own 3 1 o (k1++k2).length ((k1++k2).map iV)]):=by
 have h:=zuw sb [(a1,c1,k1.map iV),(a2,c2,k2.map iV)] 2 rfl dQ (by simp[qgf]) (by simp;omega) (by
  intro p hp e
  rcases aK.1 hp with rfl|hp
  ·simp only at e;subst e;exact ztc r1
  ·rcases aK.1 hp with rfl|hp
   ·simp only at e;subst e;exact ztc r2
   ·cases hp) w (by simpa[qp0,h1,h2]using hs) (by
  intro p hp
  rcases aK.1 hp with rfl|hp
  ·exact r1
  ·rcases aK.1 hp with rfl|hp
   ·exact r2
   ·cases hp)
 have e:([(a1,c1,k1.map iV),(a2,c2,k2.map iV)]:List (Option Addr×Nat×List Value)).flatMap (fun p=>p.2.2)=(k1++k2).map iV:=by simp
 rw[e]at h
 simpa using h
variable{key:K}
theorem qsl{sb xb:Nat}{k1 k2:List K}{a1 a2:Option Addr}{c1 c2 n1 n2:Nat}(h1:k1.length=n1)(h2:k2.length=n2)(hb:n1+n2≤10000)(w:World)(hs:w.rangeAt sb 0 [.slice a1 n1 c1,.slice (some ⟨xb,0,none⟩) 1 1,.slice a2 n2 c2])(r1:Rd w a1 (k1.map kV))(r0:Rd w (some ⟨xb,0,none⟩) [kV key])(r2:Rd w a2 (k2.map kV)):
  Ct Tryz.prog 225 #[.slice (some ⟨sb,0,none⟩) 3 3] w none' (fun o:Option (Nat×Nat)=>slV o (k1++key::k2).length) (fun _=>True) (fun o=>[own 9 1 o (k1++key::k2).length ((k1++key::k2).map kV)]):=by
 have h:=zme sb [(a1,c1,k1.map kV),(some ⟨xb,0,none⟩,1,[kV key]),(a2,c2,k2.map kV)] 3 rfl dQ (by
  intro p hp
  rcases aK.1 hp with rfl|hp
  ·exact zl4 _
  ·rcases aK.1 hp with rfl|hp
   ·rfl
   ·rcases aK.1 hp with rfl|hp
    ·exact zl4 _
    ·cases hp) (by simp;omega) (by
  intro p hp e
  rcases aK.1 hp with rfl|hp
  ·simp only at e;subst e;exact ztc r1
  ·rcases aK.1 hp with rfl|hp
   ·cases e
   ·rcases aK.1 hp with rfl|hp
    ·simp only at e;subst e;exact ztc r2
    ·cases hp) w (by simpa[qo2,h1,h2]using hs) (by
  intro p hp
  rcases aK.1 hp with rfl|hp
  ·exact r1
  ·rcases aK.1 hp with rfl|hp
   ·exact r0
   ·rcases aK.1 hp with rfl|hp
    ·exact r2
    ·cases hp)
 have e:([(a1,c1,k1.map kV),(some ⟨xb,0,none⟩,1,[kV key]),(a2,c2,k2.map kV)]:List (Option Addr×Nat×List Value)).flatMap (fun p=>p.2.2)=(k1++key::k2).map kV:=by simp
 rw[e]at h
 simpa using h
theorem zxk(x y:Nd)(ax ay:Pl)(key:K)(hx1:x.keys.length≤1000)(hx2:x.vals.length≤1000)(hx3:x.kids.length≤1000)(hy1:y.keys.length≤1000)(hy2:y.vals.length≤1000)(hy3:y.kids.length≤1000)(w:World)(rx:NdR w x ax)(ry:NdR w y ay):
  Ct Tryz.prog 199 #[ndV x ax,ndV y ay,kV key] w none' (fun o:Po=>.agg (ndO (zcq x y key) o)) (fun _=>True) (fun o=>ndI (zcq x y key) o):=by
 obtain⟨⟨ka,kc⟩,⟨va,vc⟩,⟨da,dc⟩⟩:=ax
 obtain⟨⟨ka2,kc2⟩,⟨va2,vc2⟩,⟨da2,dc2⟩⟩:=ay
 refine zes [_,_,_] Tryz.func199 rfl rfl ?_
 unfold ndV
 simp only
 obtain⟨lf,hlf⟩:∃b,x.leaf=b:=⟨_,rfl⟩
 unfold zcq
 rw[hlf]
 simp only[zaa,Nat.reduceAdd]
 refine goA ?_
 refine zbp rfl rfl fun b3 hb3=>?_
 refine goA ?_
 refine zbp rfl rfl fun b4 hb4=>?_
 refine goA ?_
 refine zam rfl rfl fun b6 hb6=>?_
 refine goA ?_
 cases lf with
 |true=>
  rw[if_pos rfl]
  refine goA ?_
  refine zap [1,2] 13 rfl rfl kQ ?_
  refine goE ?_
  refine qmb 4 5 10 11 (A:=[]) (B:=[]) (A':=fun o:{ o:Option (Nat×Nat)//True }=>[own 9 1 o.1 (x.keys++y.keys).length ((x.keys++y.keys).map kV)]) (B':=fun o:{ o:Option (Nat×Nat)//True }=>[own 9 1 o.1 (x.vals++y.vals).length ((x.vals++y.vals).map kV)]) kQ rfl rfl rfl rfl rfl rfl rfl rfl rfl rfl rfl rfl rfl (fun _ h=>h.sub (.cons _ (.refl _))) (fun l' m' ext=>qd4 (ext 10 _ rfl) (ext 12 _ rfl) kQ rfl rfl rfl rfl) (fun a l' m' ext hd=>qbs (fun _=>.cons_cons _ (.cons _ (.refl _))) (qd5 hd kQ kQ (fun w1 hw1=>qqj rfl rfl oQ w1 (zd7 (hw1.item _ (.head _)).1) (rx.k.keep hw1) (ry.k.keep hw1)))) (fun l' m' ext=>qd4 (ext 16 _ rfl) (ext 18 _ rfl) kQ rfl rfl rfl rfl) (fun a l' m' ext hd=>qbs (fun _=>.cons_cons _ (.cons _ (.refl _))) (qd5 hd kQ kQ (fun w1 hw1=>qqj rfl rfl oQ w1 (zd7 (hw1.item _ (.head _)).1) (rx.v.keep hw1) (ry.v.keep hw1)))) fun⟨o1,_⟩ ⟨o2,_⟩=>?_
  refine qma (fun w hw=>And.intro (zas (hw.item (own 9 1 o1 (x.keys++y.keys).length ((x.keys++y.keys).map kV)) mm).1).1 (zas (hw.item (own 9 1 o2 (x.vals++y.vals).length ((x.vals++y.vals).map kV)) mm).1).1) fun⟨f1,f2⟩=>?_
  rw[f1,f2]
  refine goE ?_
  refine zfa [2,0,1,3,4] rfl rfl ?_
  refine zet ⟨kQ,kQ⟩ rfl rfl (zaf (cs':= #[.bool true,.slice (slA o1) (x.keys++y.keys).length (slC o1),.slice (slA o2) (x.vals++y.vals).length (slC o2),.slice none 0 0]) rfl rfl rfl rfl rfl rfl) fun _=>?_
  refine goA ?_
  refine zbr (m':=[own 9 1 o1 (x.keys++y.keys).length ((x.keys++y.keys).map kV),own 9 1 o2 (x.vals++y.vals).length ((x.vals++y.vals).map kV),own 3 1 none 0 [],pt b6 (.cells #[.bool true,.slice (slA o1) (x.keys++y.keys).length (slC o1),.slice (slA o2) (x.vals++y.vals).length (slC o2),.slice none 0 0] 185 (0,0))]) (fun w hw=>(zd1 3 1 hw).pick [2,3,0,1] rfl rfl) ?_
  exact zbd ⟨o1,o2,none⟩ rfl ⟨_,rfl,zaq rfl (.tail _ (.tail _ (.tail _ (.head _))))⟩ (by simp only[ndO,lNd];rw[f1,f2];rfl) trivial (.cons_cons _ (.cons_cons _ (.cons_cons _ (aL _)))) (zm3 _ _)
 |false=>
  rw[if_neg bR]
  refine goA ?_
  refine zap [1,2] 15 rfl rfl kQ ?_
  refine goE ?_
  have s29:=fun(xb a:Nat) (M:List Eng.Item) (w1:World) (hw1:Hp w none' M w1) (ha:own 35 1 (some (a,3)) 3 [.slice ka x.keys.length kc,.slice (some ⟨xb,0,none⟩) 1 1,.slice ka2 y.keys.length kc2]∈M) (hx:own 9 1 (some (xb,1)) 1 [kV key]∈M)=>qsl (sb:=a) (xb:=xb) (key:=key) (c1:=kc) (c2:=kc2) rfl rfl oQ w1 (zd7 (hw1.item _ ha).1) (rx.k.keep hw1) (Rd.mk (zd7 (hw1.item _ hx).1)) (ry.k.keep hw1)
  have s35:=fun(a:Nat) (M:List Eng.Item) (w1:World) (hw1:Hp w none' M w1) (ha:own 183 1 (some (a,2)) 2 [.slice da x.kids.length dc,.slice da2 y.kids.length dc2]∈M)=>qsk (sb:=a) (c1:=dc) (c2:=dc2) rfl rfl oQ w1 (zd7 (hw1.item _ ha).1) (rx.d.keep hw1) (ry.d.keep hw1)
  refine zzm (n':=2) (listed':= #[true,true,true,true,true,true,true,true,true,true,true,true,true,true,false,false]) (fun y':Option (Nat×Nat)×Option (Nat×Nat)=>[(6,.pointer (some ⟨b6,0,none⟩)),(29,slV y'.1 (x.keys++key::y.keys).length),(35,slV y'.2 (x.kids++y.kids).length)]) (fun y'=>[own 9 1 y'.1 (x.keys++key::y.keys).length ((x.keys++key::y.keys).map kV),own 3 1 y'.2 (x.kids++y.kids).length ((x.kids++y.kids).map iV),pt b6 (.cells #[.bool false,.slice none 0 0,.slice none 0 0,.slice none 0 0] 185 (0,0)),pt b4 (.cells #[.bool y.leaf,.slice ka2 y.keys.length kc2,.slice va2 y.vals.length vc2,.slice da2 y.kids.length dc2] 185 (0,0)),pt b3 (.cells #[.bool false,.slice ka x.keys.length kc,.slice va x.vals.length vc,.slice da x.kids.length dc] 185 (0,0))]) ?_ (fun hk=>?_)
  rotate_left
  ·refine zt7 3 12 ⟨kQ,dQ,dQ⟩ rfl rfl rfl rfl (zrw (v:=kV key) rfl rfl rfl rfl rfl) (qd4 (v:=.slice da x.kids.length dc) (u:=.slice da2 y.kids.length dc2) rfl rfl rfl rfl rfl rfl rfl) (fun _ _ h=>goH h) (fun _ _ h=>goH h) (fun⟨xb,_⟩=>?_) (fun⟨cb,_⟩=>?_)
   ·refine qmb 6 7 12 13 (A:=[own 9 1 (some (xb,1)) 1 [kV key]]) (B:=[]) (A':=fun o:{ o:Option (Nat×Nat)//True }=>[own 9 1 o.1 (x.keys++key::y.keys).length ((x.keys++key::y.keys).map kV)]) (B':=fun o:{ o:Option (Nat×Nat)//True }=>[own 3 1 o.1 (x.kids++y.kids).length ((x.kids++y.kids).map iV)]) kQ rfl rfl rfl rfl rfl rfl rfl rfl rfl rfl rfl rfl rfl (fun _ h=>h.sub (.cons _ (.refl _))) (fun l' m' ext=>qrb (ext 23 _ rfl) (ext 25 _ rfl) (ext 27 _ rfl) kQ rfl rfl rfl rfl rfl) (fun a l' m' ext hd=>qbs (fun _=>.cons_cons _ (.cons _ (.cons _ (.refl _)))) (qd5 hd kQ kQ (fun w1 hw1=>s29 xb a.1 _ w1 hw1 (.tail _ (.head _)) (.head _)))) (fun l' m' ext=>qd4 (ext 31 _ rfl) (ext 33 _ rfl) kQ rfl rfl rfl rfl) (fun a l' m' ext hd=>qbs (fun _=>.cons_cons _ (.cons _ (.refl _))) (qd5 hd kQ kQ (fun w1 hw1=>s35 a.1 _ w1 hw1 (.head _)))) fun⟨o1,_⟩ ⟨o2,_⟩=>?_
    exact hk (o1,o2) _ ⟨rfl,rfl,rfl,trivial⟩
   ·refine zat 3 ⟨kQ,dQ⟩ rfl rfl (zrw (v:=kV key) rfl rfl rfl rfl rfl) (fun _ _ h=>goH h) fun⟨xb,_⟩=>?_
    refine zat 6 ⟨kQ,dQ⟩ rfl rfl (qrb (v:=.slice ka x.keys.length kc) (u:=.slice (some ⟨xb,0,none⟩) 1 1) (t:=.slice ka2 y.keys.length kc2) rfl rfl rfl rfl rfl rfl rfl rfl rfl) (fun _ _ h=>goH h) fun⟨ab,_⟩=>?_
    refine zat 7 ⟨kQ,dQ⟩ rfl rfl (qd5 rfl rfl kQ (fun w1 hw1=>s29 xb ab _ w1 hw1 (.head _) (.tail _ (.head _)))) (fun _ _ h=>goH h) fun⟨o1,_⟩=>?_
    refine zat 13 ⟨kQ,dQ⟩ rfl rfl (qd5 rfl rfl kQ (fun w1 hw1=>s35 cb _ w1 hw1 (.tail _ (.tail _ (.tail _ (.head _)))))) (fun _ _ h=>goH h) fun⟨o2,_⟩=>?_
    refine zfa [1,0,5,6,7] rfl rfl ?_
    exact hk (o1,o2) _ ⟨rfl,rfl,rfl,trivial⟩
  ·intro ⟨o1,o2⟩
   simp only
   refine qma (fun w hw=>And.intro (zas (hw.item (own 9 1 o1 (x.keys++key::y.keys).length ((x.keys++key::y.keys).map kV)) mm).1).1 (zas (hw.item (own 3 1 o2 (x.kids++y.kids).length ((x.kids++y.kids).map iV)) mm).1).1) fun⟨f1,f2⟩=>?_
   rw[f1,f2]
   refine goE ?_
   refine zfa [2,0,1,3,4] rfl rfl ?_
   refine zet ⟨kQ,kQ⟩ rfl rfl (zaf (cs':= #[.bool false,.slice (slA o1) (x.keys++key::y.keys).length (slC o1),.slice none 0 0,.slice (slA o2) (x.kids++y.kids).length (slC o2)]) rfl rfl rfl rfl rfl rfl) fun _=>?_
   refine goA ?_
   refine zbr (m':=[own 9 1 o1 (x.keys++key::y.keys).length ((x.keys++key::y.keys).map kV),own 9 1 none 0 [],own 3 1 o2 (x.kids++y.kids).length ((x.kids++y.kids).map iV),pt b6 (.cells #[.bool false,.slice (slA o1) (x.keys++key::y.keys).length (slC o1),.slice none 0 0,.slice (slA o2) (x.kids++y.kids).length (slC o2)] 185 (0,0))]) (fun w hw=>(zd1 9 1 hw).pick [2,0,3,1] rfl rfl) ?_
   exact zbd ⟨o1,none,o2⟩ rfl ⟨_,rfl,zaq rfl (.tail _ (.tail _ (.tail _ (.head _))))⟩ (by simp only[ndO,iNd];rw[f1,f2];rfl) trivial (.cons_cons _ (.cons_cons _ (.cons_cons _ (aL _)))) (zm3 _ _)
variable{g':Sg}{n n':Nd}
theorem qg5{s:Sh}{N:Nat}{i:Nat}(hl:zhg s N g n i= .ok (n',g')):∃x y,zfs s N g (n.kids.getD (i - 1) 0:Nat)= .ok x∧zfs s N g (n.kids.getD (i - 1+1) 0:Nat)= .ok y∧x.leaf=y.leaf∧
    ((zv7 s (zcq x y (n.keys.getD (i - 1) []))=true∧∃g1 k q,zf0 N g (n.kids.getD (i - 1+1) 0)= .ok g1∧zcc s N g1 (n.kids.getD (i - 1) 0) (zcq x y (n.keys.getD (i - 1) []))= .ok ((k,q),g')∧n'=iNd (n.keys.set (i - 1) k) (n.kids.set (i - 1+1) q))∨
     (zv7 s (zcq x y (n.keys.getD (i - 1) []))=false∧∃g1,zf0 N g (n.kids.getD (i - 1+1) 0)= .ok g1∧zb8 s N g1 (n.kids.getD (i - 1) 0) (zcq x y (n.keys.getD (i - 1) []))= .ok g'∧n'=iNd (n.keys.eraseIdx (i - 1)) (n.kids.eraseIdx (i - 1+1)))):=by
  unfold zhg at hl
  obtain⟨x,h1,hl⟩:=zb6 hl
  obtain⟨y,h2,hl⟩:=zb6 hl
  refine⟨x,y,h1,h2,?_⟩
  by_cases hxy:x.leaf=y.leaf
  · rw[if_neg (fun h=>h hxy)]at hl
    refine⟨hxy,?_⟩
    cases hw:zv7 s (zcq x y (n.keys.getD (i - 1) []))with
    |true=>
      rw[hw,if_pos rfl]at hl
      obtain⟨g1,h3,hl⟩:=zb6 hl
      obtain⟨⟨⟨k,q⟩,g2⟩,h4,hl⟩:=zb6 hl
      cases hl
      exact .inl ⟨rfl,g1,k,q,h3,h4,rfl⟩
    |false=>
      rw[hw,if_neg bR]at hl
      obtain⟨g1,h3,hl⟩:=zb6 hl
      obtain⟨g2,h4,hl⟩:=zb6 hl
      cases hl
      exact .inr ⟨rfl,g1,h3,h4,rfl⟩
  · rw[if_pos hxy]at hl
    cases hl
theorem zw2{α β:Type}(f:α→β):∀(l:List α) (i:Nat),(l.map f).eraseIdx i=(l.eraseIdx i).map f
 | [],_=>rfl
 |_::_,0=>rfl
 |x::l,i+1=>by rw[bG,iZ,iZ,bG,zw2 f l i]
theorem qdp{s1 s2:Sh}{x y:Nd}{ox oy:Po}(key:K)(hs1:ShB s1)(hs2:ShB s2)(hx:zf8 s1 x)(hy:zf8 s2 y)(w:World)(hix:∀it∈ndI x ox,it.prop w)(hiy:∀it∈ndI y oy,it.prop w):
  Ct Tryz.prog 199 #[.agg (ndO x ox),.agg (ndO y oy),kV key] w none' (fun o:Po=>.agg (ndO (zcq x y key) o)) (fun _=>True) (fun o=>ndI (zcq x y key) o):=by
 obtain⟨-,a1,a2,a3⟩:=zku hs1 hx
 obtain⟨-,b1,b2,b3⟩:=zku hs2 hy
 rw[(zp2 hix).1,(zp2 hiy).1]
 exact zxk x y (plO ox) (plO oy) key a1 a2 a3 b1 b2 b3 w (zp2 hix).2 (zp2 hiy).2
theorem qkj{s1 s2:Sh}{x y:Nd}(hs1:ShB s1)(hs2:ShB s2)(hx:zf8 s1 x)(hy:zf8 s2 y)(hk:key.length≤1000000):NdB (zcq x y key)∧(zcq x y key).keys.length≤3000∧(zcq x y key).kids.length≤3000:=by
 obtain⟨hb,a1,a2,a3⟩:=zku hs1 hx
 obtain⟨hb',b1,b2,b3⟩:=zku hs2 hy
 unfold zcq
 split
 ·refine⟨NdB.mk' (by rw[aA];omega) (by rw[aA];omega) dQ (fun k hm=>?_) (fun k hm=>?_),by simp only[lNd];rw[aA];omega,by simp[lNd]⟩
  ·rcases aS.1 hm with h|h
   ·exact hb.kl k h
   ·exact hb'.kl k h
  ·rcases aS.1 hm with h|h
   ·exact hb.vl k h
   ·exact hb'.vl k h
 ·refine⟨NdB.mk' (by rw[aA,aR];omega) dQ (by rw[aA];omega) (fun k hm=>?_) (fun _ h=>nomatch h),by simp only[iNd];rw[aA,aR];omega,by simp only[iNd];rw[aA];omega⟩
  rcases aS.1 hm with h|h
  ·exact hb.kl k h
  ·rcases aK.1 h with rfl|h
   ·exact hk
   ·exact hb'.kl k h
theorem qks(h:Tok c g s)(root:Int)(o:Po)(hlf:n.leaf=false)(hv:n.vals=[])(hb:NdB n)(i:Nat)(hi1:i - 1<n.keys.length)(hkl:n.kids.length=n.keys.length+1)(hsm:n.keys.length≤1000)(hl:zhg c.sh c.N g n i= .ok (n',g')):
  Cw Tryz.prog 156 #[.pointer (some ⟨c.t,c.o,none⟩),.agg (ndO n o),.int .i64 (i:Nat)] (tmI c root s::ndI n o) (fun x:Pg×Po=>.agg (ndO n' x.2)) (fun x=>Tok c g' x.1) (fun x=>tmI c root x.1::ndI n' x.2):=by
 intro w hw ha
 have hsh:ShB c.sh:=h.sh
 have e1:c.sh.cap≤508:=eZ _ _
 have e2:c.sh.fan≤508+c.sh.kw:=eZ _ _
 have e3:=hsh.k2
 obtain⟨x,y,hx,hy,hxy,hcase⟩:=qg5 hl
 obtain⟨hmx, -⟩:=zgi hx
 obtain⟨hmy, -⟩:=zgi hy
 obtain⟨hbx,hx1,hx2,hx3⟩:=zku hsh hmx
 obtain⟨hby,hy1,hy2,hy3⟩:=zku hsh hmy
 obtain⟨lf,ks,vs,kd⟩:=n
 simp only at hlf hv hi1 hkl hsm hx hy hcase⊢
 subst hlf
 subst hv
 obtain⟨ok,ov,od⟩:=o
 obtain⟨kb,kc,e⟩:=zdj (hw (own 9 1 ok ks.length (ks.map kV)) (by simp[ndI])).1 oQ
 subst e
 obtain⟨db,dc,e⟩:=zdj (hw (own 3 1 od kd.length (kd.map iV)) (by simp[ndI])).1 oQ
 subst e
 obtain⟨j,hj⟩:∃j,i - 1=j:=⟨_,rfl⟩
 rw[hj]at hi1 hx hy hcase
 obtain⟨ka,hka⟩:∃x,kd[j]? =some x:=⟨_,aB oQ⟩
 obtain⟨kc2,hkc2⟩:∃x,kd[j+1]? =some x:=⟨_,aB oQ⟩
 obtain⟨key,hkey⟩:∃x,ks[j]? =some x:=⟨_,aB oQ⟩
 rw[show kd.getD j 0=ka by rw[aI,hka];rfl]at hx hcase
 rw[show kd.getD (j+1) 0=kc2 by rw[aI,hkc2];rfl]at hy hcase
 rw[show ks.getD j []=key by rw[aI,hkey];rfl]at hcase
 refine za2 [_,_,_] _ Tryz.func156 rfl rfl hw ha ?_
 unfold ndO ndI
 simp only
 simp only[zaa,Nat.reduceAdd]
 refine goA ?_
 refine zbp rfl rfl fun b4 hb4=>?_
 refine goA ?_
 refine zam rfl rfl fun b6 hb6=>?_
 refine goA ?_
 refine l_w rfl (ztv rfl rfl oQ) ?_
 refine l_w rfl (zoc (c:=(j:Int)) rfl rfl oQ) ?_
 refine goA ?_
 refine zap [0,1,2,3,4,5] 13 rfl rfl kQ ?_
 (repeat first|refine dAv [4,10] rfl rfl rfl ?_ |refine dno [4,10] rfl rfl rfl ?_ |refine dT [4,10] rfl rfl rfl rfl ?_ |refine dF [4,10] rfl rfl rfl rfl ?_)
 refine d_v [10] rfl rfl kQ (fun _ h=>goH h) rfl rfl (za0 (v:=.int .i64 (ka:Int)) rfl rfl (fun w' hw'=>zby (hw'.item (own 3 1 (some (db,dc)) kd.length (kd.map iV)) mm).1 _ _ (by simp only[aJ];rw[aN,hka];rfl))) ?_
 (repeat first|refine dAv [10] rfl rfl rfl ?_ |refine dno [10] rfl rfl rfl ?_ |refine dT [10] rfl rfl rfl rfl ?_ |refine dF [10] rfl rfl rfl rfl ?_)
 refine goV rfl rfl (za0 (v:=.int .i64 (kc2:Int)) rfl rfl (fun w' hw'=>zby (hw'.item (own 3 1 (some (db,dc)) kd.length (kd.map iV)) mm).1 _ _ (by simp only[aJ];rw[aN,hkc2];rfl))) ?_
 refine goX ?_
 refine zay [2,0,1,3,4,5] rfl rfl ?_
 refine lCu [tmI c root s] rfl (zag c root s) (fun w1 hw1 hh1 ha1=>zmz h root ka hx w1 hh1) fun⟨⟨s1,ox⟩,h1⟩=>?_
 have h1:Tok c g s1:=h1
 dsimp only
 unfold ndI
 simp only[aD,aH]
 refine goA ?_
 refine lCu [tmI c root s1] rfl (zag c root s1) (fun w1 hw1 hh1 ha1=>zmz h1 root kc2 hy w1 hh1) fun⟨⟨s2,oy⟩,h2⟩=>?_
 have h2:Tok c g s2:=h2
 dsimp only
 unfold ndI
 simp only[aD,aH]
 refine goA ?_
 refine zam rfl rfl fun b9 hb9=>?_
 refine zam rfl rfl fun b10 hb10=>?_
 refine za1 rfl (zah (zcg _ _ _) (zaf (cs':=ndO x ox) rfl rfl rfl rfl (zdl x ox) rfl)) fun _=>?_
 refine za1 rfl (zah (zcg _ _ _) (zaf (cs':=ndO y oy) rfl rfl rfl rfl (zdl y oy) rfl)) fun _=>?_
 refine goA ?_
 refine zd2 37 _ (.bool true) rfl (by show Value.bool (x.leaf==y.leaf)=_;rw[hxy];simp) ?_
 refine lPu rfl (fun w1 hw1=>zin _ w1) ?_
 refine goA ?_
 refine zap [0,1,2,3,4,5,6,7,8,9,10,11,12,13] 9 rfl rfl kQ ?_
 (repeat first|refine dAv [6] rfl rfl rfl ?_ |refine dno [6] rfl rfl rfl ?_ |refine dT [6] rfl rfl rfl rfl ?_ |refine dF [6] rfl rfl rfl rfl ?_)
 refine goV rfl rfl (za0 (v:=kV key) rfl rfl (fun w' hw'=>zby (hw'.item (own 9 1 (some (kb,kc)) ks.length (ks.map kV)) mm).1 _ _ (by simp only[aJ];rw[aN,hkey];rfl))) ?_
 refine goE ?_
 have hJ:=fun(w1:World) (hix:∀it∈ndI x ox,it.prop w1) (hiy:∀it∈ndI y oy,it.prop w1)=>qdp key hsh hsh hmx hmy w1 hix hiy
 have hB:=qkj hsh hsh hmx hmy (hb.kl key (bH hkey))
 obtain⟨both,hboth⟩:∃b,zcq x y key=b:=⟨_,rfl⟩
 rw[hboth]at hJ hcase hB
 obtain⟨hB,hB1,hB2⟩:=hB
 refine zzm (n':=1) (listed':= #[true,true,true,true,true,true,true,true,true,false]) (fun z:Nat×Po=>[(0,.pointer (some ⟨c.t,c.o,none⟩)),(2,.int .i64 (j:Int)),(4,.pointer (some ⟨b4,0,none⟩)),(6,.pointer (some ⟨b6,0,none⟩)),(7,.int .i64 (ka:Int)),(8,.int .i64 (kc2:Int)),(11,.pointer (some ⟨z.1,0,none⟩)),(46,.agg (ndO both z.2))]) (fun z=>[pt z.1 (.cells #[.bool false,.slice none 0 0,.slice none 0 0,.slice none 0 0] 185 (0,0)),own 9 1 z.2.k both.keys.length (both.keys.map kV),own 9 1 z.2.v both.vals.length (both.vals.map kV),own 3 1 z.2.d both.kids.length (both.kids.map iV),tmI c root s2,pt b6 (.cells #[.bool false,.slice none 0 0,.slice none 0 0,.slice none 0 0] 185 (0,0)),pt b4 (.cells #[.bool false,slV (some (kb,kc)) ks.length,slV ov 0,slV (some (db,dc)) kd.length] 185 (0,0)),own 9 1 (some (kb,kc)) ks.length (ks.map kV),own 9 1 ov 0 [],own 3 1 (some (db,dc)) kd.length (kd.map iV)]) ?_ (fun hk=>?_)
 rotate_left
 ·refine zt7 7 8 ⟨kQ,dQ,dQ⟩ rfl rfl rfl rfl (qhd rfl kQ rfl (fun w1 hw1=>hJ w1 (zdw hw1 mm mm mm) (zdw hw1 mm mm mm))) (zlg rfl rfl) (fun _ _ h=>goH h) (fun _ _ h=>goH h) (fun⟨ob,_⟩=>?_) (fun⟨b11,_⟩=>?_)
  ·refine zat 8 ⟨kQ,dQ⟩ rfl rfl (zlg rfl rfl) (fun _ _ h=>goH h) fun⟨b11,_⟩=>?_
   unfold ndI
   simp only[aD,aH]
   refine zfa [0,1,2,3,6,13,14,15,16,17] rfl rfl ?_
   exact hk (b11,ob) _ ⟨rfl,rfl,rfl,rfl,rfl,rfl,rfl,rfl,trivial⟩
  ·refine zat 7 ⟨kQ,dQ⟩ rfl rfl (qhd rfl kQ rfl (fun w1 hw1=>hJ w1 (zdw hw1 mm mm mm) (zdw hw1 mm mm mm))) (fun _ _ h=>goH h) fun⟨ob,_⟩=>?_
   unfold ndI
   simp only[aD,aH]
   refine zfa [3,0,1,2,6,13,14,15,16,17] rfl rfl ?_
   exact hk (b11,ob) _ ⟨rfl,rfl,rfl,rfl,rfl,rfl,rfl,rfl,trivial⟩
 ·intro ⟨b11,ob⟩
  simp only
  refine zet ⟨kQ,kQ⟩ rfl rfl (zaf (cs':=ndO both ob) rfl rfl rfl rfl (zdl both ob) rfl) fun _=>?_
  refine qi7 (fun w hw=>And.intro (zas (hw.item (own 9 1 ob.k both.keys.length (both.keys.map kV)) mm).1).1 (And.intro (zas (hw.item (own 9 1 ob.v both.vals.length (both.vals.map kV)) mm).1).1 (zas (hw.item (own 3 1 ob.d both.kids.length (both.kids.map iV)) mm).1).1)) fun⟨f1,f2,f3⟩=>?_
  unfold ndO
  rw[f1,f2,f3]
  obtain⟨bl,hbl⟩:∃b,both.leaf=b:=⟨_,rfl⟩
  obtain⟨wd,hwd⟩:∃b,zv7 c.sh both=b:=⟨_,rfl⟩
  rw[hbl]
  refine zka ?_
  refine zr5 ?_
  refine zr5 ?_
  refine zq3 (w0:=w) (F:=za4 [tmI c root s,own 9 1 (some (kb,kc)) ks.length (ks.map kV),own 9 1 ov 0 [],own 3 1 (some (db,dc)) kd.length (kd.map iV)]) (α:=Unit) (fun _=>[(0,.pointer (some ⟨c.t,c.o,none⟩)),(2,.int .i64 (j:Int)),(4,.pointer (some ⟨b4,0,none⟩)),(6,.pointer (some ⟨b6,0,none⟩)),(7,.int .i64 (ka:Int)),(8,.int .i64 (kc2:Int)),(11,.pointer (some ⟨b11,0,none⟩)),(70,.bool wd)]) (fun _=>True) (fun _=>[pt b11 (.cells #[.bool bl,.slice (slA ob.k) both.keys.length (slC ob.k),.slice (slA ob.v) both.vals.length (slC ob.v),.slice (slA ob.d) both.kids.length (slC ob.d)] 185 (0,0)),own 9 1 ob.k both.keys.length (both.keys.map kV),own 9 1 ob.v both.vals.length (both.vals.map kV),own 3 1 ob.d both.kids.length (both.kids.map iV),tmI c root s2,pt b6 (.cells #[.bool false,.slice none 0 0,.slice none 0 0,.slice none 0 0] 185 (0,0)),pt b4 (.cells #[.bool false,slV (some (kb,kc)) ks.length,slV ov 0,slV (some (db,dc)) kd.length] 185 (0,0)),own 9 1 (some (kb,kc)) ks.length (ks.map kV),own 9 1 ov 0 [],own 3 1 (some (db,dc)) kd.length (kd.map iV)]) ?_ fun _ _=>?_
  ·refine zap [0,1,2,3,4,5,6,7,8,9] 24 rfl rfl kQ ?_
   unfold zv7 at hwd
   rw[hbl]at hwd
   refine goE ?_
   refine goV rfl rfl (qa1 rfl mm) ?_
   refine dPu 7 rfl rfl (fun w1 hw1=>zjl hsh w1) ?_
   by_cases hA:c.sh.cap<both.keys.length
   ·cases bl with
    |true=>
     obtain rfl:true=wd:=by rw[←hwd,decide_eq_true hA];rfl
     refine goE ?_
     refine zdn kQ ?_
     exact zep () ⟨rfl,rfl,rfl,rfl,rfl,rfl,rfl,rfl,trivial⟩ trivial (fun w' hw'=>hw')
    |false=>
     have hw2:decide ((both.kids.length:Int)>(c.sh.fan:Int))=wd:=by rw[←hwd,eI,iP,decide_eq_decide];omega
     refine goE ?_
     refine goV rfl rfl (qa1 rfl mm) ?_
     refine dPu 21 rfl rfl (fun w1 hw1=>zhz hsh w1) ?_
     refine goE ?_
     refine zdn kQ ?_
     rw[hw2]
     exact zep () ⟨rfl,rfl,rfl,rfl,rfl,rfl,rfl,rfl,trivial⟩ trivial (fun w' hw'=>hw')
   ·have hw2:decide ((both.kids.length:Int)>(c.sh.fan:Int))=wd:=by rw[←hwd,decide_eq_false hA,lH,iP,decide_eq_decide];omega
    refine goE ?_
    refine goV rfl rfl (qa1 rfl mm) ?_
    refine dPu 21 rfl rfl (fun w1 hw1=>zhz hsh w1) ?_
    refine goE ?_
    refine zdn kQ ?_
    rw[hw2]
    exact zep () ⟨rfl,rfl,rfl,rfl,rfl,rfl,rfl,rfl,trivial⟩ trivial (fun w' hw'=>hw')
  ·rw[hwd]at hcase
   rcases hcase with ⟨rfl,g1,k,q,hd1,hsp,rfl⟩ |⟨rfl,g1,hd1,hsv,rfl⟩
   ·refine goA ?_
    refine zay [4,0,1,2,3,5,6,7,8,9] rfl rfl ?_
    refine lCu [tmI c root s2] rfl (zag c root s2) (fun w1 hw1 hh1 ha1=>zub h2 root kc2 hd1 w1 hh1) fun⟨s3,h3⟩=>?_
    have h3:Tok c g1 s3:=h3
    dsimp only
    simp only[aD,aH]
    refine goA ?_
    rw[←f1,←f2,←f3,←hbl]
    refine zay [0,2,3,4,1,5,6,7,8,9] rfl rfl ?_
    refine lCu (tmI c root s3::ndI both ob) rfl (zco _ _ _ _ _) (fun w1 hw1 hh1 ha1=>zmj h3 root ka both ob hB hsp w1 hh1 ha1) fun⟨s4,h4⟩=>?_
    have h4:Tok c g' s4:=h4
    dsimp only
    simp only[aD,aH]
    refine goA ?_
    refine zam rfl rfl fun b12 hb12=>?_
    refine za1 rfl (zaf rfl rfl rfl rfl rfl rfl) fun _=>?_
    refine goA ?_
    refine zcx [5,7,0,1,2,3,4,6] rfl rfl ?_
    refine zap [2,3,4,5,6,7] 15 rfl rfl kQ ?_
    refine goE ?_
    refine zat 12 ⟨kQ,dQ⟩ rfl rfl (zvi (v:=kV k) rfl rfl rfl rfl rfl rfl oQ) (fun _ _ h=>goH h) fun _=>?_
    refine zfa [1,0,2,3,4,5,6,7] rfl rfl ?_
    refine goE ?_
    refine zat 14 ⟨kQ,dQ⟩ rfl rfl (zvi (v:=iV q) rfl rfl rfl rfl rfl rfl oQ) (fun _ _ h=>goH h) fun _=>?_
    refine zdn kQ ?_
    rw[show(ks.map kV).set (0+j) (kV k)=(ks.set j k).map kV by rw[aJ,gR],show(kd.map iV).set (0+(j+1)) (iV q)=(kd.set (j+1) q).map iV by rw[aJ,gR]]
    have l1:ks.length=(ks.set j k).length:=bE.symm
    have l2:kd.length=(kd.set (j+1) q).length:=bE.symm
    refine goA ?_
    refine za1 rfl (zah (zjj _ _ _ _ _ _ _) (zaf rfl rfl rfl rfl (zdl ⟨false,ks,[],kd⟩ ⟨some (kb,kc),ov,some (db,dc)⟩) rfl)) fun _=>?_
    refine zay [4,2,7,1,0] rfl rfl ?_
    refine goA ?_
    exact zbd (s4,⟨some (kb,kc),ov,some (db,dc)⟩) rfl ⟨_,rfl,zaq rfl mm⟩ (by simp only[ndO,iNd];rw[←l1,←l2];rfl) h4 (by simp only[iNd];rw[←l1,←l2];exact .cons_cons _ (.cons_cons _ (.cons_cons _ (.cons_cons _ (aL _))))) (zco _ _ _ _ _)
   ·refine goA ?_
    refine zay [4,0,1,2,3,5,6,7,8,9] rfl rfl ?_
    refine lCu [tmI c root s2] rfl (zag c root s2) (fun w1 hw1 hh1 ha1=>zub h2 root kc2 hd1 w1 hh1) fun⟨s3,h3⟩=>?_
    have h3:Tok c g1 s3:=h3
    dsimp only
    simp only[aD,aH]
    refine goA ?_
    refine lCu [tmI c root s3] rfl (zag c root s3) (fun w1 hw1 hh1 ha1=>zcv h3 root ka both hbl rfl rfl rfl hB hsv w1 ⟨za8 (hw1.item (own 9 1 ob.k both.keys.length (both.keys.map kV)) mm).1,za8 (hw1.item (own 9 1 ob.v both.vals.length (both.vals.map kV)) mm).1,za8 (hw1.item (own 3 1 ob.d both.kids.length (both.kids.map iV)) mm).1⟩ ⟨zbx hw1 (o:=ob.k) mm,zbx hw1 (o:=ob.v) mm,zbx hw1 (o:=ob.d) mm⟩ hh1) fun⟨s4,h4⟩=>?_
    have h4:Tok c g' s4:=h4
    dsimp only
    simp only[aD,aH]
    refine goA ?_
    refine zcx [7,9,0,5,6,8] rfl rfl ?_
    refine zap [2,3,4,5] 14 rfl rfl kQ ?_
    refine goE ?_
    refine zat 5 ⟨kQ,dQ⟩ rfl rfl (zfb (pre:=[own 9 1 (some (kb,kc)) ks.length (ks.map kV)]) rfl kQ rfl (by simp[zac]) (fun w1 hw1 hh1 ha1=>zit kb kc ks.length j (ks.map kV) (zl4 ks) oQ oQ w1 hh1)) (fun _ _ h=>goH h) fun⟨_,_⟩=>?_
    refine goE ?_
    refine zfa [1,0,2,3,4,5] rfl rfl ?_
    refine zat 12 ⟨kQ,dQ⟩ rfl rfl (zfb (pre:=[own 3 1 (some (db,dc)) kd.length (kd.map iV)]) rfl kQ rfl (by simp[zac]) (fun w1 hw1 hh1 ha1=>zux db dc kd.length (j+1) (kd.map iV) (qgf kd) oQ oQ w1 hh1)) (fun _ _ h=>goH h) fun⟨_,_⟩=>?_
    simp only[aD,aH]
    refine zfa [4,0,1,2,3,5] rfl rfl ?_
    refine zor 14 rfl rfl rfl rfl rfl rfl rfl rfl rfl rfl rfl rfl rfl rfl rfl kQ kQ (by show(1:Nat)<4;decide) (by show(3:Nat)<4;decide) ?_
    have l1:ks.length - 1=(ks.eraseIdx j).length:=(eU oQ).symm
    have l2:kd.length - 1=(kd.eraseIdx (j+1)).length:=(eU oQ).symm
    rw[zw2,zw2]
    refine goA ?_
    refine za1 rfl (zah (zji _ _ _ _ _ _) (zaf rfl rfl rfl rfl (zdl ⟨false,ks.eraseIdx j,[],kd.eraseIdx (j+1)⟩ ⟨some (kb,kc),ov,some (db,dc)⟩) rfl)) fun _=>?_
    refine goA ?_
    refine zgf [4,3,5,2,0] rfl rfl ?_
    exact zbd (s4,⟨some (kb,kc),ov,some (db,dc)⟩) rfl ⟨_,rfl,zaq rfl mm⟩ (by simp only[ndO,iNd];rw[←l1,←l2];rfl) h4 (by simp only[iNd];rw[←l1,←l2];exact .cons_cons _ (.cons_cons _ (.cons_cons _ (.cons_cons _ (aL _))))) (zco _ _ _ _ _)
variable{s:Sh}
theorem zmd{N:Nat}{at_:Nat}(hl:zb8 s N g at_ n= .ok g'):zf8 s n:=by
 unfold zb8 at hl
 split at hl
 ·rename_i h;exact h
 ·cases hl
theorem zn9{N:Nat}{d:Nat}{at_:Int}{b:Bool}(hl:zd8 s N key (d+1) g at_= .ok ((n',b),g')):∃n,zfs s N g at_= .ok n∧
    ((n.leaf=true∧fd n.keys key=true∧n'=lNd (n.keys.eraseIdx (lb n.keys key)) (n.vals.eraseIdx (lb n.keys key))∧b=true∧g'=g)∨(n.leaf=true∧fd n.keys key=false∧n'=n∧b=false∧g'=g)∨
     (n.leaf=false∧∃r b1 g1,zd8 s N key d g (n.kids.getD (dn n.keys key) 0:Nat)= .ok ((r,b1),g1)∧((b1=false∧n'=n∧b=false∧g'=g1)∨
      (b1=true∧∃g2,zb8 s N g1 (n.kids.getD (dn n.keys key) 0) r= .ok g2∧b=true∧((zqj s r=true∧zhg s N g2 n (dn n.keys key)= .ok (n',g'))∨(zqj s r=false∧n'=n∧g'=g2)))))):=by
  rw[zd8]at hl
  obtain⟨n,h1,h2⟩:=zb6 hl
  refine⟨n,h1,?_⟩
  cases hlf:n.leaf with
  |true=>
    simp only[hlf,if_true]at h2
    cases hf:fd n.keys key with
    |true=>
      simp only[hf,if_true]at h2
      cases h2
      exact .inl ⟨rfl,rfl,rfl,rfl,rfl⟩
    |false=>
      simp only[hf,bV,if_false]at h2
      cases h2
      exact .inr (.inl ⟨rfl,rfl,rfl,rfl,rfl⟩)
  |false=>
    simp only[hlf,bV,if_false]at h2
    obtain⟨⟨⟨r,b1⟩,g1⟩,h3,h4⟩:=zb6 h2
    refine .inr (.inr ⟨rfl,r,b1,g1,h3,?_⟩)
    cases b1 with
    |false=>
      simp only[bV,if_false]at h4
      cases h4
      exact .inl ⟨rfl,rfl,rfl,rfl⟩
    |true=>
      simp only[if_true]at h4
      obtain⟨g2,h5,h6⟩:=zb6 h4
      refine .inr ⟨rfl,g2,h5,?_⟩
      cases hp:zqj s r with
      |true=>
        simp only[hp,if_true]at h6
        obtain⟨⟨n2,g3⟩,h7,h8⟩:=zb6 h6
        cases h8
        exact⟨rfl,.inl ⟨rfl,h7⟩⟩
      |false=>
        simp only[hp,bV,if_false]at h6
        cases h6
        exact⟨rfl,.inr ⟨rfl,rfl,rfl⟩⟩
variable{s:Pg}
theorem qld(h:Tok c g s)(root:Int)(at_:Nat)(n:Nd)(o:Po)(hl:zb8 c.sh c.N g at_ n= .ok g')(w:World)(hi:∀it∈ndI n o,it.prop w)(hA:NdA (za4 [tmI c root s]) (plO o))(hw:∀it∈[tmI c root s],zbq it w):
  Ct Tryz.prog 108 #[.pointer (some ⟨c.t,c.o,none⟩),.int .i64 (at_:Int),.agg (ndO n o)] w (za4 [tmI c root s]) (fun _:Pg=>.tuple #[]) (fun s'=>Tok c g' s') (fun s'=>[tmI c root s']):=by
 rw[(zp2 hi).1]
 exact save_ok' h root at_ n (plO o) (zku h.sh (zmd hl)).1 hl w (zp2 hi).2 hA hw
variable{o:Po}
theorem qok{w:World}{F:Nat→Prop}{it:Eng.Item}(h:Hp w0 F (it::m) w)(hk:own 9 1 o.k n.keys.length (n.keys.map kV)∈m)(hv:own 9 1 o.v n.vals.length (n.vals.map kV)∈m)(hd:own 3 1 o.d n.kids.length (n.kids.map iV)∈m):NdA (za4 [it]) (plO o):=⟨zbx h hk,zbx h hv,zbx h hd⟩
theorem qk6(ht:Tok c g s)(root:Int)(hm:zf8 c.sh n)(w:World)(h:zbq (tmI c root s) w)(hi:∀it∈ndI n o,it.prop w):Pu Tryz.prog 148 #[.pointer (some ⟨c.t,c.o,none⟩),.agg (ndO n o)] w (.int .i64 (qao c.sh n)):=by
 obtain⟨-,a1, -,a3⟩:=zku ht.sh hm
 rw[(zp2 hi).1]
 exact qeb ht root n (plO o) a1 a3 w h
theorem qeh(c:Tc)(root:Int)(key:K):∀(d:Nat) (g:Sg) (s:Pg) (at_:Int) {n':Nd} {b:Bool} {g':Sg},Tok c g s→d≤16→zd8 c.sh c.N key d g at_= .ok ((n',b),g')→∀w:World,(∀it∈[tmI c root s],zbq it w)→
  Ct Tryz.prog 106 #[.pointer (some ⟨c.t,c.o,none⟩),.int .i64 at_,.int .i64 (d:Nat),kV key] w (za4 [tmI c root s]) (fun x:Pg×Po=>.tuple #[.agg (ndO n' x.2),.bool b]) (fun x=>Tok c g' x.1) (fun x=>tmI c root x.1::ndI n' x.2):=by
 intro d
 induction d with
 |zero=>
  intro g s at_ n' b g' _ _ hl
  rw[zd8]at hl;cases hl
 |succ d ih=>
  intro g s at_ n' b g' h hd hl w hw
  obtain⟨n,h1,hcase⟩:=zn9 hl
  obtain⟨hmay,i0,hi0,hi1,hi2⟩:=zgi h1
  subst hi0
  obtain⟨hnb,hb1,hb2,hb3⟩:=zku h.sh hmay
  refine za2 [_,_,_,_] _ Tryz.func106 rfl rfl hw (.cons (fun _ h=>nomatch h) .nil) ?_
  simp only[zaa,Nat.reduceAdd]
  refine goA ?_
  refine zam rfl rfl fun b8 hb8=>?_
  refine goA ?_
  refine lPu rfl (fun w1 hw1=>zvc oQ _ w1) ?_
  refine goA ?_
  refine zay [1,0] rfl rfl ?_
  refine lCu [tmI c root s] rfl (zag c root s) (fun w1 hw1 hh1 ha1=>zmz h root i0 h1 w1 hh1) fun⟨⟨s1,o⟩,hs1⟩=>?_
  have hs1:Tok c g s1:=hs1
  dsimp only
  refine goA ?_
  refine zam rfl rfl fun b10 hb10=>?_
  refine za1 rfl (zaf (cs':=ndO n o) rfl rfl rfl rfl (zdl n o) rfl) fun _=>?_
  unfold ndI
  simp only[aD,aH]
  rcases hcase with ⟨hlf,hf,rfl,rfl,rfl⟩ |⟨hlf,hf,rfl,rfl,rfl⟩ |⟨hlf,r,b1,g1,hp,hcase⟩
  ·obtain⟨hkd,hkv, -, -⟩:=hmay.leaf hlf
   have hlb:lb n.keys key<n.keys.length:=(aF.1 (zly.1 hf)).1
   obtain⟨lf,ks,vs,kd⟩:=n
   simp only at hlf hkd hkv hlb hb1 hb2 hf⊢
   subst hlf
   subst hkd
   obtain⟨ok,ov,od⟩:=o
   simp only
   refine zch (fun w hw=>And.intro (zdj (hw.item (own 9 1 ok ks.length (ks.map kV)) mm).1 oQ) (zdj (hw.item (own 9 1 ov vs.length (vs.map kV)) mm).1 oQ)) fun⟨⟨kb,kc,e⟩,⟨vb,vc,e'⟩⟩=>?_
   subst e
   subst e'
   unfold ndO
   refine goA ?_
   refine lPu rfl (fun w1 hw1=>zl0 hmay hb1 key w1 (zdw (o:=⟨some (kb,kc),some (vb,vc),od⟩) hw1 mm mm mm)) ?_
   simp only
   rw[hf]
   obtain⟨j,hj⟩:∃j,lb ks key=j:=⟨_,rfl⟩
   rw[hj]at hlb⊢
   refine goA ?_
   refine zcx [2,3,0,1,4,5] rfl rfl ?_
   refine zap [2,3,4,5] 13 rfl rfl kQ ?_
   refine goE ?_
   refine zat 5 ⟨kQ,dQ⟩ rfl rfl (zfb (pre:=[own 9 1 (some (kb,kc)) ks.length (ks.map kV)]) rfl kQ rfl (by simp[zac]) (fun w1 hw1 hh1 ha1=>zit kb kc ks.length j (ks.map kV) (zl4 ks) oQ oQ w1 hh1)) (fun _ _ h=>goH h) fun⟨_,_⟩=>?_
   refine goE ?_
   refine zfa [1,0,2,3,4,5] rfl rfl ?_
   refine zat 11 ⟨kQ,dQ⟩ rfl rfl (zfb (pre:=[own 9 1 (some (vb,vc)) vs.length (vs.map kV)]) rfl kQ rfl (by simp[zac]) (fun w1 hw1 hh1 ha1=>zit vb vc vs.length j (vs.map kV) (zl4 vs) oQ oQ w1 hh1)) (fun _ _ h=>goH h) fun⟨_,_⟩=>?_
   simp only[aD,aH]
   refine goE ?_
   refine zfa [2,0,1,3,4,5] rfl rfl ?_
   refine zor 13 rfl rfl rfl rfl rfl rfl rfl rfl rfl rfl rfl rfl rfl rfl rfl kQ kQ (by show(1:Nat)<4;decide) (by show(2:Nat)<4;decide) ?_
   have l1:ks.length - 1=(ks.eraseIdx j).length:=(eU oQ).symm
   have l2:vs.length - 1=(vs.eraseIdx j).length:=(eU oQ).symm
   rw[zw2,zw2]
   refine goA ?_
   refine za1 rfl (zah (zjj _ _ _ _ _ _ _) (zaf rfl rfl rfl rfl (zdl ⟨true,ks.eraseIdx j,vs.eraseIdx j,[]⟩ ⟨some (kb,kc),some (vb,vc),od⟩) rfl)) fun _=>?_
   refine goA ?_
   refine zgf [4,3,2,5,0] rfl rfl ?_
   exact zc1 (s1,⟨some (kb,kc),some (vb,vc),od⟩) rfl ⟨_,rfl,zaq rfl mm⟩ rfl (by simp only[ndO,lNd];rw[←l1,←l2];rfl) hs1 (by simp only[lNd];rw[←l1,←l2];exact .cons_cons _ (.cons_cons _ (.cons_cons _ (.cons_cons _ (aL _))))) (zco _ _ _ _ _)
  ·obtain⟨hkd,hkv, -, -⟩:=hmay.leaf hlf
   unfold ndO
   rw[hlf]
   refine goA ?_
   refine lPu rfl (fun w1 hw1=>by have:=zl0 hmay hb1 key w1 (zdw (o:=o) hw1 mm mm mm);unfold ndO at this;rw[hlf]at this;exact this) ?_
   rw[hf]
   refine goA ?_
   refine za1 rfl (zah (zjj _ _ _ _ _ _ _) (zaf rfl rfl rfl rfl (by have:=zdl n' o;unfold ndO at this;rw[hlf]at this;exact this) rfl)) fun _=>?_
   refine goA ?_
   refine zgf [2,3,4,5,0] rfl rfl ?_
   exact zc1 (s1,o) rfl ⟨_,rfl,zaq rfl mm⟩ rfl rfl hs1 (.cons_cons _ (.cons_cons _ (.cons_cons _ (.cons_cons _ (aL _))))) (zco _ _ _ _ _)
  ·obtain⟨hkr,hvs,hkl1,hk1, -⟩:=hmay.inner hlf
   have hdn:=zoh n.keys key
   obtain⟨lf,ks,vs,kd⟩:=n
   simp only at hlf hvs hkl1 hk1 hdn hb1 hb3 hp hcase⊢
   subst hlf
   subst hvs
   obtain⟨ok,ov,od⟩:=o
   simp only
   refine zch (fun w hw=>zdj (hw.item (own 3 1 od kd.length (kd.map iV)) mm).1 oQ) fun⟨db,dc,e⟩=>?_
   subst e
   obtain⟨kq,hkq⟩:∃x,kd[dn ks key]? =some x:=⟨_,aB oQ⟩
   rw[show kd.getD (dn ks key) 0=kq by rw[aI,hkq];rfl]at hp hcase
   unfold ndO
   refine goA ?_
   refine lPu rfl (fun w1 hw1=>zoq hmay hb1 key w1 (zdw (o:=⟨ok,ov,some (db,dc)⟩) hw1 mm mm mm)) ?_
   simp only
   obtain⟨i,hi⟩:∃i,dn ks key=i:=⟨_,rfl⟩
   rw[hi]at hkq hcase hdn⊢
   refine goA ?_
   refine l_w rfl (za0 (v:=.int .i64 (kq:Int)) rfl rfl (fun w' hw'=>zby (hw'.item (own 3 1 (some (db,dc)) kd.length (kd.map iV)) mm).1 _ _ (by simp only[aJ];rw[aN,hkq];rfl))) ?_
   refine goA ?_
   rw[show d+1 - 1=d by omega]
   refine zay [1,0,2,3,4,5] rfl rfl ?_
   refine lCu [tmI c root s1] rfl (zag c root s1) (fun w1 hw1 hh1 ha1=>ih g s1 (kq:Nat) hs1 oQ hp w1 hh1) fun⟨⟨s2,o2⟩,hs2⟩=>?_
   have hs2:Tok c g1 s2:=hs2
   dsimp only
   unfold ndI
   simp only[aD,aH]
   refine goA ?_
   refine zam rfl rfl fun b14 hb14=>?_
   refine za1 rfl (zaf (cs':=ndO r o2) rfl rfl rfl rfl (zdl r o2) rfl) fun _=>?_
   refine goA ?_
   rcases hcase with ⟨rfl,rfl,rfl,rfl⟩ |⟨rfl,g2,hsv,rfl,hcase⟩
   ·refine goA ?_
    refine zay [1,6,7,8,9] rfl rfl ?_
    refine za1 rfl (zah (zji _ _ _ _ _ _) (zaf rfl rfl rfl rfl (zdl ⟨false,ks,[],kd⟩ ⟨ok,ov,some (db,dc)⟩) rfl)) fun _=>?_
    refine goA ?_
    exact zc1 (s2,⟨ok,ov,some (db,dc)⟩) rfl ⟨_,rfl,zaq rfl (.head _)⟩ rfl rfl hs2 (.cons _ (.refl _)) (zco _ _ _ _ _)
   ·refine goA ?_
    refine zcx [1,0,2,3,4,5,6,7,8,9] rfl rfl ?_
    refine zap [1,2,3,4,5,6,7,8,9] 8 rfl rfl kQ ?_
    (repeat first|refine dAv [5] rfl rfl rfl ?_ |refine dno [5] rfl rfl rfl ?_ |refine dT [5] rfl rfl rfl rfl ?_ |refine dF [5] rfl rfl rfl rfl ?_)
    refine goV rfl rfl (za0 (v:=.int .i64 (kq:Int)) rfl rfl (fun w' hw'=>zby (hw'.item (own 3 1 (some (db,dc)) kd.length (kd.map iV)) mm).1 _ _ (by simp only[aJ];rw[aN,hkq];rfl))) ?_
    refine goE ?_
    refine zat 7 ⟨kQ,dQ⟩ rfl rfl (zfb (pre:=[tmI c root s2]) rfl kQ rfl (zag c root s2) (fun w1 hw1 hh1 ha1=>qld hs2 root kq r o2 hsv w1 (zdw hw1 mm mm mm) (qok hw1 mm mm mm) hh1)) (fun _ _ h=>goH h) fun⟨s3,hs3⟩=>?_
    have hs3:Tok c g2 s3:=hs3
    dsimp only
    simp only[aD,aH]
    refine zdn kQ ?_
    refine goA ?_
    refine lPu rfl (fun w1 hw1=>qk6 hs3 root (zmd hsv) w1 (zbq.of (hw1.item (tmI c root s3) mm) (zad _)) (zdw hw1 mm mm mm)) ?_
    rcases hcase with ⟨hpo,hm⟩ |⟨hpo,rfl,rfl⟩
    ·have hpp:decide (qao c.sh r>0)=true:=by rw[qcd,hpo]
     refine goA ?_
     rw[hpp]
     refine goA ?_
     refine zay [0,6,7,8,5,9] rfl rfl ?_
     refine lCu (tmI c root s3::ndI ⟨false,ks,[],kd⟩ ⟨ok,ov,some (db,dc)⟩) rfl (zco _ _ _ _ _) (fun w1 hw1 hh1 ha1=>qks hs3 root ⟨ok,ov,some (db,dc)⟩ rfl rfl hnb i (by simp only;omega) hkl1 hb1 hm w1 hh1 ha1) fun⟨⟨s4,o4⟩,h4⟩=>?_
     have h4:Tok c g' s4:=h4
     dsimp only
     unfold ndI
     simp only[aD,aH]
     refine za1 rfl (zah (zji _ _ _ _ _ _) (zaf (cs':=ndO n' o4) rfl rfl rfl rfl (zdl n' o4) rfl)) fun _=>?_
     refine goA ?_
     refine za1 rfl (zah (zjj _ _ _ _ _ _ _) (zaf (cs':=ndO n' o4) rfl rfl rfl rfl (zdl n' o4) rfl)) fun _=>?_
     refine goA ?_
     exact zc1 (s4,o4) rfl ⟨_,rfl,zaq rfl (.head _)⟩ rfl rfl h4 (.cons _ (.cons _ (.refl _))) (zco _ _ _ _ _)
    ·have hpp:decide (qao c.sh r>0)=false:=by rw[qcd,hpo]
     refine goA ?_
     rw[hpp]
     refine goA ?_
     refine zay [0,6,7,8,9] rfl rfl ?_
     refine za1 rfl (zah (zji _ _ _ _ _ _) (zaf rfl rfl rfl rfl (zdl ⟨false,ks,[],kd⟩ ⟨ok,ov,some (db,dc)⟩) rfl)) fun _=>?_
     refine goA ?_
     exact zc1 (s3,⟨ok,ov,some (db,dc)⟩) rfl ⟨_,rfl,zaq rfl (.head _)⟩ rfl rfl hs3 (.cons _ (.refl _)) (zco _ _ _ _ _)
end Go.Proofs.YthafakdplhdfjaaGreatDoor
namespace Go.Eng
open Go.RowKit
section
variable{P:Program}{l:zav}{w0:World}{F:Nat→Prop}{m:List Item}{fn:Func}{R:Ending→World→Prop}
variable{f:FuncId}{args:Array Value}{u:FrameMode}{w:World}
theorem qda{c:Code}{R:Ending→FrameMode→World→Prop}(hf:P.funcs[f]? =some fn)(hb:fn.body=some c)
  (h:∀(c₀:Frame) (cs:List Frame),c₀.mode=u→c.wpS P (bodyPostS P fn c₀ cs R) { tmps:=args++Array.replicate (fn.ntmps - args.size) undef,defers:=[] } (c₀::cs) w):CallsDIn (fw none) 0 P f args u w R:=by
 refine⟨trivial,fun c₀ cs hu _=>?_⟩
 let b:Frame:={ (default:Frame)with fn:=f,kind:=.deferred }
 have hi:Frame.enter P f args .deferred=b.at { tmps:=args++Array.replicate (fn.ntmps - args.size) undef,defers:=[] } [.code c]:=by simp[Frame.enter,Frame.at,hf,hb,b]
 obtain⟨e,a',cs',w',hq,harr⟩:=h c₀ cs hu b [] rfl rfl
 rw[←hi]at harr
 match e,hq,harr with
 | .normal,hq,harr=>
  obtain⟨hd,u',rfl,v,hr,hR⟩:=hq
  exact⟨.returned v,u',w',_,hR,comesIn_wide.2 (Steps.trans harr (.one step_end)),rfl,rfl,rfl,hd,fn,hf,hr⟩
 | .ret,hq,harr=>
  obtain⟨hd,u',rfl,v,hr,hR⟩:=hq
  obtain⟨todo,hs⟩:=harr
  exact⟨.returned v,u',w',_,hR,comesIn_wide.2 hs,rfl,rfl,rfl,hd,fn,hf,hr⟩
 | .panic chain,hq,harr=>
  obtain⟨hd,u',rfl,hR⟩:=hq
  obtain⟨todo,hs⟩:=harr
  exact⟨.panicked chain,u',w',_,hR,comesIn_wide.2 hs,rfl,rfl,rfl,hd,fn,hf⟩
 | .exit _,hq,_=>exact hq.elim
 | .goto _,hq,_=>exact hq.elim
 | .outgrown,hq,harr=>
  obtain⟨u',hR⟩:=hq
  exact⟨.outgrown,u',w',b,hR,comesIn_wide.2 (harr.resolve_left (by simp[b])),rfl,rfl,trivial⟩
theorem qfm{R:Ending→FrameMode→World→Prop}(h:CallsDIn (fw none) 0 P f args u w R):CallsD P f args u w R:=
 fun c cs hu=>let ⟨e,u',w',fr,r,s,k,_,g⟩:=h.2 c cs hu (room_wide _);⟨e,u',w',fr,r,comesIn_wide.1 s,k,g⟩
variable{ds:List Deferred}
theorem qja{n D:Nat}(h:HX (zpc P fn R) .ret ⟨n,ds,none⟩ l (Hp w0 F m)):HX (zpc P fn R) .ret ⟨n,zel D::ds,none⟩ l (Hp w0 F (pt D (.deferred (some []))::m)):=by
 unfold HX at*
 intro a w st hw
 show LeavesInM (fw none) 0 P fn a.tmps R a.defers .returning w
 rw[st.defers]
 refine⟨by simp,.inl ⟨D,_,rfl,run_takeDeferred (hw.get (b:=D) (o:=.deferred (some [])) sQ),?_⟩⟩
 exact h { a with defers:=ds } _ ⟨st.size,rfl,st.slot⟩ ((hw.put _).sub (gF _ _))
theorem qa7{n:Nat}{vs:List Value}(hb:za7 P f=true)(hd:∀w,Hp w0 F m w→CallsDIn (fw none) 0 P f vs.toArray .returning w fun e u' w'=>u'= .returning∧(∃v,e= .returned v)∧Fr none' w w')
  (h:HX (zpc P fn R) .ret ⟨n,ds,none⟩ l (Hp w0 F m)):HX (zpc P fn R) .ret ⟨n,{ target:=.fn (.func f) #[],args:=vs.toArray }::ds,none⟩ l (Hp w0 F m):=by
 unfold HX at*
 intro a w st hw
 show LeavesInM (fw none) 0 P fn a.tmps R a.defers .returning w
 rw[st.defers]
 refine⟨by simp,.inr ⟨zla _,_,_,f,vs.toArray,rfl,by simp[invoke,zdz hb],fun _ _=>trivial,(hd w hw).mono ?_⟩⟩
 rintro e u' w' ⟨rfl,⟨v,rfl⟩,hf⟩
 exact h { a with defers:=ds } w' ⟨st.size,rfl,st.slot⟩ (hw.keep hf)
end
end Go.Eng
namespace Go.Proofs.YthafakdplhdfjaaGreatDoor
open Go.RowKit Go.Eng Go.Eng.Bm Go.Eng.Tr
variable{g:Sg}{n:Nd}
theorem qvm{s:Sh}{N:Nat}{key:K}{d:Nat}{at_:Int}(hl:qdg s N g key (d+1) at_= .ok n):∃n1,zfs s N g at_= .ok n1∧((n1.leaf=true∧n=n1)∨(n1.leaf=false∧qdg s N g key d (n1.kids.getD (dn n1.keys key) 0:Nat)= .ok n)):=by
 rw[qdg]at hl
 obtain⟨n1,h1,h2⟩:=zb6 hl
 refine⟨n1,h1,?_⟩
 cases hlf:n1.leaf with
 |true=>
  rw[hlf,if_pos rfl]at h2
  cases h2
  exact .inl ⟨rfl,rfl⟩
 |false=>
  rw[hlf,if_neg bR]at h2
  exact .inr ⟨rfl,h2⟩
variable{c:Tc}{s:Pg}
theorem zu5(h:Tok c g s)(root:Int)(key:K)(hl:qdg c.sh c.N g key 16 root= .ok n):
  Cv Tryz.prog 103 #[.pointer (some ⟨c.t,c.o,none⟩),kV key] [tmI c root s] (fun x:Pg×Po=>.agg (ndO n x.2)) (fun x=>Tok c g x.1∧n.leaf=true∧zf8 c.sh n) (fun x=>tmI c root x.1::ndI n x.2):=by
 intro w hw
 refine za2 [_,_] _ Tryz.func103 rfl rfl hw (.cons (fun _ h=>nomatch h) .nil) ?_
 simp only[zaa,Nat.reduceAdd]
 refine goA ?_
 refine zam rfl rfl fun b4 hb4=>?_
 refine goA ?_
 refine l_w rfl (zfg rfl mm) ?_
 refine goA ?_
 refine zc0 (α:=Nat×Int×Pg) (fun y=>[(0,.pointer (some ⟨c.t,c.o,none⟩)),(1,kV key),(4,.pointer (some ⟨b4,0,none⟩)),(5,.int .i64 y.2.1),(11,.int .i64 (y.1:Nat))]) (fun y=>y.1≤16∧Tok c g y.2.2∧qdg c.sh c.N g key (16 - y.1) y.2.1= .ok n) (fun y=>[tmI c root y.2.2,pt b4 (.cells #[.bool false,.slice none 0 0,.slice none 0 0,.slice none 0 0] 185 (0,0))]) (fun y=>16 - y.1) (0,root,s) ⟨rfl,rfl,rfl,rfl,rfl,trivial⟩ ⟨bA _,h,hl⟩ (fun w' hw'=>hw'.pick [1,0] rfl rfl) fun⟨k,at_,s1⟩ ⟨hk,h1,hl1⟩=>?_
 simp only at hk h1 hl1⊢
 obtain⟨m,hm⟩:∃m,16 - k=m+1:=by
  refine⟨15 - k,?_⟩
  rcases gG k 16 with h|h
  ·omega
  ·rw[show 16 - k=0 by omega,qdg]at hl1;cases hl1
 rw[hm]at hl1
 obtain⟨n1,hl2,hcase⟩:=qvm hl1
 obtain⟨hmay,i0,hi0, -, -⟩:=zgi hl2
 obtain⟨hnb,hb1,hb2,hb3⟩:=zku h.sh hmay
 refine goA ?_
 refine lCu [tmI c root s1] rfl (zag c root s1) (fun w1 hw1 hh1 ha1=>zmz h1 root at_ hl2 w1 hh1) fun⟨⟨s2,o⟩,h2⟩=>?_
 have h2:Tok c g s2:=h2
 dsimp only
 unfold ndI
 simp only[aD,aH]
 refine goA ?_
 refine zam rfl rfl fun b6 hb6=>?_
 refine za1 rfl (zaf (cs':=ndO n1 o) rfl rfl rfl rfl (zdl n1 o) rfl) fun _=>?_
 rcases hcase with ⟨hlf,rfl⟩ |⟨hlf,hl3⟩
 ·refine goA ?_
  rw[hlf]
  refine goA ?_
  refine za1 rfl (zah (zjj _ _ _ _ _ _ _) (zaf (cs':=ndO n o) rfl rfl rfl rfl (zdl n o) rfl)) fun _=>?_
  refine goA ?_
  refine zgf [2,3,4,5,0] rfl rfl ?_
  exact zbd (s2,o) rfl ⟨_,rfl,zaq rfl mm⟩ rfl ⟨h2,rfl,hmay⟩ (.cons_cons _ (.cons_cons _ (.cons_cons _ (.cons_cons _ (aL _))))) (zco _ _ _ _ _)
 ·obtain⟨hkr,hvs,hkl1,hk1, -⟩:=hmay.inner hlf
  have hdn:=zoh n1.keys key
  refine zch (fun w hw=>zdj (hw.item (own 3 1 o.d n1.kids.length (n1.kids.map iV)) mm).1 oQ) fun⟨db,dc,e⟩=>?_
  obtain⟨ok,ov,od⟩:=o
  simp only at e⊢
  subst e
  obtain⟨kq,hkq⟩:∃x,n1.kids[dn n1.keys key]? =some x:=⟨_,aB oQ⟩
  rw[show n1.kids.getD (dn n1.keys key) 0=kq by rw[aI,hkq];rfl]at hl3
  refine goA ?_
  rw[hlf]
  refine goA ?_
  refine zap [0,1,2,3,4,5] 8 rfl rfl kQ ?_
  refine goE ?_
  refine dPu 4 rfl rfl (fun w1 hw1=>zoq (o:=⟨ok,ov,some (db,dc)⟩) hmay hb1 key w1 (zdw hw1 mm mm mm)) ?_
  (repeat first|refine dAv [6] rfl rfl rfl ?_ |refine dno [6] rfl rfl rfl ?_ |refine dT [6] rfl rfl rfl rfl ?_ |refine dF [6] rfl rfl rfl rfl ?_)
  refine goV rfl rfl (za0 (v:=.int .i64 (kq:Int)) rfl rfl (fun w' hw'=>zby (hw'.item (own 3 1 (some (db,dc)) n1.kids.length (n1.kids.map iV)) mm).1 _ _ (by simp only[aJ];rw[aN,hkq];rfl))) ?_
  refine goX ?_
  exact zaw (k+1,(kq:Int),s2) ⟨rfl,rfl,rfl,rfl,rfl,trivial⟩ ⟨by simp only;omega,h2,by simp only;rw[show 16 - (k+1)=m by omega];exact hl3⟩ (fun w' hw'=>hw'.pick [1,5] rfl rfl) (by simp only;omega)
theorem zo3(ht:Tok c g s)(root:Int)(w:World)(h:zbq (tmI c root s) w):Pu Tryz.prog 98 #[.pointer (some ⟨c.t,c.o,none⟩)] w (.tuple #[]):=by
 refine zbn [_] Tryz.func98 rfl rfl ?_
 have hc:=fun(w':World) (hw':Hp w none' [] w')=>znr ((h.keep hw').1.1 _ (.head _)).1
 simp only[zaa]
 refine goA ?_
 refine l_w rfl (za0 (v:=.pointer (some ⟨c.pb,0,none⟩)) rfl rfl (fun w' hw'=>hc w' hw' 0 _ rfl)) ?_
 refine goA ?_
 refine lPu rfl (fun w1 hw1=>zin _ w1) ?_
 refine goA ?_
 refine l_w rfl (qpt h rfl) ?_
 refine goA ?_
 refine lPu rfl (fun w1 hw1=>zh4 ht.sh w1) ?_
 refine goA ?_
 refine lPu rfl (fun w1 hw1=>zin _ w1) ?_
 refine goA ?_
 exact qtd rfl
theorem zhn(e:Addr)(w:World):CallsDIn (fw none) 0 Tryz.prog 97 #[.pointer (some e)] .returning w fun e u' w'=>u'= .returning∧(∃v,e= .returned v)∧Fr none' w w':=by
 refine qda Tryz.func97 rfl fun c₀ cs hu=>?_
 apply wpS_seq
 apply wpS_region
 simp[wpOpsS,go_sem,recoverD,hu,Exit.thenS]
 apply wpS_seq
 apply wpS_region
 have hq:∀w,(eqGuard .neq 20 (.tmp 6) (.const .nilIface) .nilIface .nilIface).run Tryz.prog w= .ok () w:=fun _=>rfl
 have hq2:∀w,(binOp .neq 20 .nilIface .nilIface).run Tryz.prog w= .ok (.bool false) w:=fun _=>rfl
 simp[wpOpsS,go_sem,hu,Exit.thenS,Act.eval,hq,hq2]
 refine wpS_cond (t:=false) (by simp[Act.eval,Array.replicate]) ?_
 simp only[bV,if_false]
 refine wpS_of_wp (wp_skip ?_)
 cases c₀
 simp_all [bodyPostS,results]
 exact .refl _ _
theorem zcr(e:Addr)(w:World):CallsD Tryz.prog 97 #[.pointer (some e)] .returning w fun e u' w'=>u'= .returning∧(∃v,e= .returned v)∧Fr none' w w':=qfm (zhn e w)
theorem qb0(a:Int)(k:Int)(w:World):Pu Tryz.prog 102 #[.bool (a==a),.int .i64 k] w (.tuple #[]):=by
 rw[beq_self_eq_true]
 exact zin k w
theorem zv6{l:zav}{w0:World}{F:Nat→Prop}{m:List Eng.Item}{ty:TypeId}{x:Operand}{root:Int}{j:Nat}{v:Value}(hx:evO l x=some (.pointer (some ⟨c.t,c.o+j,none⟩)))(hm:tmI c root s∈m)(hv:(trA c root)[j]? =some v):OV Tryz.prog (.load 3 x) ty l (Hp w0 F m) v:=
 za0 hx rfl (fun _ hw'=>qip hw' hm j _ hv)
end Go.Proofs.YthafakdplhdfjaaGreatDoor
