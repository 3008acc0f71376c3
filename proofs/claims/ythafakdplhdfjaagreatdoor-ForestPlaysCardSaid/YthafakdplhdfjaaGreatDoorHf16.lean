/- Parts: law 11; forest; law 8; count. No condition. -/
import Derived.Test.YthafakdplhdfjaaGreatDoorHf15
import Derived.Test.YthafakdplhdfjaaGreatDoorHf05
import Derived.Test.YthafakdplhdfjaaGreatDoorHf06
import Derived.Test.YthafakdplhdfjaaGreatDoorHf13
set_option maxRecDepth 100000
set_option maxHeartbeats 40000000
namespace Go.Proofs.YthafakdplhdfjaaGreatDoor
open Go.RowKit Go.Eng Go.Eng.Bm Go.Eng.Tr
variable{P:Program}{Q:Exit→Act→World→Prop}{N:Fm}{l:zav}{ops:Array Oper}{rest:List Oper}{w0:World}{F:Nat→Prop}{m:List Eng.Item}
theorem lSR{r:List Eng.Item}{ty:TypeId}{pos:String}{after:Array Edge}{g:Option (Nat×Bool)}{T:TypeId}{x y:Operand}{b off:Nat}{cs V:List Value}{vs:Array Value}{E:TypeId}(hs:off+V.length≤cs.length)(h1:zb7 V=true)(k:HL P ops Q N rest l (Hp w0 F (pt b (.cells (put cs off V).toArray E (0,0))::r)))
  (hx:evO l x=some (.pointer (some ⟨b,off,none⟩)):=by rfl) (hy:evO l y=some (.agg vs):=by rfl) (hv:vs.toList=V:=by rfl) (hf:Fnd (pt b (.cells cs.toArray E (0,0))) m r:=by exact qt5) (hT:(P.info? T).map (·.size)=some V.length:=by rfl) (hg:okG ops l g=true:=by rfl) (hok:(zez (.store T x y)&&zec l (.store T x y))=true:=by rfl):
  HL P ops Q N (⟨none,.store T x y,ty,pos,after,g⟩::rest) l (Hp w0 F m):=zeh hg (zah hf.perm (zjz hok hx hy hv hT h1 hs)) fun _=>k
abbrev Mp:=Om×E
abbrev dmA(p:Mp):List Eng.Item:=[own 9 1 p.1.1 p.2.length (p.2.map fun y=>kV y.1),own 9 1 p.1.2 p.2.length (p.2.map fun y=>kV y.2)]
def dmE(p:Mp):List Value:=[slV p.1.1 p.2.length,slV p.1.2 p.2.length]
theorem zoz(p:Mp):(dmE p).length=2:=rfl
def arM(A:List Mp):Eng.Item:=zef (A.flatMap dmA)
instance(A:List Mp):Stab (arM A):=⟨zad _⟩
theorem qh3(p:Mp):∀it∈dmA p,it.Stable none':=by simp[zac]
theorem zg3(A:List Mp):∀it∈A.flatMap dmA,it.Stable none':=fun it hm=>by
 obtain⟨p, -,hp⟩:=bS.1 hm
 exact qh3 p it hp
variable{w:World}{p:Mp}
theorem zza{r:List Eng.Item}{A1 A2:List Mp}(hs:Fnd (arM (A1++p::A2)) m r)(h:Hp w0 F m w):Hp w0 F (apI (dmA p) (zef (A1.flatMap dmA++A2.flatMap dmA)::r)) w:=by
 have h1:=Hp.open1 (h.perm hs.perm)
 rw[bB,aV]at h1
 have h2:Hp w0 F ((A1.flatMap dmA++A2.flatMap dmA)++(dmA p++r)) w:=h1.perm (by
  rw[aG,aG,aG,←aG (dmA p)]
  refine cU _ ?_
  rw[←aG (A2.flatMap dmA)]
  exact cM _ cW)
 have h3:=Hp.close1 (fun it hm=>(aR.1 hm).elim (zg3 A1 it) (zg3 A2 it)) h2
 exact h3.perm ((List.Perm.swap _ _ _).trans (.cons _ (.swap _ _ _)))
theorem qfk{r:List Eng.Item}{A1 A2:List Mp}{q:Mp}(hs:Fnds (zef (A1.flatMap dmA++A2.flatMap dmA)::apI (dmA p) (dmA q)) m r)(h:Hp w0 F m w):Hp w0 F (arM (q::(A1++p::A2))::r) w:=by
 have h1:=Hp.open1 (h.perm hs.perm)
 rw[←zf9,←zf9]at h1
 refine Hp.close1 (zg3 _) (h1.perm ?_)
 rw[aV,bB,aV,←aG]
 refine cM _ (List.Perm.trans ?_ cW)
 rw[←aG (A1.flatMap dmA++A2.flatMap dmA)]
 refine cM _ ?_
 rw[aG]
 exact cU _ cW
theorem zwt{r:List Eng.Item}{A1 A2:List Mp}(hs:Fnds (zef (A1.flatMap dmA++A2.flatMap dmA)::dmA p) m r)(h:Hp w0 F m w):Hp w0 F (arM (A1++p::A2)::r) w:=by
 have h1:=Hp.open1 (h.perm hs.perm)
 rw[←zf9]at h1
 refine Hp.close1 (zg3 _) (h1.perm ?_)
 rw[bB,aV,←aG]
 refine cM _ ?_
 rw[aG]
 exact cU _ cW
variable{i:Nat}
theorem qg1{α:Type}{enc:α→List Value}{k:Nat}(hk:∀a,(enc a).length=k){L:List α}(hi:i<L.length)(a:α):put (zc6 enc L) (i*k) (enc a)=zc6 enc (L.set i a):=by
 have h1:(zc6 enc L).take (i*k)=zc6 enc (L.take i):=by
  rw[←bF i L]
  unfold zc6
  rw[bB,jQ,bJ,bF]
  ·rw[show(List.flatMap enc (L.take i)).length=_ from zdx hk _,aM,dB oQ]
   exact bA _
  ·rw[show(List.flatMap enc (L.take i)).length=_ from zdx hk _,aM,dB oQ]
   exact bA _
 have h2:(zc6 enc L).drop (i*k+k)=zc6 enc (L.drop (i+1)):=by
  rw[qej hk L (i+1),iL,jR]
 unfold put
 rw[hk,h1,h2,zqv (aB hi) a]
 unfold zc6
 rw[bB,aV,aG]
abbrev mfV(M:List Mp):Value:=.agg (zc6 dmE M).toArray
variable{M:List Mp}
theorem qvk{b:Nat}{T:TypeId}(hp:M[i]? =some p)(h:w.heap[b]? =some (.cells (zc6 dmE M).toArray T (0,0))):w.rangeAt b (i*2) (dmE p):=by
 obtain⟨hi,rfl⟩:=aC.1 hp
 have h1:=zbf h
 have:=Rd.row zoz (b:=b) (off:=0) (fun k u hu=>by rw[aH];have:=h1 k u hu;rwa[aH]at this) hi
 rwa[aH]at this
theorem zc8(M:List Mp):zb7 (zc6 dmE M)=true:=zba.2 fun v hv=>by
 obtain⟨p, -,hp⟩:=bS.1 hv
 rcases aL.1 hp with rfl|hp
 ·exact zc3 _ _
 ·rw[aN.1 hp];exact zc3 _ _
theorem zce(h8:M.length=8):(zc6 dmE M).length=16:=by rw[zdx zoz,h8]
theorem qwj(o:Om)(e:E)(he:Es e)(key val:K)(hb:e.length≤1000000):Cw Tryz.prog 145 #[dmV o e,kV key,kV val] (dmA (o,e)) (fun o':Om=>dmV o' (zfx e key val)) (fun _=>True) (fun o'=>apI (dmA (o,e)) (dmA (o',zfx e key val))):=fun w hw ha=>qj7 o e he key val hb w hw ha
theorem qwf(o:Om)(e:E)(he:Es e)(key:K)(hb:e.length≤1000000):Cw Tryz.prog 144 #[dmV o e,kV key] (dmA (o,e)) (fun o':Om=>.tuple #[dmV o' (zfy e key),.bool (zi6 e key).isSome]) (fun o'=>zi6 e key=none→o'=o) (fun o'=>apI (dmA (o',zfy e key)) [zef (if (zi6 e key).isSome then dmA (o,e)else[])]):=fun w hw ha=>zsd o e he key hb w hw ha
variable{o:Om}{e:E}
theorem qtv(hM:M[i]? =some (o,e))(h8:M.length=8){A:List Mp}(hA:(o,e)∈A)(he:Es e)(key val:K)(hb:e.length≤1000000):
  Cw Tryz.prog 95 #[mfV M,.int .i64 (i:Nat),kV key,kV val] [arM A] (fun x:Om×List Mp=>mfV (M.set i (x.1,zfx e key val))) (fun x=>x.2=(x.1,zfx e key val)::A) (fun x=>[arM x.2]):=by
 obtain⟨hi, -⟩:=aC.1 hM
 obtain⟨A1,A2,rfl⟩:=List.append_of_mem hA
 refine qnp [_,_,_,_] Tryz.func95 rfl fun w0=>?_
 simp only[zaa]
 refine goA ?_
 refine zbp rfl rfl fun b4 hb4=>?_
 refine zam rfl rfl fun b8 hb8=>?_
 refine goA ?_
 refine l_w rfl (zgp (xs:=dmE (o,e)) (c:=dmC o e) rfl rfl (fun w' hw'=>by rw[aH];exact qvk hM (hw'.get (b:=b4) mm)) rfl) ?_
 refine goA ?_
 refine zcy (fun _ h=>zza qt5 h) ?_
 refine lC (qwj o e he key val hb) fun o' _=>?_
 refine zcy (fun _ h=>qfk (p:=(o,e)) (q:=(o',zfx e key val)) qt4 h) ?_
 refine goA ?_
 refine lSR (off:=0+i*2) (V:=dmE (o',zfx e key val)) (by rw[zce h8,zoz];omega) (by simp[zb7,dmE,zc3]) ?_
 rw[aH,qg1 zoz hi]
 have h8':(M.set i (o',zfx e key val)).length=8:=by rw[bE,h8]
 refine goA ?_
 refine l_w rfl (zcw (cs:=(zc6 dmE (M.set i (o',zfx e key val))).toArray) rfl (by rw[aI,zce h8'];rfl) mm) ?_
 refine lSa (cs':=(zc6 dmE (M.set i (o',zfx e key val))).toArray) (hT:=by rw[aI,zce h8'];rfl) (h1:=zc8 _) (h2:=by rw[aI,zce h8'];rfl) ?_
 refine goA ?_
 exact xC (o',(o',zfx e key val)::(A1++(o,e)::A2)) rfl (hf:=rfl) (h1:=⟨_,rfl,zaq (by rw[aI,zce h8'];rfl) mm⟩)
variable{key:K}
theorem qfp(he:Es e)(h:zi6 e key=none):zfy e key=e:=by
 obtain⟨r1,r2⟩:=zyf (k:=key) he
 cases hf:fd (keys e) key with
 |false=>exact(r2 hf).2.2
 |true=>obtain⟨v, -,g1, -⟩:=r1 hf;rw[h]at g1;cases g1
theorem qkk{o':Om}{A1 A2:List Mp}{r:List Eng.Item}(he:Es e)(ho:zi6 e key=none→o'=o)(hs:Fnds (zef (A1.flatMap dmA++A2.flatMap dmA)::apI (dmA (o',zfy e key)) [zef (if (zi6 e key).isSome then dmA (o,e)else[])]) m r):
  ∃A',((o',zfy e key)∈A'∧A1++(o,e)::A2⊆A')∧∀{w0:World} {F:Nat→Prop} w,Hp w0 F m w→Hp w0 F (arM A'::r) w:=by
 cases hg:zi6 e key with
 |none=>
  rw[ho hg,qfp he hg,hg]at hs
  rw[ho hg,qfp he hg]
  exact⟨_,⟨aU _ (.head _),fun _ h=>h⟩,fun w h=>zwt (A1:=A1) (A2:=A2) (p:=(o,e)) (m:=zef (A1.flatMap dmA++A2.flatMap dmA)::apI (dmA (o,e)) r) qt4 ((h.perm hs.perm).sub (.cons_cons _ (.cons_cons _ (.cons_cons _ (.cons _ (.refl _))))))⟩
 |some v=>
  rw[hg]at hs
  refine⟨(o',zfy e key)::(A1++(o,e)::A2),⟨.head _,fun _ h=>.tail _ h⟩,fun w h=>?_⟩
  have h1:=Hp.open1 (L:=dmA (o,e)) ((h.perm hs.perm).perm (zfq _ _ _ _ _))
  exact qfk (p:=(o,e)) (q:=(o',zfy e key)) (m:=apI (dmA (o,e)) (zef (A1.flatMap dmA++A2.flatMap dmA)::apI (dmA (o',zfy e key)) r)) qt4 h1
theorem qt7{o':Om}{A1 A2:List Mp}{r:List Eng.Item}(he:Es e)(ho:zi6 e key=none→o'=o)(k:∀A',(o',zfy e key)∈A'∧A1++(o,e)::A2⊆A'→HL P ops Q N rest l (Hp w0 F (arM A'::r)))
  (hs:Fnds (zef (A1.flatMap dmA++A2.flatMap dmA)::apI (dmA (o',zfy e key)) [zef (if (zi6 e key).isSome then dmA (o,e)else[])]) m r:=by exact qt4):HL P ops Q N rest l (Hp w0 F m):=by
 obtain⟨A',hA,hI⟩:=qkk he ho hs
 exact zcy (fun w h=>hI w h) (k A' hA)
theorem qtr(hM:M[i]? =some (o,e))(h8:M.length=8){A:List Mp}(hA:(o,e)∈A)(he:Es e)(key:K)(hb:e.length≤1000000):
  Cw Tryz.prog 94 #[mfV M,.int .i64 (i:Nat),kV key] [arM A] (fun x:Om×List Mp=>.tuple #[mfV (M.set i (x.1,zfy e key)),.bool (zi6 e key).isSome]) (fun x=>(x.1,zfy e key)∈x.2∧A⊆x.2) (fun x=>[arM x.2]):=by
 obtain⟨hi, -⟩:=aC.1 hM
 obtain⟨A1,A2,rfl⟩:=List.append_of_mem hA
 refine qnp [_,_,_] Tryz.func94 rfl fun w0=>?_
 simp only[zaa]
 refine goA ?_
 refine zbp rfl rfl fun b3 hb3=>?_
 refine zam rfl rfl fun b6 hb6=>?_
 refine goA ?_
 refine l_w rfl (zgp (xs:=dmE (o,e)) (c:=dmC o e) rfl rfl (fun w' hw'=>by rw[aH];exact qvk hM (hw'.get (b:=b3) mm)) rfl) ?_
 refine goA ?_
 refine zcy (fun _ h=>zza qt5 h) ?_
 refine lC (qwf o e he key hb) fun o' ho'=>?_
 refine qt7 (A1:=A1) (A2:=A2) he ho' fun A' hA'=>?_
 refine goA ?_
 refine zam rfl rfl fun b8 hb8=>?_
 refine goA ?_
 refine lSa (cs':=dmC o' (zfy e key)) (h1:=by simp[zb7,dmC,zc3]) ?_
 refine goA ?_
 refine lSR (off:=0+i*2) (V:=dmE (o',zfy e key)) (by rw[zce h8,zoz];omega) (by simp[zb7,dmE,zc3]) ?_
 rw[aH,qg1 zoz hi]
 have h8':(M.set i (o',zfy e key)).length=8:=by rw[bE,h8]
 refine goA ?_
 refine l_w rfl (zcw (cs:=(zc6 dmE (M.set i (o',zfy e key))).toArray) rfl (by rw[aI,zce h8'];rfl) mm) ?_
 refine goA ?_
 refine lSa (cs':=(zc6 dmE (M.set i (o',zfy e key))).toArray) (hT:=by rw[aI,zce h8'];rfl) (h1:=zc8 _) (h2:=by rw[aI,zce h8'];rfl) ?_
 refine goA ?_
 exact xC2 (o',A') hA' (hf:=rfl) (h1:=⟨_,rfl,zaq (by rw[aI,zce h8'];rfl) mm⟩)
def zbu(R:List Nat):Bys:=R.flatMap (beN 2)++List.replicate 496 0
theorem znf(R:List Nat):(R.flatMap (beN 2)).length=2*R.length:=by
 induction R with
 |nil=>rfl
 |cons a R ih=>rw[aV,aA,zal,ih,aW];omega
variable{R:List Nat}
theorem zem(h:R.length=8):(zbu R).length=512:=by
 unfold zbu
 rw[aA,cD,znf,h]
theorem qei{x:Nat}(h:R[i]? =some x):(R.take (i+1)).flatMap (beN 2)=(R.take i).flatMap (beN 2)++beN 2 x:=by
 rw[cV,h,bB]
 simp
variable{c:Fc}{busy:Bool}{err:Nat}{s:Pg}
theorem qn0(h:zbq (foI c R busy err s) w0)(hw:Hp w0 none' m w){a:Nat}(ha:R[i]? =some a):w.cell? ⟨c.b,1+i*4+3,none⟩=some (.int .i64 (a:Nat)):=by
 have h1:=((h.keep hw).1.1 _ (.head _)).1
 rw[qbp ha]at h1
 have h2:=znr h1 3 _ rfl
 rwa[qj5 ha]at h2
theorem zpq(hl:R.length=8)(hR:∀a∈R,a<65536)(w:World)(h:zbq (foI c R busy err s) w):
  Ct Tryz.prog 89 #[.pointer (some ⟨c.b,0,none⟩)] w none' (fun o:Option (Nat×Nat)=>slV o 512) (fun _=>True) (fun o=>[own 5 1 o 512 (zae (zbu R))]):=by
 refine zes [_] Tryz.func89 rfl rfl ?_
 simp only[zaa]
 refine goA ?_
 refine zdy rfl rfl kQ rfl (fun w1 hw1=>zg6 w1) fun x hx=>?_
 refine goA ?_
 refine zc0 (α:=Nat×Option (Nat×Nat)) (fun y=>[(0,.pointer (some ⟨c.b,0,none⟩)),(3,.pointer (some ⟨x,0,none⟩)),(8,.int .i64 (y.1:Nat))]) (fun y=>y.1≤8) (fun y=>pks x y.2 ((R.take y.1).flatMap (beN 2))) (fun y=>8 - y.1) (0,none) ⟨rfl,rfl,rfl,trivial⟩ (aZ _) (fun w' hw'=>hw') fun⟨i,o⟩ h1=>?_
 simp only at h1⊢
 have hfl:=znf (R.take i)
 rw[aM]at hfl
 by_cases hi:i<8
 ·obtain⟨a,ha⟩:∃a,R[i]? =some a:=⟨_,aB oQ⟩
  have hab:=hR a (bI ha)
  refine goA ?_
  refine l_w rfl (za0 (v:=.int .i64 (a:Nat)) rfl rfl (fun w' hw'=>qn0 h hw' ha)) ?_
  refine goA ?_
  refine lCu (pks x o ((R.take i).flatMap (beN 2))) rfl (by simp[zab,zac]) (fun w1 hw1 hh1 ha1=>zdr x o _ 2 a (.inr (.inl rfl)) oQ oQ w1 hh1 ha1) fun⟨o',_⟩=>?_
  dsimp only
  rw[←qei ha]
  refine goA ?_
  exact zaw (i+1,o') ⟨rfl,rfl,rfl,trivial⟩ hi (fun w' hw'=>hw') (by simp only;omega)
 ·rw[bJ oQ]at hfl⊢
  refine goA ?_
  refine lPu rfl (fun w1 hw1=>zhj 496 dQ w1) ?_
  refine goA ?_
  refine lCu (pks x o (R.flatMap (beN 2))) rfl (by simp[zab,zac]) (fun w1 hw1 hh1 ha1=>zen x o _ ⟨(List.replicate 496 (0:UInt8)).toArray⟩ (by rw[hfl];show _+(List.replicate 496 (0:UInt8)).toArray.size≤_;rw[aI,cD];omega) w1 hh1 ha1) fun⟨o2,_⟩=>?_
  rw[show(⟨(List.replicate 496 (0:UInt8)).toArray⟩:ByteArray).data.toList=List.replicate 496 0 from rfl,show R.flatMap (beN 2)++List.replicate 496 0=zbu R from rfl]
  dsimp only
  refine goA ?_
  have hrl:=zem hl
  refine lCu (pks x o2 (zbu R)) rfl (by simp[zab,zac]) (fun w1 hw1 hh1 ha1=>zdv x o2 _ (by rw[hrl];decide) w1 hh1 ha1) fun⟨o3,_⟩=>?_
  rw[hrl]
  refine goA ?_
  exact zbd o3 rfl rfl rfl trivial (.cons_cons _ (aK _)) (by simp[zac])
def foX(c:Fc)(X:List Value)(busy:Bool)(err:Nat):Eng.Item:=pt c.b (.cells (.pointer (some ⟨c.pb,0,none⟩)::(X++[.bool busy,.int .i64 (err:Int)])).toArray 119 (0,0))
def qny(c:Fc)(X:List Value)(busy:Bool)(err:Nat)(s:Pg):List Eng.Item:=[foX c X busy err,pgI s c.d,dkI c.d,tzI]
theorem qsr(c:Fc)(R:List Nat)(busy:Bool)(err:Nat):foX c (frT c.pb 0 R) busy err=foC c R busy err:=rfl
theorem qdi(c:Fc)(X:List Value)(busy:Bool)(err:Nat):(foX c X busy err).Stable none':=zab _ _ _
theorem zpp(c:Fc)(X:List Value)(busy:Bool)(err:Nat)(s:Pg):∀it∈qny c X busy err s,it.Stable none':=by
 intro it hm
 rcases hm with _|⟨_,hm⟩
 ·exact qdi c X busy err
 ·exact zgv s c.d it hm
theorem zun(pb:Nat):∀(A:List Nat) (i a:Nat),frT pb i (A++[a])=frT pb i A++[.pointer (some ⟨pb,0,none⟩),.int .i64 ((fSh (i+A.length)).kw:Int),.int .i64 ((fSh (i+A.length)).vw:Int),.int .i64 ((a:Nat):Int)]
 | [],_,_=>rfl
 |x::A,i,a=>by
  show _::_::_::_::frT pb (i+1) (A++[a])=_::_::_::_::(frT pb (i+1) A++_)
  rw[zun pb A (i+1) a,aW,show i+1+A.length=i+(A.length+1) by omega]
theorem qnz{pb:Nat}{X T:List Value}{a:Nat}(ha:R[i]? =some a)(hX:X.length=4*R.length):
  put (.pointer (some ⟨pb,0,none⟩)::((frT pb 0 (R.take i)++X.drop (4*i))++T)) (1+i*4) [.pointer (some ⟨pb,0,none⟩),.int .i64 ((fSh i).kw:Int),.int .i64 ((fSh i).vw:Int),.int .i64 ((a:Nat):Int)]= .pointer (some ⟨pb,0,none⟩)::((frT pb 0 (R.take (i+1))++X.drop (4*(i+1)))++T):=by
 have hi:=(aC.1 ha).1
 have hl:(frT pb 0 (R.take i)).length=4*i:=by rw[zhr,aM];omega
 have hd:X.drop (4*i)=(X.drop (4*i)).take 4++X.drop (4*(i+1)):=by
  conv=>lhs;rw[←bF 4 (X.drop (4*i))]
  rw[lJ,show 4*i+4=4*(i+1) by omega]
 have h4:((X.drop (4*i)).take 4).length=4:=by rw[aM,aX];omega
 rw[cV,ha]
 show _=_::((frT pb 0 (R.take i++[a])++_)++T)
 rw[zun,aH,aM,show min i R.length=i by omega]
 generalize frT pb 0 (R.take i)=A at hl⊢
 generalize (X.drop (4*i)).take 4=Z at hd h4
 rw[hd]
 unfold put
 rw[show 1+i*4=A.length+1 by omega,List.take_succ_cons,show A++(Z++X.drop (4*(i+1)))++T=A++(Z++(X.drop (4*(i+1))++T)) by simp only[aG],fO rfl]
 rw[show A.length+1+[Value.pointer (some ⟨pb,0,none⟩),.int .i64 ((fSh i).kw:Int),.int .i64 ((fSh i).vw:Int),.int .i64 ((a:Nat):Int)].length=(A.length+Z.length)+1 by rw[h4];rfl,iO,←aG A Z,List.drop_left' (by rw[aA])]
 simp only[aF,aG,aJ]
theorem qj3{pb:Nat}{Y:List Value}{a:Nat}(ha:R[i]? =some a):(.pointer (some ⟨pb,0,none⟩)::(frT pb 0 (R.take (i+1))++Y):List Value)[1+i*4+3]? =some (.int .i64 (a:Nat)):=by
 have hi:=(aC.1 ha).1
 have hl:(frT pb 0 (R.take i)).length=4*i:=by rw[zhr,aM];omega
 rw[cV,ha]
 show(_::(frT pb 0 (R.take i++[a])++Y):List Value)[_]? =_
 rw[zun,aG,show 1+i*4+3=(4*i+3)+1 by omega,fW,cZ oQ,hl,fY]
 rfl
theorem qh5{a:Nat}(ha:R[i]? =some a)(hab:a<65536)(T:Bys):opN 2 ((R.drop i).flatMap (beN 2)++T,false)=(a,((R.drop (i+1)).flatMap (beN 2)++T,false)):=by
 obtain⟨hi,rfl⟩:=aC.1 ha
 rw[bX hi,aV,aG,zgc (by simpa using hab)]
theorem zpo{g:Sg}(h:Fok c g s)(h1N:1<c.N){X:List Value}(hX:X.length=32)(hl:R.length=8)(hR:∀a∈R,a≠1∧a<c.n)(hW:g.W 1=zbu R):
  Cw Tryz.prog 56 #[.pointer (some ⟨c.b,0,none⟩)] (qny c X busy err s) (fun _:Pg=>.int .i64 0) (fun s'=>Fok c g s') (fun s'=>[foI c R busy err s']):=by
 intro w hw ha
 have h0:Tok (frC c [] false 0 0) g s:=h
 have hb:s.b=c.pb:=h0.b
 have hpg:pageB s c.d.D 1=g.W 1:=h0.pg (bA _) h1N
 have h':=h0.page (i:=1) h1N
 have hsn:s.n=c.n:=h0.st.hn
 have hpp:=fun w1=>zl8 (zb1 s c.d.D 1) c.d w1
 rw[show(zb1 s c.d.D 1).b=c.pb by rw[qhq];exact hb,show(zb1 s c.d.D 1).n=c.n from h'.st.hn]at hpp
 have hn1:c.n≤1024:=h0.n2
 have h1n:1<c.n:=aY h1N h0.N2
 refine za2 [_] _ Tryz.func56 rfl rfl hw ha ?_
 simp only[zaa]
 unfold qny
 refine goA ?_
 rw[←hb]
 refine zay [1,2,0,3] rfl rfl ?_
 refine lCu [pgI s c.d,dkI c.d] rfl (zdp s c.d) (fun w1 hw1 hh1 ha1=>zhi s c.d h0.ok h0.lives h0.wait h0.st.dead h0.st.ok 1 oQ w1 hh1 ha1) fun⟨b,_⟩=>?_
 rw[hpg,hW]
 dsimp only
 refine goA ?_
 refine zdy rfl rfl kQ rfl (fun w1 hw1=>zih (some ⟨b,0,none⟩) 512 512 (zbu R) (zem hl) dQ w1 (qch (hw1.item (rdI b (zbu R)) (.head _)).1)) fun x hx=>?_
 obtain⟨bo,oD⟩:=x
 simp only at hx⊢
 refine goA ?_
 have hsD:(own 5 1 oD 512 (zae (zbu R))).Stable none':=zac _ _ _ _ _ _
 generalize own 5 1 oD 512 (zae (zbu R))=D at hx hsD
 simp only[aF,aJ]
 refine zc0 (α:=Nat×Option Addr×Nat) (fun y=>[(0,.pointer (some ⟨c.b,0,none⟩)),(3,.slice (some ⟨b,0,none⟩) 512 512),(5,.pointer (some ⟨bo,0,none⟩)),(21,.int .i64 (y.1:Nat))]) (fun y=>y.1≤8∧zjg D y.2.1 y.2.2 ((R.drop y.1).flatMap (beN 2)++List.replicate 496 0))
  (fun y=>[opI bo y.2.1 y.2.2 ((R.drop y.1).flatMap (beN 2)++List.replicate 496 0,false),D,foX c (frT c.pb 0 (R.take y.1)++X.drop (4*y.1)) busy err,rdI b (zbu R),pgI (zb1 s c.d.D 1) c.d,dkI c.d,tzI]) (fun y=>8 - y.1) (0,slA oD,slC oD) ⟨rfl,rfl,rfl,rfl,trivial⟩ ⟨aZ _,hx⟩ (fun w' hw'=>hw'.pick [0,1,5,2,3,4,6] rfl rfl) fun⟨i,y⟩ ⟨i1,i2⟩=>?_
 simp only at i1 i2⊢
 by_cases hi:i<8
 ·obtain⟨a,ha⟩:∃a,R[i]? =some a:=⟨_,aB oQ⟩
  obtain⟨ha1,ha2⟩:=hR a (bI ha)
  have hop:=qh5 ha oQ (List.replicate 496 0)
  have hput:=qnz (pb:=c.pb) (T:=[.bool busy,.int .i64 (err:Int)]) ha (X:=X) oQ
  have hfl:=znf (R.drop i)
  rw[aX]at hfl
  refine goA ?_
  refine zap [2,3,4,5,6] 15 rfl rfl kQ ?_
  refine goE ?_
  refine zat 7 ⟨kQ,dQ⟩ rfl rfl (zfc rfl kQ rfl (fun w1 hw1=>zxa hi w1)) (fun _ _ h=>goH h) fun _=>?_
  refine goE ?_
  refine zat 9 ⟨kQ,dQ⟩ rfl rfl (zfb (pre:=[opI bo y.1 y.2 ((R.drop i).flatMap (beN 2)++List.replicate 496 0,false),D]) rfl kQ rfl (by simp[zak,hsD]) (fun w1 hw1 hh1 ha1=>zhh a _ hop hsD i2 (.inr (.inl rfl)) (by simp only[aA,cD];omega) hh1 ha1)) (fun _ _ h=>goH h) fun⟨y',hy'⟩=>?_
  refine goE ?_
  unfold foX
  refine zet ⟨kQ,kQ⟩ rfl rfl (zah (zdf _ _ _ _) (zjz (cs:=.pointer (some ⟨c.pb,0,none⟩)::((frT c.pb 0 (R.take i)++X.drop (4*i))++[.bool busy,.int .i64 (err:Int)])) (V:=[.pointer (some ⟨c.pb,0,none⟩),.int .i64 ((fSh i).kw:Int),.int .i64 ((fSh i).vw:Int),.int .i64 ((a:Nat):Int)]) rfl rfl rfl rfl rfl rfl (by simp only[aW,aA,zhr,aM,aX,eI];omega))) fun _=>?_
  rw[hput]
  refine goA ?_
  refine l_w rfl (za0 (v:=.int .i64 (a:Nat)) rfl rfl (fun w' hw'=>by have:=zbf (hw'.get (.head _)) _ _ (by rw[aG];exact qj3 ha);rwa[aH]at this)) ?_
  refine goA ?_
  refine lPu rfl (fun w1 hw1=>hpp w1 (zbq.of (hw1.item (pgI (zb1 s c.d.D 1) c.d) mm) (zbv _ _))) ?_
  refine goA ?_
  exact zaw (i+1,y') ⟨rfl,rfl,rfl,rfl,trivial⟩ ⟨hi,hy'⟩ (fun w' hw'=>hw'.pick [1,2,0,3,4,5,6] rfl rfl) (by simp only;omega)
 ·have hi8:i=8:=oQ
  subst hi8
  rw[bJ oQ,fI (by omega:X.length≤4*8),bC,qsr]
  refine goA ?_
  refine zcy (m':=foI c R busy err (zb1 s c.d.D 1)::[rdI b (zbu R)]) (fun w' hw'=>zhe (m:=[rdI b (zbu R)]) (hw'.pick [2,4,5,6,3] rfl rfl)) ?_
  refine zdy rfl rfl kQ rfl (fun w1 hw1=>zpq hl (fun a ha=>by have:=(hR a ha).2;omega) w1 (zbq.of (hw1.item _ (.head _)) (zad _))) fun x hx=>?_
  refine goA ?_
  refine zch (fun w hw=>(zas (hw.item (own 5 1 x 512 (zae (zbu R))) (.head _)).1).1) fun f1=>?_
  rw[f1]
  refine lPu rfl (fun w1 hw1=>zfp (slA x) (some ⟨b,0,none⟩) 512 512 (slC x) 512 (zbu R) (zbu R) (zem hl) (zem hl) w1 (za8 (hw1.item (own 5 1 x 512 (zae (zbu R))) mm).1) (qch (hw1.item (rdI b (zbu R)) mm).1)) ?_
  rw[decide_eq_true (show zbu R=zbu R from rfl)]
  refine goA ?_
  exact zbd (zb1 s c.d.D 1) rfl rfl rfl (Tok.fok (R:=[]) (busy:=false) (err:=0) (i:=0) h') (.cons _ (.cons_cons _ (aK _))) (zb3 _ _ _ _ _)
end Go.Proofs.YthafakdplhdfjaaGreatDoor
namespace Go.Proofs.YthafakdplhdfjaaGreatDoor
open Go.RowKit Go.Eng Go.Eng.Bm
end Go.Proofs.YthafakdplhdfjaaGreatDoor
namespace Go.Proofs.YthafakdplhdfjaaGreatDoor
open Go.RowKit Go.Eng Go.Eng.Bm
def needC'(C:PR):Nat:=(514*C.length+496)/497
def cmP(s:Pg)(d:Dk)(n secs:Nat)(note:Bys)(V:List Bys)(C:PR)(B:Nat)(x:Nat×Dk×Pg):Prop:=x.2.1.b=d.b∧x.2.2.b=s.b∧
  ((x.1=6∧secs<needC' C∧x.2.1.D=d.D∧x.2.2={ s with C:=[] })∨
   (needC' C≤secs∧x.1=0∧zig d.D x.2.1.D∧StX x.2.2 x.2.1.D n secs note (zd9 V C) [] (B+601))∨
   (needC' C≤secs∧x.1=4∧d.D.left≠none∧x.2.2.dead=true∧(Off x.2.1.D n secs note V (B+601)∨Off x.2.1.D n secs note (zd9 V C) (B+601))))
theorem qsm(s:Pg)(D:Dsk)(x:PR×List Nat):(cmR s D x).b=s.b:=by
 have h1:(zoo s D).2.2.b=s.b:=by unfold zoo;split<;>rfl
 have h2:(cmF s D).2.2.b=s.b:=by
  unfold cmF
  split
  ·exact h1
  ·exact h1
 unfold cmR
 split
 ·exact h2
 ·exact h2
theorem ql8{s:Pg}{D:Dsk}{x:PR×List Nat}(h:(cmF s D).1=4):(cmR s D x).dead=true:=by
 unfold cmR
 rw[if_neg oQ]
 unfold cmF at h⊢
 split at h<;>rename_i h0
 ·rw[if_pos h0]
  unfold qey at h⊢
  simp only at h⊢
  rw[decide_eq_true h,kZ]
 ·rw[if_neg h0]
  unfold zoo at h⊢
  split at h<;>rename_i h1
  ·rw[if_pos h1]
   simp only at h⊢
   rw[decide_eq_true h,kZ]
  ·cases h
theorem zl7(s:Pg)(d:Dk)(n secs:Nat)(note:Bys)(V:List Bys)(C:PR)(B:Nat)(hst:StX s d.D n secs note V C B)(hB:B+700<9223372036854775808)(hC0:s.C≠[]):
  Cw Tryz.prog 80 #[.pointer (some ⟨s.b,0,none⟩)] [pgI s d,dkI d,ctI] (fun x:Nat×Dk×Pg=>.int .i64 (x.1:Int)) (cmP s d n secs note V C B) (fun x=>[pgI x.2.2 x.2.1,dkI x.2.1,ctI]):=by
 intro w hw ha
 have hneed:=hst.need hC0
 obtain⟨TS,h⟩:=hst.st
 have z:=h.siz
 have hn:=h.hn
 have hs:=h.hsecs
 have hnx:=h.next
 have hs2:=z.s2
 have hs1:=z.s1
 have hn2:=z.n2
 have hle:=hst.le
 have hmany:=hst.many
 have hneed':zao (tC s).length=needC' C:=hneed
 have hneedle:zao (tC s).length≤100000:=by rw[hneed];omega
 have hRl:s.R.length≤1024:=by
  have:=zkk h.Rn (L:=List.range n) fun x hx=>dL.2 (h.Rk x hx).2.2
  rw[fX]at this
  omega
 have hcom:=hst.commit hB hC0
 refine Ct.imp (zr1 s d z.ok hst.keep hst.wait hst.dead oQ h.log.hok oQ h.log.usedle oQ h.log.c01 h.log.dead (by rw[hn];exact h.Kok) (by rw[hn];exact h.Cok) (fun i hi=>cI.1 (h.Rk i hi).1) hRl oQ hC0 w hw ha) ?_
 rintro⟨d',x2⟩ ⟨⟨k1, -,k3⟩,kg⟩
 simp only at k1 k3 kg
 rw[hs,hneed']at k3 kg
 simp only[hs,hneed']
 by_cases hlt:secs<needC' C
 ·rw[if_pos hlt]at k3
  refine⟨(6,d',{ s with C:=[] }),?_,⟨k1,rfl,.inl ⟨rfl,hlt,k3,rfl⟩⟩,?_⟩
  ·simp only[if_pos hlt]
  ·simp only[if_pos hlt]
 ·rw[if_neg hlt]at k3
  have hge:needC' C≤secs:=oQ
  refine⟨((cmF s d.D).1,d',cmR s d.D x2),?_,⟨k1,qsm _ _ _,.inr ?_⟩,?_⟩
  ·simp only[if_neg hlt]
  ·rcases hcom hge with ⟨e,hl,hx⟩ |⟨e,hlf,ho⟩
   ·refine .inl ⟨hge,e,?_,?_⟩
    ·show zig d.D d'.D;rw[k3];exact hl
    ·show StX (cmR s d.D x2) d'.D n secs note (zd9 V C) [] (B+601)
     rw[k3];exact hx x2 (kg hlt e)
   ·refine .inr ⟨hge,e,hlf,ql8 e,?_⟩
    show Off d'.D n secs note V (B+601)∨Off d'.D n secs note (zd9 V C) (B+601)
    rw[k3];exact ho
  ·simp only[if_neg hlt]
end Go.Proofs.YthafakdplhdfjaaGreatDoor
namespace Go.Proofs.YthafakdplhdfjaaGreatDoor
open Go.RowKit Go.Eng Go.Eng.Bm Go.Eng.Tr
structure Aft (c:Fc) (g:Sg) (R:List Nat) (x:Fc×Pg):Prop where
 b:x.1.b=c.b
 pb:x.1.pb=c.pb
 N:x.1.N=c.N
 n:x.1.n=c.n
 secs:x.1.secs=c.secs
 note:x.1.note=c.note
 db:x.1.d.b=c.d.b
 left:x.1.d.D.left=none
 B:x.1.B≤c.B+601
 ok:∃g',Fok x.1 g' x.2∧g'.S=g.S∧(∀i,i≠1→g'.W i=g.W i)∧g'.W 1=zbu R
 clean:x.2.C=[]
theorem zu8{C:PR}(h:∀i,([]:PR).lookup i=C.lookup i):C=[]:=by
 cases C with
 |nil=>rfl
 |cons p C=>have:=h p.1;rw[cJ]at this;simp at this
variable{c:Fc}{g:Sg}{s:Pg}
theorem Fok.need(h:Fok c g s)(hr:(514*c.N+496)/497≤c.secs):needC' s.C≤c.secs:=by
 have h0:Tok (frC c [] false 0 0) g s:=h
 have hC:PR.Ok s.C c.N:=fun p hp=>by
  have h1:=h0.st.Cok p hp
  refine⟨Nat.lt_of_not_le fun hn=>?_,h1.2⟩
  have h2:=h0.low p.1 hn
  rw[qb2 h0.st.hCn hp]at h2
  cases h2
 have:=zz7 hC h0.st.hCn
 have h3:(514*s.C.length+496)/497≤(514*c.N+496)/497:=Nat.div_le_div_right oQ
 exact cH h3 hr
theorem Fok.over{s':Pg}{d':Dk}(h:Fok c g s)(hb:s'.b=s.b)(hst:StX s' d'.D c.n c.secs c.note (zd9 c.V s.C) [] (c.B+601)):Fok { c with d:=d',V:=zd9 c.V s.C,B:=c.B+601 } g s'∧s'.C=[]:=by
 have h0:Tok (frC c [] false 0 0) g s:=h
 have hC:s'.C=[]:=zu8 hst.eC
 have hv:∀i,i<c.n→ze5 (zd9 c.V s.C) s'.C i=ze5 c.V s.C i:=fun i hi=>by
  rw[hC]
  show(([]:PR).lookup i).getD ((zd9 c.V s.C).getD i [])=_
  rw[zx6 (by have:=h0.st.len;exact Nat.lt_of_lt_of_eq hi this.symm)]
  rfl
 refine⟨⟨hst.self',hb.trans h0.b,fun i h1 h2=>(hv i h2).trans (h0.W i h1 h2),?_,h0.sh,h0.N1,h0.N2,h0.n2,fun i _=>by rw[hC];rfl,h0.hi⟩,hC⟩
 show zy6 c.n (ze5 (zd9 c.V s.C) s'.C 0) g.S
 rw[hv 0 h0.n1]
 exact h0.S
theorem zh1(c:Fc)(R:List Nat)(busy:Bool)(err:Nat)(s:Pg):∀it∈[foI c R busy err s,ctI],it.Stable none':=by
 intro it hm
 rcases hm with _|⟨_,_|⟨_,hm⟩⟩
 ·exact zad _
 ·exact zcb _
 ·cases hm
theorem zuh(h:Fok c g s)(h1N:1<c.N)(hroom:(514*c.N+496)/497≤c.secs)(hB:c.B+700<9223372036854775808)(hleft:c.d.D.left=none){R R0:List Nat}(hl:R.length=8)(hR:∀a∈R,a<65536)(hl0:R0.length=8)(hW:g.W 1=zbu R0){busy:Bool}{err:Nat}:
  Cw Tryz.prog 54 #[.pointer (some ⟨c.b,0,none⟩)] [foI c R busy err s,ctI] (fun _:Fc×Pg=>.int .i64 0) (Aft c g R) (fun x=>[foI x.1 R busy err x.2,ctI]):=by
 intro w hw ha
 have h0:Tok (frC c [] false 0 0) g s:=h
 have hb:s.b=c.pb:=h0.b
 have hpg:pageB s c.d.D 1=g.W 1:=h0.pg (bA _) h1N
 have h':=h0.page (i:=1) h1N
 have hsn:s.n=c.n:=h0.st.hn
 have hb1:(zb1 s c.d.D 1).b=c.pb:=h'.b
 have hn1:(zb1 s c.d.D 1).n=c.n:=h'.st.hn
 have hn2:c.n≤1024:=h0.n2
 have h1n:1<c.n:=aY h1N h0.N2
 refine za2 [_] _ Tryz.func54 rfl rfl hw ha ?_
 simp only[zaa]
 refine zg8 (m':=foL c R busy err s++[ctI]) (fun w h=>zk7 h) ?_
 unfold foL
 simp only[aF,aJ]
 refine goA ?_
 rw[←hb]
 refine zay [1,2,0,3,4] rfl rfl ?_
 refine lCu [pgI s c.d,dkI c.d] rfl (zdp s c.d) (fun w1 hw1 hh1 ha1=>zhi s c.d h0.ok h0.lives h0.wait h0.st.dead h0.st.ok 1 oQ w1 hh1 ha1) fun⟨b,_⟩=>?_
 rw[hpg,hW]
 dsimp only
 refine goA ?_
 refine zcy (m':=foI c R busy err (zb1 s c.d.D 1)::[rdI b (zbu R0),ctI]) (fun w' hw'=>zhe (m:=[rdI b (zbu R0),ctI]) (hw'.pick [3,1,2,4,0,5] rfl rfl)) ?_
 refine zdy rfl rfl kQ rfl (fun w1 hw1=>zpq hl hR w1 (zbq.of (hw1.item _ (.head _)) (zad _))) fun x hx=>?_
 simp only[aF,aJ]
 refine zch (fun w hw=>(zas (hw.item (own 5 1 x 512 (zae (zbu R))) (.head _)).1).1) fun f1=>?_
 rw[f1]
 refine goA ?_
 refine lPu rfl (fun w1 hw1=>zfp (some ⟨b,0,none⟩) (slA x) 512 512 512 (slC x) (zbu R0) (zbu R) (zem hl0) (zem hl) w1 (qch (hw1.item (rdI b (zbu R0)) mm).1) (za8 (hw1.item (own 5 1 x 512 (zae (zbu R))) mm).1)) ?_
 obtain⟨bb,hbb⟩:∃z,decide (zbu R0=zbu R)=z:=⟨_,rfl⟩
 rw[hbb]
 refine goA ?_
 refine zq3 (w0:=w) (F:=za4 [foI c R busy err s,ctI]) (α:=Pg) (fun _=>[(0,.pointer (some ⟨c.b,0,none⟩)),(4,.int .i64 0)]) (fun s2=>∃g',Fok c g' s2∧g'.S=g.S∧(∀i,i≠1→g'.W i=g.W i)∧g'.W 1=zbu R) (fun s2=>[foI c R busy err s2,ctI]) ?_ fun s2 ⟨g2,k1,k2,k3,k4⟩=>?_
 ·cases bb with
  |true=>
   have e:=of_decide_eq_true hbb
   refine goA ?_
   exact zep (zb1 s c.d.D 1) ⟨rfl,rfl,trivial⟩ ⟨g,Tok.fok (R:=[]) (busy:=false) (err:=0) (i:=0) h',rfl,fun _ _=>rfl,hW.trans e⟩ (fun w' hw'=>hw'.pick [1,3] rfl rfl)
  |false=>
   refine goA ?_
   refine zcy (m':=foL c R busy err (zb1 s c.d.D 1)++[own 5 1 x 512 (zae (zbu R)),ctI]) (fun w h=>zk7 (h.pick [1,0,3] rfl rfl)) ?_
   unfold foL
   simp only[aF,aJ]
   refine goA ?_
   rw[←hb1]
   refine zay [1,4,0,2,3,5] rfl rfl ?_
   refine lCu [pgI (zb1 s c.d.D 1) c.d] rfl (zbl _ _) (fun w1 hw1 hh1 ha1=>zqf (zb1 s c.d.D 1) c.d 1 (zbu R) (zem hl) (slA x) (slC x) h'.st.dead oQ w1 hh1 (za8 (hw1.item (own 5 1 x 512 (zae (zbu R))) mm).1) (fun b off e=>zbx hw1 (.head _) ⟨b,off,none⟩ e)) fun⟨_,_⟩=>?_
   have hcc:¬((1:Int)<1∨((zb1 s c.d.D 1).n:Int)≤1):=oQ
   rw[if_neg hcc,if_neg hcc,show(1:Int).toNat=1 from rfl]
   simp only[aF,aJ]
   refine goA ?_
   refine zep { zb1 s c.d.D 1 with C:=zeb (zb1 s c.d.D 1).C 1 (zbu R) } ⟨rfl,rfl,trivial⟩ ⟨_,Tok.fok (R:=[]) (busy:=false) (err:=0) (i:=0) (h'.save (bA _) h1N (zem hl)),rfl,fun i hi=>?_,show wr g.W 1 (zbu R) 1=zbu R from ze6 _ _ _⟩ (fun w' hw'=>zhe (m:=[ctI]) (hw'.pick [2,0,3,4,5] rfl rfl))
   show wr g.W 1 (zbu R) i=g.W i
   unfold wr
   rw[if_neg hi]
 ·have k0:Tok (frC c [] false 0 0) g2 s2:=k1
  have hb2:s2.b=c.pb:=k0.b
  refine zg8 (m':=foL c R busy err s2++[ctI]) (fun w h=>zk7 h) ?_
  unfold foL
  simp only[aF,aJ]
  refine goA ?_
  rw[←hb2]
  by_cases hC:s2.C=[]
  ·refine lPu rfl (fun w1 hw1=>zvq s2 c.d k0.st.dead hC w1 (zbq.of (hw1.item (pgI s2 c.d) mm) (zbv _ _))) ?_
   refine goA ?_
   refine zbr (m':=foI c R busy err s2::[ctI]) (fun w' hw'=>zhe (m:=[ctI]) hw') ?_
   exact zbd (c,s2) rfl rfl rfl ⟨rfl,rfl,rfl,rfl,rfl,rfl,rfl,hleft,gE _ _,⟨g2,k1,k2,k3,k4⟩,hC⟩ (.refl _) (zh1 _ _ _ _ _)
  ·refine zay [1,2,4,0,3] rfl rfl ?_
   refine lCu [pgI s2 c.d,dkI c.d,ctI] rfl (zdq s2 c.d) (fun w1 hw1 hh1 ha1=>zl7 s2 c.d c.n c.secs c.note c.V s2.C c.B k0.st hB hC w1 hh1 ha1) fun⟨⟨e,d',s3⟩,hx⟩=>?_
   obtain⟨x1,x2,hx⟩:=hx
   have hnd:=k1.need hroom
   simp only at x1 x2 hx⊢
   obtain⟨-,rfl,hlv,hst⟩:needC' s2.C≤c.secs∧e=0∧zig c.d.D d'.D∧StX s3 d'.D c.n c.secs c.note (zd9 c.V s2.C) [] (c.B+601):=by
    rcases hx with ⟨-,h1, -⟩ |hx|⟨-, -,h1, -⟩
    ·omega
    ·exact hx
    ·exact absurd hleft h1
   obtain⟨k5,k6⟩:=k1.over x2 hst
   refine goA ?_
   refine zbr (m':=foI { c with d:=d',V:=zd9 c.V s2.C,B:=c.B+601 } R busy err s3::[ctI]) (fun w' hw'=>zhe (m:=[ctI]) (hw'.pick [3,0,1,4,2] rfl rfl)) ?_
   exact zbd ({ c with d:=d',V:=zd9 c.V s2.C,B:=c.B+601 },s3) rfl rfl rfl ⟨rfl,rfl,rfl,rfl,rfl,rfl,x1,hlv.left hleft,bA _,⟨g2,k5,k2,k3,k4⟩,k6⟩ (.refl _) (zh1 _ _ _ _ _)
end Go.Proofs.YthafakdplhdfjaaGreatDoor
namespace Go.Proofs.YthafakdplhdfjaaGreatDoor
open Go.RowKit Go.Eng Go.Eng.Bm Go.Eng.Tr
variable{n:Nat}{g:Sg}{r:List Rt}
theorem FoV.roots(h:FoV n g r):∀a∈r.map zbj,a≠1∧a<n:=fun a ha=>by
 obtain⟨x,hx,rfl⟩:=aS.1 ha
 obtain⟨i,hi⟩:=List.getElem?_of_mem hx
 have hnd:=h.acc.nodup
 have h1:=h.acc.low 1 (.head _)
 match x,hi,hx with
 |none,_,_=>exact⟨dQ,by show 0<n;omega⟩
 |some ⟨k,t⟩,hi,hx=>
  have hp:pg t∈r.flatMap zjb:=bS.2 ⟨_,hx,zcj t⟩
  refine⟨fun e=>?_,(h.acc.low _ (.tail _ hp)).2⟩
  have e:pg t=1:=e
  rw[e]at hp
  exact(cP.1 hnd).1 hp
def Vok(c:Fc)(r:List Rt):Prop:=∃g,(∀i,1≤i→i<c.n→c.V.getD i []=g.W i)∧zy6 c.n (c.V.getD 0 []) g.S∧(∀i,c.N≤i→i<c.n→g.S i=false)∧FoV c.N g r∧g.W 1=zbu (r.map zbj)
structure Fst (c:Fc) (r:List Rt):Prop where
 N1:1<c.N
 room:(514*c.N+496)/497≤c.secs
 left:c.d.D.left=none
 base:Vok c r
structure Rdy (c:Fc) (r0 r:List Rt) (s:Pg):Prop where
 st:Fst c r0
 now:∃g,Fok c g s∧FoV c.N g r∧g.W 1=zbu (r0.map zbj)
variable{c:Fc}{s:Pg}
theorem Fok.back(h:Fok c g s)(hv:Vok c r):∃g',Fok c g' { s with C:=[] }∧FoV c.N g' r∧g'.W 1=zbu (r.map zbj):=by
 have h0:Tok (frC c [] false 0 0) g s:=h
 obtain⟨g',k1,k2,k3,k4,k5⟩:=hv
 exact⟨g',⟨h0.st.abort,h0.b,k1,k2,h0.sh,h0.N1,h0.N2,h0.n2,fun _ _=>rfl,k3⟩,k4,k5⟩
theorem Fok.keeps(h:Fok c g s)(hC:s.C=[])(hv:FoV c.N g r)(h1:g.W 1=zbu (r.map zbj)):Vok c r:=by
 have h0:Tok (frC c [] false 0 0) g s:=h
 have e:∀i,ze5 c.V s.C i=c.V.getD i []:=fun i=>by rw[hC];rfl
 refine⟨g,fun i h2 h3=>(e i).symm.trans (h0.W i h2 h3),?_,h0.hi,hv,h1⟩
 rw[←e 0]
 exact h0.S
theorem FoV.same{g':Sg}(h:FoV n g r)(hS:g'.S=g.S)(hW:∀i,i≠1→g'.W i=g.W i):FoV n g' r:=by
 refine⟨h.len,fun i x hx=>?_,by rw[hS];exact h.acc⟩
 obtain⟨k1,k2,k3⟩:=h.ok i x hx
 refine⟨k1,k2.frame fun y hy=>hW y fun e=>?_,k3⟩
 subst e
 exact(cP.1 h.acc.nodup).1 (bS.2 ⟨x,bI hx,hy⟩)
structure qsc (c c':Fc):Prop where
 b:c'.b=c.b
 pb:c'.pb=c.pb
 N:c'.N=c.N
 n:c'.n=c.n
 secs:c'.secs=c.secs
 note:c'.note=c.note
 db:c'.d.b=c.d.b
 B:c'.B≤c.B+601
def eeF(er ex:Nat):Nat:=if er=0 then ex else er
theorem zpn{r0:List Rt}(h:Rdy c r0 r0 s)(hB:c.B+700<9223372036854775808){err:Nat}{X:Type}{fd:FuncId}{cs:List Value}(hb:za7 Tryz.prog fd=true)(D:List Eng.Item)(D':X→List Eng.Item)(hsD:∀it∈D,it.Stable none')(hsD':∀x,∀it∈D' x,it.Stable none')(ex er:X→Nat)(rx:X→List Rt)(sx:X→Pg)(φ:X→Prop)(hφ:∀x,φ x→Rdy c r0 (rx x) (sx x))
  (hdo:∀w1,(∀it∈foI c (r0.map zbj) true 0 s::D,zbq it w1)→(foI c (r0.map zbj) true 0 s::D).Pairwise Eng.Item.Apart→Ct Tryz.prog fd cs.toArray w1 (za4 (foI c (r0.map zbj) true 0 s::D)) (fun x:X=>.int .i64 (ex x:Nat)) φ (fun x=>foI c ((rx x).map zbj) true (er x) (sx x)::D' x)):
  Cw Tryz.prog 18 #[.pointer (some ⟨c.b,0,none⟩),.func (.func fd) #[] cs.toArray] (foI c (r0.map zbj) false err s::ctI::D) (fun x:X×Fc×Pg=>.int .i64 (eeF (er x.1) (ex x.1):Nat))
   (fun x=>φ x.1∧qsc c x.2.1∧Rdy x.2.1 (if eeF (er x.1) (ex x.1)=0 then rx x.1 else r0) (if eeF (er x.1) (ex x.1)=0 then rx x.1 else r0) x.2.2) (fun x=>foI x.2.1 ((if eeF (er x.1) (ex x.1)=0 then rx x.1 else r0).map zbj) false (er x.1) x.2.2::ctI::D' x.1):=by
 intro w hw hap
 obtain⟨g,k1,k2,k3⟩:=h.now
 have hl:(r0.map zbj).length=8:=by rw[aD];exact k2.len
 refine za2 [_,_] _ Tryz.func18 rfl rfl hw hap ?_
 simp only[zaa,Nat.reduceAdd]
 refine goA ?_
 refine l_w rfl (zwf (v':=.bool false) (ov fun _ _ _ _ _=>rfl) rfl) ?_
 refine goA ?_
 refine l_w rfl (qpg (c:=c) (R:=r0.map zbj) (s:=s) rfl (.head _) (zl2 hl false err).1 rfl) ?_
 refine goA ?_
 refine zcy (m':=foL c (r0.map zbj) false err s++(ctI::D)) (fun w h=>zk7 h) ?_
 unfold foL
 simp only[aF,aJ]
 refine goA ?_
 refine za1 rfl (qb8 hl rfl rfl rfl rfl) fun _=>?_
 refine goA ?_
 refine za1 rfl (qhe (e':=0) hl rfl rfl rfl rfl) fun _=>?_
 refine goA ?_
 refine zcy (m':=(foI c (r0.map zbj) true 0 s::D)++[ctI]) (fun w hw=>(zhe (m:=ctI::D) hw).perm (.cons _ (fK _ _).symm)) ?_
 have hst:∀it∈foI c (r0.map zbj) true 0 s::D,it.Stable none':=fun it hm=>by
  rcases aL.1 hm with rfl|hm
  ·exact zad _
  ·exact hsD it hm
 refine zeh rfl (zx1 (pre:=foI c (r0.map zbj) true 0 s::D) (fs:=[]) (cs:=cs) rfl hb rfl rfl rfl hst (fun w1 hw1 hh1 ha1=>hdo w1 hh1 ha1)) fun⟨x,hx⟩=>?_
 obtain⟨g2,j1,j2,j3⟩:=(hφ x hx).now
 have hl':((rx x).map zbj).length=8:=by rw[aD];exact j2.len
 have j0:Tok (frC c [] false 0 0) g2 (sx x):=j1
 have hb2:(sx x).b=c.pb:=j0.b
 have hlt:∀a∈(rx x).map zbj,a<65536:=fun a ha=>by
  have h5:a<1024:=aY (FoV.roots j2 a ha).2 (cH j0.N2 j0.n2)
  omega
 refine zcy (m':=foL c ((rx x).map zbj) true (er x) (sx x)++(ctI::D' x)) (fun w hw=>zk7 (hw.perm (.cons _ (fK _ _)))) ?_
 unfold foL
 simp only[aF,aJ]
 refine goA ?_
 refine za1 rfl (qb8 hl' rfl rfl rfl rfl) fun _=>?_
 refine goA ?_
 refine l_w rfl (qrw rfl (.head _) (zl2 hl' false (er x)).2 rfl) ?_
 refine goA ?_
 have hfin:∀z:X×Fc×Pg,∀it∈foI z.2.1 ((if eeF (er z.1) (ex z.1)=0 then rx z.1 else r0).map zbj) false (er z.1) z.2.2::ctI::D' z.1,it.Stable none':=fun z it hm=>by
  rcases aL.1 hm with rfl|hm
  ·exact zad _
  ·rcases aL.1 hm with rfl|hm
   ·exact zcb _
   ·exact hsD' z.1 it hm
 obtain⟨ee,hee⟩:∃z,eeF (er x) (ex x)=z:=⟨_,rfl⟩
 refine zq3 (w0:=w) (F:=za4 (foI c (r0.map zbj) false err s::ctI::D)) (α:=Unit) (fun _=>[(0,.pointer (some ⟨c.b,0,none⟩)),(5,.int .i64 (ee:Nat))]) (fun _=>True) (fun _=>foC c ((rx x).map zbj) false (er x)::pgI (sx x) c.d::dkI c.d::tzI::ctI::D' x) ?_ fun _ _=>?_
 ·by_cases h0:er x=0
  ·rw[show ee=ex x by rw[←hee];exact if_pos h0,h0]
   refine goA ?_
   exact zep () ⟨rfl,rfl,trivial⟩ trivial (fun w' hw'=>hw')
  ·rw[show ee=er x by rw[←hee];exact if_neg h0]
   refine goA ?_
   refine l_w rfl (qrw rfl (.head _) (zl2 hl' false (er x)).2 rfl) ?_
   refine goA ?_
   exact zep () ⟨rfl,rfl,trivial⟩ trivial (fun w' hw'=>hw')
 ·by_cases h0:ee=0
  ·subst h0
   refine goA ?_
   refine zcy (m':=[foI c ((rx x).map zbj) false (er x) (sx x),ctI]++D' x) (fun w hw=>zhe (m:=ctI::D' x) hw) ?_
   refine lCu [foI c ((rx x).map zbj) false (er x) (sx x),ctI] rfl (zh1 _ _ _ _ _) (fun w1 hw1 hh1 ha1=>zuh j1 h.st.N1 h.st.room hB h.st.left hl' hlt hl j3 w1 hh1 ha1) fun⟨⟨c',s'⟩,af⟩=>?_
   have af:Aft c g2 ((rx x).map zbj) (c',s'):=af
   obtain⟨a1,a2,a3,a4,a5,a6,a7,a8,a9,⟨g3,b1,b2,b3,b4⟩,a10⟩:=af
   simp only at a1 a2 a3 a4 a5 a6 a7 a8 a9 b1 a10
   simp only[aF,aJ]
   refine goA ?_
   have hV:=FoV.same j2 b2 b3
   have hR:Rdy c' (rx x) (rx x) s':=by
    refine⟨⟨by rw[a3];exact h.st.N1,by rw[a3,a5];exact h.st.room,a8,b1.keeps a10 (by rw[a3];exact hV) b4⟩,g3,b1,by rw[a3];exact hV,b4⟩
   exact zbd (x,c',s') rfl rfl (by rw[hee];rfl) ⟨hx,⟨a1,a2,a3,a4,a5,a6,a7,a9⟩,by rw[hee];exact hR⟩ (by simp only;rw[hee];exact .refl _) (hfin (x,c',s'))
  ·obtain⟨g0,c1,c2,c3⟩:=Fok.back j1 h.st.base
   have c0:Tok (frC c [] false 0 0) g0 { sx x with C:=[] }:=c1
   refine goA ?_
   rw[←hb2]
   refine zgb (zcg _ _ _) ?_
   refine lCu [pgI (sx x) c.d] rfl (zbl _ _) (fun w1 hw1 hh1 ha1=>zk2 (sx x) c.d w1 hh1) fun⟨_,_⟩=>?_
   simp only[aF,aJ]
   refine zgb (zcg _ _ _) ?_
   refine goA ?_
   refine zcy (m':=qny c (frT c.pb 0 ((rx x).map zbj)) false (er x) { sx x with C:=[] }++(ctI::D' x)) (fun w hw=>hw) ?_
   refine lCu (qny c (frT c.pb 0 ((rx x).map zbj)) false (er x) { sx x with C:=[] }) rfl (zpp _ _ _ _ _) (fun w1 hw1 hh1 ha1=>zpo c1 h.st.N1 (by rw[zhr,hl']) hl (fun a ha=>⟨(FoV.roots c2 a ha).1,aY (FoV.roots c2 a ha).2 c0.N2⟩) c3 w1 hh1 ha1) fun⟨s',hs'⟩=>?_
   have hs':Fok c g0 s':=hs'
   simp only[aF,aJ]
   refine goA ?_
   exact zbd (x,c,s') rfl rfl (by rw[hee]) ⟨hx,⟨rfl,rfl,rfl,rfl,rfl,rfl,rfl,gE _ _⟩,by rw[hee,if_neg h0];exact⟨h.st,g0,hs',c2,c3⟩⟩ (by simp only;rw[hee,if_neg h0];exact .refl _) (hfin (x,c,s'))
theorem StX.has'{D:Dsk}{secs:Nat}{note:Bys}{V:List Bys}{C:PR}{B:Nat}(h:StX s D n secs note V C B)(hB:B<9223372036854775808):∃hd c TS,zy7 D n secs note V B hd c TS:=by
 obtain⟨TS,h1⟩:=h.st
 exact⟨_,_,_,h1.rec' hB⟩
def r8:List Rt:=List.replicate 8 none
theorem qri:zbu (r8.map zbj)=zej:=by decide+kernel
def S01:Nat→Bool:=us (upd noU 0 true) 1 true
variable{N:Nat}
theorem qtu(h:1<N)(W:Nat→Bys):FoV N ⟨W,S01⟩ r8:=by
 refine⟨rfl,fun i x hx=>?_,⟨?_,fun i _=>?_,fun x hx=>?_⟩⟩
 ·obtain rfl:x=none:=fC (bI hx)
  exact⟨trivial,trivial,List.Pairwise.nil⟩
 ·show(1::[]).Nodup
  simp
 ·show S01 i=true↔i=0∨i∈[1]
  unfold S01 us upd noU
  by_cases h1:i=1
  ·simp[h1]
  ·by_cases h0:i=0<;>simp[h0,h1]
 ·have hx:x∈[1]:=hx
  rw[aN.1 hx]
  omega
theorem qn1(hs:StX s c.d.D c.n c.secs c.note (V0 c.n) [] c.B)(hb:s.b=c.pb)(hV:c.V=V0 c.n)(h1:1<c.N)(hN:c.N≤c.n)(hn:c.n≤1024):Fok c ⟨fun i=>(V0 c.n).getD i [],upd noU 0 true⟩ s∧s.C=[]:=by
 have hC:s.C=[]:=zu8 hs.eC
 refine⟨⟨by rw[←hV]at hs;exact hs.self',hb,fun i _ _=>?_,?_,qjz (i:=0) dQ,by show 1≤c.N;omega,hN,hn,fun i _=>by rw[hC];rfl,fun i hi _=>?_⟩,hC⟩
 ·show ze5 c.V s.C i=_
  rw[hC,hV]
  rfl
 ·show zy6 c.n (ze5 c.V s.C 0) _
  rw[hC,hV]
  show zy6 c.n ((V0 c.n).getD 0 []) _
  rw[aE,qng oQ]
  exact ql9 c.n oQ
 ·have hi:c.N≤i:=hi
  show upd noU 0 true i=false
  unfold upd noU
  simp
  omega
theorem qk3(h:1<N)(W:Nat→Bys):zh8 N ⟨W,upd noU 0 true⟩= .ok (1,⟨wr W 1 zej,S01⟩):=by
 have hf:∃i,i<N∧upd noU 0 true i=false:=⟨1,h,dQ⟩
 obtain⟨f1,f2,f3⟩:=zjr hf
 have e:nw N (upd noU 0 true)=1:=by
  rcases iH (nw N (upd noU 0 true)) 1 with h1|h1|h1
  ·rw[show nw N (upd noU 0 true)=0 by omega]at f1;exact absurd f1 dQ
  ·exact h1
  ·exact absurd (f3 1 h1) dQ
 unfold zh8
 rw[if_pos hf,e]
 rfl
theorem zuj(d:Dk)(N nn log:Nat)(hd:d.D=zvd N)(hN:N≤4096)(hl1:96≤log)(hl2:log≤512)(hn1:64≤nn)(hn2:nn≤1024)(hroom:2+log+nn≤N)(M:Nat)(hM:1<M)(hMn:M≤nn)(hMl:(514*M+496)/497≤log):
  Cw Tryz.prog 44 #[.pointer (some ⟨d.b,0,none⟩),.int .i64 (log:Int),.int .i64 (nn:Int),.string ⟨zvf.toArray⟩] [dkI d,ctI,tzI] (fun _:Fc×Pg=>.int .i64 0) (fun x=>x.1.d.b=d.b∧x.1.N=M∧x.1.n=nn∧x.1.secs=log∧x.1.note=zvf∧x.1.B=603∧x.2.C=[]∧x.1.d.D.left=none∧Vok x.1 r8∧∃g,Fok x.1 g x.2) (fun x=>[dkI x.1.d,ctI,tzI]):=by
 intro w hw ha
 refine za2 [_,_,_,_] _ Tryz.func44 rfl rfl hw ha ?_
 simp only[zaa,Nat.reduceAdd]
 refine goA ?_
 refine lCu [dkI d,ctI] rfl (zbo d) (fun w1 hw1 hh1 ha1=>zw7 d N log nn zvf hd hN hl1 hl2 hn1 hn2 dQ hroom w1 hh1 ha1) fun⟨d1,k1,f2,f3,f6,f4,hh,f5⟩=>?_
 simp only[aF,aJ]
 refine goA ?_
 rw[←k1]
 refine lCu [dkI d1,ctI] rfl (zbo d1) (fun w1 hw1 hh1 ha1=>zqk d1 nn log zvf (V0 nn) 1 f6 f2 f4 dQ ⟨_,_,_,f5⟩ ⟨_,by rw[aE,qng oQ];exact ql9 nn oQ⟩ w1 hh1 ha1) fun⟨⟨d2,so⟩,hd2⟩=>?_
 obtain⟨q1,q2⟩:=hd2
 cases so with
 |none=>exact absurd f3 q2.1
 |some s=>
  obtain⟨q2,q3⟩:=q2
  simp only[bZ,gH,if_true,oqI,aF,aJ]
  obtain⟨c,hc⟩:∃c:Fc,c=⟨d2,0,s.b,M,nn,log,zvf,V0 nn,2⟩:=⟨_,rfl⟩
  have kk:=qn1 (c:=c) (s:=s) (by rw[hc];exact q3) (by rw[hc]) (by rw[hc]) (by rw[hc];exact hM) (by rw[hc];exact hMn) (by rw[hc];exact hn2)
  have hpn:=qk3 (N:=M) hM (fun i=>(V0 c.n).getD i [])
  have k0:Tok (frC c [] false 0 0) ⟨fun i=>(V0 c.n).getD i [],upd noU 0 true⟩ s:=kk.1
  obtain⟨t1,hq1,hq2,hq3, -⟩:=k0.alloc (q:=1) (g':=⟨wr (fun i=>(V0 c.n).getD i []) 1 zej,S01⟩) (by rw[hc]at hpn⊢;exact hpn)
  have ed:(frC c [] false 0 0).d=d2:=by rw[hc];rfl
  rw[ed]at t1
  have hsb:(znt s d2.D (upd noU 0 true) 1).b=s.b:=by have:=t1.b;rw[hc]at this;exact this
  refine goA ?_
  refine zay [0,1,3,2] rfl rfl ?_
  refine lCu [pgI s d2,dkI d2,tzI] rfl (zgv s d2) (fun w1 hw1 hh1 ha1=>zn7 s d2 (by have:=k0.ok;rwa[ed]at this) (by have:=k0.lives;rwa[ed]at this) (by have:=k0.wait;rwa[ed]at this) k0.st.dead (by have:=k0.st.ok;rwa[ed]at this) (upd noU 0 true) (by have:=k0.hS;rwa[ed]at this) (by rw[k0.st.hn];exact k0.S.2.1) k0.S.2.2 1 hq1 hq2 hq3 w1 hh1 ha1) fun⟨_,_⟩=>?_
  simp only[aF,aJ]
  refine goA ?_
  obtain⟨s1,hs1⟩:∃z,znt s d2.D (upd noU 0 true) 1=z:=⟨_,rfl⟩
  have hC1:s1.C≠[]:=fun e=>by
   have h2:=zcp (zeb (zb1 s d2.D 0).C 0 (bmB s.n (upd (upd noU 0 true) 1 true))) 1 zej 1
   rw[if_pos rfl]at h2
   have e2:zeb (zeb (zb1 s d2.D 0).C 0 (bmB s.n (upd (upd noU 0 true) 1 true))) 1 zej=[]:=by rw[←hs1]at e;exact e
   rw[e2]at h2
   cases h2
  rw[hs1]at t1 hsb⊢
  have f1:Fok c ⟨wr (fun i=>(V0 c.n).getD i []) 1 zej,S01⟩ s1:=t1
  refine zay [0,1,3,2] rfl rfl ?_
  simp only[bZ]
  rw[←hsb]
  have hst1:StX s1 d2.D nn log zvf (V0 nn) s1.C 2:=by have:=t1.st;rw[hc]at this;exact this
  refine lCu [pgI s1 d2,dkI d2,ctI] rfl (zdq s1 d2) (fun w1 hw1 hh1 ha1=>zl7 s1 d2 nn log zvf (V0 nn) s1.C 2 hst1 dQ hC1 w1 hh1 ha1) fun⟨⟨e,d',s3⟩,hx⟩=>?_
  obtain⟨x1,x2,hx⟩:=hx
  subst hc
  have hnd:=f1.need hMl
  simp only at x1 x2 hx hnd⊢
  obtain⟨-,rfl,hlv,hst⟩:needC' s1.C≤log∧e=0∧zig d2.D d'.D∧StX s3 d'.D nn log zvf (zd9 (V0 nn) s1.C) [] (2+601):=by
   rcases hx with ⟨-,h1, -⟩ |hx|⟨-, -,h1, -⟩
   ·omega
   ·exact hx
   ·exact absurd (q2.left f3) h1
  obtain⟨k5,k6⟩:=f1.over x2 hst
  simp only[aF,aJ]
  refine goA ?_
  have hv:FoV M ⟨wr (fun i=>(V0 nn).getD i []) 1 zej,S01⟩ r8:=qtu hM _
  exact zbd (_,s3) rfl rfl rfl ⟨x1.trans q1,rfl,rfl,rfl,rfl,rfl,k6,hlv.left (q2.left f3),k5.keeps k6 hv (show wr (fun i=>(V0 nn).getD i []) 1 zej 1=_ from(ze6 _ _ _).trans qri.symm),_,k5⟩ (.cons _ (.cons_cons _ (.cons_cons _ (.cons_cons _ (aK _))))) (by simp[zgz,zcb,dkI,zad])
def X0:List Value:=[.pointer none,.int .i64 0,.int .i64 0,.int .i64 0,.pointer none,.int .i64 0,.int .i64 0,.int .i64 0,.pointer none,.int .i64 0,.int .i64 0,.int .i64 0,.pointer none,.int .i64 0,.int .i64 0,.int .i64 0,.pointer none,.int .i64 0,.int .i64 0,.int .i64 0,.pointer none,.int .i64 0,.int .i64 0,.int .i64 0,.pointer none,.int .i64 0,.int .i64 0,.int .i64 0,.pointer none,.int .i64 0,.int .i64 0,.int .i64 0]
theorem zzs{s0:Pg}(hk:Fok c g s0)(hC:s0.C=[])(hv:Vok c r)(hN:1<c.N)(hroom:(514*c.N+496)/497≤c.secs)(hleft:c.d.D.left=none)(hB:c.B+1<9223372036854775808):
  Cw Tryz.prog 37 #[.pointer (some ⟨c.d.b,0,none⟩)] [dkI c.d,ctI,tzI] (fun x:Fc×Pg=>.tuple #[.pointer (some ⟨x.1.b,0,none⟩),.int .i64 0]) (fun x=>x.1.d.b=c.d.b∧x.1.N=c.N∧x.1.n=c.n∧x.1.secs=c.secs∧x.1.note=c.note∧x.1.B=c.B+1∧Rdy x.1 r r x.2) (fun x=>[foI x.1 (r.map zbj) false 0 x.2,ctI]):=by
 intro w hw ha
 have h0:Tok (frC c [] false 0 0) g s0:=hk
 have hst:StX s0 c.d.D c.n c.secs c.note c.V s0.C c.B:=h0.st
 refine za2 [_] _ Tryz.func37 rfl rfl hw ha ?_
 simp only[zaa]
 refine goA ?_
 refine lCu [dkI c.d,ctI] rfl (zbo c.d) (fun w1 hw1 hh1 ha1=>zqk c.d c.n c.secs c.note c.V c.B hst.keep hst.rest hst.siz hB (hst.has' oQ) hst.p0 w1 hh1 ha1) fun⟨⟨d2,so⟩,hd2⟩=>?_
 obtain⟨q1,q2⟩:=hd2
 cases so with
 |none=>exact absurd hleft q2.1
 |some s=>
  obtain⟨q2,q3⟩:=q2
  have q1:d2.b=c.d.b:=q1
  have q2:zig c.d.D d2.D:=q2
  have q3:StX s d2.D c.n c.secs c.note c.V [] (c.B+1):=q3
  simp only[bZ,gH,if_true,oqI,aF,aJ]
  obtain⟨g0,w1,w2,w3,w4,w5⟩:=hv
  have hCs:s.C=[]:=zu8 q3.eC
  refine goA ?_
  refine zbp rfl rfl fun b6 hb6=>?_
  refine goA ?_
  have kf:Fok { c with d:=d2,b:=b6,pb:=s.b,B:=c.B+1 } g0 s:=⟨q3.self',rfl,fun i h1 h2=>by show ze5 c.V s.C i=_;rw[hCs];exact w1 i h1 h2,by show zy6 c.n (ze5 c.V s.C 0) _;rw[hCs];exact w2,qjz (i:=0) dQ,h0.N1,h0.N2,h0.n2,fun i _=>by rw[hCs];rfl,w3⟩
  have hl8:(r.map zbj).length=8:=by rw[aD];exact w4.len
  refine zcy (m':=qny { c with d:=d2,b:=b6,pb:=s.b,B:=c.B+1 } X0 false 0 s++[ctI]) (fun w' hw'=>hw'.pick [0,1,2,4,3] rfl rfl) ?_
  refine lCu (qny { c with d:=d2,b:=b6,pb:=s.b,B:=c.B+1 } X0 false 0 s) rfl (zpp _ _ _ _ _) (fun w1 hw1 hh1 ha1=>zpo kf hN rfl hl8 (fun a ha=>⟨(FoV.roots w4 a ha).1,aY (FoV.roots w4 a ha).2 h0.N2⟩) w5 w1 hh1 ha1) fun⟨s',hs'⟩=>?_
  have hs':Fok { c with d:=d2,b:=b6,pb:=s.b,B:=c.B+1 } g0 s':=hs'
  simp only[aF,aJ]
  refine goA ?_
  exact zc1 ({ c with d:=d2,b:=b6,pb:=s.b,B:=c.B+1 },s') rfl rfl rfl rfl ⟨q1,rfl,rfl,rfl,rfl,rfl,⟨hN,hroom,q2.left hleft,⟨g0,w1,w2,w3,w4,w5⟩⟩,g0,hs',w4,w5⟩ (.refl _) (zh1 _ _ _ _ _)
def fsA(db fb:Nat):Array Value:= #[.pointer (some ⟨db,0,none⟩),.pointer (some ⟨fb,0,none⟩),.slice none 0 0,.slice none 0 0,.slice none 0 0,.slice none 0 0,.slice none 0 0,.slice none 0 0,.slice none 0 0,.slice none 0 0,.slice none 0 0,.slice none 0 0,.slice none 0 0,.slice none 0 0,.slice none 0 0,.slice none 0 0,.slice none 0 0,.slice none 0 0]
def fsC(xb db fb:Nat):Eng.Item:=pt xb (.cells (fsA db fb) 41 (0,0))
structure Beg (c:Fc) (s:Pg):Prop where
 rdy:Rdy c r8 r8 s
 N:c.N=120
 n:c.n=256
 secs:c.secs=128
 note:c.note=zvf
 B:c.B=604
theorem zlx:
  Cw Tryz.prog 10 #[] [ctI,tzI] (fun x:Nat×Fc×Pg=>.tuple #[.pointer (some ⟨x.1,0,none⟩),.bool true]) (fun x=>Beg x.2.1 x.2.2) (fun x=>[fsC x.1 x.2.1.d.b x.2.1.b,foI x.2.1 (r8.map zbj) false 0 x.2.2,ctI]):=by
 intro w hw ha
 refine za2 [] _ Tryz.func10 rfl rfl hw ha ?_
 simp only[zaa]
 refine goA ?_
 refine zdy rfl rfl kQ rfl (fun w1 hw1=>qdd 386 oQ w1) fun x hx=>?_
 simp only[aF,aJ]
 refine goA ?_
 refine lCu [dkI x,ctI,tzI] rfl (by simp[zgz,zcb,dkI,zad]) (fun w1 hw1 hh1 ha1=>zuj x 386 256 128 hx dQ dQ dQ dQ dQ dQ 120 dQ dQ dQ w1 hh1 ha1) fun⟨⟨c,s0⟩,hf⟩=>?_
 obtain⟨k1,k2,k3,k4,k5,k6,k7,k8,k9,g,k10⟩:=hf
 simp only at k1 k2 k3 k4 k5 k6 k7 k8 k9 k10
 simp only[aF,aJ]
 refine goA ?_
 rw[←k1]
 refine lCu [dkI c.d,ctI,tzI] rfl (by simp[zgz,zcb,dkI,zad]) (fun w1 hw1 hh1 ha1=>zzs k10 k7 k9 (by rw[k2];decide) (by rw[k2,k4];decide) k8 (by rw[k6];decide) w1 hh1 ha1) fun⟨⟨c1,s1⟩,hf⟩=>?_
 obtain⟨j1,j2,j3,j4,j5,j6,j7⟩:=hf
 simp only at j1 j2 j3 j4 j5 j6 j7
 simp only[aF,aJ]
 rw[←j1]
 refine goA ?_
 refine zbp rfl rfl fun b24 hb24=>?_
 refine goA ?_
 refine zc1 (b24,c1,s1) rfl rfl rfl rfl ⟨j7,j2.trans k2,j3.trans k3,j4.trans k4,j5.trans k5,by rw[j6,k6]⟩ (.refl _) ?_
 intro it hm
 rcases hm with _|⟨_,hm⟩
 ·exact zab _ _ _
 ·exact zh1 _ _ _ _ _ it hm
end Go.Proofs.YthafakdplhdfjaaGreatDoor
namespace Go.Eng
open Go.RowKit
end Go.Eng
namespace Go.Proofs.YthafakdplhdfjaaGreatDoor
open Go.RowKit Go.Eng Go.Eng.Bm Go.Eng.Tr
structure Few (n K k:Nat):Prop where
 le:n≤1024
 lo:K≤5*2^k
 rm:(4*(K/5)+32)/3+k+4<n
 dp:k<16
end Go.Proofs.YthafakdplhdfjaaGreatDoor
namespace Go.Eng
open Go.RowKit
variable{P:Program}{Q:Exit→Act→World→Prop}{N:Fm}{l:zav}{ops:Array Oper}{w0:World}{F:Nat→Prop}{S:World→Prop}{listed:Array Bool}{α:Type}
theorem qu9{m:List Item}{t n:Nat}(L:α→zav)(φ:α→Prop)(M:α→List Item)(k:∀x,φ x→HX Q .normal N (L x) (Hp w0 F (M x)))
  (h:(∀x l' m' r,φ x→Has l' (L x)→Fnds (M x) m' r→HX Q .normal N l' (Hp w0 F m'))→HD P ops Q S t N n listed l (Hp w0 F m)):HD P ops Q S t N n listed l (Hp w0 F m):=
 h fun x _ _ _ hx hl hs=>qty (L x) (M x) hl (fun _ h=>hs.hp h) (k x hx)
theorem qnv:za4 []=none':=funext fun k=>propext ⟨fun⟨_,h,_⟩=>(nomatch h),fun h=>False.elim h⟩
theorem cw0{f:FuncId}{us:Array Value}{val:α→Value}{φ:α→Prop}{its:α→List Item}(h:∀w,Ct P f us w none' val φ its):Cw P f us [] val φ its:=fun w _ _=>by rw[qnv];exact h w
theorem dLa{m r:List Item}{ty:TypeId}{pos:String}{after:Array Edge}{t:Nat}{T:TypeId}{x y:Operand}{b:Nat}{cs:Array Value}(cs':Array Value){E:TypeId}(k:HX Q .normal N l (Hp w0 F (pt b (.cells cs' E (0,0))::r)))
  (hi0:nth ops.toList t=some ⟨none,.store T x y,ty,pos,after,none⟩:=by rfl) (hx:evO l x=some (.pointer (some ⟨b,0,none⟩)):=by rfl) (hy:evO l y=some (.agg cs'):=by rfl) (hf:Fnd (pt b (.cells cs E (0,0))) m r:=by exact qt5) (hT:(P.info? T).map (·.size)=some cs'.size:=by rfl) (h1:zb7 cs'.toList=true:=by rfl) (h2:cs'.size=cs.size:=by rfl)
  (hr0:Region.ready .any ops listed=[t]:=by kernel_rfl) (hr1:Region.ready .any ops (listed.setIfInBounds t true)=[]:=by kernel_rfl) (hok:(zez (.store T x y)&&zec l (.store T x y))=true:=by rfl):HD P ops Q S t N 1 listed l (Hp w0 F m):=
 zet ⟨hr0,hr1⟩ hi0 rfl (zah hf.perm (zaf hok hx hy hT h1 h2)) fun _=>k
end Go.Eng
namespace Go.Proofs.YthafakdplhdfjaaGreatDoor
open Go.RowKit Go.Eng Go.Eng.Bm Go.Eng.Tr
structure Rm (r:List Rt) (M A:List Mp):Prop where
 l8:M.length=8
 rel:∀(i:Nat) (x:Rt),r[i]? =some x→∃o,M[i]? =some (o,zdb x)
 arc:∀p∈M,p∈A
theorem Rm.set{r:List Rt}{M A A':List Mp}(h:Rm r M A){i:Nat}{x:Rt}{o:Om}(hA:(o,zdb x)∈A')(hs:A⊆A'):Rm (r.set i x) (M.set i (o,zdb x)) A':=by
 refine⟨by rw[bE,h.l8],fun j y hy=>?_,fun p hp=>?_⟩
 ·by_cases e:i=j
  ·subst e
   have hl:i<r.length:=by rw[←bE (i:=i) (a:=x)];exact(aC.1 hy).1
   rw[dS hl]at hy
   obtain⟨o0,h0⟩:=h.rel i r[i] (aB hl)
   cases hy
   exact⟨o,dS (aC.1 h0).1⟩
  ·rw[fG e]at hy⊢
   exact h.rel j y hy
 ·rcases cF hp with hp|rfl
  ·exact hs (h.arc p hp)
  ·exact hA
abbrev stF(xb db fb:Nat)(M:List Mp):Eng.Item:=pt xb (.cells (.pointer (some ⟨db,0,none⟩):: .pointer (some ⟨fb,0,none⟩)::zc6 dmE M).toArray 41 (0,0))
variable{L:List S11}{i:Nat}
theorem qu0{w:World}{a:Option Addr}(h:Rd w a (zc6 S11.vs L))(hi:i<L.length):∃b off,a=some ⟨b,off,none⟩∧w.rangeAt b (off+i*4) (L[i]'hi).vs:=by
 obtain⟨b,off,rfl,hrow⟩:=h.at_ (by intro h;have:=congrArg List.length h;rw[zdx S11.sz]at this;simp at this;omega)
 exact⟨b,off,rfl,Rd.row S11.sz hrow hi⟩
theorem qnq{n:Nat}(h:n=120):Few n 250 6:=by subst h;exact⟨dQ,dQ,dQ,dQ⟩
structure Cg where
 i:Nat
 r:List Rt
 s:Pg
 M:List Mp
 A:List Mp
structure Stp (c:Fc) (W1:Bys) (A0:List Mp) (n:Nat) (y:Cg):Prop where
 now:∃g,Fok c g y.s∧FoV c.N g y.r∧g.W 1=W1
 rm:Rm y.r y.M y.A
 arc:A0⊆y.A
 tot:zq9 y.r≤n
def qqh(es:List E)(x:S11):List E:=es.set x.ti (if x.d=0 then zfy (es.getD x.ti []) x.key else zfx (es.getD x.ti []) x.key x.val)
abbrev esM(M:List Mp):List E:=M.map (·.2)
theorem qnb{M:List Mp}{es:List E}(he:esM M=(L.take i).foldl qqh es)(hi:i<L.length){x:S11}(hx:L[i]'hi=x){o o':Om}{e e':E}(hM:M[x.ti]? =some (o,e))(h':(if x.d=0 then zfy e x.key else zfx e x.key x.val)=e'):esM (M.set x.ti (o',e'))=(L.take (i+1)).foldl qqh es:=by
 rw[cV,aB hi,hx]
 show _=(L.take i++[x]).foldl qqh es
 rw[kO,←he]
 show _=qqh (esM M) x
 unfold qqh esM
 rw[gO,aE,aO,hM]
 exact congrArg _ h'.symm
theorem qee{c:Fc}(hN:c.N=120){W1:Bys}{A0:List Mp}{n0:Nat}(L:List S11)(hok:∀x∈L,x.Ok)(hn:n0+L.length≤240)(a:Option Addr)(cp:Nat)(xb:Nat){y0:Cg}(h0:Stp c W1 A0 n0 y0){err:Nat}(w:World)(hr:Rd w a (zc6 S11.vs L))(hap:∀b off,a=some ⟨b,off,none⟩→L≠[]→¬za4 [foI c (y0.r.map zbj) true err y0.s,arM y0.A,stF xb c.d.b c.b y0.M] b)
  (hw:∀it∈[foI c (y0.r.map zbj) true err y0.s,arM y0.A,stF xb c.d.b c.b y0.M],zbq it w) (ha:[foI c (y0.r.map zbj) true err y0.s,arM y0.A,stF xb c.d.b c.b y0.M].Pairwise Eng.Item.Apart):
  Ct Tryz.prog 62 #[.pointer (some ⟨xb,0,none⟩),.slice a L.length cp] w (za4 [foI c (y0.r.map zbj) true err y0.s,arM y0.A,stF xb c.d.b c.b y0.M]) (fun y:Cg=>.tuple #[mfV y.M,.bool true]) (fun y=>Stp c W1 A0 (n0+L.length) y∧esM y.M=L.foldl qqh (esM y0.M))
   (fun y=>[foI c (y.r.map zbj) true err y.s,arM y.A,stF xb c.d.b c.b y0.M]):=by
 have h8:=h0.rm.l8
 refine za2 [_,_] _ Tryz.func62 rfl rfl hw ha ?_
 simp only[zaa,Nat.reduceAdd]
 refine goA ?_
 refine zam rfl rfl fun b4 hb4=>?_
 refine goA ?_
 refine l_w rfl (zgp (xs:=zc6 dmE y0.M) (c:=(zc6 dmE y0.M).toArray) rfl (by rw[zce h8];rfl) (fun w' hw'=>by
  have:=zbf (hw'.get (b:=xb) (o:=.cells (.pointer (some ⟨c.d.b,0,none⟩):: .pointer (some ⟨c.b,0,none⟩)::zc6 dmE y0.M).toArray 41 (0,0)) mm)
  exact fun j v hv=>by have:=this (2+j) v (by rw[fT];exact hv);rwa[aH]at this) rfl) ?_
 refine goA ?_
 refine zam rfl rfl fun b6 hb6=>?_
 refine goA ?_
 refine lSa (cs':=(zc6 dmE y0.M).toArray) (hT:=by rw[aI,zce h8];rfl) (h1:=zc8 _) (h2:=by rw[aI,zce h8];rfl) ?_
 refine goA ?_
 refine que (fun y:Cg=>[(0,.pointer (some ⟨xb,0,none⟩)),(1,.slice a L.length cp),(4,.pointer (some ⟨b4,0,none⟩)),(6,.pointer (some ⟨b6,0,none⟩)),(7,.int .i64 (y.i:Nat))]) (fun y=>y.i≤L.length∧Stp c W1 A0 (n0+y.i) y∧esM y.M=(L.take y.i).foldl qqh (esM y0.M))
  (fun y=>[foI c (y.r.map zbj) true err y.s,arM y.A,stF xb c.d.b c.b y0.M,pt b6 (.cells (zc6 dmE y.M).toArray 39 (0,0)),pt b4 (.cells (Array.replicate 16 (.slice none 0 0)) 39 (0,0))]) (fun y=>L.length - y.i) { y0 with i:=0 } ⟨aZ _,⟨h0.now,h0.rm,h0.arc,h0.tot⟩,rfl⟩ fun⟨i,r,s,M,A⟩ ⟨hi,hst,hes⟩=>?_
 dsimp only at hi hst hes⊢
 have hM8:=hst.rm.l8
 dsimp only at hM8
 by_cases hil:i<L.length
 ·obtain⟨b,off,rfl,hri⟩:=qu0 hr hil
  have hF:=hap b off rfl (fun h=>by subst h;exact absurd hil (fQ _))
  have ho:=hok _ (aT hil)
  generalize hLt:L[i]=t at hri ho
  have h8i:t.ti<8:=dY _ dQ
  refine goA ?_
  refine l_w rfl (zgp (xs:=t.vs) (c:= #[.int .u8 t.d,.int .u8 t.t,.int .u16 t.k,.int .u16 t.v]) rfl rfl (fun w' hw'=>za5 hri hF hw') rfl) ?_
  refine zam rfl rfl fun b8 hb8=>?_
  refine goB ?_
  obtain⟨g,k1,k2,k3⟩:=hst.now
  dsimp only at k1 k2 k3
  have hlr:(r.map zbj).length=8:=by rw[aD];exact k2.len
  obtain⟨x,hx⟩:∃x,r[t.ti]? =some x:=⟨_,aB (by rw[k2.len];exact h8i)⟩
  have har:(r.map zbj)[t.ti]? =some (zbj x):=by rw[aO,hx];rfl
  obtain⟨om,hom⟩:=hst.rm.rel _ x hx
  have hee:=(k2.ok _ x hx).2.2
  have hf:=qnq hN
  have htot:=hst.tot
  have hxl:=qmt hx
  dsimp only at hom htot
  by_cases hd:t.d=0
  ·obtain⟨x',g',e1,e2,e3,e4⟩:=k2.del oQ hf.le oQ hf.lo hf.rm hf.dp hx t.key
   refine goA ?_
   refine ziv [stF xb _ _ y0.M,pt b8 _] 99 ?_
   refine goP ?_
   refine dC0 6 (fun w _=>zj2 t ho w) fun _ _=>?_
   refine dC 7 (fun w hw _=>zui k1 hlr h8i har t.key (zgk _ _) e1 w hw) fun s' hs'=>?_
   refine goQ ?_
   refine ziv [pt b8 _,pt b6 _] 99 ?_
   refine dVP rfl rfl (zcw (cs:=(zc6 dmE M).toArray) rfl (by rw[aI,zce hM8];rfl) mm) ?_
   refine goP ?_
   have hdel:=qtr hom hM8 (hst.rm.arc _ (bI hom)) hee t.key oQ
   refine qu9 (α:=Om×List Mp×Nat) (fun z=>[(0,.pointer (some ⟨xb,0,none⟩)),(1,.slice (some ⟨b,off,none⟩) L.length cp),(4,.pointer (some ⟨b4,0,none⟩)),(6,.pointer (some ⟨b6,0,none⟩)),(7,.int .i64 (i:Nat)),(10,.bool (zi6 (zdb x) t.key).isSome),(11,.int .i64 0),(12,.pointer (some ⟨z.2.2,0,none⟩)),(13,.bool (zi6 (zdb x) t.key).isSome)]) (fun z=>(z.1,zfy (zdb x) t.key)∈z.2.1∧A⊆z.2.1)
    (fun z=>[foI c ((r.map zbj).set t.ti (zbj x')) true err s',arM z.2.1,stF xb c.d.b c.b y0.M,pt b6 (.cells (zc6 dmE M).toArray 39 (0,0)),pt b4 (.cells (Array.replicate 16 (.slice none 0 0)) 39 (0,0)),pt z.2.2 (.cells (zc6 dmE (M.set t.ti (z.1,zfy (zdb x) t.key))).toArray 39 (0,0))]) (fun⟨o',A',b12⟩ hA'=>?_) (fun hk=>?_)
   ·dsimp only at hA'⊢
    have hM8':(M.set t.ti (o',zfy (zdb x) t.key)).length=8:=by rw[bE,hM8]
    refine goA ?_
    refine l_w rfl (zcw (cs:=(zc6 dmE (M.set t.ti (o',zfy (zdb x) t.key))).toArray) rfl (by rw[aI,zce hM8'];rfl) mm) ?_
    refine lSa (cs':=(zc6 dmE (M.set t.ti (o',zfy (zdb x) t.key))).toArray) (hT:=by rw[aI,zce hM8'];rfl) (h1:=zc8 _) (h2:=by rw[aI,aI,zce hM8',zce hM8]) ?_
    refine goA ?_
    generalize (zi6 (zdb x) t.key).isSome=q
    refine l_w rfl (ov (v:=.bool false) fun _ _ _ _ _=>by cases q<;>rfl) ?_
    refine goA ?_
    rw[←gO]
    have ht:=qpb hx x'
    have hp:(zfy (zdb x) t.key).length≤(zdb x).length:=gI _ _
    rw[←e2]at hp
    exact xR ⟨i+1,r.set t.ti x',s',M.set t.ti (o',zfy (zdb x) t.key),A'⟩ ⟨hil,⟨⟨g',hs',e3,e4.trans k3⟩,e2▸hst.rm.set (x:=x') (by rw[e2];exact hA'.1) hA'.2,fun p hp=>hA'.2 (hst.arc hp),by dsimp only;omega⟩,qnb hes hil hLt hom (if_pos hd)⟩ (by dsimp only;omega)
   ·refine qwa 3 8 (cw0 fun w=>zj2 t ho w) (fun _ _=>?_) (fun b12 hb12=>?_)
    ·refine qwa 4 8 hdel (fun⟨o',A'⟩ hA'=>?_) (fun b12 hb12=>?_)
     ·dsimp only at hA'⊢
      have hM8':(M.set t.ti (o',zfy (zdb x) t.key)).length=8:=by rw[bE,hM8]
      refine goP ?_
      refine dAl 8 fun b12 hb12=>?_
      refine dSa 9 (cs':=(zc6 dmE (M.set t.ti (o',zfy (zdb x) t.key))).toArray) (hT:=by rw[aI,zce hM8'];rfl) (h1:=zc8 _) (h2:=by rw[aI,zce hM8'];rfl) ?_
      refine goP ?_
      refine zdn kQ ?_
      exact hk (o',A',b12) _ _ _ hA' (by repeat first|exact trivial|refine⟨rfl,?_⟩) qt4
     ·refine dC 4 hdel fun⟨o',A'⟩ hA'=>?_
      dsimp only at hA'⊢
      have hM8':(M.set t.ti (o',zfy (zdb x) t.key)).length=8:=by rw[bE,hM8]
      refine goP ?_
      refine dSa 9 (cs':=(zc6 dmE (M.set t.ti (o',zfy (zdb x) t.key))).toArray) (hT:=by rw[aI,zce hM8'];rfl) (h1:=zc8 _) (h2:=by rw[aI,zce hM8'];rfl) ?_
      refine goP ?_
      refine zdn kQ ?_
      exact hk (o',A',b12) _ _ _ hA' (by repeat first|exact trivial|refine⟨rfl,?_⟩) qt4
    ·refine dC 3 (cw0 fun w=>zj2 t ho w) fun _ _=>?_
     refine dC 4 hdel fun⟨o',A'⟩ hA'=>?_
     dsimp only at hA'⊢
     have hM8':(M.set t.ti (o',zfy (zdb x) t.key)).length=8:=by rw[bE,hM8]
     refine goP ?_
     refine dSa 9 (cs':=(zc6 dmE (M.set t.ti (o',zfy (zdb x) t.key))).toArray) (hT:=by rw[aI,zce hM8'];rfl) (h1:=zc8 _) (h2:=by rw[aI,zce hM8'];rfl) ?_
     refine goP ?_
     refine zdn kQ ?_
     exact hk (o',A',b12) _ _ _ hA' (by repeat first|exact trivial|refine⟨rfl,?_⟩) qt4
  ·obtain⟨x',g',e1,e2,e3,e4⟩:=k2.put hf.le oQ hf.lo hf.rm hf.dp hx t.key t.val (zgk _ _) (zgk _ _)
   refine goA ?_
   refine ziv [pt b8 _,pt b6 _] 7 ?_
   refine dVP rfl rfl (zcw (cs:=(zc6 dmE M).toArray) rfl (by rw[aI,zce hM8];rfl) mm) ?_
   refine goP ?_
   refine dC0 3 (fun w _=>zj2 t ho w) fun _ _=>?_
   refine dC0 5 (fun w _=>ztx t ho w) fun _ _=>?_
   refine dC 6 (qtv hom hM8 (hst.rm.arc _ (bI hom)) hee t.key t.val oQ) fun⟨o',A'⟩ hA'=>?_
   dsimp only at hA'⊢
   have hM8':(M.set t.ti (o',zfx (zdb x) t.key t.val)).length=8:=by rw[bE,hM8]
   refine dLa (zc6 dmE (M.set t.ti (o',zfx (zdb x) t.key t.val))).toArray (hT:=by rw[aI,zce hM8'];rfl) (h1:=zc8 _) (h2:=by rw[aI,aI,zce hM8',zce hM8]) ?_
   refine goA ?_
   refine ziv [stF xb _ _ y0.M,pt b8 _] 99 ?_
   refine goP ?_
   refine dC0 6 (fun w _=>zj2 t ho w) fun _ _=>?_
   refine dC0 8 (fun w _=>ztx t ho w) fun _ _=>?_
   refine dC 9 (fun w hw _=>qdj k1 hlr h8i har t.key t.val (zgk _ _) (zgk _ _) e1 w hw) fun s' hs'=>?_
   refine goQ ?_
   rw[←gO]
   have ht:=qpb hx x'
   have hp:=zvs (e:=zdb x) (k:=t.key) (v:=t.val)
   rw[←e2]at hp
   exact xR ⟨i+1,r.set t.ti x',s',M.set t.ti (o',zfx (zdb x) t.key t.val),A'⟩ ⟨hil,⟨⟨g',hs',e3,e4.trans k3⟩,e2▸hst.rm.set (x:=x') (by rw[e2,hA'];exact .head _) (by rw[hA'];exact fun _ h=>.tail _ h),fun p hp=>hA'▸ .tail _ (hst.arc hp),by dsimp only;omega⟩,qnb hes hil hLt hom (if_neg hd)⟩ (by dsimp only;omega)
 ·obtain rfl:i=L.length:=oQ
  refine goA ?_
  refine l_w rfl (zcw (cs:=(zc6 dmE M).toArray) rfl (by rw[aI,zce hM8];rfl) mm) ?_
  refine lSa (cs':=(zc6 dmE M).toArray) (hT:=by rw[aI,zce hM8];rfl) (h1:=zc8 _) (h2:=by rw[aI,zce hM8];rfl) ?_
  refine goA ?_
  exact xC2 ⟨L.length,r,s,M,A⟩ ⟨hst,by rw[hes,gD]⟩ (hf:=rfl) (h1:=⟨_,rfl,zaq (by rw[aI,zce hM8];rfl) mm⟩)
end Go.Proofs.YthafakdplhdfjaaGreatDoor
namespace Go.Eng
open Go.RowKit
variable{P:Program}{l:zav}{w0:World}{F:Nat→Prop}{α:Type}{val:α→Value}{φ:α→Prop}{its:α→List Item}
theorem lCw{Q:Exit→Act→World→Prop}{N:Fm}{ops:Array Oper}{rest:List Oper}{m r:List Item}{ty:TypeId}{pos:String}{after:Array Edge}{g:Option (Nat×Bool)}{d:Nat}{f:FuncId}{xs:List Operand}{tys:Array TypeId}{us:Array Value}{vs:List Value}{pre:List Item}
  (hc:∀w,Hp w0 F m w→(∀it∈pre,zbq it w)→pre.Pairwise Item.Apart→Ct P f us w (za4 pre) val φ its) (k:∀x,φ x→HL P ops Q N rest ((d,val x)::l) (Hp w0 F (apI (its x) r)))
  (hx:evs l xs=some vs:=by rfl) (hu:vs.toArray=us:=by rfl) (hf:Fnds pre m r:=by exact qt4) [hst:StabL pre] (hg:okG ops l g=true:=by rfl) (hok:zee N l (.call ⟨.value (.func f),xs.toArray,tys⟩) d=true:=by rfl) (hb:za7 P f=true:=by kernel_rfl):
  HL P ops Q N (⟨some d,.call ⟨.value (.func f),xs.toArray,tys⟩,ty,pos,after,g⟩::rest) l (Hp w0 F m):=
 zcy (m':=pre++r) (fun _ hw=>by rw[zf9];exact hw.perm hf.perm) (zeh hg (zfb hok hb hx hst.st fun w hw hh ha=>by rw[hu];exact hc w (by rw[zf9]at hw;exact hw.perm hf.perm.symm) hh ha) fun x=>by rw[zf9];exact k x.1 x.2)
theorem xC3{m r:List Item}{n:Nat}{fn:Func}{rv rq rp:ResultVar}{u t s:Value}(x:α)(hφ:φ x)(hf:fn.results= #[rv,rq,rp]:=by rfl)(h1:zhu P l (Hp w0 F m) rv u:=by exact rfl)(h2:zhu P l (Hp w0 F m) rq t:=by exact rfl)(h3:zhu P l (Hp w0 F m) rp s:=by exact rfl)(e: .tuple #[u,t,s]=val x:=by rfl)
  (hs:Fnds (its x) m r:=by exact qt4) [hst:StabL (its x)]:HX (bodyPost P fn (zjn w0 F val φ its)) .ret ⟨n,[],none⟩ l (Hp w0 F m):=
 zbr (m':=its x++r) (fun _ hw=>by rw[zf9];exact hw.perm hs.perm) (qa6 x hf (znd (fun _ hw=>by rw[zf9]at hw;exact hw.perm hs.perm.symm) h1) (znd (fun _ hw=>by rw[zf9]at hw;exact hw.perm hs.perm.symm) h2) (znd (fun _ hw=>by rw[zf9]at hw;exact hw.perm hs.perm.symm) h3) e hφ (fD _ _) hst.st)
theorem qbm{w:World}{L m r:List Item}{it:Item}(hs:Fnds (apI L [it]) m r)(hw:Hp w0 F m w){b:Nat}(hb:it.foot b):¬za4 L b:=by
 have h1:=hw.perm hs.perm
 rw[←zf9,←zf9]at h1
 rintro⟨x,hx,hk⟩
 exact(bN.1 (bN.1 h1.apart).1).2.2 x hx it (.head _) b hk hb
end Go.Eng
namespace Go.Proofs.YthafakdplhdfjaaGreatDoor
open Go.RowKit Go.Eng Go.Eng.Bm Go.Eng.Tr
def qwz(W:World)(T:Nat→Prop):Eng.Item:=⟨fun k=>k<W.heap.size∧¬T k,fun w=>∀k,k<W.heap.size→¬T k→w.heap[k]? =W.heap[k]?⟩
instance(W:World)(T:Nat→Prop):Stab (qwz W T):=⟨fun _ _ h hp k h1 h2=>(h k (.inr ⟨h1,h2⟩)).trans (hp k h1 h2)⟩
variable{T:Nat→Prop}
theorem qw0{W w:World}{a:Option Addr}{xs:List Value}(h:Rd W a xs)(hT:∀b off,a=some ⟨b,off,none⟩→xs≠[]→b<W.heap.size∧¬T b)(hp:(qwz W T).prop w):Rd w a xs:=by
 rcases h with h|⟨b,off,ha,hr⟩
 ·exact .inl h
 ·by_cases hx:xs=[]
  ·exact .inl hx
  ·obtain⟨h1,h2⟩:=hT b off ha hx
   refine .inr ⟨b,off,ha,fun j v hv=>?_⟩
   have h3:=hr j v hv
   unfold World.cell? at h3⊢
   rw[hp b h1 h2]
   exact h3
structure C11 where
 L:List S11
 fl:Bool
 a:Option Addr
 cp:Nat
def C11.vs(x:C11):List Value:=[.slice x.a x.L.length x.cp,.bool x.fl]
structure C11.Ok (x:C11) (I:Eng.Item):Prop where
 ok:∀y∈x.L,y.Ok
 rd:∀w,I.prop w→Rd w x.a (zc6 S11.vs x.L)
 old:∀b off,x.a=some ⟨b,off,none⟩→x.L≠[]→I.foot b
theorem C11.of_old{x:C11}{W:World}(ok:∀y∈x.L,y.Ok)(rd:Rd W x.a (zc6 S11.vs x.L))(old:∀b off,x.a=some ⟨b,off,none⟩→x.L≠[]→b<W.heap.size∧¬T b):x.Ok (qwz W T):=
 ⟨ok,fun _ hp=>qw0 rd (fun b off h1 h2=>old b off h1 (fun e=>h2 (by rw[e];rfl))) hp,old⟩
abbrev dcI(I:Eng.Item)(b2 b3 b7 b8 xb db fb:Nat)(x:C11)(M0:List Mp)(y:Cg):List Eng.Item:=[arM y.A,stF xb db fb M0,pt b2 (.cells #[.pointer (some ⟨xb,0,none⟩)] 24 (0,0)),pt b3 (.cells #[.slice x.a x.L.length x.cp,.bool x.fl] 70 (0,0)),pt b7 (.cells (zc6 dmE y.M).toArray 39 (0,0)),pt b8 (.cells #[.bool true] 4 (0,0)),I]
variable{c:Fc}{I:Eng.Item}
theorem zrn(hN:c.N=120){W1:Bys}{n0:Nat}[Stab I](x:C11)(hx:x.Ok I)(hn:n0+x.L.length≤240)(b2 b3 b7 b8 xb:Nat){y0:Cg}(h0:Stp c W1 y0.A n0 y0):
  Cw Tryz.prog 61 #[.pointer (some ⟨b2,0,none⟩),.pointer (some ⟨b3,0,none⟩),.pointer (some ⟨b7,0,none⟩),.pointer (some ⟨b8,0,none⟩)] (foI c (y0.r.map zbj) true 0 y0.s::dcI I b2 b3 b7 b8 xb c.d.b c.b x y0.M y0)
   (fun _:Cg=>.int .i64 (if x.fl then 5 else 0:Nat)) (fun y=>Stp c W1 y0.A (n0+x.L.length) y∧esM y.M=x.L.foldl qqh (esM y0.M)) (fun y=>foI c (y.r.map zbj) true 0 y.s::dcI I b2 b3 b7 b8 xb c.d.b c.b x y0.M y):=by
 have h8:=h0.rm.l8
 refine qnp [_,_,_,_] Tryz.func61 rfl fun w0=>?_
 simp only[zaa]
 refine goA ?_
 refine lCw (fun w1 hw1 hh ha=>qee hN (A0:=y0.A) (n0:=n0) x.L hx.ok hn x.a x.cp xb h0 w1 (hx.rd w1 (hw1.item I mm).1) (fun b off e hne=>qbm (it:=I) qt4 hw1 (hx.old b off e hne)) hh ha) fun y ⟨hy,hye⟩=>?_
 have hy8:=hy.rm.l8
 refine goA ?_
 refine lSa (cs':=(zc6 dmE y.M).toArray) (hT:=by rw[aI,zce hy8];rfl) (h1:=zc8 _) (h2:=by rw[aI,aI,zce hy8,zce h8]) ?_
 refine goB ?_
 obtain⟨xL,fl,xa,xc⟩:=x
 dsimp only at hy hye⊢
 cases fl with
 |true=>
  refine goB ?_
  exact xC y ⟨hy,hye⟩
 |false=>
  refine goB ?_
  exact xC y ⟨hy,hye⟩
structure qe9 (c:Fc) (r:List Rt) (s:Pg) (M A:List Mp) (n:Nat):Prop where
 rdy:Rdy c r r s
 N:c.N=120
 rm:Rm r M A
 tot:zq9 r≤n
theorem eeZ(z:Nat):eeF 0 z=z:=if_pos rfl
variable{r:List Rt}{s:Pg}{M:List Mp}
theorem zt2{A:List Mp}{n:Nat}(h:qe9 c r s M A n)(hB:c.B+700<9223372036854775808)[Stab I](x:C11)(hx:x.Ok I)(hn:n+x.L.length≤240){xb err:Nat}:
  Cw Tryz.prog 23 #[.pointer (some ⟨xb,0,none⟩),.agg x.vs.toArray] [foI c (r.map zbj) false err s,ctI,arM A,stF xb c.d.b c.b M,I]
   (fun y:Cg×Fc×Pg=>.tuple #[.int .i64 (if x.fl then 5 else 0:Nat),mfV y.1.M,.bool true])
   (fun y=>qe9 y.2.1 (if x.fl then r else y.1.r) y.2.2 (if x.fl then M else y.1.M) y.1.A (n+x.L.length)∧qsc c y.2.1∧Rm y.1.r y.1.M y.1.A∧esM y.1.M=x.L.foldl qqh (esM M))
   (fun y=>[foI y.2.1 ((if x.fl then r else y.1.r).map zbj) false 0 y.2.2,ctI,arM y.1.A,stF xb c.d.b c.b (if x.fl then M else y.1.M),I]):=by
 have h8:=h.rm.l8
 obtain⟨g,k1,k2,k3⟩:=h.rdy.now
 have h0:Stp c (zbu (r.map zbj)) A n ⟨0,r,s,M,A⟩:=⟨⟨g,k1,k2,k3⟩,h.rm,fun _ h=>h,h.tot⟩
 refine qnp [_,_] Tryz.func23 rfl fun w0=>?_
 simp only[zaa]
 refine goA ?_
 refine zc9 rfl rfl rfl fun b2 hb2=>?_
 refine zbp rfl rfl fun b3 hb3=>?_
 refine goA ?_
 refine zam rfl rfl fun b5 hb5=>?_
 refine goA ?_
 refine l_w rfl (zgp (xs:=zc6 dmE M) (c:=(zc6 dmE M).toArray) rfl (by rw[zce h8];rfl) (fun w' hw'=>by
  have:=zbf (hw'.get (b:=xb) (o:=.cells (.pointer (some ⟨c.d.b,0,none⟩):: .pointer (some ⟨c.b,0,none⟩)::zc6 dmE M).toArray 41 (0,0)) mm)
  exact fun j v hv=>by have:=this (2+j) v (by rw[fT];exact hv);rwa[aH]at this) rfl) ?_
 refine goA ?_
 refine zam rfl rfl fun b7 hb7=>?_
 refine zdg rfl rfl rfl fun b8 hb8=>?_
 refine lSa (cs':=(zc6 dmE M).toArray) (hT:=by rw[aI,zce h8];rfl) (h1:=zc8 _) (h2:=by rw[aI,zce h8];rfl) ?_
 refine goB ?_
 refine l_w rfl (zhw rfl) ?_
 refine goA ?_
 have hph:∀y:Cg,Stp c (zbu (r.map zbj)) A (n+x.L.length) y∧esM y.M=x.L.foldl qqh (esM M)→Rdy c r y.r y.s:=fun y ⟨hy,_⟩=>by
  obtain⟨g',e1,e2,e3⟩:=hy.now
  exact⟨h.rdy.st,g',e1,e2,e3⟩
 refine lC (zpn h.rdy hB (X:=Cg) (fd:=61) (cs:=[.pointer (some ⟨b2,0,none⟩),.pointer (some ⟨b3,0,none⟩),.pointer (some ⟨b7,0,none⟩),.pointer (some ⟨b8,0,none⟩)]) kQ (dcI I b2 b3 b7 b8 xb c.d.b c.b x M ⟨0,r,s,M,A⟩) (fun y=>dcI I b2 b3 b7 b8 xb c.d.b c.b x M y) (inferInstance:StabL (dcI I b2 b3 b7 b8 xb c.d.b c.b x M ⟨0,r,s,M,A⟩)).st (fun y=>(inferInstance:StabL (dcI I b2 b3 b7 b8 xb c.d.b c.b x M y)).st) (fun _=>if x.fl then 5 else 0) (fun _=>0) (fun y=>y.r) (fun y=>y.s) _ hph (fun w2 hh2 ha2=>zrn (y0:=⟨0,r,s,M,A⟩) h.N x hx hn b2 b3 b7 b8 xb h0 w2 hh2 ha2)) fun⟨y,c',s'⟩ ⟨⟨hy,hye⟩,hk,hr⟩=>?_
 simp only[eeZ]at hy hye hk hr⊢
 have hy8:=hy.rm.l8
 obtain⟨xL,fl,xa,xc⟩:=x
 unfold dcI
 dsimp only at hy hye hk hr⊢
 cases fl with
 |true=>
  simp only[if_true,show((5:Nat)=0)=False from dQ,if_false]at hy hk hr⊢
  refine goA ?_
  refine ziv [pt b7 _,pt b8 _,pt b3 _] 99 ?_
  refine goP ?_
  refine dVP rfl rfl (zcw (cs:=(zc6 dmE y.M).toArray) rfl (by rw[aI,zce hy8];rfl) mm) ?_
  refine goP ?_
  refine dSa 13 (cs':=(zc6 dmE y.M).toArray) (hT:=by rw[aI,zce hy8];rfl) (h1:=zc8 _) (h2:=by rw[aI,zce hy8];rfl) ?_
  refine goQ ?_
  exact xC3 (y,c',s') ⟨⟨hr,hk.N.trans h.N,⟨h.rm.l8,h.rm.rel,fun p hp=>hy.arc (h.rm.arc p hp)⟩,by have:=h.tot;show zq9 r≤_;omega⟩,hk,hy.rm,hye⟩ (hf:=rfl) (h2:=⟨_,rfl,zaq (by rw[aI,zce hy8];rfl) mm⟩)
 |false=>
  simp only[if_true,if_false,bT]at hy hk hr⊢
  refine goA ?_
  refine l_w rfl (zcw (cs:=(zc6 dmE y.M).toArray) rfl (by rw[aI,zce hy8];rfl) mm) ?_
  refine goA ?_
  refine lSR (off:=2) (cs:=.pointer (some ⟨c.d.b,0,none⟩):: .pointer (some ⟨c.b,0,none⟩)::zc6 dmE M) (V:=zc6 dmE y.M) (by rw[zce hy8,aW,aW,zce h8];omega) (zc8 _) (hT:=by rw[zce hy8];rfl) ?_
  rw[show∀a b:Value,put (a::b::zc6 dmE M) 2 (zc6 dmE y.M)=a::b::zc6 dmE y.M from fun a b=>by unfold put;rw[zce hy8,fI (by rw[aW,aW,zce h8];omega)];simp]
  refine goA ?_
  refine ziv [pt b7 _,pt b8 _,pt b3 _] 99 ?_
  refine goP ?_
  refine dVP rfl rfl (zcw (cs:=(zc6 dmE y.M).toArray) rfl (by rw[aI,zce hy8];rfl) mm) ?_
  refine goP ?_
  refine dSa 13 (cs':=(zc6 dmE y.M).toArray) (hT:=by rw[aI,zce hy8];rfl) (h1:=zc8 _) (h2:=by rw[aI,zce hy8];rfl) ?_
  refine goQ ?_
  exact xC3 (y,c',s') ⟨⟨hr,hk.N.trans h.N,hy.rm,hy.tot⟩,hk,hy.rm,hye⟩ (hf:=rfl) (h2:=⟨_,rfl,zaq (by rw[aI,zce hy8];rfl) mm⟩)
abbrev smF(b7 b6 b3 b5:Nat)(M A:List Mp)(t i:Nat):List Eng.Item:=[pt b7 (.cells #[.bool true] 4 (0,0)),pt b6 (.cells #[.int .i64 (i:Nat)] 3 (0,0)),pt b3 (.cells (zc6 dmE M).toArray 39 (0,0)),pt b5 (.cells #[.int .i64 (t:Nat)] 3 (0,0)),arM A]
variable{t:Nat}
theorem qdr{p:Mp}(hM:M[t]? =some p){j:Nat}{v:Value}(hv:(dmE p)[j]? =some v):(zc6 dmE M).toArray[t*2+j]? =some v:=by
 obtain⟨hi,rfl⟩:=aC.1 hM
 have hj:j<2:=(aC.1 hv).1
 have:=qck zoz hi hj
 simpa using this.trans hv
theorem zyd(b7 b6 b3 b5:Nat){A:List Mp}{o:Om}{e:E}(hM:M[t]? =some (o,e))(h8:M.length=8)(hA:(o,e)∈A)(hb:e.length≤1000000){i:Nat}{y:K×K}(hy:e[i]? =some y):
  Cw Tryz.prog 64 #[kV y.1,kV y.2,.pointer (some ⟨b7,0,none⟩),.pointer (some ⟨b6,0,none⟩),.pointer (some ⟨b3,0,none⟩),.pointer (some ⟨b5,0,none⟩)] (smF b7 b6 b3 b5 M A t i) (fun x:Bool×Nat=>.bool x.1) (fun x=>x=(true,i+1)) (fun x=>smF b7 b6 b3 b5 M A t x.2):=by
 obtain⟨hlt, -⟩:=aC.1 hy
 obtain⟨ht, -⟩:=aC.1 hM
 obtain⟨A1,A2,rfl⟩:=List.append_of_mem hA
 obtain⟨o1,o2⟩:=o
 refine qnp [.string (kB y.1),.string (kB y.2),_,_,_,_] Tryz.func64 rfl fun w0=>?_
 simp only[zaa]
 refine zg8 (fun _ h=>zza (p:=((o1,o2),e)) qt5 h) ?_
 refine zhm (fun w hw=>And.intro (zdj (hw.item (own 9 1 o1 e.length (e.map fun y=>kV y.1)) mm).1 oQ) (zdj (hw.item (own 9 1 o2 e.length (e.map fun y=>kV y.2)) mm).1 oQ)) fun⟨⟨kb,kc,e1⟩,⟨vb,vc,e2⟩⟩=>?_
 subst e1
 subst e2
 have c1:=qdr hM (j:=0) (v:=.slice (some ⟨kb,0,none⟩) e.length kc) rfl
 have c2:=qdr hM (j:=1) (v:=.slice (some ⟨vb,0,none⟩) e.length vc) rfl
 refine goA ?_
 refine ziv [pt b6 _,pt b3 _,pt b5 _,own 9 1 (some (kb,kc)) e.length (e.map fun y=>kV y.1),own 9 1 (some (vb,vc)) e.length (e.map fun y=>kV y.2)] 99 ?_
 refine dV 0 ?_
 refine goP ?_
 refine dVP rfl rfl (zc5 rfl rfl mm (by rw[aH];exact c1)) ?_
 refine goP ?_
 rw[decide_eq_true (show((i:Nat):Int)<((e.length:Nat):Int) by omega)]
 refine goP ?_
 refine dVP rfl rfl (zc5 rfl rfl mm (by rw[aH];exact c1)) ?_
 refine goP ?_
 refine dVP rfl rfl (zrc (v:=.string (kB y.1)) rfl rfl mm (by rw[aO,aH,hy];rfl)) ?_
 refine goP ?_
 rw[show seq (kB y.1) (kB y.1)=true by simp[seq]]
 refine goP ?_
 refine dVP rfl rfl (zc5 rfl rfl mm (by rw[aH];exact c2)) ?_
 refine goP ?_
 refine dVP rfl rfl (zrc (v:=.string (kB y.2)) rfl rfl mm (by rw[aO,aH,hy];rfl)) ?_
 refine goP ?_
 rw[show seq (kB y.2) (kB y.2)=true by simp[seq]]
 refine goP ?_
 refine dS1 32 ?_
 refine goQ ?_
 refine zbr (fun _ h=>zwt (A1:=A1) (A2:=A2) (p:=((some (kb,kc),some (vb,vc)),e)) qt4 h) ?_
 exact xC (true,i+1) rfl
variable{g:Sg}{x:Rt}
theorem qts{n:Nat}(h:FoV n g r)(hN:n≤1024){k m:Nat}(hk:zq9 r≤m)(hK:m≤5*2^k)(hn:(4*(m/5)+32)/3+k+4<n)(h16:k<16){i:Nat}(hx:r[i]? =some x)(f:K):qnd (fSh i) n g f (zbj x:Nat) (geE (zdb x) f):=by
 have hi:i<8:=by rw[←h.len];exact(aC.1 hx).1
 have q2:=(h.room hk hK hn h16 hx).2
 obtain⟨hr,hrep, -⟩:=h.ok i x hx
 have hlow:=h.low hx
 have hs:=znw hi
 match x,hr,hrep,hlow,q2 with
 |none,_,_,_,_=>exact .inl ⟨rfl,rfl⟩
 |some ⟨hh,t⟩,hr,hrep,hlow,q2=>
  have hr:TOk (fSh i) t:=hr
  have hlow:∀x∈pgs t,1≤x∧x<n:=hlow
  refine .inr ⟨pg t,rfl,?_,?_⟩
  ·have:=(hlow (pg t) (zcj t)).1
   omega
  ·show qp4 (fSh i) n g f 16 (pg t) (geE (ents t) f)
   rw[←qfa t f hr.ord]
   exact ql5 hs.kw hN t hr.ord hr.wd hr.below hr.le hr.two (fun h'=>by show 2≤(fSh i).fan/2;have:=hs.h4;omega) hrep hlow 16 q2
theorem qv4(e:E):geE e []=e:=by
 unfold geE
 exact cY.2 fun q _=>by
  have:¬kl q.1 []:=fun h=>by obtain⟨a,b⟩:=q;cases a<;>cases h
  simpa using this
theorem qwg(hN:c.N=120)(hv:FoV c.N g r)(ht:zq9 r≤250)(hx:r[t]? =some x):qnd (fSh t) c.N g [] (zbj x:Nat) (zdb x):=by
 have hf:=qnq hN
 have:=qts hv hf.le ht hf.lo hf.rm hf.dp hx []
 rwa[qv4]at this
theorem qbr(hN:c.N=120)(hk:Fok c g s)(hv:FoV c.N g r){A:List Mp}(hm:Rm r M A)(ht:zq9 r≤250){M0:List Mp}{xb err:Nat}:
  Cw Tryz.prog 26 #[.pointer (some ⟨xb,0,none⟩),mfV M] [foI c (r.map zbj) false err s,arM A,stF xb c.d.b c.b M0] (fun _:Pg=>.bool true) (fun s'=>Fok c g s') (fun s'=>[foI c (r.map zbj) false err s',arM A,stF xb c.d.b c.b M0]):=by
 have h8:=hm.l8
 refine qnp [_,_] Tryz.func26 rfl fun w0=>?_
 simp only[zaa]
 refine goA ?_
 refine zbp rfl rfl fun b3 hb3=>?_
 refine goA ?_
 refine zdg rfl rfl rfl fun b5 hb5=>?_
 refine lS (v:=.int .i64 ((0:Nat):Int)) ?_
 refine goA ?_
 refine que (fun y:Nat×Nat×Pg=>[(0,.pointer (some ⟨xb,0,none⟩)),(3,.pointer (some ⟨b3,0,none⟩)),(5,.pointer (some ⟨y.2.1,0,none⟩))]) (fun y=>y.1≤8∧Fok c g y.2.2) (fun y=>[foI c (r.map zbj) false err y.2.2,arM A,stF xb c.d.b c.b M0,pt b3 (.cells (zc6 dmE M).toArray 39 (0,0)),pt y.2.1 (.cells #[.int .i64 (y.1:Nat)] 3 (0,0))]) (fun y=>8 - y.1) (0,b5,s) ⟨aZ _,hk⟩ fun⟨t,q5,s1⟩ ⟨h1,h2⟩=>?_
 dsimp only at h1 h2⊢
 by_cases h9:t<8
 ·obtain⟨x,hx⟩:∃x,r[t]? =some x:=⟨_,aB (by rw[hv.len];exact h9)⟩
  obtain⟨o,ho⟩:=hm.rel t x hx
  have hxl:=qmt hx
  have har:(r.map zbj)[t]? =some (zbj x):=by rw[aO,hx];rfl
  refine goA ?_
  refine zdg rfl rfl rfl fun b6 hb6=>?_
  refine lS (v:=.int .i64 ((0:Nat):Int)) ?_
  refine goA ?_
  refine zdg rfl rfl rfl fun b7 hb7=>?_
  refine goB ?_
  refine ziv [stF xb _ _ M0] 99 ?_
  refine goP ?_
  refine qtg rfl rfl rfl rfl kQ (fun _ h=>Fnds.hp qt4 h) (zhw rfl) ?_
  refine dV 4 ?_
  refine dC 6 (zzr h2 h9 har (qwg hN hv ht hx) (σ:=Nat) (fun i=>smF b7 b6 b3 q5 M A t i) (fun k i=>i=k.length) (fun _=>False) 0 (fd:=64) (cs:=[.pointer (some ⟨b7,0,none⟩),.pointer (some ⟨b6,0,none⟩),.pointer (some ⟨b3,0,none⟩),.pointer (some ⟨q5,0,none⟩)]) kQ (fun i=>(inferInstance:StabL (smF b7 b6 b3 q5 M A t i)).st) rfl (fun k y st hp hI w2 hh2 ha2=>?_)) fun⟨s2,i2⟩ ⟨hs2,hi2⟩=>?_
  ·subst hI
   obtain⟨t2,ht2⟩:=hp
   exact(zyd b7 b6 b3 q5 ho hm.l8 (hm.arc _ (bI ho)) oQ (i:=k.length) (y:=y) (by rw[←ht2];simp) w2 hh2 ha2).map fun z hz=>⟨z,rfl,.inl ⟨by rw[hz],by rw[hz];simp⟩,rfl⟩
  ·obtain rfl:i2=(zdb x).length:=hi2.resolve_right fun h=>h
   refine goQ ?_
   refine zhm (fun w hw=>(zas ((hw.item (arM A) mm).1.1 (own 9 1 o.1 (zdb x).length ((zdb x).map fun y=>kV y.1)) (bS.2 ⟨_,hm.arc _ (bI ho),.head _⟩)).1).1) fun f1=>?_
   have c1:=qdr ho (j:=0) (v:=.slice (slA o.1) (zdb x).length (slC o.1)) (by rw[←f1];rfl)
   refine ziv [pt b7 _,pt b6 _,pt b3 _,pt q5 _] 99 ?_
   refine goP ?_
   refine dVP rfl rfl (zc5 rfl rfl mm (by rw[aH];exact c1)) ?_
   refine goP ?_
   rw[bne_self_eq_false]
   refine goQ ?_
   refine zdg rfl rfl rfl fun q6 hq6=>?_
   refine goB ?_
   exact xR (t+1,q6,s2) ⟨h9,hs2⟩ (by dsimp only;omega)
 ·obtain rfl:t=8:=oQ
  refine goA ?_
  exact xC s1 h2
end Go.Proofs.YthafakdplhdfjaaGreatDoor
