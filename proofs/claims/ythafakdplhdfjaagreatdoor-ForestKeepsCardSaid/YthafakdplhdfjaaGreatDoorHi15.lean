/- Parts: law 10; A region that draws; law 11; forest; law 8. No condition. -/
import Derived.Test.YthafakdplhdfjaaGreatDoorHi14
import Derived.Test.YthafakdplhdfjaaGreatDoorHi02
import Derived.Test.YthafakdplhdfjaaGreatDoorHi05
import Derived.Test.YthafakdplhdfjaaGreatDoorHi06
import Derived.Test.YthafakdplhdfjaaGreatDoorHi13
set_option maxRecDepth 100000
set_option maxHeartbeats 40000000
namespace Go.Eng
open Go.RowKit
section
variable{P:Program}{Q:Exit→Act→World→Prop}{S:World→Prop}{N:Fm}{l:zav}{ops:Array Oper}{w0:World}{F:Nat→Prop}{m:List Item}{t:Nat}{ty:TypeId}{pos:String}{after:Array Edge}
theorem qvl{T T' e:TypeId}{d y:Nat}{a:Option Addr}{k c b:Nat}{news:List Value}{g:Option (Nat×Bool)}(hy:get l y=some (.slice a k c))(hd:Nat.ble (d+1) N.n=true)(hT:zmi P T=some e)(hi:qgk P e=some (1,b,1))(hl:news.length=k)(h0:a=none→k=0)(h1:zb7 news=true)(hn:(0+k)*(b+1)≤140737488355328)
  (hnews:∀w,Hp w0 F (own e 1 none 0 []::m) w→Rd w a news):
  HO P ⟨some d,.call ⟨.builtin .append, #[.const (.slice none 0 0),.tmp y], #[T,T]⟩,T',pos,after,g⟩ Q N l (Hp w0 F (own e 1 none 0 []::m)) (α:=Option (Nat×Nat)) (fun o'=>(d,slV o' (0+k))::l) (fun o'=>Hp w0 F (own e 1 o' (0+k) ([]++news)::m)):=
 zxz (o:=none) (by simpa[zee,zez,zec,Op.operands,Call.operands,zex,hy]using hd) rfl (c:=c) (by simp[evO,hy]) hT hi hl h0 h1 hn hnews
def qvp(ops:Array Oper)(L:Array Bool)(t i1 i2:Nat):Bool:=
 let s:=fun(l:Array Bool) k=>l.setIfInBounds k true
 let r:=fun l=>Region.ready .any ops l
 (Nat.blt i1 t&&(Nat.blt i2 t&& !Nat.beq i1 i2))&&(r L==[i1,i2]&&(r (s L i1)==[i2]&&r (s L i2)==[i1]))
theorem quh(i1 i2:Nat){o1 o2:Oper}{n:Nat}{listed:Array Bool}{α1 α2:Type}{A:Item}{rest:List Item}{A':α1→Item}{X2:α2→Item}{d1 d2:Nat}{u1:α1→Value}{u2:α2→Value}
  (hq:qvp ops listed t i1 i2=true) (n1:nth ops.toList i1=some o1) (n2:nth ops.toList i2=some o2) (g1:o1.guard=none) (g2:o2.guard=none) (e1:get l d1=none) (e2:get l d2=none) (hne:Nat.beq d1 d2=false) (hS:∀w,Hp w0 F rest w→S w)
  (s1:∀l' X,(∀t u,get l t=some u→get l' t=some u)→HO P o1 (zom Q) N l' (Hp w0 F (A::(X++rest))) (fun a=>(d1,u1 a)::l') (fun a=>Hp w0 F (A' a::(X++rest))))
  (s2:∀l' m',(∀t u,get l t=some u→get l' t=some u)→HO P o2 (zom Q) N l' (Hp w0 F m') (fun b=>(d2,u2 b)::l') (fun b=>Hp w0 F (X2 b::m')))
  (k:∀a b,HD P ops Q S t N n ((listed.setIfInBounds i1 true).setIfInBounds i2 true) ((d2,u2 b)::(d1,u1 a)::l) (Hp w0 F (A' a::X2 b::rest))):HD P ops Q S t N (n+2) listed l (Hp w0 F (A::rest)):=by
 simp only[qvp,bJ,beq_iff_eq,fD]at hq
 obtain⟨⟨b1,b2,b3⟩,q1,q2,q3⟩:=hq
 have b1:=bS b1
 have b2:=bS b2
 have nb:∀{a b:Nat},Nat.beq a b=false→a≠b:=fun h e=>by rw[e,lA]at h;cases h
 have ext:∀{d:Nat} (v:Value),get l d=none→∀t u,get l t=some u→get ((d,v)::l) t=some u:=fun v hd t u h=>by
  rw[zb4,if_neg (fun e=>by rw[e,h]at hd;cases hd)]
  exact h
 have sub:∀{M:List Item},rest.Sublist M→∀w,Hp w0 F M w→S w:=fun hs w hw=>hS w (hw.sub hs)
 refine zt7 i1 i2 ⟨q1,b1,b2⟩ n1 n2 g1 g2 (s1 l [] fun _ _ h=>h) (s2 l _ fun _ _ h=>h) (fun a=>sub (.cons _ (.refl _))) (fun b=>sub (.cons _ (.cons _ (.refl _)))) (fun a=>?_) (fun b=>?_)
 ·refine zat i2 ⟨q2,b2⟩ n2 (by rw[g2];rfl) (s2 _ _ (ext _ e1)) (fun b=>sub (.cons _ (.cons _ (.refl _)))) fun b=>?_
  exact zi0 (.swap _ _ _) (k a b)
 ·refine zi0 (m':=A::([X2 b]++rest)) (.swap _ _ _) ?_
  refine zat i1 ⟨q3,b1⟩ n1 (by rw[g1];rfl) (s1 _ [X2 b] (ext _ e2)) (fun a=>sub (.cons _ (.cons _ (.refl _)))) fun a=>?_
  rw[dX _ _ (Ne.symm (nb b3))]
  have:=k a b
  unfold HD at this⊢
  refine fun inv a' w s hw=>this inv a' w ⟨s.size,s.defers,fun t v h=>s.slot t v ?_⟩ hw
  rw[zb4]at h⊢
  by_cases e:d2=t
  ·rw[if_pos e]at h
   rw[if_neg (fun e'=>nb hne (e'.trans e.symm)),zb4,if_pos e]
   exact h
  ·rw[if_neg e,zb4]at h
   by_cases e':d1=t
   ·rw[if_pos e']at h⊢
    exact h
   ·rw[if_neg e']at h⊢
    rw[zb4,if_neg e]
    exact h
end
end Go.Eng
namespace Go.Proofs.YthafakdplhdfjaaGreatDoor
open Go.RowKit Go.Eng Go.Eng.Bm Go.Eng.Tr
theorem zzx{w w0:World}{F:Nat→Prop}{m:List Eng.Item}{o:Om}{e:E}(hw:Hp w0 F m w)(h1:own 9 1 o.1 e.length (e.map fun y=>kV y.1)∈m)(h2:own 9 1 o.2 e.length (e.map fun y=>kV y.2)∈m):DmR w o e:=by
 intro it hm
 rcases hm with _|⟨_,_|⟨_,hm⟩⟩
 ·exact zbq.of (hw.item _ h1) (zac _ _ _ _ _ _)
 ·exact zbq.of (hw.item _ h2) (zac _ _ _ _ _ _)
 ·cases hm
theorem zle{e:TypeId}{o:Option (Nat×Nat)}{n:Nat}{xs:List Value}{w:World}(h:(own e 1 o n xs).prop w)(ha:slA o=none):n=0:=by
 cases o with
 |none=>exact h.2
 |some p=>cases ha
theorem zmu{a:Option Addr}{r:Bool}{k:Nat}(h:zwe a r k=none):a=none:=by
 unfold zwe at h
 split at h
 ·exact h
 ·cases a with
  |none=>rfl
  |some _=>cases h
theorem quk(l:E)(f:K×K→K):zb7 (l.map fun y=>kV (f y))=true:=zba.2 fun v hv=>by obtain⟨y, -,rfl⟩:=aT.1 hv;rfl
variable{l:List Value}
theorem qvw(h:zb7 l=true)(i:Nat):zb7 (l.take i)=true:=zba.2 fun v hv=>zba.1 h v (bY hv)
theorem qvv(h:zb7 l=true)(i:Nat):zb7 (l.drop i)=true:=zba.2 fun v hv=>zba.1 h v (cF hv)
theorem qqm(a b:Option (Nat×Nat))(n:Nat):zb7 [slV a n,slV b n]=true:=zba.2 fun v hv=>by
 rcases hv with _|⟨_,_|⟨_,hv⟩⟩
 ·exact zc3 _ _
 ·exact zc3 _ _
 ·cases hv
variable{e:E}{i:Nat}
theorem qwb(h:i<e.length):0+i+(e.length - (i+1))=(e.eraseIdx i).length:=by rw[List.length_eraseIdx,if_pos h];omega
theorem qwc(f:K×K→K)(h:i<e.length)(o:Option (Nat×Nat)):own 9 1 o (0+i+(e.length - (i+1))) ([]++(e.map fun y=>kV (f y)).take i++(e.map fun y=>kV (f y)).drop (i+1))=own 9 1 o (e.eraseIdx i).length ((e.eraseIdx i).map fun y=>kV (f y)):=by
 rw[qwb h,aH,gV,cD,eO,eM]
theorem qwd(y:K×K)(h:i≤e.length):0+i+1+(e.length - i)=(ins e i y).length:=by rw[ins,aA,aR,aM,aZ];omega
theorem qwe(f:K×K→K)(y:K×K)(h:i≤e.length)(o:Option (Nat×Nat)):own 9 1 o (0+i+1+(e.length - i)) ([]++(e.map fun y=>kV (f y)).take i++[kV (f y)]++(e.map fun y=>kV (f y)).drop i)=own 9 1 o (ins e i y).length ((ins e i y).map fun y=>kV (f y)):=by
 rw[qwd y h,aH,ins,cD,bG,eO,eM,aG]
 rfl
end Go.Proofs.YthafakdplhdfjaaGreatDoor
namespace Go.Eng
open Go.RowKit
theorem qu4{P:Program}{l:zav}{H:World→Prop}{x y:Operand}{T U ty:TypeId}{a b:Nat}(hx:evO l x=some (.int .u8 (a:Int)))(hy:evO l y=some (.int .u8 (b:Int))):OV P (.binOp .add T x y U) ty l H (.int .u8 (((a+b)%256:Nat):Int)):=
 zwf (zf5 hx hy fun _=>rfl) (by rw[←lF,zlo])
end Go.Eng
namespace Go.Proofs.YthafakdplhdfjaaGreatDoor
open Go.RowKit Go.Eng Go.Eng.Bm Go.Eng.Tr
def bsN(f:Nat→Nat)(w:Nat):List Value:=(List.range w).map fun j=>.int .u8 ((f j:Nat):Int)
theorem zzk(f:Nat→Nat)(w i v:Nat):(bsN f w).set i (.int .u8 (v:Int))=bsN (fun j=>if j=i then v else f j) w:=by
 refine kU (by simp[bsN]) fun j h1 h2=>?_
 rw[gW]
 simp only[bsN,cS,List.getElem_range]
 by_cases e:i=j
 ·rw[if_pos e,if_pos e.symm]
 ·rw[if_neg e,if_neg (Ne.symm e)]
theorem zzj(f:Nat→Nat)(w:Nat):(bsN f w).length=w:=by simp[bsN]
def txN(n j:Nat):Nat:=(n%256+7*j%256)%256
def txF(n:Nat):Nat→Nat:=fun j=>if j=1 then n%256 else if j=0 then n/256%256 else txN n j
def zpf(n w:Nat):K:=(List.range w).map fun j=>UInt8.ofNat (txF n j)
theorem zgk(n w:Nat):(zpf n w).length=w:=by simp[zpf]
theorem zwv(n w:Nat):bsN (txF n) w=zae (zpf n w):=by
 unfold bsN zpf zae
 rw[dJ]
 refine cT fun j _=>?_
 have:txF n j<256:=by unfold txF txN;split;omega;split<;>omega
 show Value.int .u8 _= .int .u8 _
 congr 1
 rw[UInt8.toNat_ofNat',bC oQ]
end Go.Proofs.YthafakdplhdfjaaGreatDoor
namespace Go.Eng
open Go.RowKit
variable{P:Program}{Q:Exit→Act→World→Prop}{N:Fm}{l:zav}{ops:Array Oper}{rest:List Oper}{w0:World}{F:Nat→Prop}{m m' r:List Item}{ty:TypeId}{pos:String}{after:Array Edge}{g:Option (Nat×Bool)}{d:Nat}
variable{listed:Array Bool}{s:List Item}{z:Value}{cs:Array Value}
theorem dAl(j:Nat){n t:Nat}{T:TypeId}(k:∀b,w0.heap.size≤b→HD P ops Q (Hp w0 F s) t N n (listed.setIfInBounds j true) ((d,.pointer (some ⟨b,0,none⟩))::l) (Hp w0 F (pt b (.cells cs T (0,0))::m)))
  (hj0:nth ops.toList j=some ⟨some d,.alloc T,ty,pos,after,g⟩:=by rfl) (hz:(P.info? T).bind (·.zero)=some z:=by rfl) (hcs:z.cells=cs:=by rfl) (hs:Fnds s m m':=by exact qt4) (hr0:Region.ready .any ops listed=[j]:=by kernel_rfl) (hr1:j<t:=by decide) (hg:okG ops l g=true:=by rfl) (hok:zee N l (.alloc T) d=true:=by rfl):
  HD P ops Q (Hp w0 F s) t N (n+1) listed l (Hp w0 F m):=by
 subst hcs
 exact zat j ⟨hr0,hr1⟩ hj0 hg (zlg hok hz) (fun _ _ h=>hs.hp (h.sub (.cons _ (.refl _)))) fun b=>k b.1 b.2
variable{f:FuncId}{xs:List Operand}{tys:Array TypeId}{us:Array Value}{α:Type}{φ:α→Prop}{its:α→List Item}
theorem qwa(i j:Nat){n t d2:Nat}{vs:List Value}{pre r':List Item}{val:α→Value}{T ty2:TypeId}{pos2:String}{after2:Array Edge}
  (hc:Cw P f us pre val φ its) (k1:∀x,φ x→HD P ops Q (Hp w0 F s) t N n (listed.setIfInBounds i true) ((d,val x)::l) (Hp w0 F (apI (its x) r)))
  (k2:∀b,w0.heap.size≤b→HD P ops Q (Hp w0 F s) t N n (listed.setIfInBounds j true) ((d2,.pointer (some ⟨b,0,none⟩))::l) (Hp w0 F (pt b (.cells cs T (0,0))::m)))
  (hi0:nth ops.toList i=some ⟨some d,.call ⟨.value (.func f),xs.toArray,tys⟩,ty,pos,after,none⟩:=by rfl) (hj0:nth ops.toList j=some ⟨some d2,.alloc T,ty2,pos2,after2,none⟩:=by rfl) (hz:(P.info? T).bind (·.zero)=some z:=by rfl) (hcs:z.cells=cs:=by rfl)
  (hx:evs l xs=some vs:=by rfl) (hu:vs.toArray=us:=by rfl) (hf:Fnds pre m r:=by exact qt4) (hs:Fnds s r r':=by exact qt4) (hr0:Region.ready .any ops listed=[i,j]:=by kernel_rfl) (hij:i<t∧j<t:=by decide) [hst:StabL pre]
  (hok:zee N l (.call ⟨.value (.func f),xs.toArray,tys⟩) d=true:=by rfl) (hok3:zee N l (.alloc T) d2=true:=by rfl) (hb:za7 P f=true:=by kernel_rfl):HD P ops Q (Hp w0 F s) t N (n+1) listed l (Hp w0 F m):=by
 subst hcs
 have hp:=hf.perm
 rw[←zf9]at hp
 have hS:∀{M:List Item} w,Hp w0 F (M++r) w→Hp w0 F s w:=fun w h=>hs.hp (h.sub (dE _ _))
 refine zi0 hp (zt7 i j ⟨hr0,hij⟩ hi0 hj0 rfl rfl (zfb hok hb hx hst.st fun w _ hh ha=>by rw[hu];exact hc w hh ha) (zlg hok3 hz) (fun _ _ h=>hS _ h) (fun b w h=>hS (M:=pt b.1 (.cells z.cells T (0,0))::pre) w h) (fun x=>?_) (fun b=>?_))
 ·rw[zf9];exact k1 x.1 x.2
 ·exact zi0 (.cons _ hp.symm) (k2 b.1 b.2)
theorem dC0(i:Nat){n t:Nat}{vs:List Value}{val:α→Value}(hc:∀w,Hp w0 F m w→Ct P f us w none' val φ its)(k:∀x,φ x→HD P ops Q (Hp w0 F s) t N n (listed.setIfInBounds i true) ((d,val x)::l) (Hp w0 F (apI (its x) m)))
  (hi0:nth ops.toList i=some ⟨some d,.call ⟨.value (.func f),xs.toArray,tys⟩,ty,pos,after,g⟩:=by rfl) (hx:evs l xs=some vs:=by rfl) (hu:vs.toArray=us:=by rfl) (hs:Fnds s m m':=by exact qt4) (hr0:Region.ready .any ops listed=[i]:=by kernel_rfl) (hr1:i<t:=by decide)
  (hg:okG ops l g=true:=by rfl) (hok:zee N l (.call ⟨.value (.func f),xs.toArray,tys⟩) d=true:=by rfl) (hb:za7 P f=true:=by kernel_rfl):HD P ops Q (Hp w0 F s) t N (n+1) listed l (Hp w0 F m):=
 zat i ⟨hr0,hr1⟩ hi0 hg (qhd hok hb hx fun w hw=>by rw[hu];exact hc w hw) (fun _ _ h=>hs.hp (h.sub (dE _ _))) fun x=>by rw[zf9];exact k x.1 x.2
instance(q:IntKind)(b:Nat)(A:zcs):Stab (zck q b A):=⟨zax _ _ _ _⟩
end Go.Eng
namespace Go.Proofs.YthafakdplhdfjaaGreatDoor
open Go.RowKit Go.Eng Go.Eng.Bm Go.Eng.Tr
instance{L M:List Eng.Item}[h:StabL L][k:StabL M]:StabL (L++M):=⟨fun it hm=>(aS.1 hm).elim (h.st it) (k.st it)⟩
instance(o:Om)(e:E):StabL (dmI o e):=⟨zse o e⟩
theorem qup{o p:Om}{e:E}{key:K}(hp:zi6 e key=none→p=o){w0 w:World}{F:Nat→Prop}{m r:List Eng.Item}(hs:Fnds [own 9 1 p.1 (zfy e key).length ((zfy e key).map fun y=>kV y.1),own 9 1 p.2 (zfy e key).length ((zfy e key).map fun y=>kV y.2),zef (if (zi6 e key).isSome then dmI o e else[])] m r)(he:zi6 e key=none→zfy e key=e)(h:Hp w0 F m w):
  Hp w0 F (apI [own 9 1 o.1 e.length (e.map fun y=>kV y.1),own 9 1 o.2 e.length (e.map fun y=>kV y.2)] r) w:=by
 have h1:=h.perm hs.perm
 cases hg:zi6 e key with
 |none=>
  rw[he hg,hp hg]at h1
  exact h1.sub (.cons_cons _ (.cons_cons _ (.cons _ (.refl _))))
 |some v=>
  rw[hg]at h1
  have h2:=Hp.open1 (h1.perm ((List.Perm.cons _ (.swap _ _ _)).trans (.swap _ _ _)))
  exact h2.sub (.cons_cons _ (.cons_cons _ (.cons _ (.cons _ (.refl _)))))
theorem zsd(o:Om)(e:E)(he:Es e)(key:K)(hb:e.length≤1000000):
  Cw Tryz.prog 144 #[dmV o e,kV key] (dmI o e) (fun o':Om=>.tuple #[dmV o' (zfy e key),.bool (zi6 e key).isSome]) (fun o'=>zi6 e key=none→o'=o) (fun o'=>dmI o' (zfy e key)++[zef (if (zi6 e key).isSome then dmI o e else[])]):=by
 intro w hw ha
 obtain⟨r1,r2⟩:=zyf (k:=key) he
 have hl:lb (keys e) key≤e.length:=by have:=qkn (keys e) key;rwa[keys,aE]at this
 have hR:DmR w o e:=hw
 have k1:=zas hR.k
 have k2:=zas hR.v
 obtain⟨o1,o2⟩:=o
 have k1b:e.length≤slC o1:=k1.2
 have k2b:e.length≤slC o2:=k2.2
 refine za2 [_,_] _ Tryz.func144 rfl rfl hw ha ?_
 unfold dmV dmC dmI
 rw[k1.1,k2.1]
 simp only[zaa,Nat.reduceAdd]
 refine goA ?_
 refine zbp rfl rfl fun b2 hb2=>?_
 refine zam rfl rfl fun b4 hb4=>?_
 refine goA ?_
 refine zeh rfl (zfc rfl kQ rfl (fun w1 hw1=>by
  have:=qh6 (o1,o2) e he key hb w1 (zzx hw1 mm mm)
  unfold dmV dmC at this
  rwa[k1.1,k2.1]at this)) fun _=>?_
 refine goA ?_
 cases hf:fd (keys e) key with
 |false=>
  obtain⟨g1, -,g3⟩:=r2 hf
  rw[g1,g3]
  simp only[iX,bV,if_false,aD,aH]
  refine goA ?_
  refine za1 rfl (zaf (cs':= #[.slice (slA o1) e.length (slC o1),.slice (slA o2) e.length (slC o2)]) rfl rfl rfl rfl rfl rfl) fun _=>?_
  refine goA ?_
  refine qi6 [] ?_
  exact xC2 (o1,o2) (fun _=>rfl) (e:=by rw[k1.1,k2.1])
 |true=>
  obtain⟨v,h1,g1, -,g3⟩:=r1 hf
  have hlt:=(aF.1 h1).1
  rw[g1,g3]
  simp only[fX,if_true,aD,aH]
  refine goA ?_
  refine zeh rfl (zfc rfl kQ rfl (fun w1 hw1=>by
   have:=zlb (o1,o2) e key hb w1 (zzx hw1 mm mm)
   unfold dmV dmC at this
   rwa[k1.1,k2.1]at this)) fun _=>?_
  refine goA ?_
  refine zam rfl rfl fun b9 hb9=>?_
  refine goA ?_
  refine qms 9 1 ?_
  refine zap [1,2,3,4,5] 12 rfl rfl kQ ?_
  refine goE ?_
  refine zat 4 ⟨kQ,dQ⟩ rfl rfl (zxz (o:=none) (n:=0) (xs:=[]) (news:=(e.map fun y=>kV y.1).take (lb (keys e) key)) rfl rfl rfl rfl rfl (by rw[aM,aE];omega) (fun h=>by have:=zle hR.k h;omega) (qvw (quk e (fun y=>y.1)) _) oQ (fun w' hw'=>(za8 (hw'.item (own 9 1 o1 e.length (e.map fun y=>kV y.1)) mm).1).take _)) (fun _ _ h=>goH h) fun o3=>?_
  refine goE ?_
  refine zat 10 ⟨kQ,dQ⟩ rfl rfl (zxz (news:=(e.map fun y=>kV y.1).drop (lb (keys e) key+1)) rfl rfl rfl rfl rfl (by rw[aZ,aE]) (fun h=>by have:=zle hR.k (zmu h);omega) (qvv (quk e (fun y=>y.1)) _) oQ (fun w' hw'=>zox (hw'.item (own 9 1 o1 e.length (e.map fun y=>kV y.1)) mm).1 _)) (fun _ _ h=>goH h) fun o4=>?_
  rw[qwc (fun y=>y.1) hlt]
  refine goE ?_
  refine zet ⟨kQ,kQ⟩ rfl rfl (zah (zcg _ _ _) (zai rfl rfl rfl rfl (zct _ _) (zc3 _ _) sQ)) fun _=>?_
  refine goA ?_
  refine qms 9 1 ?_
  refine zap [1,2,3,4,5,6] 12 rfl rfl kQ ?_
  refine goE ?_
  refine zat 4 ⟨kQ,dQ⟩ rfl rfl (zxz (o:=none) (n:=0) (xs:=[]) (news:=(e.map fun y=>kV y.2).take (lb (keys e) key)) rfl rfl rfl rfl rfl (by rw[aM,aE];omega) (fun h=>by have:=zle hR.v h;omega) (qvw (quk e (fun y=>y.2)) _) oQ (fun w' hw'=>(za8 (hw'.item (own 9 1 o2 e.length (e.map fun y=>kV y.2)) mm).1).take _)) (fun _ _ h=>goH h) fun o5=>?_
  refine goE ?_
  refine zat 10 ⟨kQ,dQ⟩ rfl rfl (zxz (news:=(e.map fun y=>kV y.2).drop (lb (keys e) key+1)) rfl rfl rfl rfl rfl (by rw[aZ,aE]) (fun h=>by have:=zle hR.v (zmu h);omega) (qvv (quk e (fun y=>y.2)) _) oQ (fun w' hw'=>zox (hw'.item (own 9 1 o2 e.length (e.map fun y=>kV y.2)) mm).1 _)) (fun _ _ h=>goH h) fun o6=>?_
  rw[qwc (fun y=>y.2) hlt]
  refine goE ?_
  refine zet ⟨kQ,kQ⟩ rfl rfl (zah (zcg _ _ _) (zai rfl rfl rfl rfl (zct _ _) (zc3 _ _) sQ)) fun _=>?_
  refine goA ?_
  rw[qwb hlt]
  refine zd2 46 _ (.agg #[slV o4 (e.eraseIdx (lb (keys e) key)).length,slV o6 (e.eraseIdx (lb (keys e) key)).length]) rfl rfl ?_
  refine za1 rfl (zah (zfq _ _ _ _ _) (zaf (cs':= #[slV o4 (e.eraseIdx (lb (keys e) key)).length,slV o6 (e.eraseIdx (lb (keys e) key)).length]) rfl rfl rfl rfl (qqm _ _ _) rfl)) fun _=>?_
  refine goA ?_
  refine qi6 [own 9 1 o1 e.length (e.map fun y=>kV y.1),own 9 1 o2 e.length (e.map fun y=>kV y.2)] ?_
  exact xC2 (o4,o6) (fun h=>nomatch h)
theorem qj7(o:Om)(e:E)(he:Es e)(key val:K)(hb:e.length≤1000000):
  Cw Tryz.prog 145 #[dmV o e,kV key,kV val] (dmI o e) (fun o':Om=>dmV o' (zfx e key val)) (fun _=>True) (fun o'=>dmI o e++dmI o' (zfx e key val)):=by
 intro w hw ha
 have hR:DmR w o e:=hw
 have k1:=zas hR.k
 have k2:=zas hR.v
 have hlen:(zfy e key).length≤e.length:=gK _ _
 have hl:lb (keys (zfy e key)) key≤(zfy e key).length:=by have:=qkn (keys (zfy e key)) key;rwa[keys,aE]at this
 rw[qla he]
 obtain⟨o1,o2⟩:=o
 have hdel:=zsd (o1,o2) e he key hb
 unfold dmV dmC at hdel
 rw[k1.1,k2.1]at hdel
 refine za2 [_,_,_] _ Tryz.func145 rfl rfl hw ha ?_
 unfold dmV dmC
 rw[k1.1,k2.1]
 simp only[zaa,Nat.reduceAdd]
 refine goA ?_
 refine zbp rfl rfl fun b3 hb3=>?_
 refine zam rfl rfl fun b6 hb6=>?_
 refine goA ?_
 refine zgb (cW (l₁:=[_,_]) (l₂:=dmI (o1,o2) e)) ?_
 refine lCu (dmI (o1,o2) e) rfl (zse _ _) (fun w1 hw1 hh1 ha1=>hdel w1 hh1 ha1) fun⟨⟨p1,p2⟩,hp12⟩=>?_
 simp only at hp12⊢
 have hnone:zi6 e key=none→zfy e key=e:=fun h=>by
  obtain⟨r1,r2⟩:=zyf (k:=key) he
  cases hf:fd (keys e) key with
  |false=>exact(r2 hf).2.2
  |true=>obtain⟨v, -,g1, -⟩:=r1 hf;rw[h]at g1;cases g1
 obtain⟨X,hX⟩:∃X,zef (if (zi6 e key).isSome then dmI (o1,o2) e else[])=X:=⟨_,rfl⟩
 have hsX:X.Stable none':=hX▸zad _
 unfold dmI at hX⊢
 rw[hX]
 simp only[aD,aH]
 refine zay [0,1,3,4,2] rfl rfl ?_
 refine goA ?_
 refine za1 rfl (zah (zfq _ _ _ _ _) (zaf (cs':= #[slV p1 (zfy e key).length,slV p2 (zfy e key).length]) rfl rfl rfl rfl (qqm _ _ _) rfl)) fun _=>?_
 refine goA ?_
 refine lPu rfl (fun w1 hw1=>zlb (p1,p2) (zfy e key) key oQ w1 (zzx hw1 mm mm)) ?_
 refine goA ?_
 refine zam rfl rfl fun b8 hb8=>?_
 refine goA ?_
 refine zhm (fun w hw=>And.intro (And.intro (zas (hw.item (own 9 1 p1 (zfy e key).length ((zfy e key).map fun y=>kV y.1)) mm).1) (zle (hw.item (own 9 1 p1 (zfy e key).length ((zfy e key).map fun y=>kV y.1)) mm).1)) (And.intro (zas (hw.item (own 9 1 p2 (zfy e key).length ((zfy e key).map fun y=>kV y.2)) mm).1) (zle (hw.item (own 9 1 p2 (zfy e key).length ((zfy e key).map fun y=>kV y.2)) mm).1))) fun⟨⟨⟨f1,f3⟩,f5⟩,⟨⟨f2,f4⟩,f6⟩⟩=>?_
 rw[f1,f2]
 refine qms 9 1 ?_
 refine zap [1,2,3,4,5,6] 14 rfl rfl kQ ?_
 refine goE ?_
 refine quh 4 6 kQ rfl rfl rfl rfl rfl rfl rfl (fun _ h=>h) (fun l' X hl'=>qvl (news:=((zfy e key).map fun y=>kV y.1).take (lb (keys (zfy e key)) key)) (hl' 21 _ rfl) rfl rfl rfl (by rw[aM,aE];omega) (fun h=>by have:=f5 h;omega) (qvw (quk _ (fun y=>y.1)) _) oQ (fun w' hw'=>(za8 (hw'.item (own 9 1 p1 (zfy e key).length ((zfy e key).map fun y=>kV y.1)) (.tail _ (aU _ (.tail _ (.tail _ (.head _)))))).1).take _)) (fun l' m' hl'=>zrw (v:=kV key) (hl' 23 _ rfl) rfl rfl rfl rfl) fun o3 ⟨q1,_⟩=>?_
 refine zat 7 ⟨kQ,dQ⟩ rfl rfl (zdh (news:=[kV key]) rfl rfl rfl rfl rfl rfl rfl rfl oQ (fun w' hw' j v hj=>by rw[zde,aJ];exact zby (hw'.item (own 9 1 (some (q1,1)) 1 [kV key]) (.tail _ (.head _))).1 j v hj)) (fun _ _ h=>goH h) fun o4=>?_
 refine zat 12 ⟨kQ,dQ⟩ rfl rfl (zxz (news:=((zfy e key).map fun y=>kV y.1).drop (lb (keys (zfy e key)) key)) rfl rfl rfl rfl rfl (by rw[aZ,aE]) (fun h=>by have:=f5 (zmu h);omega) (qvv (quk _ (fun y=>y.1)) _) oQ (fun w' hw'=>zox (hw'.item (own 9 1 p1 (zfy e key).length ((zfy e key).map fun y=>kV y.1)) mm).1 _)) (fun _ _ h=>goH h) fun o5=>?_
 rw[qwe (fun y=>y.1) (key,val) hl]
 refine goE ?_
 refine zet ⟨kQ,kQ⟩ rfl rfl (zah (zdf _ _ _ _) (zai rfl rfl rfl rfl (zct _ _) (zc3 _ _) sQ)) fun _=>?_
 refine goA ?_
 refine qms 9 1 ?_
 refine zap [1,2,3,4,5,6,7,8] 14 rfl rfl kQ ?_
 refine goE ?_
 refine quh 4 6 kQ rfl rfl rfl rfl rfl rfl rfl (fun _ h=>h) (fun l' X hl'=>qvl (news:=((zfy e key).map fun y=>kV y.2).take (lb (keys (zfy e key)) key)) (hl' 35 _ rfl) rfl rfl rfl (by rw[aM,aE];omega) (fun h=>by have:=f6 h;omega) (qvw (quk _ (fun y=>y.2)) _) oQ (fun w' hw'=>(za8 (hw'.item (own 9 1 p2 (zfy e key).length ((zfy e key).map fun y=>kV y.2)) (.tail _ (aU _ (.tail _ (.tail _ (.tail _ (.tail _ (.tail _ (.head _))))))))).1).take _)) (fun l' m' hl'=>zrw (v:=kV val) (hl' 37 _ rfl) rfl rfl rfl rfl) fun o6 ⟨q2,_⟩=>?_
 refine zat 7 ⟨kQ,dQ⟩ rfl rfl (zdh (news:=[kV val]) rfl rfl rfl rfl rfl rfl rfl rfl oQ (fun w' hw' j v hj=>by rw[zde,aJ];exact zby (hw'.item (own 9 1 (some (q2,1)) 1 [kV val]) (.tail _ (.head _))).1 j v hj)) (fun _ _ h=>goH h) fun o7=>?_
 refine zat 12 ⟨kQ,dQ⟩ rfl rfl (zxz (news:=((zfy e key).map fun y=>kV y.2).drop (lb (keys (zfy e key)) key)) rfl rfl rfl rfl rfl (by rw[aZ,aE]) (fun h=>by have:=f6 (zmu h);omega) (qvv (quk _ (fun y=>y.2)) _) oQ (fun w' hw'=>zox (hw'.item (own 9 1 p2 (zfy e key).length ((zfy e key).map fun y=>kV y.2)) mm).1 _)) (fun _ _ h=>goH h) fun o8=>?_
 rw[qwe (fun y=>y.2) (key,val) hl]
 refine goE ?_
 refine zet ⟨kQ,kQ⟩ rfl rfl (zah (zdf _ _ _ _) (zai rfl rfl rfl rfl (zct _ _) (zc3 _ _) sQ)) fun _=>?_
 refine goA ?_
 rw[qwd (key,val) hl]
 refine zd2 46 _ (.agg #[slV o5 (ins (zfy e key) (lb (keys (zfy e key)) key) (key,val)).length,slV o8 (ins (zfy e key) (lb (keys (zfy e key)) key) (key,val)).length]) rfl rfl ?_
 refine lSa ?_
 refine goA ?_
 refine zbr (fun w h=>qup (o:=(o1,o2)) (p:=(p1,p2)) hp12 (by unfold dmI;rw[hX];exact qt4) hnone h) ?_
 exact xC (o5,o8) trivial (hs:=by simp only[aD,aH];exact qt4)
end Go.Proofs.YthafakdplhdfjaaGreatDoor
namespace Go.Eng
open Go.RowKit
def qqc(P:Program)(T:TypeId):Bool:=match P.underlying T with|some (.struct _) |some (.array _ _)=>true|_=>false
theorem qlm{P:Program}{l:zav}{H:World→Prop}{ty:TypeId}{T e:TypeId}{x y:Operand}{cs:Array Value}{k:IntKind}{i n sz:Nat}(hx:evO l x=some (.agg cs))(hy:evO l y=some (.int k (i:Nat)))(hT:P.underlying T=some (.array n e))(he:zcd P e=some sz)(ho:qqc P e=true)(hi:i<n):OV P (.index T x y) ty l H (.agg (cs.extract (i*sz) (i*sz+sz))):=ov fun _ _ _ w _=>by
 obtain⟨q,hq,hqs⟩:=zbg he
 have hagg:(isAgg e).run P w= .ok true w:=by
  unfold qqc at ho
  cases hu:P.underlying e with
  |none=>simp[hu]at ho
  |some d=>
   unfold isAgg
   rw[Sem.run_bind,run_underlying hu w]
   cases d<;>simp_all
 simp[execOp,zar hx,zar hy,Instr.index,asIntOf,run_underlying hT w,hi,sizeOf,typeInfo,hq,hqs,part,hagg]
end Go.Eng
namespace Go.Proofs.YthafakdplhdfjaaGreatDoor
open Go.RowKit Go.Eng Go.Eng.Bm Go.Eng.Tr
variable{i:Nat}
theorem zxa(hi:i<8)(w:World):Pu Tryz.prog 28 #[.int .i64 (i:Nat)] w (shV (fSh i)):=by
 refine zbn [_] Tryz.func28 rfl rfl ?_
 simp only[zaa]
 refine goA ?_
 refine zam rfl rfl fun b2 hb2=>?_
 refine goA ?_
 refine l_w rfl (zks rfl rfl rfl rfl rfl) ?_
 refine goA ?_
 refine l_w rfl (qlm (i:=i) rfl rfl rfl rfl rfl hi) ?_
 refine zd2 20 _ (shV (fSh i)) rfl ?_ ?_
 ·match i,hi with
  |0,_|1,_|2,_|3,_|4,_|5,_|6,_|7,_=>rfl
 refine goA ?_
 refine za1 rfl (zaf (cs':= #[.int .i64 ((fSh i).kw:Nat),.int .i64 ((fSh i).vw:Nat)]) rfl rfl rfl rfl rfl rfl) fun _=>?_
 refine goA ?_
 exact zdk rfl ⟨_,rfl,zaq rfl (.head _)⟩ rfl
theorem zk9(hi:i<8)(b:Nat)(w:World):Pu Tryz.prog 67 #[.pointer (some ⟨b,0,none⟩),.int .i64 (i:Nat)] w (.tuple #[.pointer (some ⟨b,1+i*4,none⟩),.int .i64 0]):=by
 refine zbn [_,_] Tryz.func67 rfl rfl ?_
 simp only[zaa,Nat.reduceAdd]
 refine goA ?_
 exact zie rfl rfl rfl rfl
variable{c:Fc}{R:List Nat}
theorem zl2(hl:R.length=8)(busy:Bool)(err:Nat):(frA c R busy err)[33]? =some (.bool busy)∧(frA c R busy err)[34]? =some (.int .i64 (err:Int)):=by
 have h:=zhr c.pb R 0
 rw[hl]at h
 unfold frA
 rw[gA,gA,cX oQ,cX oQ,h]
 exact⟨rfl,rfl⟩
theorem qf5(hl:R.length=8)(busy:Bool)(err:Nat)(b':Bool)(e':Nat):(frA c R busy err).set 33 (.bool b')=frA c R b' err∧(frA c R busy err).set 34 (.int .i64 (e':Int))=frA c R busy e':=by
 have h:=zhr c.pb R 0
 rw[hl]at h
 unfold frA
 rw[List.set_cons_succ,List.set_cons_succ,List.set_append_right _ _ oQ,List.set_append_right _ _ oQ,h]
 exact⟨rfl,rfl⟩
variable{busy:Bool}{err:Nat}{w:World}{v:Value}
theorem qf3(h:(foC c R busy err).prop w){j:Nat}(hv:(frA c R busy err)[j]? =some v):w.cell? ⟨c.b,j,none⟩=some v:=by
 have:=zbf h j v hv
 rwa[aJ]at this
variable{l:zav}{w0:World}{F:Nat→Prop}{m:List Eng.Item}{T:TypeId}{x:Operand}{s:Pg}
theorem qpg{ty:TypeId}{j:Nat}(hx:evO l x=some (.pointer (some ⟨c.b,j,none⟩)))(hm:foI c R busy err s∈m)(hv:(frA c R busy err)[j]? =some v)(hT:zja Tryz.prog T=true):OV Tryz.prog (.load T x) ty l (Hp w0 F m) v:=
 za0 hx hT (fun _ hw'=>qf3 ((hw'.item _ hm).1.1 _ (.head _)).1 hv)
theorem qrw{ty:TypeId}{j:Nat}(hx:evO l x=some (.pointer (some ⟨c.b,j,none⟩)))(hm:foC c R busy err∈m)(hv:(frA c R busy err)[j]? =some v)(hT:zja Tryz.prog T=true):OV Tryz.prog (.load T x) ty l (Hp w0 F m) v:=
 za0 hx hT (fun _ hw'=>qf3 (hw'.item _ hm).1 hv)
section
variable{Q:Exit→Act→World→Prop}{N:Fm}{ty:TypeId}{y:Operand}{pos:String}{after:Array Edge}{g:Option (Nat×Bool)}
theorem qhe(hl:R.length=8){e':Nat}(hok:(zez (.store T x y)&&zec l (.store T x y))=true)(hx:evO l x=some (.pointer (some ⟨c.b,34,none⟩)))(hy:evO l y=some (.int .i64 (e':Int)))(hT:(Tryz.prog.info? T).map (·.size)=some 1):
  HO Tryz.prog ⟨none,.store T x y,ty,pos,after,g⟩ Q N l (Hp w0 F (foC c R busy err::m)) (α:=Unit) (fun _=>l) (fun _=>Hp w0 F (foC c R busy e'::m)):=by
 have h:=zai (P:=Tryz.prog) (Q:=Q) (N:=N) (w0:=w0) (F:=F) (m:=m) (ty:=ty) (pos:=pos) (after:=after) (g:=g) (cs:=(frA c R busy err).toArray) (E:=119) hok hx hy hT rfl rfl (by have:=zhr c.pb R 0;simp[frA];omega)
 rw[dG,(qf5 hl busy err busy e').2]at h
 exact h
theorem qb8(hl:R.length=8){b':Bool}(hok:(zez (.store T x y)&&zec l (.store T x y))=true)(hx:evO l x=some (.pointer (some ⟨c.b,33,none⟩)))(hy:evO l y=some (.bool b'))(hT:(Tryz.prog.info? T).map (·.size)=some 1):
  HO Tryz.prog ⟨none,.store T x y,ty,pos,after,g⟩ Q N l (Hp w0 F (foC c R busy err::m)) (α:=Unit) (fun _=>l) (fun _=>Hp w0 F (foC c R b' err::m)):=by
 have h:=zai (P:=Tryz.prog) (Q:=Q) (N:=N) (w0:=w0) (F:=F) (m:=m) (ty:=ty) (pos:=pos) (after:=after) (g:=g) (cs:=(frA c R busy err).toArray) (E:=119) hok hx hy hT rfl rfl (by have:=zhr c.pb R 0;simp[frA];omega)
 rw[dG,(qf5 hl busy err b' 0).1]at h
 exact h
end
variable{a:Nat}{fd:FuncId}{cs:List Value}
theorem zkw(hl:R.length=8)(hi:i<8)(ha:R[i]? =some a){X:Type}(hb:za7 Tryz.prog fd=true)(D:List Eng.Item)(D':X→List Eng.Item)(hsD:∀it∈D,it.Stable none')(hsD':∀x,∀it∈D' x,it.Stable none')(ev:X→Nat)(φ:X→Prop)(rt:X→Nat)(st:X→Pg)
  (hdo:∀w1,(∀it∈tmI (frC c R true err i) (a:Nat) s::D,zbq it w1)→(tmI (frC c R true err i) (a:Nat) s::D).Pairwise Eng.Item.Apart→Ct Tryz.prog fd (.pointer (some ⟨c.b,(frC c R true err i).o,none⟩)::cs).toArray w1 (za4 (tmI (frC c R true err i) (a:Nat) s::D)) (fun x:X=>.int .i64 (ev x:Nat)) φ (fun x=>tmI (frC c R true err i) (rt x:Nat) (st x)::D' x)):
  Cw Tryz.prog 71 #[.pointer (some ⟨c.b,0,none⟩),.int .i64 (i:Nat),.func (.func fd) #[] cs.toArray] (foI c R true err s::D) (fun x:X=>.int .i64 (ev x:Nat)) φ (fun x=>foI c (R.set i (rt x)) true (if err=0∧ev x≠2 then ev x else err) (st x)::D' x):=by
 intro w hw hap
 refine za2 [_,_,_] _ Tryz.func71 rfl rfl hw hap ?_
 simp only[zaa,Nat.reduceAdd]
 refine goA ?_
 refine lPu rfl (fun w1 hw1=>zk9 hi c.b w1) ?_
 refine goA ?_
 refine l_w rfl (qpg (c:=c) (R:=R) (s:=s) rfl (.head _) (zl2 hl true err).1 rfl) ?_
 refine goA ?_
 rw[←qj5 (c:=c) (busy:=true) (err:=err) ha]
 have hst:∀it∈tmI (frC c R true err i) (a:Nat) s::D,it.Stable none':=fun it hm=>by
  rcases aK.1 hm with rfl|hm
  ·exact zad _
  ·exact hsD it hm
 refine zcy (m':=(tmI (frC c R true err i) (a:Nat) s::D)++[]) (fun w' hw'=>by rw[bB,←zik ha];exact hw') ?_
 refine zeh rfl (zx1 (pre:=tmI (frC c R true err i) (a:Nat) s::D) (fs:=[]) (cs:=cs) rfl hb rfl rfl rfl hst (fun w1 hw1 hh1 ha1=>hdo w1 hh1 ha1)) fun⟨x,hx⟩=>?_
 simp only[aD,bB]
 rw[qnx ha]
 have hl':(R.set i (rt x)).length=8:=by rw[bE];exact hl
 obtain⟨ex,hex⟩:∃e,ev x=e:=⟨_,rfl⟩
 rw[hex]
 have hfin:∀it∈foI c (R.set i (rt x)) true (if err=0∧ev x≠2 then ev x else err) (st x)::D' x,it.Stable none':=fun it hm=>by
  rcases aK.1 hm with rfl|hm
  ·exact zad _
  ·exact hsD' x it hm
 refine goA ?_
 refine l_w rfl (qpg (c:=c) (R:=R.set i (rt x)) (s:=st x) rfl (.head _) (zl2 hl' true err).2 rfl) ?_
 refine goA ?_
 by_cases h0:err=0
 ·subst h0
  by_cases h2:ex=2
  ·subst h2
   refine goA ?_
   rw[hex,if_neg (fun h=>h.2 rfl)]at hfin
   exact zbd x rfl rfl (by rw[hex]) hx (by rw[hex,if_neg (fun h=>h.2 rfl)];exact .refl _) (by rw[hex,if_neg (fun h=>h.2 rfl)];exact hfin)
  ·rw[hex,if_pos ⟨rfl,h2⟩]at hfin
   refine goA ?_
   refine zcy (fun w h=>zk7 h) ?_
   unfold foL
   simp only[aD,aH]
   refine za1 rfl (qhe hl' rfl rfl rfl rfl) fun _=>?_
   refine goA ?_
   refine zbr (m':=foI c (R.set i (rt x)) true ex (st x)::D' x) (fun w hw=>zhe (m:=D' x) hw) ?_
   exact zbd x rfl rfl (by rw[hex]) hx (by rw[hex,if_pos (by simp[h2])];exact .refl _) (by rw[hex,if_pos (by simp[h2])];exact hfin)
 ·rw[if_neg (fun h=>h0 h.1)]at hfin
  refine goA ?_
  exact zbd x rfl rfl (by rw[hex]) hx (by rw[if_neg (fun h=>h0 h.1)];exact .refl _) (by rw[if_neg (fun h=>h0 h.1)];exact hfin)
variable{g:Sg}{root':Int}
theorem zzt{c:Tc}{g':Sg}(h:Tok c g s)(root:Int)(key val:K)(hk:key.length=c.sh.kw)(hv:val.length=c.sh.vw)(hl:zoj c.sh c.N key val g root= .ok (root',g'))(b1 b2:Nat):
  Cw Tryz.prog 75 #[.pointer (some ⟨c.t,c.o,none⟩),.pointer (some ⟨b1,0,none⟩),.pointer (some ⟨b2,0,none⟩)] [tmI c root s,pt b1 (.cells #[kV key] 9 (0,0)),pt b2 (.cells #[kV val] 9 (0,0))] (fun _:Pg=>.int .i64 ((0:Nat):Int)) (fun s'=>Tok c g' s') (fun s'=>[tmI c root' s',pt b1 (.cells #[kV key] 9 (0,0)),pt b2 (.cells #[kV val] 9 (0,0))]):=by
 intro w hw ha
 refine za2 [_,_,_] _ Tryz.func75 rfl rfl hw ha ?_
 simp only[zaa,Nat.reduceAdd]
 refine goA ?_
 refine lCu [tmI c root s] rfl (zag _ _ s) (fun w1 hw1 hh1 ha1=>zta h root key val hk hv hl w1 hh1) fun⟨s',hs'⟩=>?_
 simp only[aD,aH]
 refine goA ?_
 exact zbd s' rfl rfl rfl hs' (.refl _) (by simp[zab,tmI,zad])
theorem qdj{g':Sg}(h:Fok c g s)(hl:R.length=8){a':Nat}(hi:i<8)(ha:R[i]? =some a)(key val:K)(hk:key.length=(fSh i).kw)(hv:val.length=(fSh i).vw)(hp:zoj (fSh i) c.N key val g (a:Nat)= .ok ((a':Nat),g')):
  Cv Tryz.prog 40 #[.pointer (some ⟨c.b,0,none⟩),.int .i64 (i:Nat),kV key,kV val] [foI c R true err s] (fun _:Pg=>.int .i64 0) (fun s'=>Fok c g' s') (fun s'=>[foI c (R.set i a') true err s']):=by
 intro w hw
 refine za2 [_,_,_,_] _ Tryz.func40 rfl rfl hw (.cons (fun _ h=>nomatch h) .nil) ?_
 simp only[zaa,Nat.reduceAdd]
 refine goA ?_
 refine zc9 rfl rfl rfl fun b6 hb6=>?_
 refine goA ?_
 refine zc9 rfl rfl rfl fun b7 hb7=>?_
 refine goA ?_
 refine l_w rfl (zhw rfl) ?_
 refine goA ?_
 refine zay [2,1,0] rfl rfl ?_
 refine lCu ([foI c R true err s,pt b6 (.cells #[kV key] 9 (0,0)),pt b7 (.cells #[kV val] 9 (0,0))]) rfl (by simp[zab,foI,zad]) (fun w1 hw1 hh1 ha1=>zkw hl hi ha (X:=Pg) (cs:=[.pointer (some ⟨b6,0,none⟩),.pointer (some ⟨b7,0,none⟩)]) kQ [pt b6 (.cells #[kV key] 9 (0,0)),pt b7 (.cells #[kV val] 9 (0,0))] (fun _=>[pt b6 (.cells #[kV key] 9 (0,0)),pt b7 (.cells #[kV val] 9 (0,0))]) (by simp[zab]) (by simp[zab]) (fun _=>0) (fun s'=>Tok (frC c R true err i) g' s') (fun _=>a') (fun s'=>s') (fun w2 hh2 ha2=>zzt (h.tok R true err hi) _ key val hk hv hp b6 b7 w2 hh2 ha2) w1 hh1 ha1) fun⟨s',hs'⟩=>?_
 simp only[aD,aH]
 rw[show(if err=0∧0≠2 then 0 else err)=err by split<;>omega]
 refine goA ?_
 exact zbd s' rfl rfl rfl (Tok.fok hs') (.cons_cons _ (aL _)) (zb3 _ _ _ _ _)
variable{b:Bool}
theorem zzq{c:Tc}{g':Sg}(h:Tok c g s)(root:Int)(key:K)(hk:key.length=c.sh.kw)(hl:zrp c.sh c.N key g root= .ok ((root',b),g'))(b1 b2:Nat):
  Cw Tryz.prog 72 #[.pointer (some ⟨c.t,c.o,none⟩),.pointer (some ⟨b1,0,none⟩),.pointer (some ⟨b2,0,none⟩)] [tmI c root s,pt b1 (.cells #[kV key] 9 (0,0)),pt b2 (.cells #[.bool false] 4 (0,0))] (fun _:Pg=>.int .i64 ((0:Nat):Int)) (fun s'=>Tok c g' s') (fun s'=>[tmI c root' s',pt b1 (.cells #[kV key] 9 (0,0)),pt b2 (.cells #[.bool b] 4 (0,0))]):=by
 intro w hw ha
 refine za2 [_,_,_] _ Tryz.func72 rfl rfl hw ha ?_
 simp only[zaa,Nat.reduceAdd]
 refine goA ?_
 refine lCu [tmI c root s] rfl (zag _ _ s) (fun w1 hw1 hh1 ha1=>qfu h root key hk hl w1 hh1) fun⟨s',hs'⟩=>?_
 simp only[aD,aH]
 refine goA ?_
 refine za1 rfl (zah (zdf _ _ _ _) (zai rfl rfl rfl rfl rfl rfl sQ)) fun _=>?_
 refine goA ?_
 refine zgf [1,2,0] rfl rfl ?_
 exact zbd s' rfl rfl rfl hs' (.refl _) (by simp[zab,tmI,zad])
theorem zui{g':Sg}(h:Fok c g s)(hl:R.length=8){a':Nat}(hi:i<8)(ha:R[i]? =some a)(key:K)(hk:key.length=(fSh i).kw)(hp:zrp (fSh i) c.N key g (a:Nat)= .ok (((a':Nat),b),g')):
  Cv Tryz.prog 36 #[.pointer (some ⟨c.b,0,none⟩),.int .i64 (i:Nat),kV key] [foI c R true err s] (fun _:Pg=>.tuple #[.bool b,.int .i64 0]) (fun s'=>Fok c g' s') (fun s'=>[foI c (R.set i a') true err s']):=by
 intro w hw
 refine za2 [_,_,_] _ Tryz.func36 rfl rfl hw (.cons (fun _ h=>nomatch h) .nil) ?_
 simp only[zaa,Nat.reduceAdd]
 refine goA ?_
 refine zc9 rfl rfl rfl fun b5 hb5=>?_
 refine goA ?_
 refine zdg rfl rfl rfl fun b6 hb6=>?_
 refine goA ?_
 refine l_w rfl (zhw rfl) ?_
 refine goA ?_
 refine zay [2,1,0] rfl rfl ?_
 refine lCu ([foI c R true err s,pt b5 (.cells #[kV key] 9 (0,0)),pt b6 (.cells #[.bool false] 4 (0,0))]) rfl (by simp[zab,foI,zad]) (fun w1 hw1 hh1 ha1=>zkw hl hi ha (X:=Pg) (cs:=[.pointer (some ⟨b5,0,none⟩),.pointer (some ⟨b6,0,none⟩)]) kQ [pt b5 (.cells #[kV key] 9 (0,0)),pt b6 (.cells #[.bool false] 4 (0,0))] (fun _=>[pt b5 (.cells #[kV key] 9 (0,0)),pt b6 (.cells #[.bool b] 4 (0,0))]) (by simp[zab]) (by simp[zab]) (fun _=>0) (fun s'=>Tok (frC c R true err i) g' s') (fun _=>a') (fun s'=>s') (fun w2 hh2 ha2=>zzq (h.tok R true err hi) _ key hk hp b5 b6 w2 hh2 ha2) w1 hh1 ha1) fun⟨s',hs'⟩=>?_
 simp only[aD,aH]
 rw[show(if err=0∧0≠2 then 0 else err)=err by split<;>omega]
 refine goA ?_
 refine za1 rfl (zah (zdf _ _ _ _) (zai rfl rfl rfl rfl rfl rfl sQ)) fun _=>?_
 refine goA ?_
 exact zc1 s' rfl ⟨_,rfl,zb5 rfl mm⟩ rfl rfl (Tok.fok hs') (.cons _ (.cons_cons _ (aL _))) (zb3 _ _ _ _ _)
theorem zzr(h:Fok c g s)(hi:i<8)(ha:R[i]? =some a){xs:E}(hl:qnd (fSh i) c.N g [] (a:Nat) xs){σ:Type}(D:σ→List Eng.Item)(I:E→σ→Prop)(J:σ→Prop)(s0:σ)(hb:za7 Tryz.prog fd=true)(hst:∀st,∀it∈D st,it.Stable none')(h0:I [] s0)
  (hcall:∀k y st,(k++[y])<+:xs→I k st→∀w,(∀it∈D st,zbq it w)→(D st).Pairwise Eng.Item.Apart→Ct Tryz.prog fd (kV y.1::kV y.2::cs).toArray w (za4 (D st)) (fun x:Bool×σ=>.bool x.1) (fun x=>(x.1=true∧I (k++[y]) x.2)∨(x.1=false∧J x.2)) (fun x=>D x.2)):
  Cw Tryz.prog 41 #[.pointer (some ⟨c.b,0,none⟩),.int .i64 (i:Nat),.func (.func fd) #[] cs.toArray] (foI c R busy err s::D s0) (fun _:Pg×σ=>.int .i64 0) (fun x=>Fok c g x.1∧(I xs x.2∨J x.2)) (fun x=>foI c R busy err x.1::D x.2):=by
 intro w hw hap
 have hs:∀z st,∀it∈foI c R busy err z::D st,it.Stable none':=fun z st it hm=>by
  rcases aK.1 hm with rfl|hm
  ·exact zad _
  ·exact hst st it hm
 have hs0:∀it∈tmI (frC c R busy err i) (a:Nat) s::D s0,it.Stable none':=by rw[←zik ha];exact hs s s0
 refine za2 [_,_,_] _ Tryz.func41 rfl rfl hw hap ?_
 simp only[zaa,Nat.reduceAdd]
 refine goA ?_
 refine lPu rfl (fun w1 hw1=>zk9 hi c.b w1) ?_
 refine goA ?_
 rw[←qj5 (c:=c) (busy:=busy) (err:=err) ha]
 refine zcy (m':=(tmI (frC c R busy err i) (a:Nat) s::D s0)++[]) (fun w' hw'=>by rw[bB,←zik ha];exact hw') ?_
 refine lCu (tmI (frC c R busy err i) (a:Nat) s::D s0) rfl hs0 (fun w1 hw1 hh1 ha1=>qnu (h.tok R busy err hi) _ hl D I J s0 hb hst h0 hcall w1 hh1 ha1) fun⟨⟨s',st⟩,hx⟩=>?_
 have hx:Tok (frC c R busy err i) g s'∧(I xs st∨J st):=hx
 simp only[aD,bB]
 rw[←zik (s:=s') ha]
 refine goA ?_
 exact zbd (s',st) rfl rfl rfl ⟨hx.1.fok,hx.2⟩ (.refl _) (hs s' st)
theorem zpl(n wide:Nat)(hn:n<65536)(h1:1≤wide)(h2:wide≤1000)(w:World):Pu Tryz.prog 32 #[.int .u16 n,.int .i64 wide] w (kV (zpf n wide)):=by
 refine zbn [_,_] Tryz.func32 rfl rfl ?_
 simp only[zaa,Nat.reduceAdd]
 refine goA ?_
 refine za1 rfl (qon rfl rfl rfl rfl rfl oQ) fun⟨b1,hb1⟩=>?_
 refine goA ?_
 refine zc0 (α:=Nat) (fun i=>[(0,.int .u16 (n:Int)),(1,.int .i64 (wide:Int)),(5,.slice (some ⟨b1,0,none⟩) wide wide),(6,.int .i64 (i:Nat))]) (fun i=>i≤wide) (fun i=>[pt b1 (.cells (bsN (fun j=>if j<i then txN n j else 0) wide).toArray 5 (0,0))]) (fun i=>wide - i) 0 ⟨rfl,rfl,rfl,rfl,trivial⟩ (bA _) (fun w' hw'=>by
   have e:zds (.int .u8 0) (wide*1)=bsN (fun j=>if j<0 then txN n j else 0) wide:=by
    rw[zds,bN]
    exact cT fun j _=>by rw[show(Value.int IntKind.u8 0).cells.size=1 from rfl,lK];rfl
   rw[←e];exact hw') fun i hi=>?_
 by_cases hlt:i<wide
 ·refine goA ?_
  refine l_w rfl (qs6 rfl rfl rfl) ?_
  refine goA ?_
  refine l_w rfl (qs6 rfl rfl rfl) ?_
  refine goA ?_
  refine l_w rfl (qu4 rfl rfl) ?_
  refine goA ?_
  refine za1 rfl (zai rfl rfl rfl rfl rfl rfl (by rw[aC,zzj];omega)) fun _=>?_
  rw[aJ,dG,zzk]
  refine goA ?_
  exact zaw (i+1) ⟨rfl,rfl,rfl,rfl,trivial⟩ hlt (fun w' hw'=>by
   have e:(fun j=>if j=i then(n%256+7*i%256)%256 else if j<i then txN n j else 0)=fun j=>if j<i+1 then txN n j else 0:=by
    funext j
    by_cases h3:j=i
    ·subst h3;rw[if_pos rfl,if_pos oQ];rfl
    ·rw[if_neg h3]
     by_cases h4:j<i
     ·rw[if_pos h4,if_pos oQ]
     ·rw[if_neg h4,if_neg oQ]
   rw[←e];exact hw') oQ
 ·obtain rfl:i=wide:=oQ
  refine goA ?_
  refine za1 rfl (zai rfl rfl rfl rfl rfl rfl (by rw[aC,zzj];omega)) fun _=>?_
  rw[aJ,dG,zzk]
  by_cases h2:1<i
  ·refine goA ?_
   refine l_w rfl (qs6 rfl rfl rfl) ?_
   refine goA ?_
   refine za1 rfl (zai rfl rfl rfl rfl rfl rfl (by rw[aC,zzj];omega)) fun _=>?_
   rw[aJ,dG,zzk]
   have e:bsN (fun j=>if j=1 then n%256 else if j=0 then n/2^8 else if j<i then txN n j else 0) i=zae (zpf n i):=by
    rw[←zwv]
    refine cT fun j hj=>?_
    have:=dL.1 hj
    show Value.int .u8 ((if j=1 then n%256 else if j=0 then n/2^8 else if j<i then txN n j else 0:Nat):Int)= .int .u8 ((if j=1 then n%256 else if j=0 then n/256%256 else txN n j:Nat):Int)
    rw[if_pos this,show n/2^8=n/256 from rfl,bC (show n/256<256 by omega)]
   rw[e]
   refine goA ?_
   refine l_w rfl (ztt (bs:=zpf n i) rfl (zgk n i).symm rfl rfl (fun w' hw'=>.inr ⟨b1,0,rfl,zbf (hw'.get (b:=b1) (.head _))⟩)) ?_
   refine goA ?_
   exact zdk rfl rfl rfl
  ·obtain rfl:i=1:=oQ
   have e:bsN (fun j=>if j=0 then n/2^8 else if j<1 then txN n j else 0) 1=zae (zpf n 1):=by
    rw[←zwv]
    refine cT fun j hj=>?_
    obtain rfl:j=0:=by have:=dL.1 hj;omega
    show Value.int .u8 ((n/256:Nat):Int)= .int .u8 ((n/256%256:Nat):Int)
    rw[bC (show n/256<256 by omega)]
   rw[e]
   refine goA ?_
   refine l_w rfl (ztt (bs:=zpf n 1) rfl (zgk n 1).symm rfl rfl (fun w' hw'=>.inr ⟨b1,0,rfl,zbf (hw'.get (b:=b1) (.head _))⟩)) ?_
   refine goA ?_
   exact zdk rfl rfl rfl
theorem qt6(hi:i<8)(w:World):Pu Tryz.prog 29 #[.int .i64 (i:Nat)] w (.int .i64 ((fSh i).kw:Int)):=by
 refine zbn [_] Tryz.func29 rfl rfl ?_
 simp only[zaa]
 refine goA ?_
 refine l_w rfl (zks rfl rfl rfl rfl rfl) ?_
 refine goA ?_
 refine l_w rfl (qis (i:=i) (v:=.int .i64 ((fSh i).kw:Int)) rfl rfl rfl rfl rfl hi (by
  match i,hi with
  |0,_|1,_|2,_|3,_|4,_|5,_|6,_|7,_=>rfl)) ?_
 refine goA ?_
 exact zdk rfl rfl rfl
theorem quf(hi:i<8)(w:World):Pu Tryz.prog 30 #[.int .i64 (i:Nat)] w (.int .i64 ((fSh i).vw:Int)):=by
 refine zbn [_] Tryz.func30 rfl rfl ?_
 simp only[zaa]
 refine goA ?_
 refine l_w rfl (zks rfl rfl rfl rfl rfl) ?_
 refine goA ?_
 refine l_w rfl (qis (i:=i) (v:=.int .i64 ((fSh i).vw:Int)) rfl rfl rfl rfl rfl hi (by
  match i,hi with
  |0,_|1,_|2,_|3,_|4,_|5,_|6,_|7,_=>rfl)) ?_
 refine goA ?_
 exact zdk rfl rfl rfl
structure S11 where
 d:Nat
 t:Nat
 k:Nat
 v:Nat
def S11.vs(x:S11):List Value:=[.int .u8 x.d,.int .u8 x.t,.int .u16 x.k,.int .u16 x.v]
theorem S11.sz(x:S11):x.vs.length=4:=rfl
structure S11.Ok (x:S11):Prop where
 d:x.d<256
 t:x.t<256
 k:x.k<65536
 v:x.v<65536
abbrev S11.ti(x:S11):Nat:=x.t%8
abbrev S11.key(x:S11):K:=zpf x.k (fSh x.ti).kw
abbrev S11.val(x:S11):K:=zpf x.v (fSh x.ti).vw
theorem qvb(h:i<8):1≤(fSh i).kw∧(fSh i).kw≤1000∧1≤(fSh i).vw∧(fSh i).vw≤1000:=by
 match i,h with
 |0,_|1,_|2,_|3,_|4,_|5,_|6,_|7,_=>decide
theorem zj2(x:S11)(h:x.Ok)(w:World):Ct Tryz.prog 93 #[.agg x.vs.toArray] w none' (fun _:Unit=>kV x.key) (fun _=>True) (fun _=>[]):=by
 obtain⟨d,t,k,v⟩:=x
 obtain⟨h1,h2,h3,h4⟩:=h
 dsimp only at h1 h2 h3 h4
 have hi:t%8<8:=dY _ dQ
 obtain⟨w1,w2,w3,w4⟩:=qvb hi
 refine zes [_] Tryz.func93 rfl rfl ?_
 simp only[zaa]
 unfold S11.vs
 dsimp only
 refine goA ?_
 refine zbp rfl rfl fun b1 hb1=>?_
 refine goA ?_
 refine ziv [pt b1 _] 99 ?_
 refine goP ?_
 refine dPF 6 (fun w _=>qt6 hi w) ?_
 refine dPF 7 (fun w _=>zpl k _ h3 w1 w2 w) ?_
 refine goQ ?_
 exact xC () trivial
theorem ztx(x:S11)(h:x.Ok)(w:World):Ct Tryz.prog 96 #[.agg x.vs.toArray] w none' (fun _:Unit=>kV x.val) (fun _=>True) (fun _=>[]):=by
 obtain⟨d,t,k,v⟩:=x
 obtain⟨h1,h2,h3,h4⟩:=h
 dsimp only at h1 h2 h3 h4
 have hi:t%8<8:=dY _ dQ
 obtain⟨w1,w2,w3,w4⟩:=qvb hi
 refine zes [_] Tryz.func96 rfl rfl ?_
 simp only[zaa]
 unfold S11.vs
 dsimp only
 refine goA ?_
 refine zbp rfl rfl fun b1 hb1=>?_
 refine goA ?_
 refine ziv [pt b1 _] 99 ?_
 refine goP ?_
 refine dPF 6 (fun w _=>quf hi w) ?_
 refine dPF 7 (fun w _=>zpl v _ h4 w3 w4 w) ?_
 refine goQ ?_
 exact xC () trivial
variable{P:Program}{Q:Exit→Act→World→Prop}{N:Fm}{ops:Array Oper}{rest:List Oper}
theorem lSR{r:List Eng.Item}{ty:TypeId}{pos:String}{after:Array Edge}{g:Option (Nat×Bool)}{y:Operand}{b off:Nat}{V:List Value}{vs:Array Value}{E:TypeId}(hs:off+V.length≤cs.length)(h1:zb7 V=true)(k:HL P ops Q N rest l (Hp w0 F (pt b (.cells (put cs off V).toArray E (0,0))::r)))
  (hx:evO l x=some (.pointer (some ⟨b,off,none⟩)):=by rfl) (hy:evO l y=some (.agg vs):=by rfl) (hv:vs.toList=V:=by rfl) (hf:Fnd (pt b (.cells cs.toArray E (0,0))) m r:=by exact qt5) (hT:(P.info? T).map (·.size)=some V.length:=by rfl) (hg:okG ops l g=true:=by rfl) (hok:(zez (.store T x y)&&zec l (.store T x y))=true:=by rfl):
  HL P ops Q N (⟨none,.store T x y,ty,pos,after,g⟩::rest) l (Hp w0 F m):=zeh hg (zah hf.perm (zjz hok hx hy hv hT h1 hs)) fun _=>k
abbrev Mp:=Om×E
abbrev dmA(p:Mp):List Eng.Item:=[own 9 1 p.1.1 p.2.length (p.2.map fun y=>kV y.1),own 9 1 p.1.2 p.2.length (p.2.map fun y=>kV y.2)]
def dmE(p:Mp):List Value:=[slV p.1.1 p.2.length,slV p.1.2 p.2.length]
theorem zoz(p:Mp):(dmE p).length=2:=rfl
def arM(A:List Mp):Eng.Item:=zef (A.flatMap dmA)
instance(A:List Mp):Stab (arM A):=⟨zad _⟩
theorem qh3(p:Mp):∀it∈dmA p,it.Stable none':=by simp[zac]
theorem zg3(A:List Mp):∀it∈A.flatMap dmA,it.Stable none':=fun it hm=>by
 obtain⟨p, -,hp⟩:=bW.1 hm
 exact qh3 p it hp
variable{p:Mp}
theorem zza{r:List Eng.Item}{A1 A2:List Mp}(hs:Fnd (arM (A1++p::A2)) m r)(h:Hp w0 F m w):Hp w0 F (apI (dmA p) (zef (A1.flatMap dmA++A2.flatMap dmA)::r)) w:=by
 have h1:=Hp.open1 (h.perm hs.perm)
 rw[bD,aX]at h1
 have h2:Hp w0 F ((A1.flatMap dmA++A2.flatMap dmA)++(dmA p++r)) w:=h1.perm (by
  rw[aG,aG,aG,←aG (dmA p)]
  refine cU _ ?_
  rw[←aG (A2.flatMap dmA)]
  exact cM _ cW)
 have h3:=Hp.close1 (fun it hm=>(aS.1 hm).elim (zg3 A1 it) (zg3 A2 it)) h2
 exact h3.perm ((List.Perm.swap _ _ _).trans (.cons _ (.swap _ _ _)))
theorem qfk{r:List Eng.Item}{A1 A2:List Mp}{q:Mp}(hs:Fnds (zef (A1.flatMap dmA++A2.flatMap dmA)::apI (dmA p) (dmA q)) m r)(h:Hp w0 F m w):Hp w0 F (arM (q::(A1++p::A2))::r) w:=by
 have h1:=Hp.open1 (h.perm hs.perm)
 rw[←zf9,←zf9]at h1
 refine Hp.close1 (zg3 _) (h1.perm ?_)
 rw[aX,bD,aX,←aG]
 refine cM _ (List.Perm.trans ?_ cW)
 rw[←aG (A1.flatMap dmA++A2.flatMap dmA)]
 refine cM _ ?_
 rw[aG]
 exact cU _ cW
theorem zwt{r:List Eng.Item}{A1 A2:List Mp}(hs:Fnds (zef (A1.flatMap dmA++A2.flatMap dmA)::dmA p) m r)(h:Hp w0 F m w):Hp w0 F (arM (A1++p::A2)::r) w:=by
 have h1:=Hp.open1 (h.perm hs.perm)
 rw[←zf9]at h1
 refine Hp.close1 (zg3 _) (h1.perm ?_)
 rw[bD,aX,←aG]
 refine cM _ ?_
 rw[aG]
 exact cU _ cW
theorem qg1{α:Type}{enc:α→List Value}{k:Nat}(hk:∀a,(enc a).length=k){L:List α}(hi:i<L.length)(a:α):put (zc6 enc L) (i*k) (enc a)=zc6 enc (L.set i a):=by
 have h1:(zc6 enc L).take (i*k)=zc6 enc (L.take i):=by
  rw[←bF i L]
  unfold zc6
  rw[bD,jR,bI,bF]
  ·rw[show(List.flatMap enc (L.take i)).length=_ from zdx hk _,aM,dB oQ]
   exact aY _
  ·rw[show(List.flatMap enc (L.take i)).length=_ from zdx hk _,aM,dB oQ]
   exact aY _
 have h2:(zc6 enc L).drop (i*k+k)=zc6 enc (L.drop (i+1)):=by
  rw[qej hk L (i+1),iJ,jS]
 unfold put
 rw[hk,h1,h2,zqv (aB hi) a]
 unfold zc6
 rw[bD,aX,aG]
abbrev mfV(M:List Mp):Value:=.agg (zc6 dmE M).toArray
variable{M:List Mp}
theorem qvk{b:Nat}(hp:M[i]? =some p)(h:w.heap[b]? =some (.cells (zc6 dmE M).toArray T (0,0))):w.rangeAt b (i*2) (dmE p):=by
 obtain⟨hi,rfl⟩:=aF.1 hp
 have h1:=zbf h
 have:=Rd.row zoz (b:=b) (off:=0) (fun k u hu=>by rw[aJ];have:=h1 k u hu;rwa[aJ]at this) hi
 rwa[aJ]at this
theorem zc8(M:List Mp):zb7 (zc6 dmE M)=true:=zba.2 fun v hv=>by
 obtain⟨p, -,hp⟩:=bW.1 hv
 rcases aK.1 hp with rfl|hp
 ·exact zc3 _ _
 ·rw[aO.1 hp];exact zc3 _ _
theorem zce(h8:M.length=8):(zc6 dmE M).length=16:=by rw[zdx zoz,h8]
theorem qwj(o:Om)(e:E)(he:Es e)(key val:K)(hb:e.length≤1000000):Cw Tryz.prog 145 #[dmV o e,kV key,kV val] (dmA (o,e)) (fun o':Om=>dmV o' (zfx e key val)) (fun _=>True) (fun o'=>apI (dmA (o,e)) (dmA (o',zfx e key val))):=fun w hw ha=>qj7 o e he key val hb w hw ha
theorem qwf(o:Om)(e:E)(he:Es e)(key:K)(hb:e.length≤1000000):Cw Tryz.prog 144 #[dmV o e,kV key] (dmA (o,e)) (fun o':Om=>.tuple #[dmV o' (zfy e key),.bool (zi6 e key).isSome]) (fun o'=>zi6 e key=none→o'=o) (fun o'=>apI (dmA (o',zfy e key)) [zef (if (zi6 e key).isSome then dmA (o,e)else[])]):=fun w hw ha=>zsd o e he key hb w hw ha
variable{o:Om}{e:E}
theorem qtv(hM:M[i]? =some (o,e))(h8:M.length=8){A:List Mp}(hA:(o,e)∈A)(he:Es e)(key val:K)(hb:e.length≤1000000):
  Cw Tryz.prog 95 #[mfV M,.int .i64 (i:Nat),kV key,kV val] [arM A] (fun x:Om×List Mp=>mfV (M.set i (x.1,zfx e key val))) (fun x=>x.2=(x.1,zfx e key val)::A) (fun x=>[arM x.2]):=by
 obtain⟨hi, -⟩:=aF.1 hM
 obtain⟨A1,A2,rfl⟩:=List.append_of_mem hA
 refine qnp [_,_,_,_] Tryz.func95 rfl fun w0=>?_
 simp only[zaa]
 refine goA ?_
 refine zbp rfl rfl fun b4 hb4=>?_
 refine zam rfl rfl fun b8 hb8=>?_
 refine goA ?_
 refine l_w rfl (zgp (xs:=dmE (o,e)) (c:=dmC o e) rfl rfl (fun w' hw'=>by rw[aJ];exact qvk hM (hw'.get (b:=b4) mm)) rfl) ?_
 refine goA ?_
 refine zcy (fun _ h=>zza qt5 h) ?_
 refine lC (qwj o e he key val hb) fun o' _=>?_
 refine zcy (fun _ h=>qfk (p:=(o,e)) (q:=(o',zfx e key val)) qt4 h) ?_
 refine goA ?_
 refine lSR (off:=0+i*2) (V:=dmE (o',zfx e key val)) (by rw[zce h8,zoz];omega) (by simp[zb7,dmE,zc3]) ?_
 rw[aJ,qg1 zoz hi]
 have h8':(M.set i (o',zfx e key val)).length=8:=by rw[bE,h8]
 refine goA ?_
 refine l_w rfl (zcw (cs:=(zc6 dmE (M.set i (o',zfx e key val))).toArray) rfl (by rw[aC,zce h8'];rfl) mm) ?_
 refine lSa (cs':=(zc6 dmE (M.set i (o',zfx e key val))).toArray) (hT:=by rw[aC,zce h8'];rfl) (h1:=zc8 _) (h2:=by rw[aC,zce h8'];rfl) ?_
 refine goA ?_
 exact xC (o',(o',zfx e key val)::(A1++(o,e)::A2)) rfl (hf:=rfl) (h1:=⟨_,rfl,zaq (by rw[aC,zce h8'];rfl) mm⟩)
theorem qfp(he:Es e){key:K}(h:zi6 e key=none):zfy e key=e:=by
 obtain⟨r1,r2⟩:=zyf (k:=key) he
 cases hf:fd (keys e) key with
 |false=>exact(r2 hf).2.2
 |true=>obtain⟨v, -,g1, -⟩:=r1 hf;rw[h]at g1;cases g1
theorem qkk{o':Om}{key:K}{A1 A2:List Mp}{r:List Eng.Item}(he:Es e)(ho:zi6 e key=none→o'=o)(hs:Fnds (zef (A1.flatMap dmA++A2.flatMap dmA)::apI (dmA (o',zfy e key)) [zef (if (zi6 e key).isSome then dmA (o,e)else[])]) m r):
  ∃A',((o',zfy e key)∈A'∧A1++(o,e)::A2⊆A')∧∀{w0:World} {F:Nat→Prop} w,Hp w0 F m w→Hp w0 F (arM A'::r) w:=by
 cases hg:zi6 e key with
 |none=>
  rw[ho hg,qfp he hg,hg]at hs
  rw[ho hg,qfp he hg]
  exact⟨_,⟨aU _ (.head _),fun _ h=>h⟩,fun w h=>zwt (A1:=A1) (A2:=A2) (p:=(o,e)) (m:=zef (A1.flatMap dmA++A2.flatMap dmA)::apI (dmA (o,e)) r) qt4 ((h.perm hs.perm).sub (.cons_cons _ (.cons_cons _ (.cons_cons _ (.cons _ (.refl _))))))⟩
 |some v=>
  rw[hg]at hs
  refine⟨(o',zfy e key)::(A1++(o,e)::A2),⟨.head _,fun _ h=>.tail _ h⟩,fun w h=>?_⟩
  have h1:=Hp.open1 (L:=dmA (o,e)) ((h.perm hs.perm).perm (zfq _ _ _ _ _))
  exact qfk (p:=(o,e)) (q:=(o',zfy e key)) (m:=apI (dmA (o,e)) (zef (A1.flatMap dmA++A2.flatMap dmA)::apI (dmA (o',zfy e key)) r)) qt4 h1
theorem qt7{o':Om}{key:K}{A1 A2:List Mp}{r:List Eng.Item}(he:Es e)(ho:zi6 e key=none→o'=o)(k:∀A',(o',zfy e key)∈A'∧A1++(o,e)::A2⊆A'→HL P ops Q N rest l (Hp w0 F (arM A'::r)))
  (hs:Fnds (zef (A1.flatMap dmA++A2.flatMap dmA)::apI (dmA (o',zfy e key)) [zef (if (zi6 e key).isSome then dmA (o,e)else[])]) m r:=by exact qt4):HL P ops Q N rest l (Hp w0 F m):=by
 obtain⟨A',hA,hI⟩:=qkk he ho hs
 exact zcy (fun w h=>hI w h) (k A' hA)
theorem qtr(hM:M[i]? =some (o,e))(h8:M.length=8){A:List Mp}(hA:(o,e)∈A)(he:Es e)(key:K)(hb:e.length≤1000000):
  Cw Tryz.prog 94 #[mfV M,.int .i64 (i:Nat),kV key] [arM A] (fun x:Om×List Mp=>.tuple #[mfV (M.set i (x.1,zfy e key)),.bool (zi6 e key).isSome]) (fun x=>(x.1,zfy e key)∈x.2∧A⊆x.2) (fun x=>[arM x.2]):=by
 obtain⟨hi, -⟩:=aF.1 hM
 obtain⟨A1,A2,rfl⟩:=List.append_of_mem hA
 refine qnp [_,_,_] Tryz.func94 rfl fun w0=>?_
 simp only[zaa]
 refine goA ?_
 refine zbp rfl rfl fun b3 hb3=>?_
 refine zam rfl rfl fun b6 hb6=>?_
 refine goA ?_
 refine l_w rfl (zgp (xs:=dmE (o,e)) (c:=dmC o e) rfl rfl (fun w' hw'=>by rw[aJ];exact qvk hM (hw'.get (b:=b3) mm)) rfl) ?_
 refine goA ?_
 refine zcy (fun _ h=>zza qt5 h) ?_
 refine lC (qwf o e he key hb) fun o' ho'=>?_
 refine qt7 (A1:=A1) (A2:=A2) he ho' fun A' hA'=>?_
 refine goA ?_
 refine zam rfl rfl fun b8 hb8=>?_
 refine goA ?_
 refine lSa (cs':=dmC o' (zfy e key)) (h1:=by simp[zb7,dmC,zc3]) ?_
 refine goA ?_
 refine lSR (off:=0+i*2) (V:=dmE (o',zfy e key)) (by rw[zce h8,zoz];omega) (by simp[zb7,dmE,zc3]) ?_
 rw[aJ,qg1 zoz hi]
 have h8':(M.set i (o',zfy e key)).length=8:=by rw[bE,h8]
 refine goA ?_
 refine l_w rfl (zcw (cs:=(zc6 dmE (M.set i (o',zfy e key))).toArray) rfl (by rw[aC,zce h8'];rfl) mm) ?_
 refine goA ?_
 refine lSa (cs':=(zc6 dmE (M.set i (o',zfy e key))).toArray) (hT:=by rw[aC,zce h8'];rfl) (h1:=zc8 _) (h2:=by rw[aC,zce h8'];rfl) ?_
 refine goA ?_
 exact xC2 (o',A') hA' (hf:=rfl) (h1:=⟨_,rfl,zaq (by rw[aC,zce h8'];rfl) mm⟩)
def zbu(R:List Nat):Bys:=R.flatMap (beN 2)++List.replicate 496 0
theorem znf(R:List Nat):(R.flatMap (beN 2)).length=2*R.length:=by
 induction R with
 |nil=>rfl
 |cons a R ih=>rw[aX,aA,zal,ih,aR];omega
theorem zem(h:R.length=8):(zbu R).length=512:=by
 unfold zbu
 rw[aA,cE,znf,h]
theorem qei{x:Nat}(h:R[i]? =some x):(R.take (i+1)).flatMap (beN 2)=(R.take i).flatMap (beN 2)++beN 2 x:=by
 rw[cV,h,bD]
 simp
theorem qn0(h:zbq (foI c R busy err s) w0)(hw:Hp w0 none' m w)(ha:R[i]? =some a):w.cell? ⟨c.b,1+i*4+3,none⟩=some (.int .i64 (a:Nat)):=by
 have h1:=((h.keep hw).1.1 _ (.head _)).1
 rw[qbp ha]at h1
 have h2:=znr h1 3 _ rfl
 rwa[qj5 ha]at h2
theorem zpq(hl:R.length=8)(hR:∀a∈R,a<65536)(w:World)(h:zbq (foI c R busy err s) w):
  Ct Tryz.prog 89 #[.pointer (some ⟨c.b,0,none⟩)] w none' (fun o:Option (Nat×Nat)=>slV o 512) (fun _=>True) (fun o=>[own 5 1 o 512 (zae (zbu R))]):=by
 refine zes [_] Tryz.func89 rfl rfl ?_
 simp only[zaa]
 refine goA ?_
 refine zdy rfl rfl kQ rfl (fun w1 hw1=>zg6 w1) fun x hx=>?_
 refine goA ?_
 refine zc0 (α:=Nat×Option (Nat×Nat)) (fun y=>[(0,.pointer (some ⟨c.b,0,none⟩)),(3,.pointer (some ⟨x,0,none⟩)),(8,.int .i64 (y.1:Nat))]) (fun y=>y.1≤8) (fun y=>pks x y.2 ((R.take y.1).flatMap (beN 2))) (fun y=>8 - y.1) (0,none) ⟨rfl,rfl,rfl,trivial⟩ (bA _) (fun w' hw'=>hw') fun⟨i,o⟩ h1=>?_
 simp only at h1⊢
 have hfl:=znf (R.take i)
 rw[aM]at hfl
 by_cases hi:i<8
 ·obtain⟨a,ha⟩:∃a,R[i]? =some a:=⟨_,aB oQ⟩
  have hab:=hR a (bH ha)
  refine goA ?_
  refine l_w rfl (za0 (v:=.int .i64 (a:Nat)) rfl rfl (fun w' hw'=>qn0 h hw' ha)) ?_
  refine goA ?_
  refine lCu (pks x o ((R.take i).flatMap (beN 2))) rfl (by simp[zab,zac]) (fun w1 hw1 hh1 ha1=>zdr x o _ 2 a (.inr (.inl rfl)) oQ oQ w1 hh1 ha1) fun⟨o',_⟩=>?_
  dsimp only
  rw[←qei ha]
  refine goA ?_
  exact zaw (i+1,o') ⟨rfl,rfl,rfl,trivial⟩ hi (fun w' hw'=>hw') (by simp only;omega)
 ·rw[bI oQ]at hfl⊢
  refine goA ?_
  refine lPu rfl (fun w1 hw1=>zhj 496 dQ w1) ?_
  refine goA ?_
  refine lCu (pks x o (R.flatMap (beN 2))) rfl (by simp[zab,zac]) (fun w1 hw1 hh1 ha1=>zen x o _ ⟨(List.replicate 496 (0:UInt8)).toArray⟩ (by rw[hfl];show _+(List.replicate 496 (0:UInt8)).toArray.size≤_;rw[aC,cE];omega) w1 hh1 ha1) fun⟨o2,_⟩=>?_
  rw[show(⟨(List.replicate 496 (0:UInt8)).toArray⟩:ByteArray).data.toList=List.replicate 496 0 from rfl,show R.flatMap (beN 2)++List.replicate 496 0=zbu R from rfl]
  dsimp only
  refine goA ?_
  have hrl:=zem hl
  refine lCu (pks x o2 (zbu R)) rfl (by simp[zab,zac]) (fun w1 hw1 hh1 ha1=>zdv x o2 _ (by rw[hrl];decide) w1 hh1 ha1) fun⟨o3,_⟩=>?_
  rw[hrl]
  refine goA ?_
  exact zbd o3 rfl rfl rfl trivial (.cons_cons _ (aL _)) (by simp[zac])
def foX(c:Fc)(X:List Value)(busy:Bool)(err:Nat):Eng.Item:=pt c.b (.cells (.pointer (some ⟨c.pb,0,none⟩)::(X++[.bool busy,.int .i64 (err:Int)])).toArray 119 (0,0))
def qny(c:Fc)(X:List Value)(busy:Bool)(err:Nat)(s:Pg):List Eng.Item:=[foX c X busy err,pgI s c.d,dkI c.d,tzI]
theorem qsr(c:Fc)(R:List Nat)(busy:Bool)(err:Nat):foX c (frT c.pb 0 R) busy err=foC c R busy err:=rfl
theorem qdi(c:Fc)(X:List Value)(busy:Bool)(err:Nat):(foX c X busy err).Stable none':=zab _ _ _
theorem zpp(c:Fc)(X:List Value)(busy:Bool)(err:Nat)(s:Pg):∀it∈qny c X busy err s,it.Stable none':=by
 intro it hm
 rcases hm with _|⟨_,hm⟩
 ·exact qdi c X busy err
 ·exact zgv s c.d it hm
theorem zun(pb:Nat):∀(A:List Nat) (i a:Nat),frT pb i (A++[a])=frT pb i A++[.pointer (some ⟨pb,0,none⟩),.int .i64 ((fSh (i+A.length)).kw:Int),.int .i64 ((fSh (i+A.length)).vw:Int),.int .i64 ((a:Nat):Int)]
 | [],_,_=>rfl
 |x::A,i,a=>by
  show _::_::_::_::frT pb (i+1) (A++[a])=_::_::_::_::(frT pb (i+1) A++_)
  rw[zun pb A (i+1) a,aR,show i+1+A.length=i+(A.length+1) by omega]
theorem qnz{pb:Nat}{X T:List Value}(ha:R[i]? =some a)(hX:X.length=4*R.length):
  put (.pointer (some ⟨pb,0,none⟩)::((frT pb 0 (R.take i)++X.drop (4*i))++T)) (1+i*4) [.pointer (some ⟨pb,0,none⟩),.int .i64 ((fSh i).kw:Int),.int .i64 ((fSh i).vw:Int),.int .i64 ((a:Nat):Int)]= .pointer (some ⟨pb,0,none⟩)::((frT pb 0 (R.take (i+1))++X.drop (4*(i+1)))++T):=by
 have hi:=(aF.1 ha).1
 have hl:(frT pb 0 (R.take i)).length=4*i:=by rw[zhr,aM];omega
 have hd:X.drop (4*i)=(X.drop (4*i)).take 4++X.drop (4*(i+1)):=by
  conv=>lhs;rw[←bF 4 (X.drop (4*i))]
  rw[lJ,show 4*i+4=4*(i+1) by omega]
 have h4:((X.drop (4*i)).take 4).length=4:=by rw[aM,aZ];omega
 rw[cV,ha]
 show _=_::((frT pb 0 (R.take i++[a])++_)++T)
 rw[zun,aJ,aM,show min i R.length=i by omega]
 generalize frT pb 0 (R.take i)=A at hl⊢
 generalize (X.drop (4*i)).take 4=Z at hd h4
 rw[hd]
 unfold put
 rw[show 1+i*4=A.length+1 by omega,List.take_succ_cons,show A++(Z++X.drop (4*(i+1)))++T=A++(Z++(X.drop (4*(i+1))++T)) by simp only[aG],fT rfl]
 rw[show A.length+1+[Value.pointer (some ⟨pb,0,none⟩),.int .i64 ((fSh i).kw:Int),.int .i64 ((fSh i).vw:Int),.int .i64 ((a:Nat):Int)].length=(A.length+Z.length)+1 by rw[h4];rfl,iM,←aG A Z,List.drop_left' (by rw[aA])]
 simp only[aD,aG,aH]
theorem qj3{pb:Nat}{Y:List Value}(ha:R[i]? =some a):(.pointer (some ⟨pb,0,none⟩)::(frT pb 0 (R.take (i+1))++Y):List Value)[1+i*4+3]? =some (.int .i64 (a:Nat)):=by
 have hi:=(aF.1 ha).1
 have hl:(frT pb 0 (R.take i)).length=4*i:=by rw[zhr,aM];omega
 rw[cV,ha]
 show(_::(frT pb 0 (R.take i++[a])++Y):List Value)[_]? =_
 rw[zun,aG,show 1+i*4+3=(4*i+3)+1 by omega,gA,cX oQ,hl,gC]
 rfl
theorem qh5(ha:R[i]? =some a)(hab:a<65536)(T:Bys):opN 2 ((R.drop i).flatMap (beN 2)++T,false)=(a,((R.drop (i+1)).flatMap (beN 2)++T,false)):=by
 obtain⟨hi,rfl⟩:=aF.1 ha
 rw[cB hi,aX,aG,zgc (by simpa using hab)]
theorem zpo(h:Fok c g s)(h1N:1<c.N){X:List Value}(hX:X.length=32)(hl:R.length=8)(hR:∀a∈R,a≠1∧a<c.n)(hW:g.W 1=zbu R):
  Cw Tryz.prog 56 #[.pointer (some ⟨c.b,0,none⟩)] (qny c X busy err s) (fun _:Pg=>.int .i64 0) (fun s'=>Fok c g s') (fun s'=>[foI c R busy err s']):=by
 intro w hw ha
 have h0:Tok (frC c [] false 0 0) g s:=h
 have hb:s.b=c.pb:=h0.b
 have hpg:pageB s c.d.D 1=g.W 1:=h0.pg (aY _) h1N
 have h':=h0.page (i:=1) h1N
 have hsn:s.n=c.n:=h0.st.hn
 have hpp:=fun w1=>zl8 (zb1 s c.d.D 1) c.d w1
 rw[show(zb1 s c.d.D 1).b=c.pb by rw[qhq];exact hb,show(zb1 s c.d.D 1).n=c.n from h'.st.hn]at hpp
 have hn1:c.n≤1024:=h0.n2
 have h1n:1<c.n:=aW h1N h0.N2
 refine za2 [_] _ Tryz.func56 rfl rfl hw ha ?_
 simp only[zaa]
 unfold qny
 refine goA ?_
 rw[←hb]
 refine zay [1,2,0,3] rfl rfl ?_
 refine lCu [pgI s c.d,dkI c.d] rfl (zdp s c.d) (fun w1 hw1 hh1 ha1=>zhi s c.d h0.ok h0.lives h0.wait h0.st.dead h0.st.ok 1 oQ w1 hh1 ha1) fun⟨b,_⟩=>?_
 rw[hpg,hW]
 dsimp only
 refine goA ?_
 refine zdy rfl rfl kQ rfl (fun w1 hw1=>zih (some ⟨b,0,none⟩) 512 512 (zbu R) (zem hl) dQ w1 (qch (hw1.item (rdI b (zbu R)) (.head _)).1)) fun x hx=>?_
 obtain⟨bo,oD⟩:=x
 simp only at hx⊢
 refine goA ?_
 have hsD:(own 5 1 oD 512 (zae (zbu R))).Stable none':=zac _ _ _ _ _ _
 generalize own 5 1 oD 512 (zae (zbu R))=D at hx hsD
 simp only[aD,aH]
 refine zc0 (α:=Nat×Option Addr×Nat) (fun y=>[(0,.pointer (some ⟨c.b,0,none⟩)),(3,.slice (some ⟨b,0,none⟩) 512 512),(5,.pointer (some ⟨bo,0,none⟩)),(21,.int .i64 (y.1:Nat))]) (fun y=>y.1≤8∧zjg D y.2.1 y.2.2 ((R.drop y.1).flatMap (beN 2)++List.replicate 496 0))
  (fun y=>[opI bo y.2.1 y.2.2 ((R.drop y.1).flatMap (beN 2)++List.replicate 496 0,false),D,foX c (frT c.pb 0 (R.take y.1)++X.drop (4*y.1)) busy err,rdI b (zbu R),pgI (zb1 s c.d.D 1) c.d,dkI c.d,tzI]) (fun y=>8 - y.1) (0,slA oD,slC oD) ⟨rfl,rfl,rfl,rfl,trivial⟩ ⟨bA _,hx⟩ (fun w' hw'=>hw'.pick [0,1,5,2,3,4,6] rfl rfl) fun⟨i,y⟩ ⟨i1,i2⟩=>?_
 simp only at i1 i2⊢
 by_cases hi:i<8
 ·obtain⟨a,ha⟩:∃a,R[i]? =some a:=⟨_,aB oQ⟩
  obtain⟨ha1,ha2⟩:=hR a (bH ha)
  have hop:=qh5 ha oQ (List.replicate 496 0)
  have hput:=qnz (pb:=c.pb) (T:=[.bool busy,.int .i64 (err:Int)]) ha (X:=X) oQ
  have hfl:=znf (R.drop i)
  rw[aZ]at hfl
  refine goA ?_
  refine zap [2,3,4,5,6] 15 rfl rfl kQ ?_
  refine goE ?_
  refine zat 7 ⟨kQ,dQ⟩ rfl rfl (zfc rfl kQ rfl (fun w1 hw1=>zxa hi w1)) (fun _ _ h=>goH h) fun _=>?_
  refine goE ?_
  refine zat 9 ⟨kQ,dQ⟩ rfl rfl (zfb (pre:=[opI bo y.1 y.2 ((R.drop i).flatMap (beN 2)++List.replicate 496 0,false),D]) rfl kQ rfl (by simp[zak,hsD]) (fun w1 hw1 hh1 ha1=>zhh a _ hop hsD i2 (.inr (.inl rfl)) (by simp only[aA,cE];omega) hh1 ha1)) (fun _ _ h=>goH h) fun⟨y',hy'⟩=>?_
  refine goE ?_
  unfold foX
  refine zet ⟨kQ,kQ⟩ rfl rfl (zah (zdf _ _ _ _) (zjz (cs:=.pointer (some ⟨c.pb,0,none⟩)::((frT c.pb 0 (R.take i)++X.drop (4*i))++[.bool busy,.int .i64 (err:Int)])) (V:=[.pointer (some ⟨c.pb,0,none⟩),.int .i64 ((fSh i).kw:Int),.int .i64 ((fSh i).vw:Int),.int .i64 ((a:Nat):Int)]) rfl rfl rfl rfl rfl rfl (by simp only[aR,aA,zhr,aM,aZ,eJ];omega))) fun _=>?_
  rw[hput]
  refine goA ?_
  refine l_w rfl (za0 (v:=.int .i64 (a:Nat)) rfl rfl (fun w' hw'=>by have:=zbf (hw'.get (.head _)) _ _ (by rw[aG];exact qj3 ha);rwa[aJ]at this)) ?_
  refine goA ?_
  refine lPu rfl (fun w1 hw1=>hpp w1 (zbq.of (hw1.item (pgI (zb1 s c.d.D 1) c.d) mm) (zbv _ _))) ?_
  refine goA ?_
  exact zaw (i+1,y') ⟨rfl,rfl,rfl,rfl,trivial⟩ ⟨hi,hy'⟩ (fun w' hw'=>hw'.pick [1,2,0,3,4,5,6] rfl rfl) (by simp only;omega)
 ·have hi8:i=8:=oQ
  subst hi8
  rw[bI oQ,eG (by omega:X.length≤4*8),bB,qsr]
  refine goA ?_
  refine zcy (m':=foI c R busy err (zb1 s c.d.D 1)::[rdI b (zbu R)]) (fun w' hw'=>zhe (m:=[rdI b (zbu R)]) (hw'.pick [2,4,5,6,3] rfl rfl)) ?_
  refine zdy rfl rfl kQ rfl (fun w1 hw1=>zpq hl (fun a ha=>by have:=(hR a ha).2;omega) w1 (zbq.of (hw1.item _ (.head _)) (zad _))) fun x hx=>?_
  refine goA ?_
  refine zch (fun w hw=>(zas (hw.item (own 5 1 x 512 (zae (zbu R))) (.head _)).1).1) fun f1=>?_
  rw[f1]
  refine lPu rfl (fun w1 hw1=>zfp (slA x) (some ⟨b,0,none⟩) 512 512 (slC x) 512 (zbu R) (zbu R) (zem hl) (zem hl) w1 (za8 (hw1.item (own 5 1 x 512 (zae (zbu R))) mm).1) (qch (hw1.item (rdI b (zbu R)) mm).1)) ?_
  rw[decide_eq_true (show zbu R=zbu R from rfl)]
  refine goA ?_
  exact zbd (zb1 s c.d.D 1) rfl rfl rfl (Tok.fok (R:=[]) (busy:=false) (err:=0) (i:=0) h') (.cons _ (.cons_cons _ (aL _))) (zb3 _ _ _ _ _)
end Go.Proofs.YthafakdplhdfjaaGreatDoor
namespace Go.Proofs.YthafakdplhdfjaaGreatDoor
open Go.RowKit Go.Eng Go.Eng.Bm
end Go.Proofs.YthafakdplhdfjaaGreatDoor
namespace Go.Proofs.YthafakdplhdfjaaGreatDoor
open Go.RowKit Go.Eng Go.Eng.Bm
def needC'(C:PR):Nat:=(514*C.length+496)/497
def cmP(s:Pg)(d:Dk)(n secs:Nat)(note:Bys)(V:List Bys)(C:PR)(B:Nat)(x:Nat×Dk×Pg):Prop:=x.2.1.b=d.b∧x.2.2.b=s.b∧
  ((x.1=6∧secs<needC' C∧x.2.1.D=d.D∧x.2.2={ s with C:=[] })∨
   (needC' C≤secs∧x.1=0∧zig d.D x.2.1.D∧StX x.2.2 x.2.1.D n secs note (zd9 V C) [] (B+601))∨
   (needC' C≤secs∧x.1=4∧d.D.left≠none∧x.2.2.dead=true∧(Off x.2.1.D n secs note V (B+601)∨Off x.2.1.D n secs note (zd9 V C) (B+601))))
theorem qsm(s:Pg)(D:Dsk)(x:PR×List Nat):(cmR s D x).b=s.b:=by
 have h1:(zoo s D).2.2.b=s.b:=by unfold zoo;split<;>rfl
 have h2:(cmF s D).2.2.b=s.b:=by
  unfold cmF
  split
  ·exact h1
  ·exact h1
 unfold cmR
 split
 ·exact h2
 ·exact h2
theorem ql8{s:Pg}{D:Dsk}{x:PR×List Nat}(h:(cmF s D).1=4):(cmR s D x).dead=true:=by
 unfold cmR
 rw[if_neg oQ]
 unfold cmF at h⊢
 split at h<;>rename_i h0
 ·rw[if_pos h0]
  unfold qey at h⊢
  simp only at h⊢
  rw[decide_eq_true h,kZ]
 ·rw[if_neg h0]
  unfold zoo at h⊢
  split at h<;>rename_i h1
  ·rw[if_pos h1]
   simp only at h⊢
   rw[decide_eq_true h,kZ]
  ·cases h
theorem zl7(s:Pg)(d:Dk)(n secs:Nat)(note:Bys)(V:List Bys)(C:PR)(B:Nat)(hst:StX s d.D n secs note V C B)(hB:B+700<9223372036854775808)(hC0:s.C≠[]):
  Cw Tryz.prog 80 #[.pointer (some ⟨s.b,0,none⟩)] [pgI s d,dkI d,ctI] (fun x:Nat×Dk×Pg=>.int .i64 (x.1:Int)) (cmP s d n secs note V C B) (fun x=>[pgI x.2.2 x.2.1,dkI x.2.1,ctI]):=by
 intro w hw ha
 have hneed:=hst.need hC0
 obtain⟨TS,h⟩:=hst.st
 have z:=h.siz
 have hn:=h.hn
 have hs:=h.hsecs
 have hnx:=h.next
 have hs2:=z.s2
 have hs1:=z.s1
 have hn2:=z.n2
 have hle:=hst.le
 have hmany:=hst.many
 have hneed':zao (tC s).length=needC' C:=hneed
 have hneedle:zao (tC s).length≤100000:=by rw[hneed];omega
 have hRl:s.R.length≤1024:=by
  have:=zkk h.Rn (L:=List.range n) fun x hx=>dL.2 (h.Rk x hx).2.2
  rw[gB]at this
  omega
 have hcom:=hst.commit hB hC0
 refine Ct.imp (zr1 s d z.ok hst.keep hst.wait hst.dead oQ h.log.hok oQ h.log.usedle oQ h.log.c01 h.log.dead (by rw[hn];exact h.Kok) (by rw[hn];exact h.Cok) (fun i hi=>cI.1 (h.Rk i hi).1) hRl oQ hC0 w hw ha) ?_
 rintro⟨d',x2⟩ ⟨⟨k1, -,k3⟩,kg⟩
 simp only at k1 k3 kg
 rw[hs,hneed']at k3 kg
 simp only[hs,hneed']
 by_cases hlt:secs<needC' C
 ·rw[if_pos hlt]at k3
  refine⟨(6,d',{ s with C:=[] }),?_,⟨k1,rfl,.inl ⟨rfl,hlt,k3,rfl⟩⟩,?_⟩
  ·simp only[if_pos hlt]
  ·simp only[if_pos hlt]
 ·rw[if_neg hlt]at k3
  have hge:needC' C≤secs:=oQ
  refine⟨((cmF s d.D).1,d',cmR s d.D x2),?_,⟨k1,qsm _ _ _,.inr ?_⟩,?_⟩
  ·simp only[if_neg hlt]
  ·rcases hcom hge with ⟨e,hl,hx⟩ |⟨e,hlf,ho⟩
   ·refine .inl ⟨hge,e,?_,?_⟩
    ·show zig d.D d'.D;rw[k3];exact hl
    ·show StX (cmR s d.D x2) d'.D n secs note (zd9 V C) [] (B+601)
     rw[k3];exact hx x2 (kg hlt e)
   ·refine .inr ⟨hge,e,hlf,ql8 e,?_⟩
    show Off d'.D n secs note V (B+601)∨Off d'.D n secs note (zd9 V C) (B+601)
    rw[k3];exact ho
  ·simp only[if_neg hlt]
end Go.Proofs.YthafakdplhdfjaaGreatDoor
namespace Go.Proofs.YthafakdplhdfjaaGreatDoor
open Go.RowKit Go.Eng Go.Eng.Bm Go.Eng.Tr
structure Aft (c:Fc) (g:Sg) (R:List Nat) (x:Fc×Pg):Prop where
 b:x.1.b=c.b
 pb:x.1.pb=c.pb
 N:x.1.N=c.N
 n:x.1.n=c.n
 secs:x.1.secs=c.secs
 note:x.1.note=c.note
 db:x.1.d.b=c.d.b
 left:x.1.d.D.left=none
 B:x.1.B≤c.B+601
 ok:∃g',Fok x.1 g' x.2∧g'.S=g.S∧(∀i,i≠1→g'.W i=g.W i)∧g'.W 1=zbu R
 clean:x.2.C=[]
theorem zu8{C:PR}(h:∀i,([]:PR).lookup i=C.lookup i):C=[]:=by
 cases C with
 |nil=>rfl
 |cons p C=>have:=h p.1;rw[cJ]at this;simp at this
variable{c:Fc}{g:Sg}{s:Pg}
theorem Fok.need(h:Fok c g s)(hr:(514*c.N+496)/497≤c.secs):needC' s.C≤c.secs:=by
 have h0:Tok (frC c [] false 0 0) g s:=h
 have hC:PR.Ok s.C c.N:=fun p hp=>by
  have h1:=h0.st.Cok p hp
  refine⟨Nat.lt_of_not_le fun hn=>?_,h1.2⟩
  have h2:=h0.low p.1 hn
  rw[qb2 h0.st.hCn hp]at h2
  cases h2
 have:=zz7 hC h0.st.hCn
 have h3:(514*s.C.length+496)/497≤(514*c.N+496)/497:=Nat.div_le_div_right oQ
 exact bZ h3 hr
theorem Fok.over{s':Pg}{d':Dk}(h:Fok c g s)(hb:s'.b=s.b)(hst:StX s' d'.D c.n c.secs c.note (zd9 c.V s.C) [] (c.B+601)):Fok { c with d:=d',V:=zd9 c.V s.C,B:=c.B+601 } g s'∧s'.C=[]:=by
 have h0:Tok (frC c [] false 0 0) g s:=h
 have hC:s'.C=[]:=zu8 hst.eC
 have hv:∀i,i<c.n→ze5 (zd9 c.V s.C) s'.C i=ze5 c.V s.C i:=fun i hi=>by
  rw[hC]
  show(([]:PR).lookup i).getD ((zd9 c.V s.C).getD i [])=_
  rw[zx6 (by have:=h0.st.len;exact Nat.lt_of_lt_of_eq hi this.symm)]
  rfl
 refine⟨⟨hst.self',hb.trans h0.b,fun i h1 h2=>(hv i h2).trans (h0.W i h1 h2),?_,h0.sh,h0.N1,h0.N2,h0.n2,fun i _=>by rw[hC];rfl,h0.hi⟩,hC⟩
 show zy6 c.n (ze5 (zd9 c.V s.C) s'.C 0) g.S
 rw[hv 0 h0.n1]
 exact h0.S
theorem zh1(c:Fc)(R:List Nat)(busy:Bool)(err:Nat)(s:Pg):∀it∈[foI c R busy err s,ctI],it.Stable none':=by
 intro it hm
 rcases hm with _|⟨_,_|⟨_,hm⟩⟩
 ·exact zad _
 ·exact zcb _
 ·cases hm
theorem zuh(h:Fok c g s)(h1N:1<c.N)(hroom:(514*c.N+496)/497≤c.secs)(hB:c.B+700<9223372036854775808)(hleft:c.d.D.left=none){R R0:List Nat}(hl:R.length=8)(hR:∀a∈R,a<65536)(hl0:R0.length=8)(hW:g.W 1=zbu R0){busy:Bool}{err:Nat}:
  Cw Tryz.prog 54 #[.pointer (some ⟨c.b,0,none⟩)] [foI c R busy err s,ctI] (fun _:Fc×Pg=>.int .i64 0) (Aft c g R) (fun x=>[foI x.1 R busy err x.2,ctI]):=by
 intro w hw ha
 have h0:Tok (frC c [] false 0 0) g s:=h
 have hb:s.b=c.pb:=h0.b
 have hpg:pageB s c.d.D 1=g.W 1:=h0.pg (aY _) h1N
 have h':=h0.page (i:=1) h1N
 have hsn:s.n=c.n:=h0.st.hn
 have hb1:(zb1 s c.d.D 1).b=c.pb:=h'.b
 have hn1:(zb1 s c.d.D 1).n=c.n:=h'.st.hn
 have hn2:c.n≤1024:=h0.n2
 have h1n:1<c.n:=aW h1N h0.N2
 refine za2 [_] _ Tryz.func54 rfl rfl hw ha ?_
 simp only[zaa]
 refine zg8 (m':=foL c R busy err s++[ctI]) (fun w h=>zk7 h) ?_
 unfold foL
 simp only[aD,aH]
 refine goA ?_
 rw[←hb]
 refine zay [1,2,0,3,4] rfl rfl ?_
 refine lCu [pgI s c.d,dkI c.d] rfl (zdp s c.d) (fun w1 hw1 hh1 ha1=>zhi s c.d h0.ok h0.lives h0.wait h0.st.dead h0.st.ok 1 oQ w1 hh1 ha1) fun⟨b,_⟩=>?_
 rw[hpg,hW]
 dsimp only
 refine goA ?_
 refine zcy (m':=foI c R busy err (zb1 s c.d.D 1)::[rdI b (zbu R0),ctI]) (fun w' hw'=>zhe (m:=[rdI b (zbu R0),ctI]) (hw'.pick [3,1,2,4,0,5] rfl rfl)) ?_
 refine zdy rfl rfl kQ rfl (fun w1 hw1=>zpq hl hR w1 (zbq.of (hw1.item _ (.head _)) (zad _))) fun x hx=>?_
 simp only[aD,aH]
 refine zch (fun w hw=>(zas (hw.item (own 5 1 x 512 (zae (zbu R))) (.head _)).1).1) fun f1=>?_
 rw[f1]
 refine goA ?_
 refine lPu rfl (fun w1 hw1=>zfp (some ⟨b,0,none⟩) (slA x) 512 512 512 (slC x) (zbu R0) (zbu R) (zem hl0) (zem hl) w1 (qch (hw1.item (rdI b (zbu R0)) mm).1) (za8 (hw1.item (own 5 1 x 512 (zae (zbu R))) mm).1)) ?_
 obtain⟨bb,hbb⟩:∃z,decide (zbu R0=zbu R)=z:=⟨_,rfl⟩
 rw[hbb]
 refine goA ?_
 refine zq3 (w0:=w) (F:=za4 [foI c R busy err s,ctI]) (α:=Pg) (fun _=>[(0,.pointer (some ⟨c.b,0,none⟩)),(4,.int .i64 0)]) (fun s2=>∃g',Fok c g' s2∧g'.S=g.S∧(∀i,i≠1→g'.W i=g.W i)∧g'.W 1=zbu R) (fun s2=>[foI c R busy err s2,ctI]) ?_ fun s2 ⟨g2,k1,k2,k3,k4⟩=>?_
 ·cases bb with
  |true=>
   have e:=of_decide_eq_true hbb
   refine goA ?_
   exact zep (zb1 s c.d.D 1) ⟨rfl,rfl,trivial⟩ ⟨g,Tok.fok (R:=[]) (busy:=false) (err:=0) (i:=0) h',rfl,fun _ _=>rfl,hW.trans e⟩ (fun w' hw'=>hw'.pick [1,3] rfl rfl)
  |false=>
   refine goA ?_
   refine zcy (m':=foL c R busy err (zb1 s c.d.D 1)++[own 5 1 x 512 (zae (zbu R)),ctI]) (fun w h=>zk7 (h.pick [1,0,3] rfl rfl)) ?_
   unfold foL
   simp only[aD,aH]
   refine goA ?_
   rw[←hb1]
   refine zay [1,4,0,2,3,5] rfl rfl ?_
   refine lCu [pgI (zb1 s c.d.D 1) c.d] rfl (zbl _ _) (fun w1 hw1 hh1 ha1=>zqf (zb1 s c.d.D 1) c.d 1 (zbu R) (zem hl) (slA x) (slC x) h'.st.dead oQ w1 hh1 (za8 (hw1.item (own 5 1 x 512 (zae (zbu R))) mm).1) (fun b off e=>zbx hw1 (.head _) ⟨b,off,none⟩ e)) fun⟨_,_⟩=>?_
   have hcc:¬((1:Int)<1∨((zb1 s c.d.D 1).n:Int)≤1):=oQ
   rw[if_neg hcc,if_neg hcc,show(1:Int).toNat=1 from rfl]
   simp only[aD,aH]
   refine goA ?_
   refine zep { zb1 s c.d.D 1 with C:=zeb (zb1 s c.d.D 1).C 1 (zbu R) } ⟨rfl,rfl,trivial⟩ ⟨_,Tok.fok (R:=[]) (busy:=false) (err:=0) (i:=0) (h'.save (aY _) h1N (zem hl)),rfl,fun i hi=>?_,show wr g.W 1 (zbu R) 1=zbu R from ze6 _ _ _⟩ (fun w' hw'=>zhe (m:=[ctI]) (hw'.pick [2,0,3,4,5] rfl rfl))
   show wr g.W 1 (zbu R) i=g.W i
   unfold wr
   rw[if_neg hi]
 ·have k0:Tok (frC c [] false 0 0) g2 s2:=k1
  have hb2:s2.b=c.pb:=k0.b
  refine zg8 (m':=foL c R busy err s2++[ctI]) (fun w h=>zk7 h) ?_
  unfold foL
  simp only[aD,aH]
  refine goA ?_
  rw[←hb2]
  by_cases hC:s2.C=[]
  ·refine lPu rfl (fun w1 hw1=>zvq s2 c.d k0.st.dead hC w1 (zbq.of (hw1.item (pgI s2 c.d) mm) (zbv _ _))) ?_
   refine goA ?_
   refine zbr (m':=foI c R busy err s2::[ctI]) (fun w' hw'=>zhe (m:=[ctI]) hw') ?_
   exact zbd (c,s2) rfl rfl rfl ⟨rfl,rfl,rfl,rfl,rfl,rfl,rfl,hleft,fM _ _,⟨g2,k1,k2,k3,k4⟩,hC⟩ (.refl _) (zh1 _ _ _ _ _)
  ·refine zay [1,2,4,0,3] rfl rfl ?_
   refine lCu [pgI s2 c.d,dkI c.d,ctI] rfl (zdq s2 c.d) (fun w1 hw1 hh1 ha1=>zl7 s2 c.d c.n c.secs c.note c.V s2.C c.B k0.st hB hC w1 hh1 ha1) fun⟨⟨e,d',s3⟩,hx⟩=>?_
   obtain⟨x1,x2,hx⟩:=hx
   have hnd:=k1.need hroom
   simp only at x1 x2 hx⊢
   obtain⟨-,rfl,hlv,hst⟩:needC' s2.C≤c.secs∧e=0∧zig c.d.D d'.D∧StX s3 d'.D c.n c.secs c.note (zd9 c.V s2.C) [] (c.B+601):=by
    rcases hx with ⟨-,h1, -⟩ |hx|⟨-, -,h1, -⟩
    ·omega
    ·exact hx
    ·exact absurd hleft h1
   obtain⟨k5,k6⟩:=k1.over x2 hst
   refine goA ?_
   refine zbr (m':=foI { c with d:=d',V:=zd9 c.V s2.C,B:=c.B+601 } R busy err s3::[ctI]) (fun w' hw'=>zhe (m:=[ctI]) (hw'.pick [3,0,1,4,2] rfl rfl)) ?_
   exact zbd ({ c with d:=d',V:=zd9 c.V s2.C,B:=c.B+601 },s3) rfl rfl rfl ⟨rfl,rfl,rfl,rfl,rfl,rfl,x1,hlv.left hleft,aY _,⟨g2,k5,k2,k3,k4⟩,k6⟩ (.refl _) (zh1 _ _ _ _ _)
end Go.Proofs.YthafakdplhdfjaaGreatDoor
namespace Go.Proofs.YthafakdplhdfjaaGreatDoor
open Go.RowKit Go.Eng Go.Eng.Bm Go.Eng.Tr
variable{n:Nat}{g:Sg}{r:List Rt}
theorem FoV.roots(h:FoV n g r):∀a∈r.map zbj,a≠1∧a<n:=fun a ha=>by
 obtain⟨x,hx,rfl⟩:=aT.1 ha
 obtain⟨i,hi⟩:=List.getElem?_of_mem hx
 have hnd:=h.acc.nodup
 have h1:=h.acc.low 1 (.head _)
 match x,hi,hx with
 |none,_,_=>exact⟨dQ,by show 0<n;omega⟩
 |some ⟨k,t⟩,hi,hx=>
  have hp:pg t∈r.flatMap zjb:=bW.2 ⟨_,hx,zcj t⟩
  refine⟨fun e=>?_,(h.acc.low _ (.tail _ hp)).2⟩
  have e:pg t=1:=e
  rw[e]at hp
  exact(cP.1 hnd).1 hp
def Vok(c:Fc)(r:List Rt):Prop:=∃g,(∀i,1≤i→i<c.n→c.V.getD i []=g.W i)∧zy6 c.n (c.V.getD 0 []) g.S∧(∀i,c.N≤i→i<c.n→g.S i=false)∧FoV c.N g r∧g.W 1=zbu (r.map zbj)
structure Fst (c:Fc) (r:List Rt):Prop where
 N1:1<c.N
 room:(514*c.N+496)/497≤c.secs
 left:c.d.D.left=none
 base:Vok c r
structure Rdy (c:Fc) (r0 r:List Rt) (s:Pg):Prop where
 st:Fst c r0
 now:∃g,Fok c g s∧FoV c.N g r∧g.W 1=zbu (r0.map zbj)
variable{c:Fc}{s:Pg}
theorem Fok.back(h:Fok c g s)(hv:Vok c r):∃g',Fok c g' { s with C:=[] }∧FoV c.N g' r∧g'.W 1=zbu (r.map zbj):=by
 have h0:Tok (frC c [] false 0 0) g s:=h
 obtain⟨g',k1,k2,k3,k4,k5⟩:=hv
 exact⟨g',⟨h0.st.abort,h0.b,k1,k2,h0.sh,h0.N1,h0.N2,h0.n2,fun _ _=>rfl,k3⟩,k4,k5⟩
theorem Fok.keeps(h:Fok c g s)(hC:s.C=[])(hv:FoV c.N g r)(h1:g.W 1=zbu (r.map zbj)):Vok c r:=by
 have h0:Tok (frC c [] false 0 0) g s:=h
 have e:∀i,ze5 c.V s.C i=c.V.getD i []:=fun i=>by rw[hC];rfl
 refine⟨g,fun i h2 h3=>(e i).symm.trans (h0.W i h2 h3),?_,h0.hi,hv,h1⟩
 rw[←e 0]
 exact h0.S
theorem FoV.same{g':Sg}(h:FoV n g r)(hS:g'.S=g.S)(hW:∀i,i≠1→g'.W i=g.W i):FoV n g' r:=by
 refine⟨h.len,fun i x hx=>?_,by rw[hS];exact h.acc⟩
 obtain⟨k1,k2,k3⟩:=h.ok i x hx
 refine⟨k1,k2.frame fun y hy=>hW y fun e=>?_,k3⟩
 subst e
 exact(cP.1 h.acc.nodup).1 (bW.2 ⟨x,bH hx,hy⟩)
structure qsc (c c':Fc):Prop where
 b:c'.b=c.b
 pb:c'.pb=c.pb
 N:c'.N=c.N
 n:c'.n=c.n
 secs:c'.secs=c.secs
 note:c'.note=c.note
 db:c'.d.b=c.d.b
 B:c'.B≤c.B+601
def eeF(er ex:Nat):Nat:=if er=0 then ex else er
theorem zpn{r0:List Rt}(h:Rdy c r0 r0 s)(hB:c.B+700<9223372036854775808){err:Nat}{X:Type}{fd:FuncId}{cs:List Value}(hb:za7 Tryz.prog fd=true)(D:List Eng.Item)(D':X→List Eng.Item)(hsD:∀it∈D,it.Stable none')(hsD':∀x,∀it∈D' x,it.Stable none')(ex er:X→Nat)(rx:X→List Rt)(sx:X→Pg)(φ:X→Prop)(hφ:∀x,φ x→Rdy c r0 (rx x) (sx x))
  (hdo:∀w1,(∀it∈foI c (r0.map zbj) true 0 s::D,zbq it w1)→(foI c (r0.map zbj) true 0 s::D).Pairwise Eng.Item.Apart→Ct Tryz.prog fd cs.toArray w1 (za4 (foI c (r0.map zbj) true 0 s::D)) (fun x:X=>.int .i64 (ex x:Nat)) φ (fun x=>foI c ((rx x).map zbj) true (er x) (sx x)::D' x)):
  Cw Tryz.prog 18 #[.pointer (some ⟨c.b,0,none⟩),.func (.func fd) #[] cs.toArray] (foI c (r0.map zbj) false err s::ctI::D) (fun x:X×Fc×Pg=>.int .i64 (eeF (er x.1) (ex x.1):Nat))
   (fun x=>φ x.1∧qsc c x.2.1∧Rdy x.2.1 (if eeF (er x.1) (ex x.1)=0 then rx x.1 else r0) (if eeF (er x.1) (ex x.1)=0 then rx x.1 else r0) x.2.2) (fun x=>foI x.2.1 ((if eeF (er x.1) (ex x.1)=0 then rx x.1 else r0).map zbj) false (er x.1) x.2.2::ctI::D' x.1):=by
 intro w hw hap
 obtain⟨g,k1,k2,k3⟩:=h.now
 have hl:(r0.map zbj).length=8:=by rw[aE];exact k2.len
 refine za2 [_,_] _ Tryz.func18 rfl rfl hw hap ?_
 simp only[zaa,Nat.reduceAdd]
 refine goA ?_
 refine l_w rfl (zwf (v':=.bool false) (ov fun _ _ _ _ _=>rfl) rfl) ?_
 refine goA ?_
 refine l_w rfl (qpg (c:=c) (R:=r0.map zbj) (s:=s) rfl (.head _) (zl2 hl false err).1 rfl) ?_
 refine goA ?_
 refine zcy (m':=foL c (r0.map zbj) false err s++(ctI::D)) (fun w h=>zk7 h) ?_
 unfold foL
 simp only[aD,aH]
 refine goA ?_
 refine za1 rfl (qb8 hl rfl rfl rfl rfl) fun _=>?_
 refine goA ?_
 refine za1 rfl (qhe (e':=0) hl rfl rfl rfl rfl) fun _=>?_
 refine goA ?_
 refine zcy (m':=(foI c (r0.map zbj) true 0 s::D)++[ctI]) (fun w hw=>(zhe (m:=ctI::D) hw).perm (.cons _ (eD _ _).symm)) ?_
 have hst:∀it∈foI c (r0.map zbj) true 0 s::D,it.Stable none':=fun it hm=>by
  rcases aK.1 hm with rfl|hm
  ·exact zad _
  ·exact hsD it hm
 refine zeh rfl (zx1 (pre:=foI c (r0.map zbj) true 0 s::D) (fs:=[]) (cs:=cs) rfl hb rfl rfl rfl hst (fun w1 hw1 hh1 ha1=>hdo w1 hh1 ha1)) fun⟨x,hx⟩=>?_
 obtain⟨g2,j1,j2,j3⟩:=(hφ x hx).now
 have hl':((rx x).map zbj).length=8:=by rw[aE];exact j2.len
 have j0:Tok (frC c [] false 0 0) g2 (sx x):=j1
 have hb2:(sx x).b=c.pb:=j0.b
 have hlt:∀a∈(rx x).map zbj,a<65536:=fun a ha=>by
  have h5:a<1024:=aW (FoV.roots j2 a ha).2 (bZ j0.N2 j0.n2)
  omega
 refine zcy (m':=foL c ((rx x).map zbj) true (er x) (sx x)++(ctI::D' x)) (fun w hw=>zk7 (hw.perm (.cons _ (eD _ _)))) ?_
 unfold foL
 simp only[aD,aH]
 refine goA ?_
 refine za1 rfl (qb8 hl' rfl rfl rfl rfl) fun _=>?_
 refine goA ?_
 refine l_w rfl (qrw rfl (.head _) (zl2 hl' false (er x)).2 rfl) ?_
 refine goA ?_
 have hfin:∀z:X×Fc×Pg,∀it∈foI z.2.1 ((if eeF (er z.1) (ex z.1)=0 then rx z.1 else r0).map zbj) false (er z.1) z.2.2::ctI::D' z.1,it.Stable none':=fun z it hm=>by
  rcases aK.1 hm with rfl|hm
  ·exact zad _
  ·rcases aK.1 hm with rfl|hm
   ·exact zcb _
   ·exact hsD' z.1 it hm
 obtain⟨ee,hee⟩:∃z,eeF (er x) (ex x)=z:=⟨_,rfl⟩
 refine zq3 (w0:=w) (F:=za4 (foI c (r0.map zbj) false err s::ctI::D)) (α:=Unit) (fun _=>[(0,.pointer (some ⟨c.b,0,none⟩)),(5,.int .i64 (ee:Nat))]) (fun _=>True) (fun _=>foC c ((rx x).map zbj) false (er x)::pgI (sx x) c.d::dkI c.d::tzI::ctI::D' x) ?_ fun _ _=>?_
 ·by_cases h0:er x=0
  ·rw[show ee=ex x by rw[←hee];exact if_pos h0,h0]
   refine goA ?_
   exact zep () ⟨rfl,rfl,trivial⟩ trivial (fun w' hw'=>hw')
  ·rw[show ee=er x by rw[←hee];exact if_neg h0]
   refine goA ?_
   refine l_w rfl (qrw rfl (.head _) (zl2 hl' false (er x)).2 rfl) ?_
   refine goA ?_
   exact zep () ⟨rfl,rfl,trivial⟩ trivial (fun w' hw'=>hw')
 ·by_cases h0:ee=0
  ·subst h0
   refine goA ?_
   refine zcy (m':=[foI c ((rx x).map zbj) false (er x) (sx x),ctI]++D' x) (fun w hw=>zhe (m:=ctI::D' x) hw) ?_
   refine lCu [foI c ((rx x).map zbj) false (er x) (sx x),ctI] rfl (zh1 _ _ _ _ _) (fun w1 hw1 hh1 ha1=>zuh j1 h.st.N1 h.st.room hB h.st.left hl' hlt hl j3 w1 hh1 ha1) fun⟨⟨c',s'⟩,af⟩=>?_
   have af:Aft c g2 ((rx x).map zbj) (c',s'):=af
   obtain⟨a1,a2,a3,a4,a5,a6,a7,a8,a9,⟨g3,b1,b2,b3,b4⟩,a10⟩:=af
   simp only at a1 a2 a3 a4 a5 a6 a7 a8 a9 b1 a10
   simp only[aD,aH]
   refine goA ?_
   have hV:=FoV.same j2 b2 b3
   have hR:Rdy c' (rx x) (rx x) s':=by
    refine⟨⟨by rw[a3];exact h.st.N1,by rw[a3,a5];exact h.st.room,a8,b1.keeps a10 (by rw[a3];exact hV) b4⟩,g3,b1,by rw[a3];exact hV,b4⟩
   exact zbd (x,c',s') rfl rfl (by rw[hee];rfl) ⟨hx,⟨a1,a2,a3,a4,a5,a6,a7,a9⟩,by rw[hee];exact hR⟩ (by simp only;rw[hee];exact .refl _) (hfin (x,c',s'))
  ·obtain⟨g0,c1,c2,c3⟩:=Fok.back j1 h.st.base
   have c0:Tok (frC c [] false 0 0) g0 { sx x with C:=[] }:=c1
   refine goA ?_
   rw[←hb2]
   refine zgb (zcg _ _ _) ?_
   refine lCu [pgI (sx x) c.d] rfl (zbl _ _) (fun w1 hw1 hh1 ha1=>zk2 (sx x) c.d w1 hh1) fun⟨_,_⟩=>?_
   simp only[aD,aH]
   refine zgb (zcg _ _ _) ?_
   refine goA ?_
   refine zcy (m':=qny c (frT c.pb 0 ((rx x).map zbj)) false (er x) { sx x with C:=[] }++(ctI::D' x)) (fun w hw=>hw) ?_
   refine lCu (qny c (frT c.pb 0 ((rx x).map zbj)) false (er x) { sx x with C:=[] }) rfl (zpp _ _ _ _ _) (fun w1 hw1 hh1 ha1=>zpo c1 h.st.N1 (by rw[zhr,hl']) hl (fun a ha=>⟨(FoV.roots c2 a ha).1,aW (FoV.roots c2 a ha).2 c0.N2⟩) c3 w1 hh1 ha1) fun⟨s',hs'⟩=>?_
   have hs':Fok c g0 s':=hs'
   simp only[aD,aH]
   refine goA ?_
   exact zbd (x,c,s') rfl rfl (by rw[hee]) ⟨hx,⟨rfl,rfl,rfl,rfl,rfl,rfl,rfl,fM _ _⟩,by rw[hee,if_neg h0];exact⟨h.st,g0,hs',c2,c3⟩⟩ (by simp only;rw[hee,if_neg h0];exact .refl _) (hfin (x,c,s'))
end Go.Proofs.YthafakdplhdfjaaGreatDoor
