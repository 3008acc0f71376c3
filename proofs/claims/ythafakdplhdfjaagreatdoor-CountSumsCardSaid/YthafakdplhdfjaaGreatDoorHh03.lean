/- Parts: Calls; Keys; Trees of pages. No condition. -/
import Derived.Test.YthafakdplhdfjaaGreatDoorHh02
set_option maxRecDepth 100000
namespace Go.Eng
open Go.RowKit
variable{P:Program}{Q:Exit→Act→World→Prop}{N:Fm}{l:zav}{ops:Array Oper}{rest:List Oper}{w0:World}{F:Nat→Prop}{m m' r:List Item}{ty:TypeId}{pos:String}{after:Array Edge}{g:Option (Nat×Bool)}{d:Nat}
@[reducible] def apI:List Item→List Item→List Item
 | [],r=>r
 |x::L,r=>x::apI L r
theorem zf9:∀(L r:List Item),L++r=apI L r
 | [],_=>rfl
 |_::L,r=>congrArg _ (zf9 L r)
inductive Fnd (x:Item):List Item→List Item→Prop
 |head {m:List Item}:Fnd x (x::m) m
 |tail {y:Item} {m r:List Item} (h:Fnd x m r):Fnd x (y::m) (y::r)
inductive Fnds:List Item→List Item→List Item→Prop
 |nil {m:List Item}:Fnds [] m m
 |cons {x:Item} {L m m' r:List Item} (h:Fnd x m m') (k:Fnds L m' r):Fnds (x::L) m r
variable{b:Nat}
theorem Fnd.ptE{o o':Obj}(h:o=o'):Fnd (pt b o) (pt b o'::m) m:=h▸ .head
theorem Fnd.ownE{e:TypeId}{sz n n':Nat}{o:Option (Nat×Nat)}{xs xs':List Value}(h:n=n')(k:xs=xs'):Fnd (own e sz o n xs) (own e sz o n' xs'::m) m:=h▸k▸ .head
theorem qt4{L:List Item}(h:Fnds L m r:=by repeat first|with_reducible exact .nil |with_reducible exact .head |with_reducible apply Fnds.cons|((with_reducible refine Fnd.ptE ?_);rfl) |((with_reducible refine Fnd.ownE ?_ ?_)<;>rfl) |with_reducible apply Fnd.tail):Fnds L m r:=h
theorem qt5{x:Item}(h:Fnd x m r:=by repeat first|with_reducible exact .head |((with_reducible refine Fnd.ptE ?_);rfl) |with_reducible apply Fnd.tail):Fnd x m r:=h
theorem Fnd.perm{x:Item}:∀{m r:List Item},Fnd x m r→m.Perm (x::r)
 |_,_,.head=>.refl _
 |_,_,.tail h=>(List.Perm.cons _ h.perm).trans (.swap _ _ _)
theorem Fnds.perm:∀{L m r:List Item},Fnds L m r→m.Perm (apI L r)
 |_,_,_,.nil=>.refl _
 |_,_,_,.cons h k=>h.perm.trans (.cons _ k.perm)
variable{fn:Func}{f:FuncId}{c:Code}{pre:List Item}{α:Type}{val:α→Value}{φ:α→Prop}{its:α→List Item}
theorem qnp(vs:List Value)(hf:P.funcs[f]? =some fn)(hb:fn.body=some c)
  (h:∀w0,HT P c (bodyPost P fn (zjn w0 (za4 pre) val φ its)) ⟨fn.ntmps,[],none⟩ (zaa 0 vs) (Hp w0 (za4 pre) pre)) (hn:Nat.ble vs.length fn.ntmps=true:=by rfl):Cw P f vs.toArray pre val φ its:=
 fun w hw ha=>za2 vs pre hf hb hn hw ha (h w)
class Stab (it:Item):Prop where
 st:it.Stable none'
class StabL (L:List Item):Prop where
 st:∀it∈L,it.Stable none'
instance:StabL []:=⟨fun _ h=>nomatch h⟩
instance{a:Item}{L:List Item}[h:Stab a][k:StabL L]:StabL (a::L):=⟨fun it hm=>by
 rcases hm with _|⟨_,hm⟩
 ·exact h.st
 ·exact k.st it hm⟩
instance(b:Nat)(o:Obj):Stab (pt b o):=⟨zab _ _ _⟩
instance(e:TypeId)(sz:Nat)(o:Option (Nat×Nat))(n:Nat)(xs:List Value):Stab (own e sz o n xs):=⟨zac _ _ _ _ _ _⟩
instance(L:List Item):Stab (zef L):=⟨zad _⟩
variable{xs:List Operand}{tys:Array TypeId}{vs:List Value}
theorem lC{us:Array Value}
  (hc:Cw P f us pre val φ its) (k:∀x,φ x→HL P ops Q N rest ((d,val x)::l) (Hp w0 F (apI (its x) r)))
  (hx:evs l xs=some vs:=by rfl) (hu:vs.toArray=us:=by rfl) (hf:Fnds pre m r:=by exact qt4)
  [hst:StabL pre] (hg:okG ops l g=true:=by rfl) (hok:zee N l (.call ⟨.value (.func f),xs.toArray,tys⟩) d=true:=by rfl) (hb:za7 P f=true:=by kernel_rfl):
  HL P ops Q N (⟨some d,.call ⟨.value (.func f),xs.toArray,tys⟩,ty,pos,after,g⟩::rest) l (Hp w0 F m):=
 zcy (m':=pre++r) (fun _ hw=>by rw[zf9];exact hw.perm hf.perm) (zeh hg (zfb hok hb hx hst.st fun w _ hh ha=>by rw[hu];exact hc w hh ha) fun x=>by rw[zf9];exact k x.1 x.2)
variable{rv:ResultVar}{v:Value}
theorem znd{H H':World→Prop}(h:∀w,H' w→H w)(k:zhu P l H rv v):zhu P l H' rv v:=by
 cases rv with
 |tmp t=>exact k
 |cell t ty=>obtain⟨a,h1,h2⟩:=k;exact⟨a,h1,fun w hw=>h2 w (h w hw)⟩
variable{n:Nat}
theorem xC{u:Value}(x:α)(hφ:φ x)(hf:fn.results= #[rv]:=by rfl)(h1:zhu P l (Hp w0 F m) rv u:=by first|exact rfl|exact⟨_,rfl,zb5 rfl (by repeat first|exact .head _|apply List.Mem.tail)⟩ |exact⟨_,rfl,zaq rfl (by repeat first|exact .head _|apply List.Mem.tail)⟩)(e:u=val x:=by rfl)
  (hs:Fnds (its x) m r:=by exact qt4) [hst:StabL (its x)]:HX (bodyPost P fn (zjn w0 F val φ its)) .ret ⟨n,[],none⟩ l (Hp w0 F m):=
 zbr (m':=its x++r) (fun _ hw=>by rw[zf9];exact hw.perm hs.perm) (zbd x hf (znd (fun _ hw=>by rw[zf9]at hw;exact hw.perm hs.perm.symm) h1) e hφ (fP _ _) hst.st)
theorem xC2{rq:ResultVar}{u t:Value}(x:α)(hφ:φ x)(hf:fn.results= #[rv,rq]:=by rfl)(h1:zhu P l (Hp w0 F m) rv u:=by first|exact rfl|exact⟨_,rfl,zb5 rfl (by repeat first|exact .head _|apply List.Mem.tail)⟩ |exact⟨_,rfl,zaq rfl (by repeat first|exact .head _|apply List.Mem.tail)⟩)(h2:zhu P l (Hp w0 F m) rq t:=by first|exact rfl|exact⟨_,rfl,zb5 rfl (by repeat first|exact .head _|apply List.Mem.tail)⟩ |exact⟨_,rfl,zaq rfl (by repeat first|exact .head _|apply List.Mem.tail)⟩)(e: .tuple #[u,t]=val x:=by rfl)
  (hs:Fnds (its x) m r:=by exact qt4) [hst:StabL (its x)]:HX (bodyPost P fn (zjn w0 F val φ its)) .ret ⟨n,[],none⟩ l (Hp w0 F m):=
 zbr (m':=its x++r) (fun _ hw=>by rw[zf9];exact hw.perm hs.perm) (zc1 x hf (znd (fun _ hw=>by rw[zf9]at hw;exact hw.perm hs.perm.symm) h1) (znd (fun _ hw=>by rw[zf9]at hw;exact hw.perm hs.perm.symm) h2) e hφ (fP _ _) hst.st)
theorem lS{T:TypeId}{x y:Operand}{i:Nat}{cs cs2:Array Value}{E:TypeId}(k:HL P ops Q N rest l (Hp w0 F (pt b (.cells cs2 E (0,0))::r)))
  (hx:evO l x=some (.pointer (some ⟨b,i,none⟩)):=by rfl) (hy:evO l y=some v:=by rfl) (hf:Fnd (pt b (.cells cs E (0,0))) m r:=by exact qt5) (hT:(P.info? T).map (·.size)=some 1:=by rfl)
  (h1:v.cells= #[v]:=by first|rfl|exact zct _ _) (h2:v.oneCell'=true:=by first|rfl|exact zc3 _ _) (hi:i<cs.size:=by first|(simp;done) |decide) (hn:cs.setIfInBounds i v=cs2:=by first|((simp only[fJ,List.set_cons_zero,List.set_cons_succ])<;>rfl) |rfl) (hg:okG ops l g=true:=by rfl) (hok:(zez (.store T x y)&&zec l (.store T x y))=true:=by rfl):
  HL P ops Q N (⟨none,.store T x y,ty,pos,after,g⟩::rest) l (Hp w0 F m):=zeh hg (zah hf.perm (zai hok hx hy hT h1 h2 hi)) fun _=>by rw[hn];exact k
theorem lSa{T:TypeId}{x y:Operand}{cs cs':Array Value}{E:TypeId}(k:HL P ops Q N rest l (Hp w0 F (pt b (.cells cs' E (0,0))::r)))
  (hx:evO l x=some (.pointer (some ⟨b,0,none⟩)):=by rfl) (hy:evO l y=some (.agg cs'):=by rfl) (hf:Fnd (pt b (.cells cs E (0,0))) m r:=by exact qt5) (hT:(P.info? T).map (·.size)=some cs'.size:=by rfl)
  (h1:zb7 cs'.toList=true:=by first|rfl|(simp[zb7,zc3];done)) (h2:cs'.size=cs.size:=by rfl) (hg:okG ops l g=true:=by rfl) (hok:(zez (.store T x y)&&zec l (.store T x y))=true:=by rfl):
  HL P ops Q N (⟨none,.store T x y,ty,pos,after,g⟩::rest) l (Hp w0 F m):=zeh hg (zah hf.perm (zaf hok hx hy hT h1 h2)) fun _=>k
theorem goB{p q:Prop}(k:q)(s:Kp q→p:=by intro h;(repeat first|with_reducible (first|apply zr5|apply zkr|apply zno|apply qep|apply zq4|apply ztm|apply zu3|apply zka|apply zfj|apply zg0|apply zfi|apply zd0|apply zeo|apply zfh rfl) |(apply l_w rfl;focus (exact vX)) |refine qp1 rfl ?_ |refine t_T rfl rfl cQ ?_ |refine t_F rfl rfl cQ ?_ |refine l_T rfl rfl cQ ?_ |refine l_F rfl rfl cQ ?_ |refine lS ?_ |refine lSa ?_);exact h.h):p:=s ⟨k⟩
variable{t:Nat}{listed:Array Bool}
theorem qqo{S:World→Prop}(hI:∀w,Hp w0 F m w→Hp w0 F m' w)(k:HD P ops Q S t N n listed l (Hp w0 F m')):HD P ops Q S t N n listed l (Hp w0 F m):=by
 unfold HD at*;exact fun inv a w s hw=>k inv a w s (hI w hw)
variable{s:List Item}
theorem Fnds.hp{w:World}(h:Fnds s m r)(hw:Hp w0 F m w):Hp w0 F s w:=by
 have h1:=hw.perm h.perm
 rw[←zf9]at h1
 exact h1.sub (fP _ _)
theorem dC(i:Nat){us:Array Value}{r':List Item}
  (hc:Cw P f us pre val φ its) (k:∀x,φ x→HD P ops Q (Hp w0 F s) t N n (listed.setIfInBounds i true) ((d,val x)::l) (Hp w0 F (apI (its x) r)))
  (hi0:nth ops.toList i=some ⟨some d,.call ⟨.value (.func f),xs.toArray,tys⟩,ty,pos,after,g⟩:=by rfl) (hx:evs l xs=some vs:=by rfl) (hu:vs.toArray=us:=by rfl) (hf:Fnds pre m r:=by exact qt4)
  (hs:Fnds s r r':=by exact qt4) (hr0:Region.ready .any ops listed=[i]:=by kernel_rfl) (hr1:i<t:=by decide)
  [hst:StabL pre] (hg:okG ops l g=true:=by rfl) (hok:zee N l (.call ⟨.value (.func f),xs.toArray,tys⟩) d=true:=by rfl) (hb:za7 P f=true:=by kernel_rfl):
  HD P ops Q (Hp w0 F s) t N (n+1) listed l (Hp w0 F m):=
 qqo (m':=pre++r) (fun _ hw=>by rw[zf9];exact hw.perm hf.perm) (zat i ⟨hr0,hr1⟩ hi0 hg (zfb hok hb hx hst.st fun w _ hh ha=>by rw[hu];exact hc w hh ha) (fun _ _ h=>hs.hp (h.sub (dY _ _))) fun x=>by rw[zf9];exact k x.1 x.2)
theorem ziv{id:Nat}{rs:List Oper}(s:List Item)(t:Nat)(h:HD P rs.toArray Q (Hp w0 F s) t N rs.length (Array.replicate rs.length false) l (Hp w0 F m))(hs:Fnds s m m':=by exact qt4)(hm:zjo P rs=true:=by kernel_rfl):HT P (.region id rs.toArray true) Q N l (Hp w0 F m):=by
 unfold HT HD at*
 intro a w st hw
 simp only[zjo,bG,eG]at hm
 refine wpIn_mono (wpIn_region_any (Q:=zom Q) hm.1 (zwl (by simpa using hm.2) zon N.r _ _ _ _ (zid (S:=Hp w0 F s) (t:=t) _ _ _ _ ?_))) (fun _ _ _ h=>zpe h)
 have:=h (by simpa using zgh rs.toArray t) a w.drew st hw.drew
 simpa using this
variable{op:Op}
theorem qtg{S H:World→Prop}{i j:Nat}(_hj:qam ops.toList listed.toList [] l 0 ops.toList=some j)(hp:qam ops.toList listed.toList [j] l 0 ops.toList=some i)
  (hi:nth ops.toList i=some ⟨some d,op,ty,pos,after,g⟩) (hok:okL ops N l g op d=true) (hb:znn ops t listed i=true) (hS:∀w,H w→S w) (hv:OV P op ty l S v) (k:HD P ops Q S t N n (listed.setIfInBounds i true) ((d,v)::l) H):HD P ops Q S t N (n+1) listed l H:=d_w [j] hp hi hok hb hS hv k
theorem goP{p q:Prop}(k:q)(s:Kp q→p:=by intro h;(repeat first|(apply d_w [] rfl rfl rfl kQ (fun _ h=>Fnds.hp qt4 h);focus (exact vX)) |refine qez [] rfl rfl rfl kQ (fun _ h=>Fnds.hp qt4 h) ?_ |refine d_T [] rfl rfl rfl rfl cQ ?_ |refine d_F [] rfl rfl rfl rfl cQ ?_ |(apply qtg rfl rfl rfl rfl kQ (fun _ h=>Fnds.hp qt4 h);focus (exact vX)) |refine d_noS rfl rfl rfl rfl kQ (fun _ h=>Fnds.hp qt4 h) ?_);exact h.h):p:=s ⟨k⟩
theorem goQ{p q:Prop}(k:q)(s:Kp q→p:=by intro h;(repeat first|(apply d_w [] rfl rfl rfl kQ (fun _ h=>Fnds.hp qt4 h);focus (exact vX)) |refine qez [] rfl rfl rfl kQ (fun _ h=>Fnds.hp qt4 h) ?_ |refine d_T [] rfl rfl rfl rfl cQ ?_ |refine d_F [] rfl rfl rfl rfl cQ ?_ |(apply qtg rfl rfl rfl rfl kQ (fun _ h=>Fnds.hp qt4 h);focus (exact vX)) |refine d_noS rfl rfl rfl rfl kQ (fun _ h=>Fnds.hp qt4 h) ?_);refine zdn kQ ?_;(repeat first|with_reducible (first|apply zr5|apply zkr|apply zno|apply qep|apply zq4|apply ztm|apply zu3|apply zka|apply zfj|apply zg0|apply zfi|apply zd0|apply zeo|apply zfh rfl) |(apply l_w rfl;focus (exact vX)) |refine qp1 rfl ?_ |refine t_T rfl rfl cQ ?_ |refine t_F rfl rfl cQ ?_ |refine l_T rfl rfl cQ ?_ |refine l_F rfl rfl cQ ?_ |refine lS ?_ |refine lSa ?_);exact h.h):p:=s ⟨k⟩
theorem dV(i:Nat)(k:HD P ops Q (Hp w0 F s) t N n (listed.setIfInBounds i true) ((d,v)::l) (Hp w0 F m))(hi0:nth ops.toList i=some ⟨some d,op,ty,pos,after,g⟩:=by rfl)(hr0:Region.ready .any ops listed=[i]:=by kernel_rfl)(hr1:i<t:=by decide)
  (hv:OV P op ty l (Hp w0 F m) v:=by exact vX) (hs:Fnds s m m':=by exact qt4) (hg:okG ops l g=true:=by rfl) (hok:zee N l op d=true:=by rfl):HD P ops Q (Hp w0 F s) t N (n+1) listed l (Hp w0 F m):=
 zat i ⟨hr0,hr1⟩ hi0 hg (zx2 hok hv) (fun _ _ h=>hs.hp h) fun _=>k
theorem dSa(i:Nat){T:TypeId}{x y:Operand}{cs cs':Array Value}{E:TypeId}{r':List Item}(k:HD P ops Q (Hp w0 F s) t N n (listed.setIfInBounds i true) l (Hp w0 F (pt b (.cells cs' E (0,0))::r)))
  (hi0:nth ops.toList i=some ⟨none,.store T x y,ty,pos,after,g⟩:=by rfl) (hr0:Region.ready .any ops listed=[i]:=by kernel_rfl) (hr1:i<t:=by decide)
  (hx:evO l x=some (.pointer (some ⟨b,0,none⟩)):=by rfl) (hy:evO l y=some (.agg cs'):=by rfl) (hf:Fnd (pt b (.cells cs E (0,0))) m r:=by exact qt5) (hs:Fnds s r r':=by exact qt4) (hT:(P.info? T).map (·.size)=some cs'.size:=by rfl)
  (h1:zb7 cs'.toList=true:=by first|rfl|(simp[zb7,zc3];done)) (h2:cs'.size=cs.size:=by rfl) (hg:okG ops l g=true:=by rfl) (hok:(zez (.store T x y)&&zec l (.store T x y))=true:=by rfl):HD P ops Q (Hp w0 F s) t N (n+1) listed l (Hp w0 F m):=
 zat i ⟨hr0,hr1⟩ hi0 hg (zah hf.perm (zaf hok hx hy hT h1 h2)) (fun _ _ h=>hs.hp (h.sub (.cons _ (.refl _)))) fun _=>k
theorem dS1(i:Nat){T:TypeId}{x y:Operand}{j:Nat}{cs cs2:Array Value}{E:TypeId}{r':List Item}(k:HD P ops Q (Hp w0 F s) t N n (listed.setIfInBounds i true) l (Hp w0 F (pt b (.cells cs2 E (0,0))::r)))
  (hi0:nth ops.toList i=some ⟨none,.store T x y,ty,pos,after,g⟩:=by rfl) (hr0:Region.ready .any ops listed=[i]:=by kernel_rfl) (hr1:i<t:=by decide)
  (hx:evO l x=some (.pointer (some ⟨b,j,none⟩)):=by rfl) (hy:evO l y=some v:=by rfl) (hf:Fnd (pt b (.cells cs E (0,0))) m r:=by exact qt5) (hs:Fnds s r r':=by exact qt4) (hT:(P.info? T).map (·.size)=some 1:=by rfl)
  (h1:v.cells= #[v]:=by first|rfl|exact zct _ _) (h2:v.oneCell'=true:=by first|rfl|exact zc3 _ _) (hi:j<cs.size:=by first|(simp;done) |decide) (hn:cs.setIfInBounds j v=cs2:=by first|((simp only[fJ,List.set_cons_zero,List.set_cons_succ])<;>rfl) |rfl) (hg:okG ops l g=true:=by rfl) (hok:(zez (.store T x y)&&zec l (.store T x y))=true:=by rfl):HD P ops Q (Hp w0 F s) t N (n+1) listed l (Hp w0 F m):=
 zat i ⟨hr0,hr1⟩ hi0 hg (zah hf.perm (zai hok hx hy hT h1 h2 hi)) (fun _ _ h=>hs.hp (h.sub (.cons _ (.refl _)))) fun _=>by rw[hn];exact k
theorem dPF(i:Nat){us:Array Value}(hc:∀w,Hp w0 F m w→Pu P f us w v)(k:HD P ops Q (Hp w0 F s) t N n (listed.setIfInBounds i true) ((d,v)::l) (Hp w0 F m))
  (hi0:nth ops.toList i=some ⟨some d,.call ⟨.value (.func f),xs.toArray,tys⟩,ty,pos,after,g⟩:=by rfl) (hx:evs l xs=some vs:=by rfl) (hu:vs.toArray=us:=by rfl) (hs:Fnds s m m':=by exact qt4) (hr0:Region.ready .any ops listed=[i]:=by kernel_rfl) (hr1:i<t:=by decide)
  (hg:okG ops l g=true:=by rfl) (hok:zee N l (.call ⟨.value (.func f),xs.toArray,tys⟩) d=true:=by rfl) (hb:za7 P f=true:=by kernel_rfl):HD P ops Q (Hp w0 F s) t N (n+1) listed l (Hp w0 F m):=
 zat i ⟨hr0,hr1⟩ hi0 hg (zfc hok hb hx fun w hw=>by rw[hu];exact hc w hw) (fun _ _ h=>hs.hp h) fun _=>k
theorem qi6{e:Exit}(M:List Item)(k:HX Q e N l (Hp w0 F (zef M::r)))(hs:Fnds M m r:=by exact qt4)[hst:StabL M]:HX Q e N l (Hp w0 F m):=zbr (fun _ h=>Hp.close1 hst.st (by rw[zf9];exact h.perm hs.perm)) k
theorem qqv(M:List Item)(k:HL P ops Q N rest l (Hp w0 F (zef M::r)))(hs:Fnds M m r:=by exact qt4)[hst:StabL M]:HL P ops Q N rest l (Hp w0 F m):=zcy (fun _ h=>Hp.close1 hst.st (by rw[zf9];exact h.perm hs.perm)) k
theorem qt7{M:List Item}(k:HL P ops Q N rest l (Hp w0 F (apI M r)))(hs:Fnd (zef M) m r:=by exact qt5):HL P ops Q N rest l (Hp w0 F m):=zcy (fun _ h=>by rw[←zf9];exact Hp.open1 (h.perm hs.perm)) k
theorem dVP{i:Nat}(hp:pick ops listed []=some i)(hi:nth ops.toList i=some ⟨some d,op,ty,pos,after,g⟩)(hv:OV P op ty l (Hp w0 F s) v)(k:HD P ops Q (Hp w0 F s) t N n (listed.setIfInBounds i true) ((d,v)::l) (Hp w0 F m))
  (hb:znn ops t listed i=true:=by kernel_rfl) (hs:Fnds s m m':=by exact qt4) (hg:okG ops l g=true:=by rfl) (hok:zee N l op d=true:=by rfl):HD P ops Q (Hp w0 F s) t N (n+1) listed l (Hp w0 F m):=d_v [] hp hi hb (fun _ h=>hs.hp h) hg hok hv k
theorem que(L:α→zav)(φ:α→Prop)(M:α→List Item)(μ:α→Nat)(x₀:α)(hφ:φ x₀)(round:∀x,φ x→HT P c (Exit.then (qe7 w0 F N L φ M μ x) Q) N (L x) (Hp w0 F (M x)))
  (h₀:Has l (L x₀):=by repeat first|exact trivial|refine⟨rfl,?_⟩) (hs:Fnds (M x₀) m r:=by exact qt4):HT P (.loop c) Q N l (Hp w0 F m):=zc0 L φ M μ x₀ h₀ hφ (fun _ h=>hs.hp h) round
theorem xR{L:α→zav}{M:α→List Item}{μ:α→Nat}{x:α}(y:α)(hφ:φ y)(hm:μ y<μ x)(hl:Has l (L y):=by repeat first|exact trivial|refine⟨rfl,?_⟩)(hs:Fnds (M y) m r:=by exact qt4):HX (Exit.then (qe7 w0 F N L φ M μ x) Q) .normal N l (Hp w0 F m):=zaw y hl hφ (fun _ h=>hs.hp h) hm
end Go.Eng
namespace Go.Eng.Tr
abbrev K:=List UInt8
def kl(a b:K):Prop:=Op.bytesLess a b=true
instance(a b:K):Decidable (kl a b):=inferInstanceAs (Decidable (_=_))
theorem zh3:∀a:K,¬kl a a
 | [],h=>by cases h
 |a::x,h=>by
  unfold kl Op.bytesLess at h
  rw[gU]at h
  rcases h with h|h
  ·exact absurd (of_decide_eq_true h) (UInt8.lt_irrefl _)
  ·rw[bG]at h;exact zh3 x h.2
theorem zb9:∀{a b c:K},kl a b→kl b c→kl a c
 |_,[],_,h,_=>by unfold kl Op.bytesLess at h;cases h
 |_,_::_,[],_,h=>by unfold kl Op.bytesLess at h;cases h
 | [],_::_,_::_,_,_=>rfl
 |a::x,b::y,c::z,h1,h2=>by
  unfold kl Op.bytesLess at h1 h2⊢
  simp only[gU,bG,decide_eq_true_eq,beq_iff_eq]at h1 h2⊢
  rcases h1 with h1|⟨rfl,h1⟩
  ·rcases h2 with h2|⟨rfl,h2⟩
   ·exact .inl (UInt8.lt_trans h1 h2)
   ·exact .inl h1
  ·rcases h2 with h2|⟨rfl,h2⟩
   ·exact .inl h2
   ·exact .inr ⟨rfl,zb9 (a:=x) (b:=y) (c:=z) h1 h2⟩
theorem zu1:∀(a b:K),kl a b∨a=b∨kl b a
 | [],[]=>.inr (.inl rfl)
 | [],_::_=>.inl rfl
 |_::_,[]=>.inr (.inr rfl)
 |a::x,b::y=>by
  unfold kl Op.bytesLess
  simp only[gU,bG,decide_eq_true_eq,beq_iff_eq]
  rcases gX a.toNat b.toNat with h|h|h
  ·exact .inl (.inl (UInt8.lt_iff_toNat_lt.2 h))
  ·obtain rfl:a=b:=UInt8.toNat_inj.1 h
   rcases zu1 x y with h|rfl|h
   ·exact .inl (.inr ⟨rfl,h⟩)
   ·exact .inr (.inl rfl)
   ·exact .inr (.inr (.inr ⟨rfl,h⟩))
  ·exact .inr (.inr (.inl (UInt8.lt_iff_toNat_lt.2 h)))
variable{a b:K}
theorem zhf(h:kl a b):¬kl b a:=fun h'=>zh3 a (zb9 h h')
theorem zi8(h:kl a b):a≠b:=fun e=>zh3 b (e▸h)
theorem qqz(h:¬kl a b)(hne:a≠b):kl b a:=by
 rcases zu1 a b with h1|h1|h1
 ·exact absurd h1 h
 ·exact absurd h1 hne
 ·exact h1
theorem qoa(h:¬kl a b):kl b a∨b=a:=by
 rcases zu1 a b with h1|h1|h1
 ·exact absurd h1 h
 ·exact .inr h1.symm
 ·exact .inl h1
theorem zd5{c:K}(h1:¬kl b a)(h2:kl b c):kl a c:=by
 rcases qoa h1 with h|rfl
 ·exact zb9 h h2
 ·exact h2
theorem zu0{c:K}(h1:kl a b)(h2:¬kl c b):kl a c:=by
 rcases qoa h2 with h|rfl
 ·exact zb9 h1 h
 ·exact h1
def Ks(l:List K):Prop:=l.Pairwise kl
def lb(ns:List K)(t:K):Nat:=(ns.takeWhile fun x=>decide (kl x t)).length
def fd(ns:List K)(t:K):Bool:=decide (ns[lb ns t]? =some t)
theorem qkn(ns:List K)(t:K):lb ns t≤ns.length:=(List.takeWhile_sublist _).length_le
variable{ns:List K}{t:K}
theorem qq5:∀{k:Nat} (h:k<ns.length),k<lb ns t→kl ns[k] t:=by
 induction ns with
 |nil=>intro k h;simp at h
 |cons x r ih=>
  intro k h hk
  by_cases hx:kl x t
  ·have e:lb (x::r) t=lb r t+1:=by simp[lb,hx]
   cases k with
   |zero=>exact hx
   |succ k=>exact ih (k:=k) (by simpa using h) oQ
  ·have e:lb (x::r) t=0:=by simp[lb,hx]
   omega
theorem qsv(hs:Ks ns):∀{k:Nat} (h:k<ns.length),lb ns t≤k→¬kl ns[k] t:=by
 induction ns with
 |nil=>intro k h;simp at h
 |cons x r ih=>
  obtain⟨hs1,hs2⟩:=bI.1 hs
  intro k h hk
  by_cases hx:kl x t
  ·have e:lb (x::r) t=lb r t+1:=by simp[lb,hx]
   cases k with
   |zero=>omega
   |succ k=>exact ih hs2 (k:=k) (by simpa using h) oQ
  ·cases k with
   |zero=>exact hx
   |succ k=>exact fun h'=>hx (zb9 (hs1 _ (aS (by simpa using h))) h')
theorem qq6:∀{i:Nat},i≤ns.length→(∀k (h:k<ns.length),k<i→kl ns[k] t)→(∀h:i<ns.length,¬kl ns[i] t)→lb ns t=i:=by
 induction ns with
 |nil=>intro i h _ _;simp at h;simp[lb,h]
 |cons x r ih=>
  intro i h h1 h2
  cases i with
  |zero=>have:=h2 sQ;simp only[iX]at this;simp[lb,this]
  |succ i=>
   have h3:=h1 0 sQ oQ
   simp only[iX]at h3
   have h4:=ih (i:=i) (by simpa using h) (fun k hk hki=>by have:=h1 (k+1) (by simpa using hk) oQ;simpa using this) (fun hk=>by have:=h2 (by simpa using hk);simpa using this)
   simp only[lb]at h4
   simp[lb,h3,h4]
theorem zly:fd ns t=true↔ns[lb ns t]? =some t:=by simp[fd]
theorem qbl(hs:Ks ns):fd ns t=true↔t∈ns:=by
 rw[zly]
 refine⟨cB,fun h=>?_⟩
 obtain⟨i,hi,rfl⟩:=bJ h
 have e:lb ns ns[i]=i:=qq6 oQ (fun k hk hki=>cD.1 hs k i hk hi hki) (fun _=>zh3 _)
 rw[e,aB hi]
def dn(ns:List K)(t:K):Nat:=if fd ns t then lb ns t+1 else lb ns t
theorem zoh(ns:List K)(t:K):dn ns t≤ns.length:=by
 unfold dn
 split
 ·rename_i h
  have:=(aJ.1 (zly.1 h)).1
  omega
 ·exact qkn ns t
variable{k:Nat}
theorem qqq(h:k<ns.length)(hk:k<dn ns t):¬kl t ns[k]:=by
 unfold dn at hk
 split at hk
 ·rename_i hf
  rcases Nat.lt_succ_iff_lt_or_eq.1 hk with h1|rfl
  ·exact zhf (qq5 h h1)
  ·have:=zly.1 hf
   rw[aB h]at this
   rw[cN this]
   exact zh3 _
 ·exact zhf (qq5 h hk)
theorem qqp(hs:Ks ns)(h:k<ns.length)(hk:dn ns t≤k):kl t ns[k]:=by
 unfold dn at hk
 split at hk
 ·rename_i hf
  have h1:=zly.1 hf
  obtain⟨h2,h3⟩:=aJ.1 h1
  have:=cD.1 hs (lb ns t) k h2 h oQ
  rwa[h3]at this
 ·rename_i hf
  have h1:=qsv hs h hk
  rcases qoa h1 with h2|h2
  ·exact h2
  ·exfalso
   apply hf
   rw[qbl hs,h2]
   exact aS h
abbrev E:=List (K×K)
def Es(e:E):Prop:=Ks (e.map (·.1))
def zfx:E→K→K→E
 | [],k,v=>[(k,v)]
 |p::r,k,v=>if k=p.1 then(k,v)::r else if kl k p.1 then(k,v)::p::r else p::zfx r k v
def zi6(e:E)(k:K):Option K:=(e.find? fun p=>decide (p.1=k)).map (·.2)
def zfy(e:E)(k:K):E:=e.filter fun p=>decide (p.1≠k)
def zfo(e:E)(k:K):Prop:=∀p∈e,kl p.1 k
def zzc(e:E)(k:K):Prop:=∀p∈e,kl k p.1
variable{A:E}{k:K}
theorem qhx(h:zfo A k)(e:E)(v:K):zfx (A++e) k v=A++zfx e k v:=by
 induction A with
 |nil=>rfl
 |cons p A ih=>
  have hp:=h p (.head _)
  show(if k=p.1 then _ else if kl k p.1 then _ else p::zfx (A++e) k v)=_
  rw[if_neg (fun h=>zi8 hp h.symm),if_neg (zhf hp),ih fun q hq=>h q (.tail _ hq)]
  rfl
variable{B:E}
theorem qhw{v:K}(h:zzc B k):zfx B k v=(k,v)::B:=by
 cases B with
 |nil=>rfl
 |cons p B=>
  have hp:=h p (.head _)
  show(if k=p.1 then _ else if kl k p.1 then _ else _)=_
  rw[if_neg (zi8 hp),if_pos hp]
theorem zs8{B:E}{k v:K}(h:zzc B k):∀e:E,zfx (e++B) k v=zfx e k v++B
 | []=>qhw h
 |p::e=>by
  show(if k=p.1 then _ else if kl k p.1 then _ else p::zfx (e++B) k v)=(if k=p.1 then _ else if kl k p.1 then _ else p::zfx e k v)++B
  split
  ·rfl
  ·split
   ·rfl
   ·rw[zs8 h e];rfl
variable{e:E}
theorem qk8{v:K}(hA:zfo A k)(hB:zzc B k):zfx (A++(e++B)) k v=A++(zfx e k v++B):=by
 rw[qhx hA,zs8 hB]
theorem qwn(hA:zfo A k)(hB:zzc B k):zi6 (A++(e++B)) k=zi6 e k:=by
 have h1:A.find? (fun p=>decide (p.1=k))=none:=dB.2 fun p hp=>by simpa using zi8 (hA p hp)
 have h2:B.find? (fun p=>decide (p.1=k))=none:=dB.2 fun p hp=>by simpa using (zi8 (hB p hp)).symm
 unfold zi6
 rw[fT,fT,h1,h2]
 simp
theorem qjt(hA:zfo A k)(hB:zzc B k):zfy (A++(e++B)) k=A++(zfy e k++B):=by
 have h1:A.filter (fun p=>decide (p.1≠k))=A:=cU.2 fun p hp=>by simpa using zi8 (hA p hp)
 have h2:B.filter (fun p=>decide (p.1≠k))=B:=cU.2 fun p hp=>by simpa using (zi8 (hB p hp)).symm
 unfold zfy
 rw[fZ,fZ,h1,h2]
structure Sh where
 kw:Nat
 vw:Nat
def Sh.cap(s:Sh):Nat:=508/(s.kw+s.vw)
def Sh.fan(s:Sh):Nat:=(508+s.kw)/(s.kw+2)
def T:Nat→Type
 |0=>Nat×E
 |h+1=>Nat×List K×List (T h)
def pg:{h:Nat}→T h→Nat
 |0,t=>t.1
 |_+1,t=>t.1
def ents:{h:Nat}→T h→E
 |0,t=>t.2
 |_+1,t=>t.2.2.flatMap ents
def pgs:{h:Nat}→T h→List Nat
 |0,t=>[t.1]
 |_+1,t=>t.1::t.2.2.flatMap pgs
def zb0(p:Nat)(es:E):T 0:=(p,es)
variable{h:Nat}
def zau(p:Nat)(ks:List K)(kids:List (T h)):T (h+1):=(p,ks,kids)
def zg1(e:E)(k:K):Prop:=∀p∈e,¬kl p.1 k
def Sep:List K→List E→Prop
 | [],[_]=>True
 |k::ks,e::es=>zfo e k∧(∀e'∈es,zg1 e' k)∧Sep ks es
 |_,_=>False
def Ord:{h:Nat}→T h→Prop
 |0,t=>Es t.2
 |_+1,t=>Ks t.2.1∧Sep t.2.1 (t.2.2.map ents)∧∀x∈t.2.2,Ord x
def Wd(s:Sh):{h:Nat}→T h→Prop
 |0,t=>∀p∈t.2,p.1.length=s.kw∧p.2.length=s.vw
 |_+1,t=>(∀k∈t.2.1,k.length=s.kw)∧∀x∈t.2.2,Wd s x
def sz:{h:Nat}→T h→Nat
 |0,t=>t.2.length
 |_+1,t=>t.2.2.length
def mx(s:Sh):Nat→Nat
 |0=>s.cap
 |_+1=>s.fan
def Below(s:Sh):{h:Nat}→T h→Prop
 |0,_=>True
 |h+1,t=>∀x∈t.2.2,mx s h/2≤sz x∧sz x≤mx s h∧Below s x
theorem Sep.len:∀{ks:List K} {es:List E},Sep ks es→es.length=ks.length+1
 | [],[_],_=>rfl
 |_::ks,_::es,h=>by rw[aW,aW,Sep.len h.2.2]
theorem Sep.lt:∀{ks:List K} {es:List E},Sep ks es→∀{i j:Nat} (hi:i<ks.length) (hj:j<es.length),j≤i→zfo es[j] ks[i]→zfo es[j] ks[i]:=fun _ _ _ _ _ _ h=>h
variable{ks:List K}{es:List E}
theorem Sep.part(hk:Ks ks)(h:Sep ks es):(∀i j (hi:i<ks.length) (hj:j<es.length),j≤i→zfo es[j] ks[i])∧∀i j (hi:i<ks.length) (hj:j<es.length),i<j→zg1 es[j] ks[i]:=by
 induction ks generalizing es with
 |nil=>exact⟨fun i j hi=>absurd hi (fN _),fun i j hi=>absurd hi (fN _)⟩
 |cons k ks ih=>
  cases es with
  |nil=>exact absurd h (by simp[Sep])
  |cons e es=>
   obtain⟨h1,h2,h3⟩:=h
   obtain⟨k1,k2⟩:=bI.1 hk
   obtain⟨i1,i2⟩:=ih k2 h3
   refine⟨fun i j hi hj hij=>?_,fun i j hi hj hij=>?_⟩
   ·cases j with
    |zero=>
     cases i with
     |zero=>exact h1
     |succ i=>exact fun p hp=>zb9 (h1 p hp) (k1 _ (aS _))
    |succ j=>
     cases i with
     |zero=>omega
     |succ i=>exact i1 i j (by simpa using hi) (by simpa using hj) oQ
   ·cases j with
    |zero=>omega
    |succ j=>
     cases i with
     |zero=>exact h2 _ (aS _)
     |succ i=>exact i2 i j (by simpa using hi) (by simpa using hj) oQ
theorem Sep.of(hl:es.length=ks.length+1)(h1:∀i (hi:i<ks.length) (hj:i<es.length),zfo es[i] ks[i])(h2:∀i j (hi:i<ks.length) (hj:j<es.length),i<j→zg1 es[j] ks[i]):Sep ks es:=by
 induction ks generalizing es with
 |nil=>
  match es,hl with
  | [_],_=>trivial
 |cons k ks ih=>
  cases es with
  |nil=>simp at hl
  |cons e es=>
   refine⟨h1 0 sQ sQ,fun e' he=>?_,ih (by simpa using hl) (fun i hi hj=>h1 (i+1) (by simpa using hi) (by simpa using hj)) fun i j hi hj hij=>h2 (i+1) (j+1) (by simpa using hi) (by simpa using hj) oQ⟩
   obtain⟨j,hj,rfl⟩:=bJ he
   exact h2 0 (j+1) sQ (by simpa using hj) oQ
variable{α:Type}{i:Nat}
theorem zh0(l:List α)(f:α→E)(hi:i<l.length):l.flatMap f=(l.take i).flatMap f++(f l[i]++(l.drop (i+1)).flatMap f):=by
 conv=>lhs;rw[←bF i l,cC hi]
 rw[bE,aY]
theorem Sep.mid{kids:List (T h)}(hk:Ks ks)(hs:Sep ks (kids.map ents))(key:K):zfo ((kids.take (dn ks key)).flatMap ents) key∧zzc ((kids.drop (dn ks key+1)).flatMap ents) key:=by
 obtain⟨p1,p2⟩:=hs.part hk
 have hl:=hs.len
 rw[aD]at hl
 refine⟨fun p hp=>?_,fun p hp=>?_⟩
 ·obtain⟨x,hx,hpx⟩:=cE.1 hp
  obtain⟨j,hj,rfl⟩:=bJ hx
  rw[aM]at hj
  have hj2:j<kids.length:=oQ
  rw[dW]at hpx
  have hjk:j<ks.length:=by have:=zoh ks key;omega
  have h1:=p1 j j hjk (by rw[aD];exact hj2) (bA _)
  rw[cS]at h1
  exact zu0 (h1 p hpx) (qqq hjk oQ)
 ·obtain⟨x,hx,hpx⟩:=cE.1 hp
  obtain⟨j,hj,rfl⟩:=bJ hx
  rw[aX]at hj
  rw[dL]at hpx
  have hd:dn ks key<ks.length:=oQ
  have h1:=p2 (dn ks key) (dn ks key+1+j) hd (by rw[aD];omega) oQ
  rw[cS]at h1
  exact zu0 (qqp hk hd (bA _)) (h1 p hpx)
def nw(n:Nat)(S:Nat→Bool):Nat:=((List.range n).find? fun i=> !S i).getD 0
def us(S:Nat→Bool)(i:Nat)(u:Bool):Nat→Bool:=fun j=>if j=i then u else S j
abbrev Res(h:Nat):=T h×Option (K×T h)×(Nat→Bool)
def zca(s:Sh)(n:Nat)(S:Nat→Bool):{h:Nat}→T h→Res h
 |0,t=>if t.2.length≤s.cap then(t,none,S)else
  (zb0 t.1 (t.2.take (t.2.length/2)),some (((t.2.drop (t.2.length/2)).map (·.1)).headD [],zb0 (nw n S) (t.2.drop (t.2.length/2))),us S (nw n S) true)
 |_+1,t=>if t.2.2.length≤s.fan then(t,none,S)else
  (zau t.1 (t.2.1.take (t.2.2.length/2 - 1)) (t.2.2.take (t.2.2.length/2)),some (t.2.1.getD (t.2.2.length/2 - 1) [],zau (nw n S) (t.2.1.drop (t.2.2.length/2)) (t.2.2.drop (t.2.2.length/2))),us S (nw n S) true)
structure zk1 (s:Sh) {h:Nat} (t:T h) (es:E) (r:Res h):Prop where
 page:pg r.1=pg t
 none:r.2.1=none→ents r.1=es∧Ord r.1∧Wd s r.1∧sz r.1≤mx s h∧Below s r.1
 some:∀k d,r.2.1=some (k,d)→ents r.1++ents d=es∧Ord r.1∧Ord d∧Wd s r.1∧Wd s d∧k.length=s.kw∧zfo (ents r.1) k∧zg1 (ents d) k∧mx s h/2≤sz r.1∧sz r.1≤mx s h∧mx s h/2≤sz d∧sz d≤mx s h∧Below s r.1∧Below s d
theorem Es.take{e:E}(h:Es e)(k:Nat):Es (e.take k):=by unfold Es at*;rw[fE];exact dO (fK _ _) h
theorem Es.drop{e:E}(h:Es e)(k:Nat):Es (e.drop k):=by unfold Es at*;rw[eX];exact dO (fH _ _) h
variable{m:Nat}
theorem Sep.cut(hk:Ks ks)(h:Sep ks es)(h0:0<m)(hm:m<es.length):Sep (ks.take (m - 1)) (es.take m)∧Sep (ks.drop m) (es.drop m):=by
 obtain⟨p1,p2⟩:=h.part hk
 have hl:=h.len
 refine⟨Sep.of (by rw[aM,aM];omega) (fun i hi hj=>?_) fun i j hi hj hij=>?_,Sep.of (by rw[aX,aX];omega) (fun i hi hj=>?_) fun i j hi hj hij=>?_⟩
 ·rw[dW,dW]
  rw[aM]at hi hj
  exact p1 i i oQ oQ (bA _)
 ·rw[dW,dW]
  rw[aM]at hi hj
  exact p2 i j oQ oQ hij
 ·rw[dL,dL]
  rw[aX]at hi hj
  exact p1 (m+i) (m+i) oQ oQ (bA _)
 ·rw[dL,dL]
  rw[aX]at hi hj
  exact p2 (m+i) (m+j) oQ oQ oQ
theorem zus{a:Nat}(h:m<a):m/2≤a/2∧m/2≤a - a/2:=oQ
theorem zur{a:Nat}(h:a≤m+m/2)(h2:1≤m):a/2≤m∧a - a/2≤m:=oQ
theorem zkx{β:Type}(l:List α)(f:α→List β)(k:Nat):(l.take k).flatMap f++(l.drop k).flatMap f=l.flatMap f:=by
 rw[←bE,bF]
theorem znl(s:Sh)(n:Nat)(S:Nat→Bool)(p:Nat)(es:E):zca s n S (zb0 p es)=if es.length≤s.cap then(zb0 p es,none,S)else
  (zb0 p (es.take (es.length/2)),some (((es.drop (es.length/2)).map (·.1)).headD [],zb0 (nw n S) (es.drop (es.length/2))),us S (nw n S) true):=rfl
theorem znm(s:Sh)(n:Nat)(S:Nat→Bool)(p:Nat)(ks:List K)(kids:List (T h)):zca s n S (zau p ks kids)=if kids.length≤s.fan then(zau p ks kids,none,S)else
  (zau p (ks.take (kids.length/2 - 1)) (kids.take (kids.length/2)),some (ks.getD (kids.length/2 - 1) [],zau (nw n S) (ks.drop (kids.length/2)) (kids.drop (kids.length/2))),us S (nw n S) true):=rfl
theorem zo2(s:Sh)(n:Nat)(S:Nat→Bool):∀{h:Nat} (t:T h),Ord t→Wd s t→Below s t→sz t≤mx s h+mx s h/2→2≤mx s h→zk1 s t (ents t) (zca s n S t)
 |0,(p,es),hO,hW,hB,hm,h2=>by
  have hm:es.length≤s.cap+s.cap/2:=hm
  have h2:2≤s.cap:=h2
  change zk1 s (zb0 p es) (ents (zb0 p es)) (zca s n S (zb0 p es))
  rw[znl]
  by_cases hc:es.length≤s.cap
  ·rw[if_pos hc]
   exact⟨rfl,fun _=>⟨rfl,hO,hW,hc,trivial⟩,fun k d h=>(nomatch h)⟩
  ·rw[if_neg hc]
   refine⟨rfl,fun h=>(nomatch h),fun k d hkd=>?_⟩
   obtain⟨rfl,rfl⟩:=jN (cN hkd)
   obtain⟨l1,l2⟩:=zus (a:=es.length) (m:=s.cap) oQ
   obtain⟨l3,l4⟩:=zur hm oQ
   have hk:es.length/2<es.length:=oQ
   have hO':Es es:=hO
   have hd:((es.drop (es.length/2)).map (·.1)).headD []=es[es.length/2].1:=by rw[cC hk];rfl
   have hlt:∀i (hi:i<es.length),i<es.length/2→kl es[i].1 es[es.length/2].1:=fun i hi hik=>by
    have:=cD.1 hO' i (es.length/2) (by rw[aD];exact hi) (by rw[aD];exact hk) hik
    simpa using this
   have hge:∀i (hi:i<es.length),es.length/2≤i→¬kl es[i].1 es[es.length/2].1:=fun i hi hik=>by
    rcases iH (es.length/2) i with h|h
    ·have:=cD.1 hO' (es.length/2) i (by rw[aD];exact hk) (by rw[aD];exact hi) h
     exact zhf (by simpa using this)
    ·obtain rfl:i=es.length/2:=oQ
     exact zh3 _
   show es.take (es.length/2)++es.drop (es.length/2)=es∧Es (es.take (es.length/2))∧Es (es.drop (es.length/2))∧_∧_∧(((es.drop (es.length/2)).map (·.1)).headD []).length=s.kw∧zfo (es.take (es.length/2)) (((es.drop (es.length/2)).map (·.1)).headD [])∧zg1 (es.drop (es.length/2)) (((es.drop (es.length/2)).map (·.1)).headD [])∧s.cap/2≤(es.take (es.length/2)).length∧(es.take (es.length/2)).length≤s.cap∧s.cap/2≤(es.drop (es.length/2)).length∧(es.drop (es.length/2)).length≤s.cap∧True∧True
   rw[hd]
   refine⟨bF _ _,hO'.take _,hO'.drop _,fun q hq=>hW q (bW hq),fun q hq=>hW q (cG hq),(hW _ (aS hk)).1,fun q hq=>?_,fun q hq=>?_,?_,?_,?_,?_,trivial,trivial⟩
   ·obtain⟨i,hi,rfl⟩:=bJ hq
    rw[aM]at hi
    rw[dW]
    exact hlt i oQ oQ
   ·obtain⟨i,hi,rfl⟩:=bJ hq
    rw[aX]at hi
    rw[dL]
    exact hge _ oQ oQ
   ·rw[aM];omega
   ·rw[aM];omega
   ·rw[aX];omega
   ·rw[aX];omega
 |h+1,(p,ks,kids),hO,hW,hB,hm,h2=>by
  have hm:kids.length≤s.fan+s.fan/2:=hm
  have h2:2≤s.fan:=h2
  obtain⟨o1,o2,o3⟩:Ks ks∧Sep ks (kids.map ents)∧∀x∈kids,Ord x:=hO
  obtain⟨w1,w2⟩:(∀k∈ks,k.length=s.kw)∧∀x∈kids,Wd s x:=hW
  have hB:∀x∈kids,mx s h/2≤sz x∧sz x≤mx s h∧Below s x:=hB
  have hl:=o2.len
  rw[aD]at hl
  change zk1 s (zau p ks kids) (ents (zau p ks kids)) (zca s n S (zau p ks kids))
  rw[znm]
  by_cases hc:kids.length≤s.fan
  ·rw[if_pos hc]
   exact⟨rfl,fun _=>⟨rfl,⟨o1,o2,o3⟩,⟨w1,w2⟩,hc,hB⟩,fun k d h=>(nomatch h)⟩
  ·rw[if_neg hc]
   refine⟨rfl,fun h=>(nomatch h),fun k d hkd=>?_⟩
   obtain⟨rfl,rfl⟩:=jN (cN hkd)
   obtain⟨l1,l2⟩:=zus (a:=kids.length) (m:=s.fan) oQ
   obtain⟨l3,l4⟩:=zur hm oQ
   have hk0:0<kids.length/2:=oQ
   have hk:kids.length/2<kids.length:=oQ
   have hkk:kids.length/2 - 1<ks.length:=oQ
   obtain⟨p1,p2⟩:=o2.part o1
   obtain⟨c1,c2⟩:=o2.cut o1 hk0 (by rw[aD];exact hk)
   rw[←fE]at c1
   rw[←eX]at c2
   have hd:ks.getD (kids.length/2 - 1) []=ks[kids.length/2 - 1]:=by rw[aH,aB hkk];rfl
   show(kids.take (kids.length/2)).flatMap ents++(kids.drop (kids.length/2)).flatMap ents=kids.flatMap ents∧(Ks (ks.take (kids.length/2 - 1))∧Sep (ks.take (kids.length/2 - 1)) ((kids.take (kids.length/2)).map ents)∧∀x∈kids.take (kids.length/2),Ord x)∧(Ks (ks.drop (kids.length/2))∧Sep (ks.drop (kids.length/2)) ((kids.drop (kids.length/2)).map ents)∧∀x∈kids.drop (kids.length/2),Ord x)∧((∀k∈ks.take (kids.length/2 - 1),k.length=s.kw)∧∀x∈kids.take (kids.length/2),Wd s x)∧((∀k∈ks.drop (kids.length/2),k.length=s.kw)∧∀x∈kids.drop (kids.length/2),Wd s x)∧(ks.getD (kids.length/2 - 1) []).length=s.kw∧zfo ((kids.take (kids.length/2)).flatMap ents) (ks.getD (kids.length/2 - 1) [])∧zg1 ((kids.drop (kids.length/2)).flatMap ents) (ks.getD (kids.length/2 - 1) [])∧s.fan/2≤(kids.take (kids.length/2)).length∧(kids.take (kids.length/2)).length≤s.fan∧s.fan/2≤(kids.drop (kids.length/2)).length∧(kids.drop (kids.length/2)).length≤s.fan∧(∀x∈kids.take (kids.length/2),mx s h/2≤sz x∧sz x≤mx s h∧Below s x)∧∀x∈kids.drop (kids.length/2),mx s h/2≤sz x∧sz x≤mx s h∧Below s x
   rw[hd]
   refine⟨zkx _ _ _,⟨dO (fK _ _) o1,c1,fun x hx=>o3 x (bW hx)⟩,⟨dO (fH _ _) o1,c2,fun x hx=>o3 x (cG hx)⟩,⟨fun k hk=>w1 k (bW hk),fun x hx=>w2 x (bW hx)⟩,⟨fun k hk=>w1 k (cG hk),fun x hx=>w2 x (cG hx)⟩,w1 _ (aS hkk),fun q hq=>?_,fun q hq=>?_,?_,?_,?_,?_,fun x hx=>hB x (bW hx),fun x hx=>hB x (cG hx)⟩
   ·obtain⟨x,hx,hq⟩:=cE.1 hq
    obtain⟨i,hi,rfl⟩:=bJ hx
    rw[aM]at hi
    rw[dW]at hq
    have:=p1 (kids.length/2 - 1) i hkk (by rw[aD];omega) oQ
    rw[cS]at this
    exact this q hq
   ·obtain⟨x,hx,hq⟩:=cE.1 hq
    obtain⟨i,hi,rfl⟩:=bJ hx
    rw[aX]at hi
    rw[dL]at hq
    have:=p2 (kids.length/2 - 1) (kids.length/2+i) hkk (by rw[aD];omega) oQ
    rw[cS]at this
    exact this q hq
   ·rw[aM];omega
   ·rw[aM];omega
   ·rw[aX];omega
   ·rw[aX];omega
structure zy8 (n:Nat) (S:Nat→Bool) (L:List Nat) {h:Nat} (r:Res h):Prop where
 none:r.2.1=none→pgs r.1=L∧r.2.2=S
 some:∀k d,r.2.1=some (k,d)→(pgs r.1++pgs d).Perm (nw n S::L)∧pg d=nw n S∧r.2.2=us S (nw n S) true
theorem qcs(s:Sh)(n:Nat)(S:Nat→Bool):∀{h:Nat} (t:T h),zy8 n S (pgs t) (zca s n S t)
 |0,(p,es)=>by
  change zy8 n S (pgs (zb0 p es)) (zca s n S (zb0 p es))
  rw[znl]
  split
  ·exact⟨fun _=>⟨rfl,rfl⟩,fun k d h=>(nomatch h)⟩
  ·refine⟨fun h=>(nomatch h),fun k d hkd=>?_⟩
   obtain⟨rfl,rfl⟩:=jN (cN hkd)
   exact⟨.swap _ _ _,rfl,rfl⟩
 |h+1,(p,ks,kids)=>by
  change zy8 n S (pgs (zau p ks kids)) (zca s n S (zau p ks kids))
  rw[znm]
  split
  ·exact⟨fun _=>⟨rfl,rfl⟩,fun k d h=>(nomatch h)⟩
  ·refine⟨fun h=>(nomatch h),fun k d hkd=>?_⟩
   obtain⟨rfl,rfl⟩:=jN (cN hkd)
   refine⟨?_,rfl,rfl⟩
   show((p::(kids.take (kids.length/2)).flatMap pgs)++(nw n S::(kids.drop (kids.length/2)).flatMap pgs)).Perm (nw n S::p::kids.flatMap pgs)
   rw[←zkx kids pgs (kids.length/2)]
   refine bH.trans (.cons _ ?_)
   rfl
theorem Sep.dropm{ks:List K}{es:List E}:∀(m:Nat),Sep ks es→m<es.length→Sep (ks.drop m) (es.drop m)
 |0,h,_=>h
 |m+1,h,hm=>by
  match ks,es,h with
  | [],[_],_=>simp at hm
  |k::ks,e::es,h=>exact Sep.dropm m h.2.2 (by simpa using hm)
theorem Sep.takem{ks:List K}{es:List E}:∀(m:Nat),Sep ks es→m<es.length→Sep (ks.take m) (es.take (m+1))
 |0,h,hm=>by
  match ks,es,h with
  | [],[_],_=>trivial
  |k::ks,e::es,h=>trivial
 |m+1,h,hm=>by
  match ks,es,h with
  | [],[_],_=>simp at hm
  |k::ks,e::es,h=>exact⟨h.1,fun e' he=>h.2.1 e' (bW he),Sep.takem m h.2.2 (by simpa using hm)⟩
theorem Sep.join{q:K}{ks2:List K}{es2:List E}(h2:Sep ks2 es2)(hge:∀e∈es2,zg1 e q):∀{ks1:List K} {es1:List E},Sep ks1 es1→(∀k∈ks1,∀e∈es2,zg1 e k)→(∀e∈es1,zfo e q)→Sep (ks1++q::ks2) (es1++es2)
 | [],[e],_,_,hl=>⟨hl e (.head _),hge,h2⟩
 |k::ks1,e::es1,h,hc,hl=>⟨h.1,fun e' he=>by
   rcases aR.1 he with he|he
   ·exact h.2.1 e' he
   ·exact hc k (.head _) e' he,Sep.join h2 hge h.2.2 (fun k' hk=>hc k' (.tail _ hk)) fun e' he=>hl e' (.tail _ he)⟩
def Bd(ks:List K)(i:Nat)(e:E):Prop:=(∀j (hj:j<ks.length),i≤j→zfo e ks[j])∧∀j (hj:j<ks.length),j<i→zg1 e ks[j]
theorem Sep.bd(hk:Ks ks)(h:Sep ks es)(hi:i<es.length):Bd ks i es[i]:=by
 obtain⟨p1,p2⟩:=h.part hk
 exact⟨fun j hj hij=>p1 j i hj hi hij,fun j hj hij=>p2 j i hj hi hij⟩
theorem Sep.set{ks:List K}{es:List E}(hk:Ks ks)(h:Sep ks es){i:Nat}(e':E)(hb:Bd ks i e'):Sep ks (es.set i e'):=by
 obtain⟨p1,p2⟩:=h.part hk
 refine Sep.of (by rw[bM];exact h.len) (fun j hj hj2=>?_) fun j m hj hm hjm=>?_
 ·rw[iE]
  split
  ·rename_i e;subst e;exact hb.1 _ hj (bA _)
  ·exact p1 j j hj (by rw[bM]at hj2;exact hj2) (bA _)
 ·rw[iE]
  split
  ·rename_i e;subst e;exact hb.2 _ hj hjm
  ·exact p2 j m hj (by rw[bM]at hm;exact hm) hjm
def ins(l:List α)(i:Nat)(x:α):List α:=l.take i++x::l.drop i
theorem zf1(l:List α)(i:Nat)(x:α):(ins l i x).length=l.length+1:=by
 unfold ins
 rw[aA,aW,aM,aX]
 omega
theorem zf2{l:List α}{x y:α}(h:y∈ins l i x):y=x∨y∈l:=by
 unfold ins at h
 rcases aR.1 h with h|h
 ·exact .inr (bW h)
 ·rcases aI.1 h with h|h
  ·exact .inl h
  ·exact .inr (cG h)
theorem Sep.ins{ks:List K}{es:List E}(hk:Ks ks)(h:Sep ks es){i:Nat}(hi:i<es.length){e1 e2:E}{q:K}(b1:Bd ks i e1)(b2:Bd ks i e2)(l1:zfo e1 q)(l2:zg1 e2 q)
  (q1:∀j (hj:j<ks.length),j<i→kl ks[j] q) (q2:∀j (hj:j<ks.length),i≤j→kl q ks[j]):Ks (Tr.ins ks i q)∧Sep (Tr.ins ks i q) (Tr.ins (es.set i e1) (i+1) e2):=by
 obtain⟨p1,p2⟩:=h.part hk
 have hl:=h.len
 have hli:i≤ks.length:=oQ
 constructor
 ·unfold Tr.ins Ks
  rw[bQ]
  refine⟨dO (fK _ _) hk,bI.2 ⟨fun y hy=>?_,dO (fH _ _) hk⟩,fun x hx y hy=>?_⟩
  ·obtain⟨j,hj,rfl⟩:=bJ hy
   rw[aX]at hj
   rw[dL]
   exact q2 _ oQ oQ
  ·obtain⟨j,hj,rfl⟩:=bJ hx
   rw[aM]at hj
   rw[dW]
   rcases aI.1 hy with rfl|hy
   ·exact q1 j oQ oQ
   ·obtain⟨m,hm,rfl⟩:=bJ hy
    rw[aX]at hm
    rw[dL]
    exact cD.1 hk _ _ oQ oQ oQ
 ·have s1:=(h.set hk e1 b1).takem i (by rw[bM];exact hi)
  have s2:=(h.set hk e2 b2).dropm i (by rw[bM];exact hi)
  have e2':(es.set i e2).drop i=e2::es.drop (i+1):=by
   rw[cC (by rw[bM];exact hi),dH,dI oQ]
  have e1':(es.set i e1).drop (i+1)=es.drop (i+1):=dI oQ
  rw[e2']at s2
  unfold Tr.ins
  rw[e1']
  refine Sep.join s2 (fun e he=>?_) s1 (fun k hk' e he=>?_) fun e he=>?_
  ·rcases aI.1 he with rfl|he
   ·exact l2
   ·obtain⟨j,hj,rfl⟩:=bJ he
    rw[aX]at hj
    rw[dL]
    intro x hx hxq
    exact p2 (i+j) (i+1+j) oQ oQ oQ x hx (zb9 hxq (q2 _ oQ oQ))
  ·obtain⟨j,hj,rfl⟩:=bJ hk'
   rw[aM]at hj
   rw[dW]
   rcases aI.1 he with rfl|he
   ·exact b2.2 j oQ oQ
   ·obtain⟨m,hm,rfl⟩:=bJ he
    rw[aX]at hm
    rw[dL]
    exact p2 j _ oQ oQ oQ
  ·obtain⟨j,hj,rfl⟩:=bJ he
   rw[aM,bM]at hj
   rw[dW,iE]
   split
   ·exact l1
   ·intro x hx
    exact zb9 (p1 j j oQ oQ (bA _) x hx) (q1 j oQ oQ)
def zok(s:Sh)(n:Nat):{h:Nat}→T h→K→K→(Nat→Bool)→Res h
 |0,t,k,v,S=>zca s n S (zb0 t.1 (zfx t.2 k v))
 |_+1,t,k,v,S=>match t.2.2[dn t.2.1 k]? with
  |none=>(t,none,S)
  |some c=>match zok s n c k v S with
   |(c',none,S')=>(zau t.1 t.2.1 (t.2.2.set (dn t.2.1 k) c'),none,S')
   |(c',some (q,d),S')=>zca s n S' (zau t.1 (ins t.2.1 (dn t.2.1 k) q) (ins (t.2.2.set (dn t.2.1 k) c') (dn t.2.1 k+1) d))
theorem zkm:∀{e:E} {k v:K} {q:K×K},q∈zfx e k v→q=(k,v)∨q∈e
 | [],_,_,_,h=>by rcases aI.1 h with h|h;exact .inl h;cases h
 |p::r,k,v,q,h=>by
  unfold zfx at h
  split at h
  ·rcases aI.1 h with h|h
   ·exact .inl h
   ·exact .inr (.tail _ h)
  ·split at h
   ·rcases aI.1 h with h|h
    ·exact .inl h
    ·exact .inr h
   ·rcases aI.1 h with rfl|h
    ·exact .inr (.head _)
    ·rcases zkm h with h|h
     ·exact .inl h
     ·exact .inr (.tail _ h)
theorem zvs:∀(e:E) (k v:K),e.length≤(zfx e k v).length∧(zfx e k v).length≤e.length+1
 | [],_,_=>⟨aZ _,bA _⟩
 |p::r,k,v=>by
  have:=zvs r k v
  unfold zfx
  split
  ·exact⟨bA _,Nat.le_succ _⟩
  ·split
   ·simp
   ·simp;omega
theorem zvr:∀{e:E} {k v:K},Es e→Es (zfx e k v)
 | [],_,_,_=>eO _ _
 |p::r,k,v,h=>by
  obtain⟨h1,h2⟩:(∀a∈r.map (·.1),kl p.1 a)∧Es r:=bI.1 h
  unfold zfx
  split
  ·rename_i e;subst e
   exact bI.2 ⟨h1,h2⟩
  ·split
   ·rename_i hne hlt
    refine bI.2 ⟨fun a ha=>?_,h⟩
    rcases aI.1 ha with rfl|ha
    ·exact hlt
    ·exact zb9 hlt (h1 a ha)
   ·rename_i hne hlt
    refine bI.2 ⟨fun a ha=>?_,zvr h2⟩
    obtain⟨q,hq,rfl⟩:=aO.1 ha
    rcases zkm hq with rfl|hq
    ·exact qqz hlt hne
    ·exact h1 _ (aO.2 ⟨q,hq,rfl⟩)
theorem zjp(s:Sh)(h2:∀h,2≤mx s h):∀{h:Nat} (t:T h),Below s t→1≤sz t→ents t≠[]
 |0,(p,es),_,hz,he=>by
  have he:es=[]:=he
  subst he
  exact absurd (show 1≤0 from hz) dQ
 |h+1,(p,ks,kids),hB,hz,he=>by
  have hB:∀x∈kids,mx s h/2≤sz x∧sz x≤mx s h∧Below s x:=hB
  have he:kids.flatMap ents=[]:=he
  match kids,hz with
  |x::r,_=>
   obtain⟨b1,b2,b3⟩:=hB x (.head _)
   have:=h2 h
   rw[aY,List.append_eq_nil_iff]at he
   exact zjp s h2 x b3 oQ he.1
theorem qqf(hk:Ks ks){v:K}(hb:Bd ks (dn ks k) e):Bd ks (dn ks k) (zfx e k v):=by
 refine⟨fun j hj hij p hp=>?_,fun j hj hij p hp=>?_⟩
 ·rcases zkm hp with rfl|hp
  ·exact qqp hk hj hij
  ·exact hb.1 j hj hij p hp
 ·rcases zkm hp with rfl|hp
  ·exact qqq hj hij
  ·exact hb.2 j hj hij p hp
theorem Bd.sub{e':E}(h:Bd ks i e)(hs:∀p∈e',p∈e):Bd ks i e':=
 ⟨fun j hj hij p hp=>h.1 j hj hij p (hs p hp),fun j hj hij p hp=>h.2 j hj hij p (hs p hp)⟩
theorem qcn(l:List α)(f:α→E)(hi:i<l.length)(x:α):(l.set i x).flatMap f=(l.take i).flatMap f++(f x++(l.drop (i+1)).flatMap f):=by
 rw[zh0 (l.set i x) f (i:=i) (by rw[bM];exact hi),dH,eJ oQ,dI oQ]
theorem zxi(l:List α)(f:α→E)(hi:i<l.length)(x y:α):(ins (l.set i x) (i+1) y).flatMap f=(l.take i).flatMap f++((f x++f y)++(l.drop (i+1)).flatMap f):=by
 unfold ins
 rw[cO (by rw[bM];exact hi),dH,eJ oQ,dI oQ,bE,bE,aY]
 simp
theorem map_set'{β:Type}(l:List α)(f:α→β)(i:Nat)(x:α):(l.set i x).map f=(l.map f).set i (f x):=iF
theorem zp0{β:Type}(l:List α)(f:α→β)(i:Nat)(x:α):(ins l i x).map f=ins (l.map f) i (f x):=by
 unfold ins;simp
theorem zta(s:Sh)(n:Nat)(h2:∀h,2≤mx s h)(k v:K)(hk:k.length=s.kw)(hv:v.length=s.vw):∀{h:Nat} (t:T h) (S:Nat→Bool),Ord t→Wd s t→Below s t→sz t≤mx s h→zk1 s t (zfx (ents t) k v) (zok s n t k v S)∧((zok s n t k v S).2.1=none→sz t≤sz (zok s n t k v S).1)
 |0,(p,es),S,hO,hW,hB,hm=>by
  have hc:=h2 0
  have hc:2≤s.cap:=hc
  have hm:es.length≤s.cap:=hm
  have hl:=zvs es k v
  have:=zo2 s n S (zb0 p (zfx es k v)) (zvr (e:=es) hO) (fun q hq=>by
   rcases zkm hq with rfl|hq
   ·exact⟨hk,hv⟩
   ·exact hW q hq) trivial (by show(zfx es k v).length≤s.cap+s.cap/2;omega) hc
  refine⟨⟨this.page,this.none,this.some⟩,fun hn=>?_⟩
  show es.length≤sz (zca s n S (zb0 p (zfx es k v))).1
  have hn:(zca s n S (zb0 p (zfx es k v))).2.1=none:=hn
  rw[znl]at hn⊢
  split at hn
  ·rename_i hcc
   rw[if_pos hcc]
   exact hl.1
  ·cases hn
 |h+1,(p,ks,kids),S,hO,hW,hB,hm=>by
  obtain⟨o1,o2,o3⟩:Ks ks∧Sep ks (kids.map ents)∧∀x∈kids,Ord x:=hO
  obtain⟨w1,w2⟩:(∀k∈ks,k.length=s.kw)∧∀x∈kids,Wd s x:=hW
  have hB:∀x∈kids,mx s h/2≤sz x∧sz x≤mx s h∧Below s x:=hB
  have hm:kids.length≤s.fan:=hm
  have hf:2≤s.fan:=h2 (h+1)
  have hl:=o2.len
  rw[aD]at hl
  have hi:dn ks k<kids.length:=by have:=zoh ks k;omega
  have hc:kids[dn ks k]? =some kids[dn ks k]:=aB hi
  have hcm:=aS hi
  obtain⟨ih,ihm⟩:=zta s n h2 k v hk hv kids[dn ks k] S (o3 _ hcm) (w2 _ hcm) (hB _ hcm).2.2 (hB _ hcm).2.1
  obtain⟨m1,m2⟩:=Sep.mid (kids:=kids) o1 o2 k
  have hbd:=o2.bd o1 (i:=dn ks k) (by rw[aD];exact hi)
  rw[cS]at hbd
  have hbp:=qqf o1 (v:=v) hbd
  have he:zfx (kids.flatMap ents) k v=(kids.take (dn ks k)).flatMap ents++(zfx (ents kids[dn ks k]) k v++(kids.drop (dn ks k+1)).flatMap ents):=by
   rw[zh0 kids ents hi,qk8 m1 m2]
  have hput:zok s n (h:=h+1) (p,ks,kids) k v S=match zok s n kids[dn ks k] k v S with
   |(c',none,S')=>(zau p ks (kids.set (dn ks k) c'),none,S')
   |(c',some (q,d),S')=>zca s n S' (zau p (ins ks (dn ks k) q) (ins (kids.set (dn ks k) c') (dn ks k+1) d)):=by
   show(match kids[dn ks k]? with|none=>_|some c=>_)=_
   rw[hc]
  show zk1 s (zau p ks kids) (zfx (kids.flatMap ents) k v) _∧_
  rw[hput,he]
  obtain⟨⟨c',g,S'⟩,hr⟩:∃r,zok s n kids[dn ks k] k v S=r:=⟨_,rfl⟩
  rw[hr]at ih ihm⊢
  cases g with
  |none=>
   obtain⟨n1,n2,n3,n4,n5⟩:=ih.none rfl
   have hmn:sz kids[dn ks k]≤sz c':=ihm rfl
   refine⟨⟨rfl,fun _=>⟨?_,⟨o1,?_,fun x hx=>?_⟩,⟨w1,fun x hx=>?_⟩,?_,fun x hx=>?_⟩,fun k d hkd=>(nomatch hkd)⟩,fun _=>?_⟩
   ·show(kids.set (dn ks k) c').flatMap ents=_
    rw[qcn _ _ hi,n1]
   ·show Sep ks ((kids.set (dn ks k) c').map ents)
    rw[map_set',n1]
    exact o2.set o1 _ hbp
   ·rcases cK hx with hx|rfl
    ·exact o3 x hx
    ·exact n2
   ·rcases cK hx with hx|rfl
    ·exact w2 x hx
    ·exact n3
   ·show(kids.set (dn ks k) c').length≤s.fan
    rw[bM];exact hm
   ·rcases cK hx with hx|rfl
    ·exact hB x hx
    ·have:=(hB _ hcm).1
     exact⟨oQ,n4,n5⟩
   ·show kids.length≤(kids.set (dn ks k) c').length
    rw[bM];exact bA _
  |some g=>
   obtain⟨q,d⟩:=g
   obtain⟨n1,n2,n3,n4,n5,n6,n7,n8,n9,n10,n11,n12,n13,n14⟩:=ih.some q d rfl
   have hh:=h2 h
   have ne1:=zjp s h2 c' n13 (by show 1≤sz c';have:mx s h/2≤sz c':=n9;omega)
   have ne2:=zjp s h2 d n14 oQ
   obtain⟨x1,hx1⟩:=dJ _ ne1
   obtain⟨x2,hx2⟩:=dJ _ ne2
   have b1:Bd ks (dn ks k) (ents c'):=hbp.sub fun p hp=>by rw[←n1];exact aN _ hp
   have b2:Bd ks (dn ks k) (ents d):=hbp.sub fun p hp=>by rw[←n1];exact aT _ hp
   obtain⟨i1,i2⟩:=o2.ins o1 (i:=dn ks k) (by rw[aD];exact hi) b1 b2 n7 n8 (fun j hj hij=>zd5 (b1.2 j hj hij x1 hx1) (n7 x1 hx1)) fun j hj hij=>zd5 (n8 x2 hx2) (b2.1 j hj hij x2 hx2)
   have hst:zk1 s (zau p (ins ks (dn ks k) q) (ins (kids.set (dn ks k) c') (dn ks k+1) d)) ((ins (kids.set (dn ks k) c') (dn ks k+1) d).flatMap ents) (zca s n S' (zau p (ins ks (dn ks k) q) (ins (kids.set (dn ks k) c') (dn ks k+1) d))):=by
    refine zo2 s n S' (zau p (ins ks (dn ks k) q) (ins (kids.set (dn ks k) c') (dn ks k+1) d)) ⟨i1,?_,fun x hx=>?_⟩ ⟨fun x hx=>?_,fun x hx=>?_⟩ (fun x hx=>?_) ?_ hf
    ·show Sep _ ((ins (kids.set (dn ks k) c') (dn ks k+1) d).map ents)
     rw[zp0,map_set']
     exact i2
    ·rcases zf2 hx with rfl|hx
     ·exact n3
     ·rcases cK hx with hx|rfl
      ·exact o3 x hx
      ·exact n2
    ·rcases zf2 hx with rfl|hx
     ·exact n6
     ·exact w1 x hx
    ·rcases zf2 hx with rfl|hx
     ·exact n5
     ·rcases cK hx with hx|rfl
      ·exact w2 x hx
      ·exact n4
    ·rcases zf2 hx with rfl|hx
     ·exact⟨n11,n12,n14⟩
     ·rcases cK hx with hx|rfl
      ·exact hB x hx
      ·exact⟨n9,n10,n13⟩
    ·show(ins (kids.set (dn ks k) c') (dn ks k+1) d).length≤s.fan+s.fan/2
     rw[zf1,bM];omega
   rw[zxi _ _ hi,n1]at hst
   refine⟨⟨hst.page,hst.none,hst.some⟩,fun hn=>?_⟩
   show kids.length≤sz (zca s n S' (zau p (ins ks (dn ks k) q) (ins (kids.set (dn ks k) c') (dn ks k+1) d))).1
   have hn:(zca s n S' (zau p (ins ks (dn ks k) q) (ins (kids.set (dn ks k) c') (dn ks k+1) d))).2.1=none:=hn
   rw[znm]at hn⊢
   split at hn
   ·rename_i hcc
    rw[if_pos hcc]
    show kids.length≤(ins (kids.set (dn ks k) c') (dn ks k+1) d).length
    rw[zf1,bM];omega
   ·cases hn
structure Acc (n:Nat) (S:Nat→Bool) (L:List Nat):Prop where
 nodup:L.Nodup
 is:∀i,i<n→(S i=true↔i=0∨i∈L)
 low:∀x∈L,1≤x∧x<n
variable{n:Nat}{S:Nat→Bool}{L:List Nat}
theorem Acc.perm{L':List Nat}(h:Acc n S L)(p:L.Perm L'):Acc n S L':=
 ⟨p.nodup_iff.1 h.nodup,fun i hi=>(h.is i hi).trans ⟨fun h=>h.imp id p.mem_iff.1,fun h=>h.imp id p.mem_iff.2⟩,fun x hx=>h.low x (p.mem_iff.2 hx)⟩
theorem zve:∀{l L:List Nat},l.Nodup→(∀x∈l,x∈L)→l.length≤L.length
 | [],_,_,_=>aZ _
 |a::l,L,hn,h=>by
  obtain⟨n1,n2⟩:=cP.1 hn
  have ha:=h a (.head _)
  have:=zve (l:=l) (L:=L.erase a) n2 fun x hx=>(List.mem_erase_of_ne (fun e:x=a=>n1 (by rw[←e];exact hx))).2 (h x (.tail _ hx))
  rw[List.length_erase_of_mem ha]at this
  have:=List.length_pos_of_mem ha
  rw[aW]
  omega
theorem zjr(h:∃i,i<n∧S i=false):S (nw n S)=false∧nw n S<n∧∀j,j<nw n S→S j=true:=by
 unfold nw
 cases hf:(List.range n).find? fun i=> !S i with
 |none=>
  obtain⟨i,hi,hs⟩:=h
  have:=dB.1 hf i (dG.2 hi)
  rw[hs]at this
  exact absurd rfl this
 |some q=>
  obtain⟨h1,as1,bs,h2,h3⟩:=List.find?_eq_some_iff_append.1 hf
  have hlen:=congrArg List.length h2
  rw[eL,aA,aW]at hlen
  have hq:q=as1.length:=by
   have:(List.range n)[as1.length]? =(as1++q::bs)[as1.length]? :=by rw[h2]
   rw[eI oQ,cT (bA _),Nat.sub_self]at this
   simpa using this.symm
  show S q=false∧q<n∧∀j,j<q→S j=true
  refine⟨by simpa using h1,oQ,fun j hj=>?_⟩
  have hm:j∈as1:=by
   have:(List.range n)[j]? =(as1++q::bs)[j]? :=by rw[h2]
   rw[eI oQ,cJ oQ]at this
   exact cB this.symm
  simpa using h3 j hm
theorem Acc.free(h:Acc n S L)(hr:L.length+1<n):S (nw n S)=false∧nw n S<n∧(∀j,j<nw n S→S j=true)∧1≤nw n S∧nw n S∉L:=by
 have hex:∃i,i<n∧S i=false:=by
  by_cases hall:∀i,i<n→S i=true
  ·exfalso
   have:=zve (l:=List.range n) (L:=0::L) List.nodup_range fun x hx=>by
    rcases(h.is x (dG.1 hx)).1 (hall x (dG.1 hx))with rfl|h
    ·exact .head _
    ·exact .tail _ h
   rw[eL,aW]at this
   omega
  ·by_cases hne:∃i,i<n∧S i=false
   ·exact hne
   ·exfalso
    apply hall
    intro i hi
    cases hs:S i with
    |true=>rfl
    |false=>exact absurd ⟨i,hi,hs⟩ hne
 obtain⟨h1,h2,h3⟩:=zjr hex
 have h0:S 0=true:=(h.is 0 oQ).2 (.inl rfl)
 refine⟨h1,h2,h3,?_,fun hm=>?_⟩
 ·rcases fA (nw n S)with h|h
  ·rw[h,h0]at h1;cases h1
  ·exact h
 ·have:=(h.is _ h2).2 (.inr hm)
  rw[h1]at this;cases this
theorem Acc.add(h:Acc n S L)(hr:L.length+1<n):Acc n (us S (nw n S) true) (nw n S::L):=by
 obtain⟨h1,h2,h3,h4,h5⟩:=h.free hr
 refine⟨cP.2 ⟨h5,h.nodup⟩,fun i hi=>?_,fun x hx=>?_⟩
 ·unfold us
  by_cases e:i=nw n S
  ·rw[if_pos e]
   exact⟨fun _=>.inr (e▸ .head _),fun _=>rfl⟩
  ·rw[if_neg e]
   refine(h.is i hi).trans ⟨fun h=>h.imp id (fun h=>.tail _ h),fun h=>h.imp id fun h=>?_⟩
   rcases aI.1 h with h|h
   ·exact absurd h e
   ·exact h
 ·rcases aI.1 hx with rfl|hx
  ·exact⟨h4,h2⟩
  ·exact h.low x hx
theorem Acc.del{q:Nat}(h:Acc n S (q::L)):Acc n (us S q false) L:=by
 obtain⟨n1,n2⟩:=cP.1 h.nodup
 have hq:=(h.low q (.head _)).1
 refine⟨n2,fun i hi=>?_,fun x hx=>h.low x (.tail _ hx)⟩
 unfold us
 by_cases e:i=q
 ·rw[if_pos e]
  refine⟨fun h=>(nomatch h),fun h=>?_⟩
  rcases h with h|h
  ·omega
  ·exact absurd (e▸h) n1
 ·rw[if_neg e]
  refine(h.is i hi).trans ⟨fun h=>h.imp id fun h=>?_,fun h=>h.imp id fun h=>.tail _ h⟩
  rcases aI.1 h with h|h
  ·exact absurd h e
  ·exact h
def qs1(r:Res h):List Nat:=pgs r.1++(r.2.1.map fun g=>pgs g.2).getD []
structure qsg (n:Nat) (S:Nat→Bool) {h:Nat} (t:T h) (r:Res h) (N:List Nat):Prop where
 few:N.length≤h+1
 perm:(qs1 r).Perm (N++pgs t)
 acc:∀L,L.length+h+2<n→Acc n S L→Acc n r.2.2 (N++L)
theorem zyn(s:Sh)(n:Nat)(S:Nat→Bool)(t:T h):∃N,N.length≤1∧(qs1 (zca s n S t)).Perm (N++pgs t)∧∀L,L.length+1<n→Acc n S L→Acc n (zca s n S t).2.2 (N++L):=by
 obtain⟨h1,h2⟩:=qcs s n S t
 unfold qs1
 cases hg:(zca s n S t).2.1 with
 |none=>
  obtain⟨a,b⟩:=h1 hg
  exact⟨[],aZ _,by rw[a];simp,fun L _ hA=>by rw[b];exact hA⟩
 |some g=>
  obtain⟨k,d⟩:=g
  obtain⟨a, -,b⟩:=h2 k d hg
  exact⟨[nw n S],bA _,a,fun L hL hA=>by rw[b];exact hA.add hL⟩
theorem zum(l:List (T h))(hi:i<l.length)(x:T h){N:List Nat}(hp:(pgs x).Perm (N++pgs l[i])):((l.set i x).flatMap pgs).Perm (N++l.flatMap pgs):=by
 have e1:l.flatMap pgs=(l.take i).flatMap pgs++(pgs l[i]++(l.drop (i+1)).flatMap pgs):=by
  conv=>lhs;rw[←bF i l,cC hi]
  rw[bE,aY]
 have e2:(l.set i x).flatMap pgs=(l.take i).flatMap pgs++(pgs x++(l.drop (i+1)).flatMap pgs):=by
  conv=>lhs;rw[←bF i (l.set i x),cC (by rw[bM];exact hi)]
  rw[bE,aY,dH,eJ oQ,dI oQ]
 rw[e1,e2]
 refine(cW _ (cX _ hp)).trans ?_
 rw[aF]
 exact bR _ _ _
theorem zl1(l:List (T h))(i:Nat)(x:T h):((ins l i x).flatMap pgs).Perm (pgs x++l.flatMap pgs):=by
 unfold ins
 rw[bE,aY]
 refine(bR _ _ _).trans ?_
 rw[←bE,bF]
theorem qcg(s:Sh)(n:Nat)(k v:K):∀{h:Nat} (t:T h) (S:Nat→Bool),(∀(h':Nat),True)→∃N,qsg n S t (zok s n t k v S) N
 |0,(p,es),S,_=>by
  obtain⟨N,h1,h2,h3⟩:=zyn s n S (zb0 p (zfx es k v))
  exact⟨N,h1,h2,fun L hL hA=>h3 L oQ hA⟩
 |h+1,(p,ks,kids),S,_=>by
  cases hc:kids[dn ks k]? with
  |none=>
   have hput:zok s n (h:=h+1) (p,ks,kids) k v S=((p,ks,kids),none,S):=by
    simp only[zok,hc]<;>rfl
   rw[hput]
   exact⟨[],aZ _,by show(pgs (zau p ks kids)++[]).Perm _;rw[aU];exact .refl _,fun L _ hA=>hA⟩
  |some c=>
   obtain⟨hi,rfl⟩:=aJ.1 hc
   obtain⟨N1,f1,p1,a1⟩:=qcg s n k v kids[dn ks k] S (fun _=>trivial)
   have hput:zok s n (h:=h+1) (p,ks,kids) k v S=match zok s n kids[dn ks k] k v S with
    |(c',none,S')=>(zau p ks (kids.set (dn ks k) c'),none,S')
    |(c',some (q,d),S')=>zca s n S' (zau p (ins ks (dn ks k) q) (ins (kids.set (dn ks k) c') (dn ks k+1) d)):=by
    simp only[zok,hc]<;>rfl
   rw[hput]
   obtain⟨⟨c',g,S'⟩,hr⟩:∃r,zok s n kids[dn ks k] k v S=r:=⟨_,rfl⟩
   rw[hr]at p1 a1⊢
   cases g with
   |none=>
    have p1:(pgs c'++[]).Perm (N1++pgs kids[dn ks k]):=p1
    rw[aU]at p1
    refine⟨N1,oQ,?_,fun L hL hA=>a1 L oQ hA⟩
    show((p::(kids.set (dn ks k) c').flatMap pgs)++[]).Perm (N1++p::kids.flatMap pgs)
    rw[aU]
    exact(List.Perm.cons _ (zum kids hi c' p1)).trans bH.symm
   |some g=>
    obtain⟨q,d⟩:=g
    have p1:(pgs c'++pgs d).Perm (N1++pgs kids[dn ks k]):=p1
    obtain⟨N2,g1,g2,g3⟩:=zyn s n S' (zau p (ins ks (dn ks k) q) (ins (kids.set (dn ks k) c') (dn ks k+1) d))
    refine⟨N2++N1,by rw[aA];omega,?_,fun L hL hA=>?_⟩
    ·refine g2.trans ?_
     rw[aF]
     refine cW _ ?_
     show(p::(ins (kids.set (dn ks k) c') (dn ks k+1) d).flatMap pgs).Perm (N1++p::kids.flatMap pgs)
     refine(List.Perm.cons _ ?_).trans bH.symm
     refine(zl1 _ _ _).trans ?_
     have e1:kids.flatMap pgs=(kids.take (dn ks k)).flatMap pgs++(pgs kids[dn ks k]++(kids.drop (dn ks k+1)).flatMap pgs):=by
      conv=>lhs;rw[←bF (dn ks k) kids,cC hi]
      rw[bE,aY]
     have e2:(kids.set (dn ks k) c').flatMap pgs=(kids.take (dn ks k)).flatMap pgs++(pgs c'++(kids.drop (dn ks k+1)).flatMap pgs):=by
      conv=>lhs;rw[←bF (dn ks k) (kids.set (dn ks k) c'),cC (by rw[bM];exact hi)]
      rw[bE,aY,dH,eJ oQ,dI oQ]
     rw[e1,e2]
     have hp2:(pgs d++pgs c').Perm (N1++pgs kids[dn ks k]):=dR.trans p1
     generalize (kids.take (dn ks k)).flatMap pgs=A
     generalize (kids.drop (dn ks k+1)).flatMap pgs=B
     refine(bR _ _ _).trans ?_
     refine List.Perm.trans ?_ (bR _ _ _)
     refine cW _ ?_
     rw[←aF,←aF]
     exact cX _ hp2
    ·have hA1:=a1 L oQ hA
     have:=g3 (N1++L) (by rw[aA];omega) hA1
     rwa[aF]
theorem Sep.two:∀{P:List K} {X:List E} {q:K} {R:List K} {Y:List E},P.length+1=X.length→Ks (P++q::R)→Sep (P++q::R) (X++Y)→Sep P X∧Sep R Y∧(∀e∈X,zfo e q)∧(∀e∈Y,zg1 e q)∧∀k∈P,∀e∈Y,zg1 e k
 | [],[a],q,R,Y,_,_,h=>⟨trivial,h.2.2,fun e he=>(aK.1 he)▸h.1,h.2.1,fun _ h=>nomatch h⟩
 | [],[],_,_,_,h,_,_=>absurd h sQ
 | [],_::_::_,_,_,_,h,_,_=>absurd h sQ
 |k::P,[],_,_,_,h,_,_=>absurd h sQ
 |k::P,e::X,q,R,Y,hl,hk,h=>by
  obtain⟨k1,k2⟩:=bI.1 hk
  obtain⟨h1,h2,h3⟩:zfo e k∧(∀e'∈X++Y,zg1 e' k)∧Sep (P++q::R) (X++Y):=h
  obtain⟨i1,i2,i3,i4,i5⟩:=Sep.two (by simpa using hl) k2 h3
  refine⟨⟨h1,fun e' he=>h2 e' (aN _ he),i1⟩,i2,fun e' he=>?_,i4,fun k' hk' e' he=>?_⟩
  ·rcases aI.1 he with rfl|he
   ·exact fun x hx=>zb9 (h1 x hx) (k1 q (aT _ (.head _)))
   ·exact i3 e' he
  ·rcases aI.1 hk' with rfl|hk'
   ·exact h2 e' (aT _ he)
   ·exact i5 k' hk' e' he
theorem Sep.last:∀{P:List K} {X:List E} {a l:E},Sep P (X++[a])→(∀k∈P,zg1 l k)→Sep P (X++[l])
 | [],[],_,_,_,_=>trivial
 | [],_::X,a,_,h,_=>by have:=h.len;simp at this
 |k::P,[],a,_,h,_=>by have:=h.len;simp at this
 |k::P,e::X,a,l,h,hl=>by
  refine⟨h.1,fun e' he=>?_,Sep.last h.2.2 fun k' hk=>hl k' (.tail _ hk)⟩
  rcases aR.1 he with he|he
  ·exact h.2.1 e' (aN _ he)
  ·exact(aK.1 he)▸hl k (.head _)
variable{R:List K}{Y:List E}
theorem Sep.first{b d:E}(h:Sep R (b::Y))(hd:∀k∈R,zfo d k):Sep R (d::Y):=by
 match R,Y,h with
 | [],[],_=>trivial
 |k::R,Y,h=>exact⟨hd k (.head _),h.2.1,h.2.2⟩
theorem Sep.glue:∀{P:List K} {X:List E} {e:E} {R:List K} {Y:List E},Sep P (X++[e])→Sep R (e::Y)→(∀k∈P,∀e'∈Y,zg1 e' k)→Sep (P++R) (X++e::Y)
 | [],[],_,_,_,_,h,_=>h
 | [],_::X,_,_,_,h,_,_=>by have:=h.len;simp at this
 |k::P,[],_,_,_,h,_,_=>by have:=h.len;simp at this
 |k::P,x::X,e,R,Y,h,h2,hc=>by
  refine⟨h.1,fun e' he=>?_,Sep.glue h.2.2 h2 fun k' hk=>hc k' (.tail _ hk)⟩
  rcases aR.1 he with he|he
  ·exact h.2.1 e' (aN _ he)
  ·rcases aI.1 he with rfl|he
   ·exact h.2.1 _ (aT _ (.head _))
   ·exact hc k (.head _) e' he
variable{P:List K}{q:K}
theorem Sep.keyLt{X:List E}(h:Sep P X)(hk:Ks P)(hne:∀e∈X,e≠[])(hl:∀e∈X,zfo e q):∀k∈P,kl k q:=by
 intro k hk'
 obtain⟨i,hi,rfl⟩:=bJ hk'
 obtain⟨p1,p2⟩:=h.part hk
 have hlen:=h.len
 have hj:i+1<X.length:=oQ
 obtain⟨x,hx⟩:=dJ _ (hne _ (aS hj))
 exact zd5 (p2 i (i+1) hi hj (eT i) x hx) (hl _ (aS hj) x hx)
theorem Sep.ltKey(h:Sep R Y)(hk:Ks R)(hne:∀e∈Y,e≠[])(hg:∀e∈Y,zg1 e q):∀k∈R,kl q k:=by
 intro k hk'
 obtain⟨i,hi,rfl⟩:=bJ hk'
 obtain⟨p1,p2⟩:=h.part hk
 have hlen:=h.len
 have hj:i<Y.length:=oQ
 obtain⟨x,hx⟩:=dJ _ (hne _ (aS hj))
 exact zd5 (hg _ (aS hj) x hx) (p1 i i hi hj (bA _) x hx)
theorem qgy(h1:Ks P)(h2:Ks R)(l1:∀k∈P,kl k q)(l2:∀k∈R,kl q k):Ks (P++q::R):=by
 unfold Ks
 rw[bQ]
 refine⟨h1,bI.2 ⟨l2,h2⟩,fun x hx y hy=>?_⟩
 rcases aI.1 hy with rfl|hy
 ·exact l1 x hx
 ·exact zb9 (l1 x hx) (l2 y hy)
theorem qkm(h:Ks (P++q::R)):Ks P∧Ks R∧(∀k∈P,kl k q)∧(∀k∈R,kl q k)∧Ks (P++R):=by
 unfold Ks at*
 rw[bQ]at h
 obtain⟨h1,h2,h3⟩:=h
 obtain⟨h4,h5⟩:=bI.1 h2
 exact⟨h1,h5,fun k hk=>h3 k hk q (.head _),h4,bQ.2 ⟨h1,h5,fun x hx y hy=>h3 x hx y (.tail _ hy)⟩⟩
def zc2:{h:Nat}→T h→T h→K→T h
 |0,a,b,_=>zb0 a.1 (a.2++b.2)
 |_+1,a,b,q=>zau a.1 (a.2.1++q::b.2.1) (a.2.2++b.2.2)
theorem zg5:∀{h:Nat} (a b:T h) (q:K),sz (zc2 a b q)=sz a+sz b
 |0,(_,_),(_,_),_=>aA
 |_+1,(_,_,_),(_,_,_),_=>aA
theorem qgp:∀{h:Nat} (a b:T h) (q:K),ents (zc2 a b q)=ents a++ents b
 |0,(_,_),(_,_),_=>rfl
 |_+1,(_,_,_),(_,_,_),_=>bE
theorem zmy:∀{h:Nat} (a b:T h) (q:K),pg (zc2 a b q)=pg a
 |0,(_,_),(_,_),_=>rfl
 |_+1,(_,_,_),(_,_,_),_=>rfl
theorem qbx:∀{h:Nat} (a b:T h) (q:K),(pgs a++pgs b).Perm (pg b::pgs (zc2 a b q))
 |0,(_,_),(_,_),_=>.swap _ _ _
 |_+1,(pa,_,A),(pb,_,B),_=>by
  show((pa::A.flatMap pgs)++(pb::B.flatMap pgs)).Perm (pb::pa::(A++B).flatMap pgs)
  rw[bE]
  exact bH
theorem zsp(s:Sh):∀{h:Nat} (a b:T h) (q:K),Below s a→Below s b→Below s (zc2 a b q)
 |0,_,_,_,_,_=>trivial
 |_+1,(_,_,_),(_,_,_),_,ha,hb=>fun x hx=>(aR.1 hx).elim (ha x) (hb x)
theorem qgr(s:Sh):∀{h:Nat} (a b:T h) (q:K),Wd s a→Wd s b→q.length=s.kw→Wd s (zc2 a b q)
 |0,(_,_),(_,_),_,ha,hb,_=>fun x hx=>(aR.1 hx).elim (ha x) (hb x)
 |_+1,(_,_,_),(_,_,_),q,ha,hb,hq=>by
  refine⟨fun k hk=>?_,fun x hx=>(aR.1 hx).elim (ha.2 x) (hb.2 x)⟩
  rcases aR.1 hk with hk|hk
  ·exact ha.1 k hk
  ·rcases aI.1 hk with rfl|hk
   ·exact hq
   ·exact hb.1 k hk
theorem qbw(s:Sh)(h2:∀h,2≤mx s h):∀{h:Nat} (a b:T h) (q:K),Ord a→Ord b→Below s a→Below s b→zfo (ents a) q→zg1 (ents b) q→Ord (zc2 a b q)
 |0,(_,ea),(_,eb),q,ha,hb,_,_,la,gb=>by
  have ha:Es ea:=ha
  have hb:Es eb:=hb
  show Es (ea++eb)
  unfold Es Ks
  rw[bV,bQ]
  refine⟨ha,hb,fun x hx y hy=>?_⟩
  obtain⟨p,hp,rfl⟩:=aO.1 hx
  obtain⟨r,hr,rfl⟩:=aO.1 hy
  exact zu0 (la p hp) (gb r hr)
 |h+1,(_,P,X),(_,R,Y),q,ha,hb,ba,bb,la,gb=>by
  obtain⟨a1,a2,a3⟩:Ks P∧Sep P (X.map ents)∧∀x∈X,Ord x:=ha
  obtain⟨b1,b2,b3⟩:Ks R∧Sep R (Y.map ents)∧∀x∈Y,Ord x:=hb
  have ba:∀x∈X,mx s h/2≤sz x∧sz x≤mx s h∧Below s x:=ba
  have bb:∀x∈Y,mx s h/2≤sz x∧sz x≤mx s h∧Below s x:=bb
  have hh:=h2 h
  have ne:∀Z:List (T h),(∀x∈Z,mx s h/2≤sz x∧sz x≤mx s h∧Below s x)→∀e∈Z.map ents,e≠[]:=fun Z hZ e he=>by
   obtain⟨x,hx,rfl⟩:=aO.1 he
   obtain⟨c1, -,c3⟩:=hZ x hx
   exact zjp s h2 x c3 oQ
  have la':∀e∈X.map ents,zfo e q:=fun e he p hp=>by
   obtain⟨x,hx,rfl⟩:=aO.1 he
   exact la p (cE.2 ⟨x,hx,hp⟩)
  have gb':∀e∈Y.map ents,zg1 e q:=fun e he p hp=>by
   obtain⟨x,hx,rfl⟩:=aO.1 he
   exact gb p (cE.2 ⟨x,hx,hp⟩)
  have k1:=a2.keyLt a1 (ne X ba) la'
  have k2:=b2.ltKey b1 (ne Y bb) gb'
  refine⟨qgy a1 b1 k1 k2,?_,fun x hx=>(aR.1 hx).elim (a3 x) (b3 x)⟩
  show Sep (P++q::R) ((X++Y).map ents)
  rw[bV]
  exact Sep.join b2 gb' a2 (fun k hk e he p hp h=>gb' e he p hp (zb9 h (k1 k hk))) la'
section
theorem zwm:∀(X:List α) (a:α) (Y:List α),(X++a::Y)[X.length]? =some a
 | [],_,_=>rfl
 |_::X,a,Y=>zwm X a Y
theorem zt0:∀(X:List α) (a b:α) (Y:List α),(X++a::b::Y)[X.length+1]? =some b
 | [],_,_,_=>rfl
 |_::X,a,b,Y=>zt0 X a b Y
theorem znk:∀(X:List α) (a c:α) (Y:List α),(X++a::Y).set X.length c=X++c::Y
 | [],_,_,_=>rfl
 |x::X,a,c,Y=>congrArg (x:: ·) (znk X a c Y)
theorem zo0:∀(X:List α) (a b c:α) (Y:List α),(X++a::b::Y).set (X.length+1) c=X++a::c::Y
 | [],_,_,_,_=>rfl
 |x::X,a,b,c,Y=>congrArg (x:: ·) (zo0 X a b c Y)
theorem qbk:∀(X:List α) (a:α) (Y:List α),(X++a::Y).eraseIdx X.length=X++Y
 | [],_,_=>rfl
 |x::X,a,Y=>congrArg (x:: ·) (qbk X a Y)
theorem zue:∀(X:List α) (a b:α) (Y:List α),(X++a::b::Y).eraseIdx (X.length+1)=X++a::Y
 | [],_,_,_=>rfl
 |x::X,a,b,Y=>congrArg (x:: ·) (zue X a b Y)
theorem zuo(X:List K)(a:K)(Y:List K):(X++a::Y).getD X.length []=a:=by
 rw[aH,zwm];rfl
end
def zht(s:Sh)(n:Nat)(S:Nat→Bool)(p:Nat)(ks:List K)(kids:List (T h))(i:Nat):T (h+1)×(Nat→Bool):=
 match kids[i - 1]?,kids[i - 1+1]? with
 |some a,some b=>
  if mx s h<sz (zc2 a b (ks.getD (i - 1) []))then
   match zca s n (us S (pg b) false) (zc2 a b (ks.getD (i - 1) []))with
   |(l,some (q,d),S')=>(zau p (ks.set (i - 1) q) ((kids.set (i - 1) l).set (i - 1+1) d),S')
   |(_,none,S')=>(zau p ks kids,S')
  else(zau p (ks.eraseIdx (i - 1)) ((kids.set (i - 1) (zc2 a b (ks.getD (i - 1) []))).eraseIdx (i - 1+1)),us S (pg b) false)
 |_,_=>(zau p ks kids,S)
structure qp7 (s:Sh) (n:Nat) (S:Nat→Bool) (p:Nat) {h:Nat} (kids:List (T h)) (r:T (h+1)×(Nat→Bool)):Prop where
 page:pg r.1=p
 ents:ents r.1=kids.flatMap Tr.ents
 ord:Ord r.1
 wd:Wd s r.1
 below:Below s r.1
 le:sz r.1≤kids.length
 ge:kids.length≤sz r.1+1
 acc:∀L,Acc n S (p::kids.flatMap pgs++L)→Acc n r.2 (pgs r.1++L)
theorem Acc.room(h:Acc n S L)(h0:0<n):L.length<n:=by
 have:=zve (l:=0::L) (L:=List.range n) (cP.2 ⟨fun h'=>by have:=(h.low 0 h').1;omega,h.nodup⟩) fun x hx=>by
  rcases aI.1 hx with rfl|hx
  ·exact dG.2 h0
  ·exact dG.2 (h.low x hx).2
 rw[eL,aW]at this
 omega
theorem qoj(s:Sh)(n:Nat)(hn:0<n)(h2:∀h,2≤mx s h)(S:Nat→Bool)(p:Nat){q0:K}{X Y:List (T h)}{a b:T h}(hl:X.length=P.length)(o1:Ks (P++q0::R))(o2:Sep (P++q0::R) ((X++a::b::Y).map ents))(o3:∀x∈X++a::b::Y,Ord x)
  (w1:∀k∈P++q0::R,k.length=s.kw) (w2:∀x∈X++a::b::Y,Wd s x) (hB:∀x∈X++a::b::Y,Below s x) (hX:∀x∈X++Y,mx s h/2≤sz x∧sz x≤mx s h) (hab:sz a+sz b≤mx s h+mx s h/2) (hab2:mx s h/2≤sz a+sz b) (i:Nat) (hi:i - 1=X.length):
  qp7 s n S p (X++a::b::Y) (zht s n S p (P++q0::R) (X++a::b::Y) i):=by
 have hm:zht s n S p (P++q0::R) (X++a::b::Y) i=
   if mx s h<sz a+sz b then
    match zca s n (us S (pg b) false) (zc2 a b q0)with
    |(l,some (q,d),S')=>(zau p (P++q::R) (X++l::d::Y),S')
    |(_,none,S')=>(zau p (P++q0::R) (X++a::b::Y),S')
   else(zau p (P++R) (X++zc2 a b q0::Y),us S (pg b) false):=by
  have e1:∀l,(X++a::b::Y).set X.length l=X++l::b::Y:=fun l=>znk X a l (b::Y)
  have e2:∀l d,(X++l::b::Y).set (X.length+1) d=X++l::d::Y:=fun l d=>zo0 X l b d Y
  have e3:∀q,(P++q0::R).set X.length q=P++q::R:=fun q=>by rw[hl];exact znk P q0 q R
  have e4:(P++q0::R).eraseIdx X.length=P++R:=by rw[hl];exact qbk P q0 R
  have e5:(P++q0::R).getD X.length []=q0:=by rw[hl];exact zuo P q0 R
  have e6:∀l,(X++l::b::Y).eraseIdx (X.length+1)=X++l::Y:=fun l=>zue X l b Y
  unfold zht
  rw[hi,zwm,zt0]
  simp only[e1,e2,e3,e4,e5,e6,zg5]
 rw[hm]
 obtain⟨k1,k2,k3,k4,k5⟩:=qkm o1
 have hsp:Sep (P++q0::R) ((X.map ents++[ents a])++(ents b::Y.map ents)):=by
  have:=o2
  rw[bV,bD,bD]at this
  simpa using this
 obtain⟨t1,t2,t3,t4,t5⟩:=Sep.two (P:=P) (X:=X.map ents++[ents a]) (by simp[hl]) o1 hsp
 have la:zfo (ents a) q0:=t3 _ (aT _ (.head _))
 have gb:zg1 (ents b) q0:=t4 _ (.head _)
 have ma:a∈X++a::b::Y:=aT _ (.head _)
 have mb:b∈X++a::b::Y:=aT _ (.tail _ (.head _))
 have mX:∀x∈X,x∈X++a::b::Y:=fun x hx=>aN _ hx
 have mY:∀x∈Y,x∈X++a::b::Y:=fun x hx=>aT _ (.tail _ (.tail _ hx))
 have hO:=qbw s h2 a b q0 (o3 a ma) (o3 b mb) (hB a ma) (hB b mb) la gb
 have hW:=qgr s a b q0 (w2 a ma) (w2 b mb) (w1 q0 (aT _ (.head _)))
 have hBl:=zsp s a b q0 (hB a ma) (hB b mb)
 have hents:=qgp a b q0
 have hflat:(X++a::b::Y).flatMap ents=X.flatMap ents++((ents a++ents b)++Y.flatMap ents):=by
  rw[bE,aY,aY,aF]
 -- the keys behind are greater,those ahead are not
 have gP:∀k∈P,zg1 (ents a++ents b) k:=fun k hk x hx=>by
  rcases aR.1 hx with hx|hx
  ·obtain⟨j,hj,rfl⟩:=bJ hk
   obtain⟨-,p2⟩:=t1.part k1
   have hlen:=t1.len
   have:=p2 j (X.map ents).length hj sQ (by rw[aD];omega)
   rw[List.getElem_append_right (bA _)]at this
   simp only[Nat.sub_self,iX]at this
   exact this x hx
  ·exact t5 k hk _ (.head _) x hx
 have lR:∀k∈R,zfo (ents a++ents b) k:=fun k hk x hx=>by
  rcases aR.1 hx with hx|hx
  ·exact zb9 (la x hx) (k4 k hk)
  ·obtain⟨j,hj,rfl⟩:=bJ hk
   obtain⟨p1, -⟩:=t2.part k2
   have:=p1 j 0 hj sQ (aZ _)
   exact this x hx
 have gY:∀k∈P,∀e∈Y.map ents,zg1 e k:=fun k hk e he=>t5 k hk e (.tail _ he)
 have lX:∀e∈X.map ents,zfo e q0:=fun e he=>t3 e (aN _ he)
 have hperm:(p::(X++a::b::Y).flatMap pgs).Perm (pg b::(p::(X.flatMap pgs++(pgs (zc2 a b q0)++Y.flatMap pgs)))):=by
  rw[bE,aY,aY]
  refine List.Perm.trans ?_ (.swap _ _ _)
  refine .cons _ ?_
  refine(cW _ ?_).trans bH
  rw[←aF]
  exact cX _ (qbx a b q0)
 split
 ·rename_i hbig
  have hsok:=zo2 s n (us S (pg b) false) (zc2 a b q0) hO hW hBl (by rw[zg5];exact hab) (h2 h)
  have hspg:=qcs s n (us S (pg b) false) (zc2 a b q0)
  rw[hents]at hsok
  obtain⟨⟨l,g,S'⟩,hr⟩:∃r,zca s n (us S (pg b) false) (zc2 a b q0)=r:=⟨_,rfl⟩
  have hsn:g≠none:=fun hg=>by
   subst hg
   have:=(hsok.none (by rw[hr])).2.2.2.1
   have h3:=(hspg.none (by rw[hr]))
   -- a split zdt a node as it is only if it is not too great
   have hle:∀{h:Nat} (t:T h) (S:Nat→Bool),(zca s n S t).2.1=none→sz t≤mx s h:=by
    intro h t S hnone
    cases h with
    |zero=>
     obtain⟨tp,te⟩:=t
     change (zca s n S (zb0 tp te)).2.1=none at hnone
     rw[znl]at hnone
     split at hnone
     ·rename_i hc;exact hc
     ·cases hnone
    |succ h=>
     obtain⟨tp,tk,tc⟩:=t
     change (zca s n S (zau tp tk tc)).2.1=none at hnone
     rw[znm]at hnone
     split at hnone
     ·rename_i hc;exact hc
     ·cases hnone
   have:=hle (zc2 a b q0) (us S (pg b) false) (by rw[hr])
   rw[zg5]at this
   omega
  rw[hr]at hsok hspg⊢
  match g,hsn with
  |some (q,d),_=>
   obtain⟨e1,e2,e3,e4,e5,e6,e7,e8,e9,e10,e11,e12,e13,e14⟩:=hsok.some q d rfl
   obtain⟨g1,g2,g3⟩:=hspg.some q d rfl
   simp only at e1 e2 e3 e4 e5 e6 e7 e8 e9 e10 e11 e12 e13 e14 g1 g2 g3⊢
   have hh:=h2 h
   have nl:=zjp s h2 l e13 oQ
   have nd:=zjp s h2 d e14 oQ
   obtain⟨x1,hx1⟩:=dJ _ nl
   obtain⟨x2,hx2⟩:=dJ _ nd
   have s1:∀x∈ents l,x∈ents a++ents b:=fun x hx=>by rw[←e1];exact aN _ hx
   have s2:∀x∈ents d,x∈ents a++ents b:=fun x hx=>by rw[←e1];exact aT _ hx
   have qP:∀k∈P,kl k q:=fun k hk=>zd5 (gP k hk x1 (s1 x1 hx1)) (e7 x1 hx1)
   have qR:∀k∈R,kl q k:=fun k hk=>zd5 (e8 x2 hx2) (lR k hk x2 (s2 x2 hx2))
   have hSep:Sep (P++q::R) ((X.map ents++[ents l])++(ents d::Y.map ents)):=by
    refine Sep.join (t2.first fun k hk x hx=>lR k hk x (s2 x hx)) (fun e he=>?_) (t1.last fun k hk x hx=>gP k hk x (s1 x hx)) (fun k hk e he=>?_) fun e he=>?_
    ·rcases aI.1 he with rfl|he
     ·exact e8
     ·intro x hx hxq
      cases hRl:R with
      |nil=> 
       have hlen:=t2.len
       rw[hRl]at hlen
       simp at hlen
       rw[hlen]at he
       cases he
      |cons r R'=>
       obtain⟨-,p2⟩:=t2.part k2
       obtain⟨j,hj,rfl⟩:=bJ he
       have:=p2 0 (j+1) (by rw[hRl];simp) (by simpa using hj) (eZ _)
       rw[List.getElem_cons_succ]at this
       exact this x hx (zb9 hxq (qR _ (aS _)))
    ·rcases aI.1 he with rfl|he
     ·exact fun x hx=>gP k hk x (s2 x hx)
     ·exact gY k hk e he
    ·rcases aR.1 he with he|he
     ·intro x hx
      cases hPl:P with
      |nil=>
       have hX0:X=[]:=by rw[hPl]at hl;exact bN hl
       rw[hX0]at he
       cases he
      |cons r P'=>
       obtain⟨j,hj,rfl⟩:=bJ he
       rw[aD]at hj
       obtain⟨p1, -⟩:=t1.part k1
       have:=p1 j j oQ (by simp;omega) (bA _)
       rw[List.getElem_append_left (by rw[aD];exact hj)]at this
       exact zb9 (this x hx) (qP _ (aS _))
     ·exact(aK.1 he)▸e7
   refine⟨rfl,?_,⟨qgy k1 k2 qP qR,?_,fun x hx=>?_⟩,⟨fun k hk=>?_,fun x hx=>?_⟩,fun x hx=>?_,?_,?_,fun L hA=>?_⟩
   ·show(X++l::d::Y).flatMap ents=(X++a::b::Y).flatMap ents
    rw[hflat,bE,aY,aY,←e1,aF]
   ·show Sep (P++q::R) ((X++l::d::Y).map ents)
    rw[bV,bD,bD]
    simpa using hSep
   ·rcases aR.1 hx with hx|hx
    ·exact o3 x (mX x hx)
    ·rcases aI.1 hx with rfl|hx
     ·exact e2
     ·rcases aI.1 hx with rfl|hx
      ·exact e3
      ·exact o3 x (mY x hx)
   ·rcases aR.1 hk with hk|hk
    ·exact w1 k (aN _ hk)
    ·rcases aI.1 hk with rfl|hk
     ·exact e6
     ·exact w1 k (aT _ (.tail _ hk))
   ·rcases aR.1 hx with hx|hx
    ·exact w2 x (mX x hx)
    ·rcases aI.1 hx with rfl|hx
     ·exact e4
     ·rcases aI.1 hx with rfl|hx
      ·exact e5
      ·exact w2 x (mY x hx)
   ·rcases aR.1 hx with hx|hx
    ·obtain⟨c1,c2⟩:=hX x (aN _ hx);exact⟨c1,c2,hB x (mX x hx)⟩
    ·rcases aI.1 hx with rfl|hx
     ·exact⟨e9,e10,e13⟩
     ·rcases aI.1 hx with rfl|hx
      ·exact⟨e11,e12,e14⟩
      ·obtain⟨c1,c2⟩:=hX x (aT _ hx);exact⟨c1,c2,hB x (mY x hx)⟩
   ·show(X++l::d::Y).length≤_;simp
   ·show _≤(X++l::d::Y).length+1;simp
   ·have hA1:=hA.perm ((cX L hperm))
    have hA2:Acc n (us S (pg b) false) ((p::(X.flatMap pgs++(pgs (zc2 a b q0)++Y.flatMap pgs)))++L):=hA1.del
    have hroom:=hA1.room hn
    have hA3:=hA2.add (by rw[aA]at hroom⊢;rw[aW]at hroom;omega)
    rw[g3]
    refine hA3.perm ?_
    show(nw n (us S (pg b) false)::((p::(X.flatMap pgs++(pgs (zc2 a b q0)++Y.flatMap pgs)))++L)).Perm ((p::(X++l::d::Y).flatMap pgs)++L)
    rw[←aC]
    refine cX L ?_
    refine(List.Perm.swap _ _ _).trans (.cons _ ?_)
    rw[bE,aY,aY]
    refine bH.symm.trans (cW _ ?_)
    rw[←aC,←aF]
    exact cX _ g1.symm
 ·rename_i hsmall
  have hSep:Sep (P++R) (X.map ents++(ents a++ents b)::Y.map ents):=Sep.glue (t1.last gP) (t2.first lR) gY
  refine⟨rfl,?_,⟨k5,?_,fun x hx=>?_⟩,⟨fun k hk=>?_,fun x hx=>?_⟩,fun x hx=>?_,?_,?_,fun L hA=>?_⟩
  ·show(X++zc2 a b q0::Y).flatMap ents=(X++a::b::Y).flatMap ents
   rw[hflat,bE,aY,hents]
  ·show Sep (P++R) ((X++zc2 a b q0::Y).map ents)
   rw[bV,bD,hents]
   exact hSep
  ·rcases aR.1 hx with hx|hx
   ·exact o3 x (mX x hx)
   ·rcases aI.1 hx with rfl|hx
    ·exact hO
    ·exact o3 x (mY x hx)
  ·rcases aR.1 hk with hk|hk
   ·exact w1 k (aN _ hk)
   ·exact w1 k (aT _ (.tail _ hk))
  ·rcases aR.1 hx with hx|hx
   ·exact w2 x (mX x hx)
   ·rcases aI.1 hx with rfl|hx
    ·exact hW
    ·exact w2 x (mY x hx)
  ·rcases aR.1 hx with hx|hx
   ·obtain⟨c1,c2⟩:=hX x (aN _ hx);exact⟨c1,c2,hB x (mX x hx)⟩
   ·rcases aI.1 hx with rfl|hx
    ·rw[zg5];exact⟨hab2,oQ,hBl⟩
    ·obtain⟨c1,c2⟩:=hX x (aT _ hx);exact⟨c1,c2,hB x (mY x hx)⟩
  ·show(X++zc2 a b q0::Y).length≤(X++a::b::Y).length;simp
  ·show(X++a::b::Y).length≤(X++zc2 a b q0::Y).length+1;simp;omega
  ·have hA1:=hA.perm ((cX L hperm))
   have hA2:Acc n (us S (pg b) false) ((p::(X.flatMap pgs++(pgs (zc2 a b q0)++Y.flatMap pgs)))++L):=hA1.del
   show Acc n (us S (pg b) false) ((p::(X++zc2 a b q0::Y).flatMap pgs)++L)
   rw[bE,aY]
   exact hA2
end Go.Eng.Tr
