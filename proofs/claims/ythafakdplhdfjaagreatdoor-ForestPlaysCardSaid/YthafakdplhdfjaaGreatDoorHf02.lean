/- Parts: Items by their places; calls of function values that take items over; Words of 32 bits; Short steps; Slices of bytes; Maps keyed by whole numbers; Ranging over a map keyed by whole numbers; The checksum of bytes; The document's constants by roots; The hash of . No condition. -/
import Derived.Test.YthafakdplhdfjaaGreatDoorHf01
import Derived.Laws.IdiomStrings
import Derived.Laws.Cover3
import Derived.Maps.Keyed
import Derived.Maps.RangeRun
import Derived.ChangeMaps5
import Derived.Test.YthafakdplhdfjaaGreatDoorChecked
set_option maxRecDepth 100000
set_option maxHeartbeats 40000000
namespace Go.Eng
open Go.RowKit
variable{P:Program}{Q:Exit→Act→World→Prop}{N:Fm}{l:zav}{H:World→Prop}{ops:Array Oper}{rest:List Oper}{w0:World}{F:Nat→Prop}{m m':List Item}{ty:TypeId}{pos:String}{after:Array Edge}{g:Option (Nat×Bool)}{d:Nat}
def zl9(m:List Item):List Nat→Option (List Item)
 | []=>some []
 |i::r=>match nth m i,zl9 m r with
  |some x,some L=>some (x::L)
  |_,_=>none
def zrq:List Nat→Bool
 | []=>true
 |i::r=> !qn9 r i&&zrq r
theorem qbu:∀{L:List Nat} {i:Nat},qn9 L i=true↔i∈L
 | [],_=>by simp[qn9]
 |x::r,i=>by
  simp only[qn9,iE,aL,qbu (L:=r)]
  constructor
  ·rintro(h|h)
   ·exact .inl (gJ h).symm
   ·exact .inr h
  ·rintro(rfl|h)
   ·exact .inl (lA _)
   ·exact .inr h
theorem zqh:∀{is:List Nat} {m':List Item},zl9 m is=some m'→∀x∈m',∃i∈is,m[i]? =some x
 | [],m',h,x,hx=>by simp only[zl9,cO]at h;subst h;cases hx
 |i::r,m',h,x,hx=>by
  simp only[zl9]at h
  split at h
  ·rename_i y L h1 h2
   simp only[cO]at h
   subst h
   rcases aL.1 hx with rfl|hx
   ·exact⟨i,by simp,by rw[←zp4];exact h1⟩
   ·obtain⟨j,hj,h3⟩:=zqh h2 x hx
    exact⟨j,by simp[hj],h3⟩
  ·cases h
theorem zqg(hm:m.Pairwise Item.Apart):∀{is:List Nat} {m':List Item},zrq is=true→zl9 m is=some m'→m'.Pairwise Item.Apart
 | [],m',_,h=>by simp only[zl9,cO]at h;subst h;exact .nil
 |i::r,m',hd,h=>by
  simp only[zrq,bH,eZ]at hd
  simp only[zl9]at h
  split at h
  ·rename_i y L h1 h2
   simp only[cO]at h
   subst h
   refine bP.2 ⟨fun z hz=>?_,zqg hm hd.2 h2⟩
   obtain⟨j,hj,h3⟩:=zqh h2 z hz
   have hij:i≠j:=fun e=>by
    subst e
    have:=qbu.2 hj
    rw[hd.1]at this;cases this
   rw[zp4]at h1
   obtain⟨a1,a2⟩:=aC.1 h1
   obtain⟨b1,b2⟩:=aC.1 h3
   rcases iU hij with hlt|hlt
   ·have:=cG.1 hm i j a1 b1 hlt
    rwa[a2,b2]at this
   ·have:=cG.1 hm j i b1 a1 hlt
    rw[a2,b2]at this
    exact fun k h h'=>this k h' h
  ·cases h
variable{w:World}
theorem Hp.pick(hw:Hp w0 F m w)(is:List Nat)(hd:zrq is=true)(h:zl9 m is=some m'):Hp w0 F m' w:=
 ⟨hw.fr,fun it hm=>by obtain⟨i, -,hi⟩:=zqh h it hm;exact hw.item it (bI hi),zqg hw.apart hd h⟩
theorem zay(is:List Nat)(hd:zrq is=true)(h:zl9 m is=some m')(k:HL P ops Q N rest l (Hp w0 F m')):HL P ops Q N rest l (Hp w0 F m):=zcy (fun _ hw=>hw.pick is hd h) k
theorem zcx{c:Code}(is:List Nat)(hd:zrq is=true)(h:zl9 m is=some m')(k:HT P c Q N l (Hp w0 F m')):HT P c Q N l (Hp w0 F m):=zg8 (fun _ hw=>hw.pick is hd h) k
theorem zgf{e:Exit}(is:List Nat)(hd:zrq is=true)(h:zl9 m is=some m')(k:HX Q e N l (Hp w0 F m')):HX Q e N l (Hp w0 F m):=zbr (fun _ hw=>hw.pick is hd h) k
variable{n:Nat}{listed:Array Bool}
theorem zfa{S:World→Prop}{t:Nat}(is:List Nat)(hd:zrq is=true)(h:zl9 m is=some m')(k:HD P ops Q S t N n listed l (Hp w0 F m')):HD P ops Q S t N n listed l (Hp w0 F m):=by
 unfold HD at*;exact fun inv a w s hw=>k inv a w s (hw.pick is hd h)
variable{b:Nat}
theorem Hp.out(hw:Hp w0 F m w)(hb:b<w0.heap.size)(hF:¬F b):¬za4 m b:=fun⟨it,hm,hk⟩=>hF ((hw.item it hm).2.2 b hk |>.2 hb)
theorem Gh.In.lt{h:Gh}(hi:h.In w)(hb:(h b).isSome=true):b<w.heap.size:=by
 obtain⟨o,ho⟩:=cI.1 hb
 exact(bR.1 (hi b o ho)).1
theorem Gh.In.out{h:Gh}{w:World}(hi:h.In w0)(hF:∀b,(h b).isSome=true→¬F b)(hw:Hp w0 F m w):∀b,(h b).isSome=true→¬za4 m b:=fun b hb=>hw.out (hi.lt hb) (hF b hb)
variable{f:FuncId}{x:Operand}{xs:List Operand}{tys:Array TypeId}{α:Type}{val:α→Value}{φ:α→Prop}{its:α→List Item}
theorem zx1{fs cs:List Value}{vs us:List Value}{pre:List Item}
  (hok:zee N l (.call ⟨.value x,xs.toArray,tys⟩) d=true) (hb:za7 P f=true) (hf:evO l x=some (.func (.func f) fs.toArray cs.toArray)) (hx:evs l xs=some vs) (hu:fs++(vs++cs)=us) (hst:∀it∈pre,it.Stable none')
  (hc:∀w,Hp w0 F (pre++m) w→(∀it∈pre,zbq it w)→pre.Pairwise Item.Apart→Ct P f us.toArray w (za4 pre) val φ its):
  HO P ⟨some d,.call ⟨.value x,xs.toArray,tys⟩,ty,pos,after,g⟩ Q N l (Hp w0 F (pre++m)) (α:={ x:α//φ x }) (fun x=>(d,val x.1)::l) (fun x=>Hp w0 F (its x.1++m)):=
 zsz (val:=fun x:{ x:α//φ x }=>val x.1) hok (zzp hf hb hx hu) (fun w hw=>(Ct.calls (hc w hw (fun it hm=>have h:=hw.item it (aP _ hm);⟨h.1,hst it hm,fun k hk=>(h.2.2 k hk).1⟩) (bN.1 hw.apart).1)).mono fun _ _ ⟨x,he,hx,hi⟩=>⟨⟨x,hx⟩,he,hw.call hi fun _ _ ⟨it,hm,hk⟩=>⟨it,hm,hk⟩⟩)
theorem qsy{fs cs:List Value}{vs us:List Value}
  (hok:zee N l (.call ⟨.value x,xs.toArray,tys⟩) d=true) (hb:za7 P f=true) (hf:evO l x=some (.func (.func f) fs.toArray cs.toArray)) (hx:evs l xs=some vs) (hu:fs++(vs++cs)=us)
  (hc:∀w,Hp w0 F m w→Ct P f us.toArray w none' val φ its):
  HO P ⟨some d,.call ⟨.value x,xs.toArray,tys⟩,ty,pos,after,g⟩ Q N l (Hp w0 F m) (α:={ x:α//φ x }) (fun x=>(d,val x.1)::l) (fun x=>Hp w0 F (its x.1++m)):=
 zsz (val:=fun x:{ x:α//φ x }=>val x.1) hok (zzp hf hb hx hu) (fun w hw=>(Ct.calls (hc w hw)).mono fun _ _ ⟨x,he,hx,hi⟩=>⟨⟨x,hx⟩,he,hw.call0 hi⟩)
theorem zap{id:Nat}{r:List Oper}(is:List Nat)(t:Nat)(hd:zrq is=true)(hp:zl9 m is=some m')(hm:zjo P r=true)(h:HD P r.toArray Q (Hp w0 F m') t N r.length (Array.replicate r.length false) l (Hp w0 F m)):HT P (.region id r.toArray true) Q N l (Hp w0 F m):=by
 unfold HT HD at*
 intro a w s hw
 simp only[zjo,bH,eJ]at hm
 refine wpIn_mono (wpIn_region_any (Q:=zom Q) hm.1 (zwl (by simpa using hm.2) zon N.r _ _ _ _ (zid (S:=Hp w0 F m') (t:=t) _ _ _ _ ?_))) (fun _ _ _ h=>zpe h)
 have:=h (by simpa using zgh r.toArray t) a w.drew s hw.drew
 simpa using this
section
variable{y:Operand}{xt yt:TypeId}
abbrev w32(a:BitVec 32):Value:=.int .u32 (a.toNat:Int)
theorem zlh(a:BitVec 32):BitVec.ofInt 32 (a.toNat:Int)=a:=by rw[zbw,BitVec.ofNat_toNat,BitVec.setWidth_eq]
theorem qr6(n:Nat):IntKind.u32.wrap (n:Int)=((BitVec.ofNat 32 n).toNat:Int):=by rw[zj7,bW]
theorem zwa(a:BitVec 32):IntKind.u32.wrap (a.toNat:Int)=(a.toNat:Int):=by rw[qr6,BitVec.ofNat_toNat,BitVec.setWidth_eq]
variable{a:BitVec 32}
theorem qr5{b:BitVec 32}(hx:evO l x=some (w32 a))(hy:evO l y=some (w32 b)):OV P (.binOp .xor xt x y yt) ty l H (w32 (a^^^b)):=
 zwf (zf5 hx hy fun _=>rfl) (by
  show Value.int .u32 (IntKind.u32.wrap ((BitVec.ofInt 32 a.toNat^^^BitVec.ofInt 32 b.toNat).toNat))=_
  rw[zlh,zlh,zwa])
theorem qmv{b:BitVec 32}(hx:evO l x=some (w32 a))(hy:evO l y=some (w32 b)):OV P (.binOp .and xt x y yt) ty l H (w32 (a&&& b)):=
 zwf (zf5 hx hy fun _=>rfl) (by
  show Value.int .u32 (IntKind.u32.wrap ((BitVec.ofInt 32 a.toNat&&& BitVec.ofInt 32 b.toNat).toNat))=_
  rw[zlh,zlh,zwa])
theorem qta{b:BitVec 32}(hx:evO l x=some (w32 a))(hy:evO l y=some (w32 b)):OV P (.binOp .or xt x y yt) ty l H (w32 (a|||b)):=
 zwf (zf5 hx hy fun _=>rfl) (by
  show Value.int .u32 (IntKind.u32.wrap ((BitVec.ofInt 32 a.toNat|||BitVec.ofInt 32 b.toNat).toNat))=_
  rw[zlh,zlh,zwa])
theorem qrz{t:TypeId}(hx:evO l x=some (w32 a)):OV P (.unOp .xor t x) ty l H (w32 (~~~a)):=ov fun _ _ _ w _=>by
 have e:(Op.unary .xor (.int .u32 a.toNat):Sem Value).run P w= .ok (w32 (~~~a)) w:=by
  show Result.ok (Value.int .u32 (IntKind.u32.wrap ((BitVec.ofInt 32 ((4294967295:Nat):Int)^^^BitVec.ofInt 32 (a.toNat:Int)).toNat))) w=_
  rw[zlh,zwa,show BitVec.ofInt 32 ((4294967295:Nat):Int)=BitVec.allOnes 32 from rfl,BitVec.allOnes_xor]
 simp only[execOp,zar hx,Sem.run_bind,e];rfl
variable{q:IntKind}
theorem zti{op:BinOp}{k:IntKind}(hop:op= .shl∨op= .shr)(n:Int)(s:Nat)(w:World):
  (do eqGuard op xt x y (.int k n) (.int q s);binOp op xt (.int k n) (.int q s):Sem Value).run P w= .ok (match op with| .shl=>.int k (k.wrap (n*2^(min s k.bits))) |_=>.int k (n.fdiv (2^(min s k.bits)))) w:=by
 have h0:¬((s:Int)<0):=oQ
 rcases hop with rfl|rfl
 ·show((binOp .shl xt (.int k n) (.int q s)).run P w)=_
  simp only[binOp,Op.shift,h0,if_false,cB];rfl
 ·show((binOp .shr xt (.int k n) (.int q s)).run P w)=_
  simp only[binOp,Op.shift,h0,if_false,cB];rfl
variable{s:Nat}
theorem qm5(hx:evO l x=some (w32 a))(hy:evO l y=some (.int q s))(hs:s≤32):OV P (.binOp .shr xt x y yt) ty l H (w32 (a>>>s)):=
 zwf (zf5 hx hy (zti (.inr rfl) _ _)) (by
  have e:min s IntKind.u32.bits=s:=by show min s 32=s;omega
  have e2:(2:Int)^s=((2^s:Nat):Int):=by simp
  have e3:(a.toNat:Int).fdiv ((2^s:Nat):Int)=((a>>>s).toNat:Int):=by
   rw[iJ _ (kF _),BitVec.toNat_ushiftRight,Nat.shiftRight_eq_div_pow];rfl
  simp only[e,e2,e3])
theorem qm4(hx:evO l x=some (w32 a))(hy:evO l y=some (.int q s))(hs:s≤32):OV P (.binOp .shl xt x y yt) ty l H (w32 (a<<<s)):=
 zwf (zf5 hx hy (zti (.inl rfl) _ _)) (by
  have e:min s IntKind.u32.bits=s:=by show min s 32=s;omega
  have e2:((a.toNat:Int)*2^s)=((a.toNat*2^s:Nat):Int):=by simp
  have e3:a.toNat*2^s%4294967296=(a<<<s).toNat:=by rw[BitVec.toNat_shiftLeft,Nat.shiftLeft_eq]
  simp only[e,e2,zj7,e3])
theorem qsw(h:b<4294967296):(b:Int)=((BitVec.ofNat 32 b).toNat:Int):=by rw[bW,bD h]
theorem qpq(hx:evO l x=some (w32 a))(hy:evO l y=some (.int q (@OfNat.ofNat Int s _)))(hs: @OfNat.ofNat Nat s _≤32):OV P (.binOp .shr xt x y yt) ty l H (w32 (a>>>(@OfNat.ofNat Nat s _))):=qm5 hx hy hs
theorem qpp(hx:evO l x=some (w32 a))(hy:evO l y=some (.int q (@OfNat.ofNat Int s _)))(hs: @OfNat.ofNat Nat s _≤32):OV P (.binOp .shl xt x y yt) ty l H (w32 (a<<<(@OfNat.ofNat Nat s _))):=qm4 hx hy hs
theorem qpe(hx:evO l x=some (w32 a))(hy:evO l y=some (.int .u32 (@OfNat.ofNat Int b _)))(hb: @OfNat.ofNat Nat b _<4294967296):OV P (.binOp .and xt x y yt) ty l H (w32 (a&&& BitVec.ofNat 32 (@OfNat.ofNat Nat b _))):=qmv hx (hy.trans (congrArg (fun i=>some (Value.int .u32 i)) (qsw hb)))
end
variable{S:World→Prop}{t:Nat}
variable{T:TypeId}
theorem qs5{l:zav}{S:TypeId}{c:UInt8}(hx:evO l x=some (.int .u8 (c.toNat:Int)))(hS:(P.underlying S).isSome=true)(hT:qqx P T=some .u32):OV P (.convert S T x) ty l H (w32 (BitVec.ofNat 32 c.toNat)):=
 zwf (qrt (n:=c.toNat) hx hS hT (by have:=c.toNat_lt;omega)) (by rw[show w32 (BitVec.ofNat 32 c.toNat)= .int .u32 ((BitVec.ofNat 32 c.toNat).toNat:Int)from rfl,bW,bD (by have:=c.toNat_lt;omega)])
theorem goH(h:Hp w0 F m w)(s:Hp w0 F m w→Hp w0 F m' w:=by intro h;first|exact h|exact Hp.sub h (.cons _ (.refl _)) |exact Hp.sub h (.cons _ (.cons _ (.refl _))) |exact Hp.sub h (.cons _ (.cons _ (.cons _ (.refl _)))) |exact Hp.sub h (.cons _ (.cons _ (.cons _ (.cons _ (.refl _))))) |exact Hp.sub h (.cons _ (.cons _ (.cons _ (.cons _ (.cons _ (.refl _)))))) |exact Hp.sub h (.cons _ (.cons _ (.cons _ (.cons _ (.cons _ (.cons _ (.refl _))))))) |exact Hp.sub h (.cons_cons _ (.cons_cons _ (aK _))) |exact Hp.sub h (.cons _ (.cons_cons _ (.cons_cons _ (aK _))))):Hp w0 F m' w:=s h
variable{op:Op}{v:Value}
theorem vX(h:OV P op ty l H v:=by first|exact zi4 rfl|exact zgm rfl|exact qit rfl rfl|exact ze2 rfl rfl|exact zea rfl rfl|exact zhv rfl rfl|exact zmm rfl rfl|exact zgn rfl rfl|exact qlq rfl|exact zgo rfl rfl (by repeat first|exact .head _|apply List.Mem.tail) |exact zrb rfl rfl (by repeat first|exact .head _|apply List.Mem.tail) rfl|exact zc5 rfl rfl (by repeat first|exact .head _|apply List.Mem.tail) rfl|exact zcw rfl rfl (by repeat first|exact .head _|apply List.Mem.tail) |exact zv3 rfl rfl rfl|exact v_slA rfl rfl rfl|exact zo5 rfl rfl rfl rfl rfl|exact qpf rfl rfl|exact qtn rfl|exact qmw rfl rfl|exact qmx rfl rfl rfl|exact qm2 rfl rfl rfl|exact qm3 rfl rfl rfl rfl|((first|refine qjf rfl rfl ?_ |refine zra rfl rfl rfl ?_ |refine zv4 rfl rfl rfl ?_ |refine qlv rfl rfl rfl ?_ |refine qlt rfl rfl rfl ?_ |refine qlu rfl rfl rfl ?_ |refine v_sFT rfl rfl rfl rfl ?_ |refine qlp rfl rfl rfl rfl ?_ |refine qlo rfl rfl rfl ?_ |refine qln rfl rfl rfl ?_ |refine qtm rfl rfl rfl rfl ?_ |refine qrt rfl rfl rfl ?_ |refine qm6 rfl rfl rfl rfl rfl ?_ |refine qr1 rfl rfl rfl rfl rfl ?_);first|omega|assumption) |exact qls rfl rfl cQ|exact qlr rfl rfl cQ|exact v_pickB rfl rfl rfl):OV P op ty l H v:=h
theorem vW(h:OV P op ty l H v:=by first|exact qr5 rfl rfl|exact qpe rfl rfl dQ|exact qmv rfl rfl|exact qta rfl rfl|exact v_addW32 rfl rfl|exact qrz rfl|exact qpq rfl rfl dQ|exact qpp rfl rfl dQ|exact qm5 rfl rfl oQ|exact qm4 rfl rfl oQ|exact qs5 rfl rfl rfl|exact zi4 rfl|exact zgm rfl|exact qit rfl rfl|exact ze2 rfl rfl|exact zea rfl rfl|exact zhv rfl rfl|exact zmm rfl rfl|exact zgn rfl rfl|exact qlq rfl|exact zgo rfl rfl (by repeat first|exact .head _|apply List.Mem.tail) |exact zrb rfl rfl (by repeat first|exact .head _|apply List.Mem.tail) rfl|exact zc5 rfl rfl (by repeat first|exact .head _|apply List.Mem.tail) rfl|exact zcw rfl rfl (by repeat first|exact .head _|apply List.Mem.tail) |exact zv3 rfl rfl rfl|exact v_slA rfl rfl rfl|exact zo5 rfl rfl rfl rfl rfl|exact qpf rfl rfl|exact qtn rfl|exact qmw rfl rfl|exact qmx rfl rfl rfl|exact qm2 rfl rfl rfl|exact qm3 rfl rfl rfl rfl|((first|refine qjf rfl rfl ?_ |refine zra rfl rfl rfl ?_ |refine zv4 rfl rfl rfl ?_ |refine qlv rfl rfl rfl ?_ |refine qlt rfl rfl rfl ?_ |refine qlu rfl rfl rfl ?_ |refine v_sFT rfl rfl rfl rfl ?_ |refine qlp rfl rfl rfl rfl ?_ |refine qlo rfl rfl rfl ?_ |refine qln rfl rfl rfl ?_ |refine qtm rfl rfl rfl rfl ?_ |refine qrt rfl rfl rfl ?_ |refine qm6 rfl rfl rfl rfl rfl ?_ |refine qr1 rfl rfl rfl rfl rfl ?_);first|omega|assumption) |exact qls rfl rfl cQ|exact qlr rfl rfl cQ|exact v_pickB rfl rfl rfl):OV P op ty l H v:=h
variable{i:Nat}
theorem dAv(E:List Nat)(hp:qam ops.toList listed.toList E l 0 ops.toList=some i)(hi:nth ops.toList i=some ⟨some d,op,ty,pos,after,g⟩)(hok:okL ops N l g op d=true)(k:HD P ops Q S t N n (listed.setIfInBounds i true) ((d,v)::l) H)
  (hb:znn ops t listed i=true:=by kernel_rfl) (hS:∀w,H w→S w:=by intro w h;exact goH h) (hv:OV P op ty l S v:=by exact vX):HD P ops Q S t N (n+1) listed l H:=d_w E hp hi hok hb hS hv k
theorem dno(E:List Nat){g:Nat×Bool}(hp:qam ops.toList listed.toList E l 0 ops.toList=some i)(hi:nth ops.toList i=some ⟨some d,op,ty,pos,after,some g⟩)(hok:okP ops N l g d=true)(k:HD P ops Q S t N n (listed.setIfInBounds i true) ((d,undef)::l) H)
  (hb:znn ops t listed i=true:=by kernel_rfl) (hS:∀w,H w→S w:=by intro w h;exact goH h):HD P ops Q S t N (n+1) listed l H:=qez E hp hi hok hb hS k
variable{b:Bool}{p:Prop}{dst:Option Nat}
theorem dT[h:DeciN b p]{g:Nat×Bool}(E:List Nat)(h1:pick ops listed E=some i)(hi:nth ops.toList i=some ⟨dst,op,ty,pos,after,some g⟩)(hd:(nth ops.toList g.1).bind (·.dst)=some d)(hg:get l d=some (.bool b))(k:HD P ops Q S t N n listed ((d,.bool true)::l) H)(hp:p:=by first|omega|assumption|(simp;done) |exact fun h=>h aQ|fail):HD P ops Q S t N n listed l H:=d_T E h1 hi hd hg hp k
theorem dF[h:DeciN b p]{g:Nat×Bool}(E:List Nat)(h1:pick ops listed E=some i)(hi:nth ops.toList i=some ⟨dst,op,ty,pos,after,some g⟩)(hd:(nth ops.toList g.1).bind (·.dst)=some d)(hg:get l d=some (.bool b))(k:HD P ops Q S t N n listed ((d,.bool false)::l) H)(hp:¬p:=by first|omega|assumption|(simp;done) |exact fun h=>h aQ|fail):HD P ops Q S t N n listed l H:=d_F E h1 hi hd hg hp k
structure Kp (q:Prop):Prop where h:q
theorem goA{q:Prop}(k:q)(s:Kp q→p:=by intro h;(repeat first|with_reducible (first|apply zr5|apply zkr|apply zno|apply qep|apply zq4|apply ztm|apply zu3|apply zka|apply zfj|apply zg0|apply zfi|apply zd0|apply zeo|apply zfh rfl) |(apply l_w rfl;focus (exact vX)) |refine qp1 rfl ?_ |refine t_T rfl rfl cQ ?_ |refine t_F rfl rfl cQ ?_ |refine l_T rfl rfl cQ ?_ |refine l_F rfl rfl cQ ?_);exact h.h):p:=s ⟨k⟩
theorem goW{q:Prop}(k:q)(s:Kp q→p:=by intro h;(repeat first|with_reducible (first|apply zr5|apply zkr|apply zno|apply qep|apply zq4|apply ztm|apply zu3|apply zka|apply zfj|apply zg0|apply zfi|apply zd0|apply zeo|apply zfh rfl) |(apply l_w rfl;focus (exact vW)) |refine qp1 rfl ?_ |refine t_T rfl rfl cQ ?_ |refine t_F rfl rfl cQ ?_ |refine l_T rfl rfl cQ ?_ |refine l_F rfl rfl cQ ?_);exact h.h):p:=s ⟨k⟩
theorem goE{q:Prop}(k:q)(s:Kp q→p:=by intro h;(repeat first|(apply d_w [] rfl rfl rfl kQ (fun _ h=>goH h);focus (exact vX)) |refine qez [] rfl rfl rfl kQ (fun _ h=>goH h) ?_ |refine d_T [] rfl rfl rfl rfl cQ ?_ |refine d_F [] rfl rfl rfl rfl cQ ?_);exact h.h):p:=s ⟨k⟩
theorem goX{q:Prop}(k:q)(s:Kp q→p:=by intro h;(repeat first|(apply d_w [] rfl rfl rfl kQ (fun _ h=>goH h);focus (exact vX)) |refine qez [] rfl rfl rfl kQ (fun _ h=>goH h) ?_ |refine d_T [] rfl rfl rfl rfl cQ ?_ |refine d_F [] rfl rfl rfl rfl cQ ?_);refine zdn kQ ?_;(repeat first|with_reducible (first|apply zr5|apply zkr|apply zno|apply qep|apply zq4|apply ztm|apply zu3|apply zka|apply zfj|apply zg0|apply zfi|apply zd0|apply zeo|apply zfh rfl) |(apply l_w rfl;focus (exact vX)) |refine qp1 rfl ?_ |refine t_T rfl rfl cQ ?_ |refine t_F rfl rfl cQ ?_ |refine l_T rfl rfl cQ ?_ |refine l_F rfl rfl cQ ?_);exact h.h):p:=s ⟨k⟩
theorem goY{q:Prop}(k:q)(s:Kp q→p:=by intro h;refine ziw kQ ?_;(repeat first|(apply d_w [] rfl rfl rfl kQ (fun _ h=>goH h);focus (exact vX)) |refine qez [] rfl rfl rfl kQ (fun _ h=>goH h) ?_ |refine d_T [] rfl rfl rfl rfl cQ ?_ |refine d_F [] rfl rfl rfl rfl cQ ?_);refine zdn kQ ?_;exact h.h):p:=s ⟨k⟩
theorem goV{l:zav}(hp:pick ops listed []=some i)(hi:nth ops.toList i=some ⟨some d,op,ty,pos,after,g⟩)(hv:OV P op ty l S v)(k:HD P ops Q S t N n (listed.setIfInBounds i true) ((d,v)::l) H)(hb:znn ops t listed i=true:=by kernel_rfl)(hS:∀w,H w→S w:=by intro w h;first|exact h|exact Hp.sub h (.cons _ (.refl _)) |exact Hp.sub h (.cons _ (.cons _ (.refl _))) |exact Hp.sub h (.cons _ (.cons _ (.cons _ (.refl _)))) |exact Hp.sub h (.cons _ (.cons _ (.cons _ (.cons _ (.refl _))))) |exact Hp.sub h (.cons _ (.cons _ (.cons _ (.cons _ (.cons _ (.refl _)))))) |exact Hp.sub h (.cons _ (.cons _ (.cons _ (.cons _ (.cons _ (.cons _ (.refl _))))))) |exact Hp.sub h (.cons_cons _ (.cons_cons _ (aK _))) |exact Hp.sub h (.cons _ (.cons_cons _ (.cons_cons _ (aK _)))))(hg:okG ops l g=true:=by rfl)(hok:zee N l op d=true:=by rfl):HD P ops Q S t N (n+1) listed l H:=d_v [] hp hi hb hS hg hok hv k
theorem Rd.take{w:World}{a:Option Addr}{xs:List Value}(h:Rd w a xs)(k:Nat):Rd w a (xs.take k):=by
 rcases h with h|⟨b,off,rfl,h⟩
 ·exact .inl (by rw[h];exact List.take_nil)
 ·exact .inr ⟨b,off,rfl,zfu h⟩
variable{a:Option Addr}{c:Nat}
theorem Rd.drop1{xs:List Value}(h:Rd w a xs)(i:Nat)(hc:xs.length≤c):Rd w (zwe a (decide (c=i)) (i*1)) (xs.drop i):=by
 by_cases hi:xs.length≤i
 ·exact .inl (fI hi)
 ·rcases h with h|⟨b,off,rfl,h⟩
  ·exact .inl (by rw[h];simp)
  ·rw[zcf oQ,bO]
   exact .inr ⟨b,off+i,rfl,zft h⟩
theorem zan(s:List UInt8):(zae s).length=s.length:=by simp[zae]
theorem zzi(s:List UInt8)(n:Nat):zae (s.take n)=(zae s).take n:=by simp[zae]
theorem zzh(s:List UInt8)(n:Nat):zae (s.drop n)=(zae s).drop n:=by simp[zae]
theorem zke(a b:List UInt8):zae (a++b)=zae a++zae b:=by simp[zae]
variable{s:List UInt8}
theorem zwq(h:i<s.length):(zae s)[i]? =some (.int .u8 (s[i].toNat:Int)):=by simp[zae,h]
theorem zdd(s:List UInt8):zb7 (zae s)=true:=by
 induction s with
 |nil=>rfl
 |cons c s ih=>
  show(Value.oneCell' _&&zb7 (zae s))=true
  rw[ih];rfl
theorem Rd.byte(h:Rd w a (zae s))(hi:i<s.length):∃b off,a=some ⟨b,off,none⟩∧w.cell? ⟨b,off+i,none⟩=some (.int .u8 (s[i].toNat:Int)):=by
 rcases h with h|⟨b,off,rfl,h⟩
 ·have:=congrArg List.length h
  rw[zan]at this
  simp at this;subst this;simp at hi
 ·exact⟨b,off,rfl,h i _ (zwq hi)⟩
theorem zbq.fr{it:Item}{w':World}(h:zbq it w)(hf:Fr none' w w'):zbq it w':=
 ⟨h.2.1 w w' (fun k hk=>hk.elim (fun f=>f.elim) fun hk=>hf.block k (h.2.2 k hk) (fun h=>h)) h.1,h.2.1,fun k hk=>aY (h.2.2 k hk) hf.size⟩
theorem zq3{ds:List Deferred}{r:Option Nat}{x y:Code}(L:α→zav)(φ:α→Prop)(M:α→List Item)
  (h:HT P x (Exit.then (fun a w=>∃z,φ z∧St ⟨n,ds,r⟩ (L z) a∧Hp w0 F (M z) w) Q) ⟨n,ds,r⟩ l H) (k:∀z,φ z→HT P y Q ⟨n,ds,r⟩ (L z) (Hp w0 F (M z))):HT P x (Exit.then (WP P r y Q) Q) ⟨n,ds,r⟩ l H:=by
 unfold HT at*
 refine fun a w s hw=>WP.mono (fun e a' w' q=>?_) (h a w s hw)
 cases e with
 |normal=>obtain⟨z,h1,h2,h3⟩:=q;exact k z h1 a' w' h2 h3
 |_=>exact q
theorem zep{L:α→zav}{M:α→List Item}(z:α)(hl:Has l (L z))(hφ:φ z)(hI:∀w,Hp w0 F m w→Hp w0 F (M z) w):HX (Exit.then (fun a w=>∃z,φ z∧St N (L z) a∧Hp w0 F (M z) w) Q) .normal N l (Hp w0 F m):=by
 unfold HX
 exact fun a w s hw=>⟨z,hφ,s.sub hl.sub,hI w hw⟩
variable{e:TypeId}
theorem qrv{U:TypeId}{y:Operand}(hx:evO l x=some (.slice a n c))(hy:evO l y=some (.slice none 0 0))(hT:zmi P T=some e):OV P (.binOp .eql T x y U) ty l H (.bool a.isNone):=zf5 hx hy fun w=>by
 show((do pure (.bool (←Op.equal T (.slice a n c) (.slice none 0 0))):Sem Value).run P w)=_
 rw[Sem.run_bind,run_equal_slice_nil w T e a n c (zbs hT)];rfl
variable{sz:Nat}
theorem qky(hok:zee N l (.buildSlice T 0 #[]) d=true)(hT:zmi P T=some e)(hi:(P.info? e).isSome=true):
  HO P ⟨some d,.buildSlice T 0 #[],ty,pos,after,g⟩ Q N l (Hp w0 F m) (α:={ b:Nat//w0.heap.size≤b }) (fun c=>(d,slV (some (c.1,0)) 0)::l) (fun c=>Hp w0 F (own e sz (some (c.1,0)) 0 []::m)):=
 zh6 (val:=fun c:{ b:Nat//w0.heap.size≤b }=>slV (some (c.1,0)) 0) hok (fun w hw=>by
  obtain⟨i,h1⟩:=cI.1 hi
  refine⟨⟨w.heap.size,hw.fr.size⟩,w.alloc (.cells #[] e),?_,hw.newOwn ⟨by simp,bA _,aZ _, #[],heap_alloc_new w _,by simp,by simp⟩⟩
  simp only[execOp,Instr.buildSlice,Sem.run_bind,run_underlying (zbs hT) w,Result.andThen_ok,sizeOf,typeInfo]
  simp[newRow,h1,Instr.fill,slV]
  rw[show Array.map (fun _:Nat=>(default:Value)) (Array.range 0)= #[]from jL sQ])
def u8E(P:Program)(T:TypeId):Option TypeId:=match P.underlying T with|some (.slice e)=>(match P.underlying e with|some (.int .u8)=>some e|_=>none) |_=>none
theorem zv2(h:u8E P T=some e):P.underlying T=some (.slice e)∧P.underlying e=some (.int .u8):=by
 unfold u8E at h
 split at h
 ·rename_i hu
  split at h
  ·rename_i he;cases h;exact⟨hu,he⟩
  ·cases h
 ·cases h
theorem zrm(s:ByteArray)(c:Nat)(h:s.size≤c):bytesRow s c=(zae s.data.toList++List.replicate (c - s.size) (Value.int .u8 0)).toArray:=by
 apply Array.ext'
 simp[bytesRow,zae]
abbrev zmk(e:TypeId)(s:List UInt8)(b c:Nat):Item:=pt b (.cells (zae s++List.replicate (c - s.length) (Value.int .u8 0)).toArray e (c,c+1))
theorem zib{b:Nat}(h:(zmk e s b c).prop w):w.rangeAt b 0 (zae s):=fun j v hj=>by
 refine zbf h j v ?_
 rw[cK (aC.1 hj).1];exact hj
theorem zs3{S:TypeId}{s:ByteArray}(hok:zee N l (.convert S T x) d=true)(hx:evO l x=some (.string s))(hS:P.underlying S=some .string)(hT:u8E P T=some e):
  HO P ⟨some d,.convert S T x,ty,pos,after,g⟩ Q N l (Hp w0 F m) (α:={ p:Nat×Nat//w0.heap.size≤p.1∧s.size≤p.2 }) (fun p=>(d,.slice (some ⟨p.1.1,0,none⟩) s.size p.1.2)::l) (fun p=>Hp w0 F (zmk e s.data.toList p.1.1 p.1.2::m)):=
 zh6 (val:=fun p:{ p:Nat×Nat//w0.heap.size≤p.1∧s.size≤p.2 }=>.slice (some ⟨p.1.1,0,none⟩) s.size p.1.2) hok (fun w hw=>by
  have hg:=grownCap_ge w s.size 0 e
  refine⟨⟨(w.heap.size,grownCap w s.size 0 e),hw.fr.size,hg⟩,_,by simp only[execOp,zar hx,Sem.run_bind,run_bytes_of_string (P:=P) w S T e s hS (zv2 hT).1 (zv2 hT).2];rfl,?_⟩
  have hsz:(bytesRow s (grownCap w s.size 0 e)).size=grownCap w s.size 0 e:=by simp[bytesRow];omega
  rw[hsz,zrm s _ hg]
  have h1:=(hw.drew).alloc (.cells (zae s.data.toList++List.replicate (grownCap w s.size 0 e - s.size) (Value.int .u8 0)).toArray e (grownCap w s.size 0 e,grownCap w s.size 0 e+1))
  show Hp w0 F (pt w.heap.size (.cells (zae s.data.toList++List.replicate (grownCap w s.size 0 e - s.data.toList.length) (Value.int .u8 0)).toArray e (grownCap w s.size 0 e,grownCap w s.size 0 e+1))::m) _
  rw[zo9 s]
  exact h1)
theorem ztt{S:TypeId}{bs:List UInt8}(hx:evO l x=some (.slice a n c))(hn:n=bs.length)(hS:u8E P S=some e)(hd:P.underlying T=some .string)
  (hr:∀w,Hp w0 F m w→Rd w a (zae bs)):OV P (.convert S T x) ty l (Hp w0 F m) (.string ⟨bs.toArray⟩):=ov fun _ _ _ w hw=>by
 obtain⟨hs,he⟩:=zv2 hS
 rcases hr w hw with h|⟨b,off,rfl,h⟩
 ·have hz:bs=[]:=by cases bs with|nil=>rfl|cons c r=>simp[zae]at h
  subst hz
  subst hn
  cases a with
  |none=>simp[execOp,zar hx,convert,Sem.run_bind,run_underlying hs w,run_underlying hd w,run_underlying he w,Conv.bytesToString];rfl
  |some a=>
   simp only[execOp,zar hx,Sem.run_bind,run_convert_bytes_back (P:=P) w S T e a c [] hs he hd (fun j hj=>by simp at hj)]
   exact congrArg (fun r=>(Result.ok r w).andThen _) rfl
 ·subst hn
  simp only[execOp,zar hx,Sem.run_bind,run_convert_bytes_back (P:=P) w S T e ⟨b,off,none⟩ c bs hs he hd (fun j hj=>by rw[zde];exact h j _ (zwq hj))]
  rfl
theorem zg9{b:Nat}(hx:evO l x=some (.pointer (some ⟨b,i,none⟩)))(hT:P.underlying T=some (.array n e))(he:zcd P e=some sz)(hn:Nat.ble 1 n=true):OV P (.slice T x none none none) ty l H (.slice (some ⟨b,i,none⟩) n n):=ov fun _ _ _ w _=>by
 obtain⟨q,h1,h2⟩:=zbg he
 have hn':=bU hn
 have hne:¬n=0:=oQ
 simp[execOp,zar hx,Instr.sliceAt,Instr.sureAddr,run_underlying hT w,Instr.sliceBounds,sizeOf,typeInfo,h1,hne,Addr.add]
theorem ztu{k:Nat}(hx:evO l x=some (.slice a k c))(hT:P.underlying T=some (.array n e))(hn:n≤k):OV P (.sliceToArrayPointer T x) ty l H (.pointer a):=ov fun _ _ _ w _=>by
 have:¬k<n:=oQ
 simp[execOp,zar hx,Instr.arrayAt,run_underlying hT w,this]
theorem zct(o:Option (Nat×Nat))(n:Nat):(slV o n).cells= #[slV o n]:=by cases o<;>rfl
theorem zc3(o:Option (Nat×Nat))(n:Nat):(slV o n).oneCell'=true:=by cases o<;>rfl
variable{a:Int}
theorem ztv{y:Operand}{U:TypeId}{b:Int}(hx:evO l x=some (.int .i64 a))(hy:evO l y=some (.int .i64 b))(h: -9223372036854775808≤a - b∧a - b<9223372036854775808):OV P (.binOp .sub T x y U) ty l H (.int .i64 (a - b)):=zf5 hx hy fun w=>ze4 w (zxd _ h.1 h.2)
theorem qpi{T:Array TypeId}{y:Operand}{k k':IntKind}{b:Int}{j:Nat}[h:NatOf a i][h':NatOf b j](hx:evO l x=some (.int k a))(hy:evO l y=some (.int k' b)):OV P (.call ⟨.builtin .max, #[x,y],T⟩) ty l H (.int k (max i j:Nat)):=ov fun _ _ _ w _=>by
 obtain rfl:=h.eq;obtain rfl:=h'.eq
 simp only[execOp,resolve,invoke,builtin]
 simp[zar hx,zar hy,run_max_int2]
 split<;>omega
theorem qs6{S:TypeId}{k k':IntKind}{L q:Nat}[h:NatOf a n][hL:Uns k' L q](hx:evO l x=some (.int k a))(hS:(P.underlying S).isSome=true)(hT:qqx P T=some k'):OV P (.convert S T x) ty l H (.int k' ((n%L:Nat):Int)):=ov fun _ _ _ w _=>by
 obtain rfl:=h.eq
 obtain⟨u,hu⟩:=cI.1 hS
 simp only[execOp,zar hx,convert,Sem.run_bind,run_underlying hu w,run_underlying (zxj hT) w,Result.andThen_ok,Conv.intToInt,Sem.run_pure,hL.wrap n]
theorem qrk(a:Nat)(c:Nat)(h:a*256+255<18446744073709551616)(hc:c<256):(a*2^8%18446744073709551616)|||c=a*256+c:=by
 rw[bD oQ]
 have:=Nat.shiftLeft_add_eq_or_of_lt (i:=8) (b:=c) oQ a
 rw[Nat.shiftLeft_eq]at this
 rw[←this]
theorem zd1(e:TypeId)(sz:Nat)(h:Hp w0 F m w):Hp w0 F (own e sz none 0 []::m) w:=Hp.call0 (L:=[own _ sz none 0 []]) h ⟨.refl _ _,fun it hm=>by
 obtain rfl:it=own e sz none 0 []:=by simpa using hm
 exact⟨⟨by simp,rfl⟩,zac _ _ _ _ _ _,fun k ⟨c,hk⟩=>nomatch hk⟩,.cons (fun _ h=>nomatch h) .nil⟩
abbrev zcs:=List (Nat×Value)
abbrev okN(q:IntKind)(n:Nat):Prop:=(Lit.int q (n:Int)).wf=true
def qcj(q:IntKind)(p:Nat×Value):Value×Value:=(.int q (p.1:Int),p.2)
structure Rows' (q:IntKind) (A:zcs) (es:Array MapEntry) (clk:Nat):Prop where
 nodup:(A.map (·.1)).Nodup
 ok:∀p∈A,okN q p.1
 rows:es.toList.map (fun e=>(e.key,e.val))=A.map (qcj q)
 apart:(es.toList.map (·.born)).Nodup
 old:∀e∈es.toList,e.born<clk
def zck(q:IntKind)(b:Nat)(A:zcs):Item:=⟨fun k=>k=b,fun w=>∃es clk,w.heap[b]? =some (.map es clk)∧Rows' q A es clk⟩
theorem zax(ro:Nat→Prop)(q:IntKind)(b:Nat)(A:zcs):(zck q b A).Stable ro:=fun _ _ h ⟨es,clk,h3,h4⟩=>⟨es,clk,(h b (.inr rfl)).trans h3,h4⟩
def zjs(A:zcs)(h:Nat)(v:Value):zcs:=if (A.lookup h).isSome then A.map (fun p=>if p.1=h then(h,v)else p)else A++[(h,v)]
variable{A:zcs}
theorem zl5{h:Nat}:(A.lookup h).isSome=true↔h∈A.map (·.1):=by
 induction A with
 |nil=>simp
 |cons a A ih=>
  obtain⟨x,y⟩:=a
  by_cases e:h=x
  ·subst e;simp[List.lookup]
  ·have:(h==x)=false:=beq_eq_false_iff_ne.2 e
   simp only[List.lookup,this,ih,bG,aL,e,false_or]
variable{p:Nat×Value}
theorem zu7(hn:(A.map (·.1)).Nodup)(hp:p∈A):A.lookup p.1=some p.2:=by
 induction A with
 |nil=>cases hp
 |cons a A ih=>
  obtain⟨x,y⟩:=a
  rw[bG,cP]at hn
  rcases aL.1 hp with rfl|hp
  ·simp[List.lookup]
  ·have hne:(p.1==x)=false:=by
    rw[beq_eq_false_iff_ne]
    exact fun e=>hn.1 (aS.2 ⟨p,hp,e⟩)
   simp only[List.lookup,hne]
   exact ih hn.2 hp
theorem zl3(A:zcs)(h:Nat)(v:Value):(zjs A h v).map (·.1)=if h∈A.map (·.1)then A.map (·.1)else A.map (·.1)++[h]:=by
 unfold zjs
 by_cases hm:h∈A.map (·.1)
 ·rw[if_pos (zl5.2 hm),if_pos hm,dJ]
  refine cT fun p _=>?_
  simp only[Function.comp]
  split
  ·rename_i e;exact e.symm
  ·rfl
 ·rw[if_neg (fun hs=>hm (zl5.1 hs)),if_neg hm,cC];rfl
variable{q:IntKind}{b:Nat}
theorem zuz{a:Nat}(h:Value.int q (a:Int)= .int q (b:Int)):a=b:=by
 injection h with h1 h2;omega
variable{es:Array MapEntry}{clk:Nat}
theorem qf1{k:TypeId}(hk:P.underlying k=some (.int q))(R:Rows' q A es clk){h:Nat}(hh:okN q h)(w:World):
  ((Instr.findKey k (.int q (h:Int)) es.toList).run P w= .ok none w∧A.lookup h=none)∨∃j v,(Instr.findKey k (.int q (h:Int)) es.toList).run P w= .ok (some (j,v)) w∧A.lookup h=some v∧A[j]? =some (h,v):=by
 have KL:=Maps.int_keyed hk
 have hkey:=Maps.keyOf_int_mk hk hh
 have he:=R.rows
 have hlen:es.toList.length=A.length:=by have:=congrArg List.length he;simpa using this
 have hat:∀(j:Nat) (hj:j<es.toList.length) (hj':j<A.length),es.toList[j].key= .int q (A[j].1:Int)∧es.toList[j].val=A[j].2:=fun j hj hj'=>by
  have:=congrArg (fun l=>l[j]?) he
  simp only[aO,aB hj,aB hj',bZ,cO,gU,qcj]at this
  exact this
 have hall:∀e∈es.toList,∃l,keyOf P k e.key=some l:=fun e hm=>by
  obtain⟨j,hj,rfl⟩:=bL hm
  rw[(hat j hj oQ).1]
  exact⟨_,Maps.keyOf_int_mk hk (R.ok _ (aT _))⟩
 rcases KL.find w hkey es.toList hall with ⟨h1,h2⟩ |⟨j,e,h1,h2,h3⟩
 ·refine .inl ⟨h1,?_⟩
  rw[List.lookup_eq_none_iff]
  intro p hp
  obtain⟨j,hj,rfl⟩:=bL hp
  have h4:=h2 _ (aT (show j<es.toList.length by omega))
  rw[(hat j oQ hj).1]at h4
  simp only[bne_iff_ne,ne_eq]
  exact fun e=>h4 (by rw[e])
 ·have hj:j<es.toList.length:=by
   rcases gQ j es.toList.length with hj|hj
   ·exact hj
   ·rw[dG hj]at h2;cases h2
  rw[aB hj]at h2
  injection h2 with h2
  have ha:=hat j hj oQ
  rw[h2]at ha
  have hk2:A[j].1=h:=zuz (ha.1.symm.trans h3)
  have hAj:A[j]? =some (h,e.val):=by
   rw[aB (show j<A.length by omega),ha.2,←hk2]
  refine .inr ⟨j,e.val,h1,?_,hAj⟩
  exact zu7 R.nodup (bI hAj)
theorem zgu(hok:zee N l (.makeMap T none) d=true):HO P ⟨some d,.makeMap T none,ty,pos,after,g⟩ Q N l (Hp w0 F m) (α:={ b:Nat//w0.heap.size≤b }) (fun b=>(d,.map (some b.1))::l) (fun b=>Hp w0 F (zck q b.1 []::m)):=
 zh6 (val:=fun b:{ b:Nat//w0.heap.size≤b }=>.map (some b.1)) hok (fun w hw=>by
  refine⟨⟨w.heap.size,hw.fr.size⟩,w.alloc (.map #[] 0),?_,(hw.alloc (.map #[] 0)).imp (fun k h=>h) (fun h=>⟨#[],0,h,⟨.nil,(fun _ h=>nomatch h),rfl,.nil,(fun _ h=>nomatch h)⟩⟩) (zax _ _ _ _)⟩
  simp[execOp,Instr.makeMap,newObj,Sem.run,Sem.run_bind])
section look
variable{y z:Operand}{k:TypeId}{h:Nat}{zv:Value}
theorem zxq(hk:P.underlying k=some (.int q))(hT:P.underlying T=some (.map k e))(hz:(P.info? e).bind (·.zero)=some zv)(hh:okN q h)(c:Bool)(hp:(zck q b A).prop w):
  (Instr.lookup T (.map (some b)) (.int q (h:Int)) c).run P w= .ok (if c then .tuple #[(A.lookup h).getD zv,.bool (A.lookup h).isSome]else(A.lookup h).getD zv) w:=by
 obtain⟨es,clk,h3,R⟩:=hp
 have hg:(getObj b).run P w= .ok (.map es clk) w:=by simp[getObj,Sem.run,h3]
 have hc:=(Maps.int_keyed hk).check w es.isEmpty (Maps.keyOf_int_mk hk hh)
 have hzr:(zeroValue e).run P w= .ok zv w:=by
  cases hq:P.info? e with
  |none=>simp[hq]at hz
  |some i=>
   have hz':i.zero=some zv:=by simpa[hq]using hz
   simp[zeroValue,typeInfo,hq,hz']
 simp only[Instr.lookup]
 simp only[Sem.run_bind,run_underlying hT w,Result.andThen_ok,hg]
 simp only[Sem.run_pure,Sem.run_bind,Result.andThen_ok,hc]
 rcases qf1 hk R hh w with ⟨e1,e2⟩ |⟨j,u,e1,e2, -⟩
 ·simp only[e1,Result.andThen_ok,e2,kX,iW]
  simp only[Sem.run_bind,hzr,Result.andThen_ok,Sem.run_pure]
 ·simp only[e1,Result.andThen_ok,e2,eD,gH,Sem.run_pure,Sem.run_bind]
theorem qiw(hk:P.underlying k=some (.int q))(hx:evO l x=some (.map (some b)))(hy:evO l y=some (.int q (h:Int)))(hT:P.underlying T=some (.map k e))(hz:(P.info? e).bind (·.zero)=some zv)(hh:okN q h)(hm:zck q b A∈m):
  OV P (.lookup T x y true) ty l (Hp w0 F m) (.tuple #[(A.lookup h).getD zv,.bool (A.lookup h).isSome]):=ov fun _ _ _ w hw=>by
 have:=zxq hk hT hz hh true (hw.item _ hm).1
 simp only[execOp,zar hx,zar hy,Sem.run_bind,this];rfl
theorem zv5(hk:P.underlying k=some (.int q))(hx:evO l x=some (.map (some b)))(hy:evO l y=some (.int q (h:Int)))(hT:P.underlying T=some (.map k e))(hz:(P.info? e).bind (·.zero)=some zv)(hh:okN q h)(hm:zck q b A∈m):
  OV P (.lookup T x y false) ty l (Hp w0 F m) ((A.lookup h).getD zv):=ov fun _ _ _ w hw=>by
 have:=zxq hk hT hz hh false (hw.item _ hm).1
 simp only[execOp,zar hx,zar hy,Sem.run_bind,this];rfl
theorem qdu(hk:P.underlying k=some (.int q))(hT:P.underlying T=some (.map k e))(hh:okN q h)(hw:Hp w0 F (zck q b A::m) w):
  ∃w',(Instr.mapUpdate T (.map (some b)) (.int q (h:Int)) v).run P w= .ok () w'∧Hp w0 F (zck q b (zjs A h v)::m) w':=by
 obtain⟨es,clk,h3,R⟩:=(hw.item _ (.head _)).1
 have h4:=R.rows
 have hg:(getObj b).run P w= .ok (.map es clk) w:=by simp[getObj,Sem.run,h3]
 have hset:∀o,(setObj b o).run P w= .ok () (w.putObj b o):=fun o=>by simp[setObj,Sem.run,h3,World.putObj]
 have hkey:=Maps.keyOf_int_mk hk hh
 have hc:=(Maps.int_keyed hk).check w false hkey
 have hw1:Hp w0 F (pt b (.map es clk)::m) w:=hw.imp (fun _ h=>h) (fun _=>h3) (zab _ _ _)
 have hlen:es.toList.length=A.length:=by have:=congrArg List.length h4;simpa using this
 have hins:∀p∈zjs A h v,okN q p.1:=fun p hp=>by
  unfold zjs at hp
  split at hp
  ·obtain⟨r,hr,rfl⟩:=aS.1 hp
   split
   ·exact hh
   ·exact R.ok r hr
  ·rcases aR.1 hp with hp|hp
   ·exact R.ok p hp
   ·rw[aN]at hp;subst hp;exact hh
 have hnd:((zjs A h v).map (·.1)).Nodup:=by
  rw[zl3]
  split
  ·exact R.nodup
  ·rename_i hm
   refine cN.2 ⟨R.nodup,cP.2 ⟨by simp,.nil⟩,fun a ha c hc e=>?_⟩
   rw[aN]at hc
   subst hc;subst e;exact hm ha
 simp only[Instr.mapUpdate]
 simp only[Sem.run_bind,run_underlying hT w,Result.andThen_ok,hg]
 simp only[Sem.run_pure,Sem.run_bind,Result.andThen_ok,hc]
 rcases qf1 hk R hh w with ⟨e1,e2⟩ |⟨j,u,e1,e2,e3⟩
 ·simp only[e1,Result.andThen_ok,hset]
  refine⟨_,rfl,(hw1.put _).imp (fun _ h=>h) (fun hp=>⟨_,_,hp,⟨hnd,hins,?_,?_,?_⟩⟩) (zax _ _ _ _)⟩
  ·have:zjs A h v=A++[(h,v)]:=by unfold zjs;rw[if_neg (by rw[e2];simp)]
   rw[this]
   simp[h4,qcj]
  ·rw[iF,cC]
   refine cN.2 ⟨R.apart,cP.2 ⟨by simp,.nil⟩,fun a ha c hc e=>?_⟩
   obtain⟨x,hx,rfl⟩:=aS.1 ha
   have h1:=R.old x hx
   rw[List.map_singleton,aN]at hc
   subst hc
   omega
  ·intro x hx
   rw[iF]at hx
   rcases aR.1 hx with hx|hx
   ·exact eQ (R.old x hx)
   ·rw[aN]at hx;subst hx;exact eN _
 ·have hj:j<es.size:=by
   have:=(aC.1 e3).1
   rw[←hlen]at this;simpa using this
  have hkj:es[j].key= .int q (h:Int):=by
   have:=congrArg (fun l=>l[j]?) h4
   simp only[aO,e3,bZ]at this
   have h5:es.toList[j]? =some es[j]:=by simp[hj]
   rw[h5]at this
   simp only[bZ,cO,gU,qcj]at this
   exact this.1
  have hst:(Instr.keyThatStays (((es[j]?).map (·.key)).getD (.int q (h:Int))) (.int q (h:Int))).run P w= .ok (.int q (h:Int)) w:=by
   rw[dH hj,bZ,eD,hkj]
   exact(Maps.int_keyed hk).stays w hkey
  simp only[e1,Result.andThen_ok,Sem.run_bind,hst,hset]
  have hborn:(es.modify j fun e=>{ e with key:=.int q (h:Int),val:=v }).toList.map (·.born)=es.toList.map (·.born):=by
   apply List.ext_getElem?
   intro i
   simp only[aO]
   rw[dZ,fA,dZ]
   split
   ·cases es[i]? <;>rfl
   ·rfl
  refine⟨_,rfl,(hw1.put _).imp (fun _ h=>h) (fun hp=>⟨_,_,hp,⟨hnd,hins,?_,by rw[hborn];exact R.apart,?_⟩⟩) (zax _ _ _ _)⟩
  ·have:zjs A h v=A.map (fun p=>if p.1=h then(h,v)else p):=by unfold zjs;rw[if_pos (by rw[e2];simp)]
   rw[this]
   apply List.ext_getElem?
   intro i
   have hi4:=congrArg (fun l=>l[i]?) h4
   simp only[aO]at hi4⊢
   rw[dZ,fA]
   by_cases hij:j=i
   ·subst hij
    rw[if_pos rfl,e3,dH hj]
    simp[qcj]
   ·rw[if_neg hij,←dZ,hi4]
    cases hA:A[i]? with
    |none=>rfl
    |some p=>
     simp only[bZ]
     have hne:p.1≠h:=fun e=>by
      have hi:=(aC.1 hA).1
      have hj2:=(aC.1 e3).1
      have h6:(A.map (·.1))[i]'(by simpa using hi)=(A.map (·.1))[j]'(by simpa using hj2):=by
       simp only[cS]
       rw[(aC.1 hA).2,(aC.1 e3).2]
       exact e
      rcases iU hij with hlt2|hlt2
      ·exact cG.1 R.nodup j i (by simpa using hj2) (by simpa using hi) hlt2 h6.symm
      ·exact cG.1 R.nodup i j (by simpa using hi) (by simpa using hj2) hlt2 h6
     rw[if_neg hne]
  ·intro x hx
   have:x.born∈es.toList.map (·.born):=by rw[←hborn];exact aS.2 ⟨x,hx,rfl⟩
   obtain⟨y,hy,hxy⟩:=aS.1 this
   rw[←hxy];exact R.old y hy
theorem zir(hk:P.underlying k=some (.int q))(hok:(zez (.mapUpdate T x y z)&&zec l (.mapUpdate T x y z))=true)(hx:evO l x=some (.map (some b)))(hy:evO l y=some (.int q (h:Int)))(hz:evO l z=some v)(hT:P.underlying T=some (.map k e))(hh:okN q h):
  HO P ⟨none,.mapUpdate T x y z,ty,pos,after,g⟩ Q N l (Hp w0 F (zck q b A::m)) (α:=Unit) (fun _=>l) (fun _=>Hp w0 F (zck q b (zjs A h v)::m)):=
 zs1 hok (fun w hw=>by
  obtain⟨w',h1,h2⟩:=qdu (v:=v) hk hT hh hw
  refine⟨(),w',?_,h2⟩
  simp only[execOp,zar hx,zar hy,zar hz,Sem.run_bind,h1];rfl)
end look
def itN(q:IntKind)(r b:Nat)(A L:zcs)(c:Option (Nat×Value)):Item:=⟨fun k=>k=r∨k=b,fun w=>r≠b∧∃es clk since c0 seen,w.heap[b]? =some (.map es clk)∧Rows' q A es clk∧w.heap[r]? =some (.mapIter (some b) since seen c0)∧
 (∀e∈es.toList,e.born<since)∧(since≤c0∧since≤clk)∧((leftOf es seen).toList.map fun e=>(e.key,e.val))=L.map (qcj q)∧L.Sublist A∧
 ∀p,c=some p→∃(seen':Array Nat) (e:MapEntry),seen=seen'.push e.born∧e∈es.toList∧c0=clk∧(e.key,e.val)=qcj q p⟩
theorem zso(ro:Nat→Prop)(q:IntKind)(r b:Nat)(A L:zcs)(c:Option (Nat×Value)):(itN q r b A L c).Stable ro:=fun _ _ h ⟨h0,es,clk,since,c0,seen,h1,h2,h3,h4⟩=>⟨h0,es,clk,since,c0,seen,(h b (.inr (.inr rfl))).trans h1,h2,(h r (.inr (.inl rfl))).trans h3,h4⟩
theorem qaa{α β:Type}{f:α→β}:∀{l:List α},(l.map f).Nodup→∀{x y:α},x∈l→y∈l→f x=f y→x=y
 | [],_,_,_,h,_,_=>nomatch h
 |a::l,hn,x,y,hx,hy,he=>by
  rw[bG,cP]at hn
  rcases aL.1 hx with h1|hx
  ·rcases aL.1 hy with h2|hy
   ·rw[h1,h2]
   ·exact absurd (aS.2 ⟨y,hy,by rw[←he,h1]⟩) hn.1
  ·rcases aL.1 hy with h2|hy
   ·exact absurd (aS.2 ⟨x,hx,by rw[he,h2]⟩) hn.1
   ·exact qaa hn.2 hx hy he
theorem Rows'.keys(R:Rows' q A es clk):(es.toList.map (·.key)).Nodup:=by
 have h:es.toList.map (·.key)=A.map fun p=>Value.int q (p.1:Int):=by
  have:=congrArg (List.map Prod.fst) R.rows
  rw[dJ,dJ]at this
  exact this
 rw[h]
 have hn:=R.nodup
 clear h R
 induction A with
 |nil=>exact .nil
 |cons a A ih=>
  rw[bG,cP]at hn⊢
  refine⟨fun hm=>hn.1 ?_,ih hn.2⟩
  obtain⟨p,hp,he⟩:=aS.1 hm
  exact aS.2 ⟨p,hp,zuz he⟩
theorem qko(es:Array MapEntry):leftOf es #[]=es:=by
 unfold leftOf
 exact Array.filter_eq_self.2 sQ
theorem zov{k:TypeId}(hok:zee N l (.range T x) d=true)(hx:evO l x=some (.map (some b)))(hT:P.underlying T=some (.map k e)):
  HO P ⟨some d,.range T x,ty,pos,after,g⟩ Q N l (Hp w0 F (zck q b A::m)) (α:={ r:Nat//w0.heap.size≤r }) (fun r=>(d,.pointer (some ⟨r.1,0,none⟩))::l) (fun r=>Hp w0 F (itN q r.1 b A A none::m)):=
 zh6 (val:=fun r:{ r:Nat//w0.heap.size≤r }=>.pointer (some ⟨r.1,0,none⟩)) hok (fun w hw=>by
  obtain⟨es,clk,h1,R⟩:=(hw.item _ (.head _)).1
  have hlt:b<w.heap.size:=(bR.1 h1).1
  have hrun:=run_range_map (P:=P) w T k e b es clk hT h1
  refine⟨⟨w.heap.size,hw.fr.size⟩,w.alloc (.mapIter (some b) clk #[] clk),?_,?_⟩
  ·simp only[execOp,zar hx,Sem.run_bind,hrun];rfl
  ·have h2:=hw.alloc (.mapIter (some b) clk #[] clk)
   have a1:=h2.item _ (.head _)
   have a2:=h2.item _ (.tail _ (.head _))
   obtain⟨p1,p2⟩:=bP.1 h2.apart
   obtain⟨p3,p4⟩:=bP.1 p2
   refine⟨h2.fr,fun it hm=>?_,bP.2 ⟨fun y hy k' hk hk'=>?_,p4⟩⟩
   ·rcases aL.1 hm with rfl|hm
    ·refine⟨⟨Nat.ne_of_gt hlt,es,clk,clk,clk, #[],?_,R,a1.1,R.old,⟨bA _,bA _⟩,?_,List.Sublist.refl _,fun p h=>by cases h⟩,zso _ _ _ _ _ _ _,fun k' hk=>?_⟩
     ·have:=Below.heap_alloc w (.mapIter (some b) clk #[] clk) b hlt
      rw[this];exact h1
     ·rw[qko];exact R.rows
     ·rcases hk with rfl|rfl
      ·exact a1.2.2 _ rfl
      ·exact a2.2.2 _ rfl
    ·exact h2.item it (.tail _ (.tail _ hm))
   ·rcases hk with rfl|rfl
    ·exact p1 y (.tail _ hy) _ rfl hk'
    ·exact p3 y hy _ rfl hk')
variable{c:Option (Nat×Value)}
theorem zpu{r:Nat}{L:zcs}(hw:Hp w0 F (itN q r b A L c::m) w):Hp w0 F (zck q b A::m) w:=
 hw.imp (fun _ h=>.inr h) (fun⟨_,es,clk,_,_,_,h1,h2,_⟩=>⟨es,clk,h1,h2⟩) (zax _ _ _ _)
def qca(L:zcs)(p:Nat×Value):zcs:=L.filter fun x=>decide (x.1≠p.1)
theorem qg2(es:Array MapEntry)(seen:Array Nat)(b:Nat):(leftOf es (seen.push b)).toList=(leftOf es seen).toList.filter fun e=> !(e.born==b):=by
 unfold leftOf
 rw[Array.toList_filter,Array.toList_filter,kG]
 refine kN fun x _=>?_
 rw[contains_push]
 cases seen.contains x.born<;>cases (x.born==b)<;>rfl
theorem zqp{q:IntKind}{p:Nat×Value}:∀{X:List MapEntry} {L:zcs},(X.map fun e=>(e.key,e.val))=L.map (qcj q)→∀(f:MapEntry→Bool),(∀e∈X,f e=true↔e.key≠ .int q (p.1:Int))→((X.filter f).map fun e=>(e.key,e.val))=(qca L p).map (qcj q)
 | [],[],_,_,_=>rfl
 | [],_::_,h,_,_=>by cases h
 |_::_,[],h,_,_=>by cases h
 |x::X,y::L,h,f,hf=>by
  rw[bG,bG]at h
  injection h with h1 h2
  have ih:=zqp (p:=p) h2 f fun e he=>hf e (by simp[he])
  have hx:=hf x sQ
  have hk:x.key= .int q (y.1:Int):=congrArg Prod.fst h1
  unfold qca at ih⊢
  by_cases e:y.1=p.1
  ·have h3:f x=false:=by
    cases hc:f x with
    |false=>rfl
    |true=>exact absurd (by rw[hk,e]) (hx.1 hc)
   rw[eR (by simp[h3]),eR (by simp[e])]
   exact ih
  ·have h3:f x=true:=hx.2 fun h=>e (zuz (hk.symm.trans h))
   rw[fF h3,fF (by simp[e]),bG,bG,h1,ih]
theorem zvh{r:Nat}{L:zcs}(hok:zee N l (.next x false) d=true)(hx:evO l x=some (.pointer (some ⟨r,0,none⟩))):
  HO P ⟨some d,.next x false,ty,pos,after,g⟩ Q N l (Hp w0 F (itN q r b A L c::m)) (α:={ y:Option (Nat×Value)//match y with|none=>L=[] |some p=>p∈L })
   (fun y=>(d,match y.1 with|none=>.tuple #[.bool false] |some p=>.tuple #[.bool true,.int q (p.1:Int),p.2])::l)
   (fun y=>Hp w0 F (itN q r b A (match y.1 with|none=>L|some p=>qca L p) (match y.1 with|none=>c|some p=>some p)::m)):=
 zh6 (val:=fun y:{ y:Option (Nat×Value)//match y with|none=>L=[] |some p=>p∈L }=>match y.1 with|none=>.tuple #[.bool false] |some p=>.tuple #[.bool true,.int q (p.1:Int),p.2]) hok (fun w hw=>by
  have hin:=hw.item _ (.head _)
  obtain⟨hne,es,clk,since,c0,seen,h1,R,h3,h4,h5,h6,h7,h8⟩:=hin.1
  rcases run_next_at (P:=P) w ty r b since c0 seen es clk h3 h1 h4 h5.1 with ⟨e1,e2⟩ |⟨e,he,w1,hal,e2⟩
  ·have hL:L=[]:=by
    have:(leftOf es seen).toList=[]:=by have:=jL e1;rw[this]
    rw[this]at h6
    cases L with
    |nil=>rfl
    |cons a L=>cases h6
   refine⟨⟨none,hL⟩,w,?_,hw⟩
   simp only[execOp,zar hx,Sem.run_bind,e2];rfl
  ·obtain⟨p,hp,hpe⟩:∃p∈L,qcj q p=(e.key,e.val):=by
    have:(e.key,e.val)∈L.map (qcj q):=by rw[←h6];exact aS.2 ⟨e,he,rfl⟩
    obtain⟨p,hp,hpe⟩:=aS.1 this
    exact⟨p,hp,hpe⟩
   have hek:e.key= .int q (p.1:Int):=(congrArg Prod.fst hpe).symm
   have hev:e.val=p.2:=(congrArg Prod.snd hpe).symm
   obtain⟨hees, -⟩:=mem_left he
   have hw1:Hp w0 F (itN q r b A L c::m) w1:=by
    rcases hal with rfl|rfl
    ·exact hw
    ·exact hw.drew
   have hr1:w1.heap[r]? =some (.mapIter (some b) since seen c0):=by rcases hal with rfl|rfl<;>exact h3
   have hb1:w1.heap[b]? =some (.map es clk):=by rcases hal with rfl|rfl<;>exact h1
   refine⟨⟨some p,hp⟩,ChangeMaps.setBlock w1 r (.mapIter (some b) since (seen.push e.born) clk),?_,?_⟩
   ·simp only[execOp,zar hx,Sem.run_bind,e2,hek,hev];rfl
   ·have hrl:r<w1.heap.size:=(bR.1 hr1).1
    have hsame:(ChangeMaps.setBlock w1 r (.mapIter (some b) since (seen.push e.born) clk)).heap[r]? =some (.mapIter (some b) since (seen.push e.born) clk):=World.putObj_heap_same hrl
    have hoth:∀k,k≠r→(ChangeMaps.setBlock w1 r (.mapIter (some b) since (seen.push e.born) clk)).heap[k]? =w1.heap[k]? :=fun k hk=>World.putObj_heap_other hk
    refine Hp.call (L:=[itN q r b A (qca L p) (some p)]) (m:=[itN q r b A L c]) (Fc:=fun k=>k=r∨k=b) hw1 ⟨⟨rfl,rfl,rfl,jF (World.putObj_size (w:=w1) (r:=r)).symm,fun k _ hk=>hoth k fun h=>hk (.inl h)⟩,fun it hm=>?_,.cons (fun _ h=>by cases h) .nil⟩ (fun k _ hk=>⟨itN q r b A L c,by simp,hk⟩)
    obtain rfl:it=itN q r b A (qca L p) (some p):=by simpa using hm
    refine⟨⟨hne,es,clk,since,clk,seen.push e.born,?_,R,hsame,h4,?_,?_,?_,?_⟩,zso _ _ _ _ _ _ _,fun k hk=>⟨?_,fun _=>hk⟩⟩
    ·rw[hoth b (fun h=>hne h.symm)];exact hb1
    ·exact⟨h5.2,h5.2⟩
    ·rw[qg2]
     refine zqp h6 _ fun x hx=>?_
     obtain⟨hxes, -⟩:=mem_left hx
     rw[eZ,beq_eq_false_iff_ne,←hek]
     exact⟨fun h1 h2=>h1 (by rw[qaa R.keys hxes hees h2]),fun h1 h2=>h1 (by rw[qaa R.apart hxes hees h2])⟩
    ·exact List.Sublist.trans jY h7
    ·intro p' hp'
     cases hp'
     exact⟨seen,e,rfl,hees,rfl,hpe.symm⟩
    ·have:(ChangeMaps.setBlock w1 r (.mapIter (some b) since (seen.push e.born) clk)).heap.size=w1.heap.size:=World.putObj_size
     rw[this]
     rcases hk with rfl|rfl
     ·exact hrl
     ·exact(bR.1 hb1).1)
theorem zo6{r:Nat}{L:zcs}(hx:evO l x=some (.pointer (some ⟨r,0,none⟩)))(hm:itN q r b A L (some p)∈m):OV P (.entry x) ty l (Hp w0 F m) (.tuple #[.int q (p.1:Int),p.2]):=ov fun _ _ _ w hw=>by
 obtain⟨-,es,clk,since,c0,seen,h1,R,h3,h4,h5,h6,h7,h8⟩:=(hw.item _ hm).1
 obtain⟨seen',e,rfl,he,rfl,hpe⟩:=h8 p rfl
 have:=run_entry_at (P:=P) w r b since seen' es c0 e h3 h1 he R.apart
 have hek:e.key= .int q (p.1:Int):=congrArg Prod.fst hpe
 have hev:e.val=p.2:=congrArg Prod.snd hpe
 simp only[execOp,zar hx,Sem.run_bind,this,hek,hev];rfl
end Go.Eng
namespace Go.Proofs.YthafakdplhdfjaaGreatDoor
open Go.Eng
def halves:List (BitVec 32):=[0x00000000#32,0x105ec76f#32,0x20bd8ede#32,0x30e349b1#32,0x417b1dbc#32,0x5125dad3#32,0x61c69362#32,0x7198540d#32,0x82f63b78#32,0x92a8fc17#32,0xa24bb5a6#32,0xb21572c9#32,0xc38d26c4#32,0xd3d3e1ab#32,0xe330a81a#32,0xf36e6f75#32]
def qst(m:BitVec 32):BitVec 32:=halves[(m&&& 15#32).toNat]?.getD 0^^^m>>>4
def qc9(n:BitVec 32)(c:UInt8):BitVec 32:=qst (qst (n^^^BitVec.ofNat 32 c.toNat))
def zwd(s:List UInt8):BitVec 32:= ~~~ (s.foldl qc9 (BitVec.allOnes 32))
abbrev W32:=BitVec 32
structure V8 where
 a:W32
 b:W32
 c:W32
 d:W32
 e:W32
 f:W32
 g:W32
 h:W32
def V8.l(v:V8):List W32:=[v.a,v.b,v.c,v.d,v.e,v.f,v.g,v.h]
def V8.add(v w:V8):V8:=⟨v.a+w.a,v.b+w.b,v.c+w.c,v.d+w.d,v.e+w.e,v.f+w.f,v.g+w.g,v.h+w.h⟩
def beN:Nat→Nat→List UInt8
 |0,_=>[]
 |w+1,n=>beN w (n/256)++[UInt8.ofNat n]
theorem zal:∀(w n:Nat),(beN w n).length=w
 |0,_=>rfl
 |w+1,n=>by rw[beN,aA,zal w];rfl
def beV(l:List UInt8):Nat:=l.foldl (fun n c=>n*256+c.toNat) 0
theorem qbg(l:List UInt8)(c:UInt8):beV (l++[c])=beV l*256+c.toNat:=by
 rw[beV,beV,kO];rfl
theorem zzf:∀(w n:Nat),n<256^w→beV (beN w n)=n
 |0,n,h=>by simp at h;subst h;rfl
 |w+1,n,h=>by
  rw[beN,qbg,zzf w (n/256) (by rw[gR]at h;omega)]
  have:(UInt8.ofNat n).toNat=n%256:=by simp
  rw[this]
  omega
theorem qfg:∀(l:List UInt8) (n k:Nat),n<256^k→l.foldl (fun n c=>n*256+c.toNat) n<256^(k+l.length)
 | [],_,_,h=>h
 |c::l,n,k,h=>by
  have hc:=c.toNat_lt
  have:=qfg l (n*256+c.toNat) (k+1) (by rw[gR];omega)
  rw[List.foldl_cons,aW,show k+(l.length+1)=k+1+l.length by omega]
  exact this
theorem ql7(l:List UInt8):beV l<256^l.length:=by
 have:=qfg l 0 0 dQ
 rwa[aH]at this
abbrev Bys:=List UInt8
abbrev Opn:=Bys×Bool
def opT(n:Nat)(o:Opn):Bys×Opn:=if o.2 then([],o)else if o.1.length<n then([],(o.1,true))else(o.1.take n,(o.1.drop n,false))
def opN(w:Nat)(o:Opn):Nat×Opn:=(beV (opT w o).1,(opT w o).2)
theorem zqb(a b:Bys):opT a.length (a++b,false)=(a,(b,false)):=by
 unfold opT
 simp
theorem zgc{w n:Nat}(h:n<256^w)(b:Bys):opN w (beN w n++b,false)=(n,(b,false)):=by
 have:=zqb (beN w n) b
 rw[zal]at this
 rw[opN,this]
 simp only[zzf w n h]
theorem qhi(n:Nat)(r:Bys):opT n (r,true)=([],(r,true)):=by simp[opT]
theorem zqa(n:Nat)(o:Opn):(opT n o).1.length≤n:=by
 unfold opT
 split
 ·simp
 ·split
  ·simp
  ·rw[aM];omega
end Go.Proofs.YthafakdplhdfjaaGreatDoor
namespace Go.Eng
open Go.RowKit
variable{P:Program}{Q:Exit→Act→World→Prop}{N:Fm}{l:zav}{ops:Array Oper}{rest:List Oper}{w0:World}{F:Nat→Prop}{m:List Item}
variable{w:World}
theorem Hp.close1{L:List Item}(hs:∀it∈L,it.Stable none')(h:Hp w0 F (L++m) w):Hp w0 F (zef L::m) w:=by
 refine⟨h.fr,fun it hm=>?_,bP.2 ⟨fun y hy k ⟨x,hx,hkx⟩ hky=>(bN.1 h.apart).2.2 x hx y hy k hkx hky,(bN.1 h.apart).2.1⟩⟩
 rcases aL.1 hm with rfl|hm
 ·refine⟨⟨fun it hm=>?_,(bN.1 h.apart).1⟩,(zad L).ro _,fun k ⟨it,hm,hk⟩=>(h.item it (aP _ hm)).2.2 k hk⟩
  have hi:=h.item it (aP _ hm)
  exact⟨hi.1,hs it hm,fun k hk=>(hi.2.2 k hk).1⟩
 ·exact h.item it (aU _ hm)
theorem qre{n sz:Nat}{cs:Array Value}(h:cs.size=sz)(h2:sz≤n):zdi n [(0,sz,.agg cs)]=true:=by
 simp[zdi,Value.cells,h,h2]
theorem qtq{zs cs:List Value}{k:Nat}(h:zs.length=cs.length):zek zs [(0,k,.agg cs.toArray)]=cs:=by
 show over zs 0 cs=cs
 unfold over
 rw[aH,←h,kT,kJ]
 simp
variable{it:Item}
theorem zbq.of(h:it.In w0 F w)(hs:it.Stable none'):zbq it w:=⟨h.1,hs,fun k hk=>(h.2.2 k hk).1⟩
theorem zbq.keep(h:zbq it w0)(hw:Hp w0 none' m w):zbq it w:=zbq.fr h hw.fr
end Go.Eng
namespace Go.Proofs.YthafakdplhdfjaaGreatDoor
open Go.RowKit Go.Eng
theorem bal(s:Bys):(⟨s.toArray⟩:ByteArray).size=s.length:=by simp[ByteArray.size]
structure Dsk where
 on:List Bys
 wait:List (Bys×Nat)
 left:Option Nat
 keep:Bys
 dead:Bool
structure Dk where
 b:Nat
 onB:Nat
 w:Option (Nat×Nat)
 acts:Nat
 D:Dsk
def ze9(l:List Bys):List Value:=l.flatMap zae
def wrV(p:Bys×Nat):List Value:=zae p.1++[.int .i64 (p.2:Int)]
def zpx:Option Nat→Int
 |none=> -1
 |some n=>(n:Int)
abbrev zeu(d:Dk):List Value:=[.int .i64 (zpx d.D.left),.string ⟨d.D.keep.toArray⟩,.slice (some ⟨d.onB,0,none⟩) d.D.on.length d.D.on.length,slV d.w d.D.wait.length,.bool d.D.dead,.int .u64 (d.acts:Nat)]
def dkL(d:Dk):List Eng.Item:=[pt d.b (.cells (zeu d).toArray 130 (0,0)),pt d.onB (.cells (ze9 d.D.on).toArray 255 (0,0)),own 257 513 d.w d.D.wait.length (zc6 wrV d.D.wait)]
def dkI(d:Dk):Eng.Item:=zef (dkL d)
theorem zsg(d:Dk):∀it∈dkL d,it.Stable none':=by simp[dkL,zab,zac]
structure Dsk.Ok (D:Dsk):Prop where
 size:∀s∈D.on,s.length=512
 wsize:∀p∈D.wait,p.1.length=512∧p.2<D.on.length
 many:D.on.length≤4096
 left:∀n,D.left=some n→n≤9223372036854775807
theorem zfw(is:Bool)(e:Nat)(w:World):Pu Tryz.prog 60 #[.bool is,.int .i64 e] w (.int .i64 (if is then 0 else e:Nat)):=by
 refine zbn [_,_] Tryz.func60 rfl rfl ?_
 simp only[zaa,Nat.reduceAdd]
 cases is with
 |true=>
  rw[if_pos rfl]
  refine goA ?_
  exact zdk rfl rfl rfl
 |false=>
  rw[if_neg dQ]
  refine goA ?_
  exact zdk rfl rfl rfl
def zi1(l:List Nat):Nat:=(l.find? fun e=>decide (e≠0)).getD 0
def qf0(l:List Nat):List Value:=l.map fun e:Nat=>Value.int .i64 (e:Int)
theorem zk6(L:List Nat)(a:Option Addr)(c:Nat)(hn:L.length≤1000)(w:World)(hr:Rd w a (qf0 L)):Pu Tryz.prog 58 #[.slice a L.length c] w (.int .i64 (zi1 L:Nat)):=by
 refine zbn [_] Tryz.func58 rfl rfl ?_
 simp only[zaa]
 refine goA ?_
 refine zc0 (α:=Nat) (fun i=>[(5,.slice a L.length c),(6,.int .i64 L.length),(7,.int .i64 i)]) (fun i=>i≤L.length∧∀e∈L.take i,e=0) (fun _=>[]) (fun i=>L.length - i) 0 ⟨rfl,rfl,rfl,trivial⟩ ⟨aZ _,fun _ h=>nomatch h⟩ (fun w' hw'=>hw') fun i ⟨hi,hz⟩=>?_
 by_cases hi2:i<L.length
 ·have hlen:(qf0 L).length=L.length:=by simp[qf0]
  have hat:(qf0 L)[i]? =some (.int .i64 (L[i]:Nat)):=by simp[qf0,hi2]
  have hsp:L=L.take i++(L[i]::L.drop (i+1)):=by rw[dU,bF]
  have hup:L.take (i+1)=L.take i++[L[i]]:=dA hi2
  have hfe:∀e,L[i]=e→e≠0→zi1 L=e:=fun e he h0=>by
   rw[zi1,hsp,iG,eF.2 fun x hx=>by simp[hz x hx],he]
   simp[h0]
  obtain⟨b,off,rfl,hcell⟩:=hr.at_ (fun e=>by rw[e]at hlen;simp at hlen;omega)
  have hci:=hcell i _ hat
  generalize L[i]=e at hci hup hfe
  refine goA ?_
  refine l_w rfl (za0 rfl rfl (fun w' hw'=>hw'.old (fun h=>h) hci)) ?_
  refine goA ?_
  by_cases h0:e=0
  ·subst h0
   refine goA ?_
   exact zaw (i+1) ⟨rfl,rfl,rfl,trivial⟩ ⟨hi2,fun x hx=>by
    rw[hup]at hx
    rcases aR.1 hx with hx|hx
    ·exact hz x hx
    ·exact aN.1 hx⟩ (fun w' hw'=>hw') oQ
  ·rw[hfe e rfl h0]
   refine goA ?_
   exact zdk rfl rfl rfl
 ·obtain rfl:i=L.length:=oQ
  rw[gD]at hz
  have:zi1 L=0:=by rw[zi1,eF.2 fun x hx=>by simp[hz x hx]];rfl
  rw[this]
  refine goA ?_
  exact zdk rfl rfl rfl
theorem qfw{d:Dk}{w:World}(h:zbq (dkI d) w)(i:Nat){v:Value}(hv:(zeu d)[i]? =some v):w.cell? ⟨d.b,i,none⟩=some v:=
 zd4 (h.1.1 (pt d.b (.cells (zeu d).toArray 130 (0,0))) (.head _)).1 (by rw[fB];exact hv)
theorem qaz(b:Nat)(w:World):Pu Tryz.prog 59 #[.pointer (some ⟨b,0,none⟩)] w (.int .i64 0):=by
 refine zbn [_] Tryz.func59 rfl rfl ?_
 simp only[zaa]
 refine goA ?_
 refine lPu rfl (fun w1 hw1=>zfw true 1 w1) ?_
 refine goA ?_
 exact zdk rfl rfl rfl
theorem zzb(d:Dk)(w:World)(h:zbq (dkI d) w):Pu Tryz.prog 24 #[.pointer (some ⟨d.b,0,none⟩)] w (.bool (!d.D.dead)):=by
 refine zbn [_] Tryz.func24 rfl rfl ?_
 simp only[zaa]
 refine goA ?_
 refine l_w rfl (za0 rfl rfl (fun w' hw'=>qfw (h.keep hw') 4 rfl)) ?_
 refine goA ?_
 exact zdk rfl rfl rfl
theorem zhy(d:Dk)(w:World)(h:zbq (dkI d) w):Pu Tryz.prog 114 #[.pointer (some ⟨d.b,0,none⟩)] w (.int .i64 d.D.on.length):=by
 refine zbn [_] Tryz.func114 rfl rfl ?_
 simp only[zaa]
 refine goA ?_
 refine l_w rfl (za0 rfl rfl (fun w' hw'=>qfw (h.keep hw') 2 rfl)) ?_
 refine goA ?_
 exact zdk rfl rfl rfl
theorem zlk(d:Dk)(w:World)(h:zbq (dkI d) w):Pu Tryz.prog 168 #[.pointer (some ⟨d.b,0,none⟩)] w (.int .i64 (if d.D.dead then 4 else 0:Nat)):=by
 refine zbn [_] Tryz.func168 rfl rfl ?_
 simp only[zaa]
 refine goA ?_
 refine lPu rfl (fun w1 hw1=>qaz d.b w1) ?_
 refine goA ?_
 refine lPu rfl (fun w1 hw1=>zzb d w1 (h.keep hw1)) ?_
 refine lPu rfl (fun w1 hw1=>zfw (!d.D.dead) 4 w1) ?_
 refine za1 rfl (za3 rfl rfl rfl rfl rfl rfl) fun⟨bq,hbq⟩=>?_
 refine lPu rfl (fun w1 hw1=>zk6 [0,if !d.D.dead then 0 else 4] (some ⟨bq,0,none⟩) 2 sQ w1 (za8 (o:=some (bq,2)) (hw1.item _ (.head _)).1)) ?_
 refine goA ?_
 refine zdk rfl rfl ?_
 cases d.D.dead<;>rfl
theorem zpr(d:Dk)(at_:Nat)(hat:at_<9223372036854775808)(w:World)(h:zbq (dkI d) w):Pu Tryz.prog 178 #[.pointer (some ⟨d.b,0,none⟩),.int .i64 at_] w (.int .i64 (if at_<d.D.on.length then 0 else 2:Nat)):=by
 refine zbn [_,_] Tryz.func178 rfl rfl ?_
 simp only[zaa,Nat.reduceAdd]
 refine goA ?_
 refine lPu rfl (fun w1 hw1=>zhy d w1 (h.keep hw1)) ?_
 by_cases hl:at_<d.D.on.length
 ·rw[if_pos hl]
  refine goA ?_
  refine zd2 12 _ (.bool true) rfl (congrArg Value.bool (decide_eq_true oQ)) ?_
  refine lPu rfl (fun w1 hw1=>zfw true 2 w1) ?_
  refine goA ?_
  exact zdk rfl rfl rfl
 ·rw[if_neg hl]
  refine goA ?_
  refine zd2 12 _ (.bool false) rfl (congrArg Value.bool (decide_eq_false oQ)) ?_
  refine lPu rfl (fun w1 hw1=>zfw false 2 w1) ?_
  refine goA ?_
  exact zdk rfl rfl rfl
end Go.Proofs.YthafakdplhdfjaaGreatDoor
namespace Go.Eng
open Go.RowKit
variable{P:Program}{Q:Exit→Act→World→Prop}{N:Fm}{l:zav}{ops:Array Oper}{rest:List Oper}{w0:World}{F:Nat→Prop}{m m' r:List Item}{ty:TypeId}{pos:String}{after:Array Edge}{g:Option (Nat×Bool)}{d:Nat}
@[reducible] def apI:List Item→List Item→List Item
 | [],r=>r
 |x::L,r=>x::apI L r
theorem zf9:∀(L r:List Item),L++r=apI L r
 | [],_=>rfl
 |_::L,r=>congrArg _ (zf9 L r)
inductive Fnd (x:Item):List Item→List Item→Prop
 |head {m:List Item}:Fnd x (x::m) m
 |tail {y:Item} {m r:List Item} (h:Fnd x m r):Fnd x (y::m) (y::r)
inductive Fnds:List Item→List Item→List Item→Prop
 |nil {m:List Item}:Fnds [] m m
 |cons {x:Item} {L m m' r:List Item} (h:Fnd x m m') (k:Fnds L m' r):Fnds (x::L) m r
variable{b:Nat}
theorem Fnd.ptE{o o':Obj}(h:o=o'):Fnd (pt b o) (pt b o'::m) m:=h▸ .head
variable{n:Nat}
theorem Fnd.ownE{e:TypeId}{sz n':Nat}{o:Option (Nat×Nat)}{xs xs':List Value}(h:n=n')(k:xs=xs'):Fnd (own e sz o n xs) (own e sz o n' xs'::m) m:=h▸k▸ .head
theorem qt4{L:List Item}(h:Fnds L m r:=by repeat first|with_reducible exact .nil |with_reducible exact .head |with_reducible apply Fnds.cons|((with_reducible refine Fnd.ptE ?_);rfl) |((with_reducible refine Fnd.ownE ?_ ?_)<;>rfl) |with_reducible apply Fnd.tail):Fnds L m r:=h
theorem qt5{x:Item}(h:Fnd x m r:=by repeat first|with_reducible exact .head |((with_reducible refine Fnd.ptE ?_);rfl) |with_reducible apply Fnd.tail):Fnd x m r:=h
theorem Fnd.perm{x:Item}:∀{m r:List Item},Fnd x m r→m.Perm (x::r)
 |_,_,.head=>.refl _
 |_,_,.tail h=>(List.Perm.cons _ h.perm).trans (.swap _ _ _)
theorem Fnds.perm:∀{L m r:List Item},Fnds L m r→m.Perm (apI L r)
 |_,_,_,.nil=>.refl _
 |_,_,_,.cons h k=>h.perm.trans (.cons _ k.perm)
variable{fn:Func}{f:FuncId}{c:Code}{pre:List Item}{α:Type}{val:α→Value}{φ:α→Prop}{its:α→List Item}
theorem qnp(vs:List Value)(hf:P.funcs[f]? =some fn)(hb:fn.body=some c)
  (h:∀w0,HT P c (bodyPost P fn (zjn w0 (za4 pre) val φ its)) ⟨fn.ntmps,[],none⟩ (zaa 0 vs) (Hp w0 (za4 pre) pre)) (hn:Nat.ble vs.length fn.ntmps=true:=by rfl):Cw P f vs.toArray pre val φ its:=
 fun w hw ha=>za2 vs pre hf hb hn hw ha (h w)
class Stab (it:Item):Prop where
 st:it.Stable none'
class StabL (L:List Item):Prop where
 st:∀it∈L,it.Stable none'
instance:StabL []:=⟨fun _ h=>nomatch h⟩
instance{a:Item}{L:List Item}[h:Stab a][k:StabL L]:StabL (a::L):=⟨fun it hm=>by
 rcases hm with _|⟨_,hm⟩
 ·exact h.st
 ·exact k.st it hm⟩
instance(b:Nat)(o:Obj):Stab (pt b o):=⟨zab _ _ _⟩
instance(e:TypeId)(sz:Nat)(o:Option (Nat×Nat))(n:Nat)(xs:List Value):Stab (own e sz o n xs):=⟨zac _ _ _ _ _ _⟩
instance(L:List Item):Stab (zef L):=⟨zad _⟩
variable{xs:List Operand}{tys:Array TypeId}{us:Array Value}{vs:List Value}
theorem lC
  (hc:Cw P f us pre val φ its) (k:∀x,φ x→HL P ops Q N rest ((d,val x)::l) (Hp w0 F (apI (its x) r)))
  (hx:evs l xs=some vs:=by rfl) (hu:vs.toArray=us:=by rfl) (hf:Fnds pre m r:=by exact qt4)
  [hst:StabL pre] (hg:okG ops l g=true:=by rfl) (hok:zee N l (.call ⟨.value (.func f),xs.toArray,tys⟩) d=true:=by rfl) (hb:za7 P f=true:=by kernel_rfl):
  HL P ops Q N (⟨some d,.call ⟨.value (.func f),xs.toArray,tys⟩,ty,pos,after,g⟩::rest) l (Hp w0 F m):=
 zcy (m':=pre++r) (fun _ hw=>by rw[zf9];exact hw.perm hf.perm) (zeh hg (zfb hok hb hx hst.st fun w _ hh ha=>by rw[hu];exact hc w hh ha) fun x=>by rw[zf9];exact k x.1 x.2)
variable{rv:ResultVar}{v:Value}
theorem znd{H H':World→Prop}(h:∀w,H' w→H w)(k:zhu P l H rv v):zhu P l H' rv v:=by
 cases rv with
 |tmp t=>exact k
 |cell t ty=>obtain⟨a,h1,h2⟩:=k;exact⟨a,h1,fun w hw=>h2 w (h w hw)⟩
theorem xC{u:Value}(x:α)(hφ:φ x)(hf:fn.results= #[rv]:=by rfl)(h1:zhu P l (Hp w0 F m) rv u:=by first|exact rfl|exact⟨_,rfl,zb5 rfl (by repeat first|exact .head _|apply List.Mem.tail)⟩ |exact⟨_,rfl,zaq rfl (by repeat first|exact .head _|apply List.Mem.tail)⟩)(e:u=val x:=by rfl)
  (hs:Fnds (its x) m r:=by exact qt4) [hst:StabL (its x)]:HX (bodyPost P fn (zjn w0 F val φ its)) .ret ⟨n,[],none⟩ l (Hp w0 F m):=
 zbr (m':=its x++r) (fun _ hw=>by rw[zf9];exact hw.perm hs.perm) (zbd x hf (znd (fun _ hw=>by rw[zf9]at hw;exact hw.perm hs.perm.symm) h1) e hφ (fD _ _) hst.st)
theorem xC2{rq:ResultVar}{u t:Value}(x:α)(hφ:φ x)(hf:fn.results= #[rv,rq]:=by rfl)(h1:zhu P l (Hp w0 F m) rv u:=by first|exact rfl|exact⟨_,rfl,zb5 rfl (by repeat first|exact .head _|apply List.Mem.tail)⟩ |exact⟨_,rfl,zaq rfl (by repeat first|exact .head _|apply List.Mem.tail)⟩)(h2:zhu P l (Hp w0 F m) rq t:=by first|exact rfl|exact⟨_,rfl,zb5 rfl (by repeat first|exact .head _|apply List.Mem.tail)⟩ |exact⟨_,rfl,zaq rfl (by repeat first|exact .head _|apply List.Mem.tail)⟩)(e: .tuple #[u,t]=val x:=by rfl)
  (hs:Fnds (its x) m r:=by exact qt4) [hst:StabL (its x)]:HX (bodyPost P fn (zjn w0 F val φ its)) .ret ⟨n,[],none⟩ l (Hp w0 F m):=
 zbr (m':=its x++r) (fun _ hw=>by rw[zf9];exact hw.perm hs.perm) (zc1 x hf (znd (fun _ hw=>by rw[zf9]at hw;exact hw.perm hs.perm.symm) h1) (znd (fun _ hw=>by rw[zf9]at hw;exact hw.perm hs.perm.symm) h2) e hφ (fD _ _) hst.st)
variable{T:TypeId}
theorem lS{x y:Operand}{i:Nat}{cs cs2:Array Value}{E:TypeId}(k:HL P ops Q N rest l (Hp w0 F (pt b (.cells cs2 E (0,0))::r)))
  (hx:evO l x=some (.pointer (some ⟨b,i,none⟩)):=by rfl) (hy:evO l y=some v:=by rfl) (hf:Fnd (pt b (.cells cs E (0,0))) m r:=by exact qt5) (hT:(P.info? T).map (·.size)=some 1:=by rfl)
  (h1:v.cells= #[v]:=by first|rfl|exact zct _ _) (h2:v.oneCell'=true:=by first|rfl|exact zc3 _ _) (hi:i<cs.size:=by first|(simp;done) |decide) (hn:cs.setIfInBounds i v=cs2:=by first|((simp only[dE,List.set_cons_zero,List.set_cons_succ])<;>rfl) |rfl) (hg:okG ops l g=true:=by rfl) (hok:(zez (.store T x y)&&zec l (.store T x y))=true:=by rfl):
  HL P ops Q N (⟨none,.store T x y,ty,pos,after,g⟩::rest) l (Hp w0 F m):=zeh hg (zah hf.perm (zai hok hx hy hT h1 h2 hi)) fun _=>by rw[hn];exact k
theorem lSa{x y:Operand}{cs cs':Array Value}{E:TypeId}(k:HL P ops Q N rest l (Hp w0 F (pt b (.cells cs' E (0,0))::r)))
  (hx:evO l x=some (.pointer (some ⟨b,0,none⟩)):=by rfl) (hy:evO l y=some (.agg cs'):=by rfl) (hf:Fnd (pt b (.cells cs E (0,0))) m r:=by exact qt5) (hT:(P.info? T).map (·.size)=some cs'.size:=by rfl)
  (h1:zb7 cs'.toList=true:=by first|rfl|(simp[zb7,zc3];done)) (h2:cs'.size=cs.size:=by rfl) (hg:okG ops l g=true:=by rfl) (hok:(zez (.store T x y)&&zec l (.store T x y))=true:=by rfl):
  HL P ops Q N (⟨none,.store T x y,ty,pos,after,g⟩::rest) l (Hp w0 F m):=zeh hg (zah hf.perm (zaf hok hx hy hT h1 h2)) fun _=>k
theorem goB{p q:Prop}(k:q)(s:Kp q→p:=by intro h;(repeat first|with_reducible (first|apply zr5|apply zkr|apply zno|apply qep|apply zq4|apply ztm|apply zu3|apply zka|apply zfj|apply zg0|apply zfi|apply zd0|apply zeo|apply zfh rfl) |(apply l_w rfl;focus (exact vX)) |refine qp1 rfl ?_ |refine t_T rfl rfl cQ ?_ |refine t_F rfl rfl cQ ?_ |refine l_T rfl rfl cQ ?_ |refine l_F rfl rfl cQ ?_ |refine lS ?_ |refine lSa ?_);exact h.h):p:=s ⟨k⟩
variable{S:World→Prop}{t:Nat}{listed:Array Bool}
theorem qqo(hI:∀w,Hp w0 F m w→Hp w0 F m' w)(k:HD P ops Q S t N n listed l (Hp w0 F m')):HD P ops Q S t N n listed l (Hp w0 F m):=by
 unfold HD at*;exact fun inv a w s hw=>k inv a w s (hI w hw)
variable{s:List Item}
theorem Fnds.hp{w:World}(h:Fnds s m r)(hw:Hp w0 F m w):Hp w0 F s w:=by
 have h1:=hw.perm h.perm
 rw[←zf9]at h1
 exact h1.sub (fD _ _)
theorem dC(i:Nat){r':List Item}
  (hc:Cw P f us pre val φ its) (k:∀x,φ x→HD P ops Q (Hp w0 F s) t N n (listed.setIfInBounds i true) ((d,val x)::l) (Hp w0 F (apI (its x) r)))
  (hi0:nth ops.toList i=some ⟨some d,.call ⟨.value (.func f),xs.toArray,tys⟩,ty,pos,after,g⟩:=by rfl) (hx:evs l xs=some vs:=by rfl) (hu:vs.toArray=us:=by rfl) (hf:Fnds pre m r:=by exact qt4)
  (hs:Fnds s r r':=by exact qt4) (hr0:Region.ready .any ops listed=[i]:=by kernel_rfl) (hr1:i<t:=by decide)
  [hst:StabL pre] (hg:okG ops l g=true:=by rfl) (hok:zee N l (.call ⟨.value (.func f),xs.toArray,tys⟩) d=true:=by rfl) (hb:za7 P f=true:=by kernel_rfl):
  HD P ops Q (Hp w0 F s) t N (n+1) listed l (Hp w0 F m):=
 qqo (m':=pre++r) (fun _ hw=>by rw[zf9];exact hw.perm hf.perm) (zat i ⟨hr0,hr1⟩ hi0 hg (zfb hok hb hx hst.st fun w _ hh ha=>by rw[hu];exact hc w hh ha) (fun _ _ h=>hs.hp (h.sub (dI _ _))) fun x=>by rw[zf9];exact k x.1 x.2)
theorem ziv{id:Nat}{rs:List Oper}(s:List Item)(t:Nat)(h:HD P rs.toArray Q (Hp w0 F s) t N rs.length (Array.replicate rs.length false) l (Hp w0 F m))(hs:Fnds s m m':=by exact qt4)(hm:zjo P rs=true:=by kernel_rfl):HT P (.region id rs.toArray true) Q N l (Hp w0 F m):=by
 unfold HT HD at*
 intro a w st hw
 simp only[zjo,bH,eJ]at hm
 refine wpIn_mono (wpIn_region_any (Q:=zom Q) hm.1 (zwl (by simpa using hm.2) zon N.r _ _ _ _ (zid (S:=Hp w0 F s) (t:=t) _ _ _ _ ?_))) (fun _ _ _ h=>zpe h)
 have:=h (by simpa using zgh rs.toArray t) a w.drew st hw.drew
 simpa using this
variable{op:Op}
theorem qtg{H:World→Prop}{i j:Nat}(_hj:qam ops.toList listed.toList [] l 0 ops.toList=some j)(hp:qam ops.toList listed.toList [j] l 0 ops.toList=some i)
  (hi:nth ops.toList i=some ⟨some d,op,ty,pos,after,g⟩) (hok:okL ops N l g op d=true) (hb:znn ops t listed i=true) (hS:∀w,H w→S w) (hv:OV P op ty l S v) (k:HD P ops Q S t N n (listed.setIfInBounds i true) ((d,v)::l) H):HD P ops Q S t N (n+1) listed l H:=d_w [j] hp hi hok hb hS hv k
theorem qva{H:World→Prop}{i j:Nat}{g:Nat×Bool}(_hj:qam ops.toList listed.toList [] l 0 ops.toList=some j)(hp:qam ops.toList listed.toList [j] l 0 ops.toList=some i)
  (hi:nth ops.toList i=some ⟨some d,op,ty,pos,after,some g⟩) (hok:okP ops N l g d=true) (hb:znn ops t listed i=true) (hS:∀w,H w→S w) (k:HD P ops Q S t N n (listed.setIfInBounds i true) ((d,undef)::l) H):HD P ops Q S t N (n+1) listed l H:=qez [j] hp hi hok hb hS k
theorem goP{p q:Prop}(k:q)(s:Kp q→p:=by intro h;(repeat first|(apply d_w [] rfl rfl rfl kQ (fun _ h=>Fnds.hp qt4 h);focus (exact vX)) |refine qez [] rfl rfl rfl kQ (fun _ h=>Fnds.hp qt4 h) ?_ |refine d_T [] rfl rfl rfl rfl cQ ?_ |refine d_F [] rfl rfl rfl rfl cQ ?_ |(apply qtg rfl rfl rfl rfl kQ (fun _ h=>Fnds.hp qt4 h);focus (exact vX)) |refine qva rfl rfl rfl rfl kQ (fun _ h=>Fnds.hp qt4 h) ?_);exact h.h):p:=s ⟨k⟩
theorem goQ{p q:Prop}(k:q)(s:Kp q→p:=by intro h;(repeat first|(apply d_w [] rfl rfl rfl kQ (fun _ h=>Fnds.hp qt4 h);focus (exact vX)) |refine qez [] rfl rfl rfl kQ (fun _ h=>Fnds.hp qt4 h) ?_ |refine d_T [] rfl rfl rfl rfl cQ ?_ |refine d_F [] rfl rfl rfl rfl cQ ?_ |(apply qtg rfl rfl rfl rfl kQ (fun _ h=>Fnds.hp qt4 h);focus (exact vX)) |refine qva rfl rfl rfl rfl kQ (fun _ h=>Fnds.hp qt4 h) ?_);refine zdn kQ ?_;(repeat first|with_reducible (first|apply zr5|apply zkr|apply zno|apply qep|apply zq4|apply ztm|apply zu3|apply zka|apply zfj|apply zg0|apply zfi|apply zd0|apply zeo|apply zfh rfl) |(apply l_w rfl;focus (exact vX)) |refine qp1 rfl ?_ |refine t_T rfl rfl cQ ?_ |refine t_F rfl rfl cQ ?_ |refine l_T rfl rfl cQ ?_ |refine l_F rfl rfl cQ ?_ |refine lS ?_ |refine lSa ?_);exact h.h):p:=s ⟨k⟩
theorem dV(i:Nat)(k:HD P ops Q (Hp w0 F s) t N n (listed.setIfInBounds i true) ((d,v)::l) (Hp w0 F m))(hi0:nth ops.toList i=some ⟨some d,op,ty,pos,after,g⟩:=by rfl)(hr0:Region.ready .any ops listed=[i]:=by kernel_rfl)(hr1:i<t:=by decide)
  (hv:OV P op ty l (Hp w0 F m) v:=by exact vX) (hs:Fnds s m m':=by exact qt4) (hg:okG ops l g=true:=by rfl) (hok:zee N l op d=true:=by rfl):HD P ops Q (Hp w0 F s) t N (n+1) listed l (Hp w0 F m):=
 zat i ⟨hr0,hr1⟩ hi0 hg (zx2 hok hv) (fun _ _ h=>hs.hp h) fun _=>k
theorem dSa(i:Nat){x y:Operand}{cs cs':Array Value}{E:TypeId}{r':List Item}(k:HD P ops Q (Hp w0 F s) t N n (listed.setIfInBounds i true) l (Hp w0 F (pt b (.cells cs' E (0,0))::r)))
  (hi0:nth ops.toList i=some ⟨none,.store T x y,ty,pos,after,g⟩:=by rfl) (hr0:Region.ready .any ops listed=[i]:=by kernel_rfl) (hr1:i<t:=by decide)
  (hx:evO l x=some (.pointer (some ⟨b,0,none⟩)):=by rfl) (hy:evO l y=some (.agg cs'):=by rfl) (hf:Fnd (pt b (.cells cs E (0,0))) m r:=by exact qt5) (hs:Fnds s r r':=by exact qt4) (hT:(P.info? T).map (·.size)=some cs'.size:=by rfl)
  (h1:zb7 cs'.toList=true:=by first|rfl|(simp[zb7,zc3];done)) (h2:cs'.size=cs.size:=by rfl) (hg:okG ops l g=true:=by rfl) (hok:(zez (.store T x y)&&zec l (.store T x y))=true:=by rfl):HD P ops Q (Hp w0 F s) t N (n+1) listed l (Hp w0 F m):=
 zat i ⟨hr0,hr1⟩ hi0 hg (zah hf.perm (zaf hok hx hy hT h1 h2)) (fun _ _ h=>hs.hp (h.sub (.cons _ (.refl _)))) fun _=>k
theorem dS1(i:Nat){x y:Operand}{j:Nat}{cs cs2:Array Value}{E:TypeId}{r':List Item}(k:HD P ops Q (Hp w0 F s) t N n (listed.setIfInBounds i true) l (Hp w0 F (pt b (.cells cs2 E (0,0))::r)))
  (hi0:nth ops.toList i=some ⟨none,.store T x y,ty,pos,after,g⟩:=by rfl) (hr0:Region.ready .any ops listed=[i]:=by kernel_rfl) (hr1:i<t:=by decide)
  (hx:evO l x=some (.pointer (some ⟨b,j,none⟩)):=by rfl) (hy:evO l y=some v:=by rfl) (hf:Fnd (pt b (.cells cs E (0,0))) m r:=by exact qt5) (hs:Fnds s r r':=by exact qt4) (hT:(P.info? T).map (·.size)=some 1:=by rfl)
  (h1:v.cells= #[v]:=by first|rfl|exact zct _ _) (h2:v.oneCell'=true:=by first|rfl|exact zc3 _ _) (hi:j<cs.size:=by first|(simp;done) |decide) (hn:cs.setIfInBounds j v=cs2:=by first|((simp only[dE,List.set_cons_zero,List.set_cons_succ])<;>rfl) |rfl) (hg:okG ops l g=true:=by rfl) (hok:(zez (.store T x y)&&zec l (.store T x y))=true:=by rfl):HD P ops Q (Hp w0 F s) t N (n+1) listed l (Hp w0 F m):=
 zat i ⟨hr0,hr1⟩ hi0 hg (zah hf.perm (zai hok hx hy hT h1 h2 hi)) (fun _ _ h=>hs.hp (h.sub (.cons _ (.refl _)))) fun _=>by rw[hn];exact k
theorem dPF(i:Nat)(hc:∀w,Hp w0 F m w→Pu P f us w v)(k:HD P ops Q (Hp w0 F s) t N n (listed.setIfInBounds i true) ((d,v)::l) (Hp w0 F m))
  (hi0:nth ops.toList i=some ⟨some d,.call ⟨.value (.func f),xs.toArray,tys⟩,ty,pos,after,g⟩:=by rfl) (hx:evs l xs=some vs:=by rfl) (hu:vs.toArray=us:=by rfl) (hs:Fnds s m m':=by exact qt4) (hr0:Region.ready .any ops listed=[i]:=by kernel_rfl) (hr1:i<t:=by decide)
  (hg:okG ops l g=true:=by rfl) (hok:zee N l (.call ⟨.value (.func f),xs.toArray,tys⟩) d=true:=by rfl) (hb:za7 P f=true:=by kernel_rfl):HD P ops Q (Hp w0 F s) t N (n+1) listed l (Hp w0 F m):=
 zat i ⟨hr0,hr1⟩ hi0 hg (zfc hok hb hx fun w hw=>by rw[hu];exact hc w hw) (fun _ _ h=>hs.hp h) fun _=>k
theorem qi6{e:Exit}(M:List Item)(k:HX Q e N l (Hp w0 F (zef M::r)))(hs:Fnds M m r:=by exact qt4)[hst:StabL M]:HX Q e N l (Hp w0 F m):=zbr (fun _ h=>Hp.close1 hst.st (by rw[zf9];exact h.perm hs.perm)) k
theorem dVP{i:Nat}(hp:pick ops listed []=some i)(hi:nth ops.toList i=some ⟨some d,op,ty,pos,after,g⟩)(hv:OV P op ty l (Hp w0 F s) v)(k:HD P ops Q (Hp w0 F s) t N n (listed.setIfInBounds i true) ((d,v)::l) (Hp w0 F m))
  (hb:znn ops t listed i=true:=by kernel_rfl) (hs:Fnds s m m':=by exact qt4) (hg:okG ops l g=true:=by rfl) (hok:zee N l op d=true:=by rfl):HD P ops Q (Hp w0 F s) t N (n+1) listed l (Hp w0 F m):=d_v [] hp hi hb (fun _ h=>hs.hp h) hg hok hv k
theorem que(L:α→zav)(φ:α→Prop)(M:α→List Item)(μ:α→Nat)(x₀:α)(hφ:φ x₀)(round:∀x,φ x→HT P c (Exit.then (qe7 w0 F N L φ M μ x) Q) N (L x) (Hp w0 F (M x)))
  (h₀:Has l (L x₀):=by repeat first|exact trivial|refine⟨rfl,?_⟩) (hs:Fnds (M x₀) m r:=by exact qt4):HT P (.loop c) Q N l (Hp w0 F m):=zc0 L φ M μ x₀ h₀ hφ (fun _ h=>hs.hp h) round
theorem xR{L:α→zav}{M:α→List Item}{μ:α→Nat}{x:α}(y:α)(hφ:φ y)(hm:μ y<μ x)(hl:Has l (L y):=by repeat first|exact trivial|refine⟨rfl,?_⟩)(hs:Fnds (M y) m r:=by exact qt4):HX (Exit.then (qe7 w0 F N L φ M μ x) Q) .normal N l (Hp w0 F m):=zaw y hl hφ (fun _ h=>hs.hp h) hm
end Go.Eng
namespace Go.Eng.Tr
abbrev K:=List UInt8
def kl(a b:K):Prop:=Op.bytesLess a b=true
instance(a b:K):Decidable (kl a b):=inferInstanceAs (Decidable (_=_))
theorem zh3:∀a:K,¬kl a a
 | [],h=>by cases h
 |a::x,h=>by
  unfold kl Op.bytesLess at h
  rw[iE]at h
  rcases h with h|h
  ·exact absurd (of_decide_eq_true h) (UInt8.lt_irrefl _)
  ·rw[bH]at h;exact zh3 x h.2
theorem zb9:∀{a b c:K},kl a b→kl b c→kl a c
 |_,[],_,h,_=>by unfold kl Op.bytesLess at h;cases h
 |_,_::_,[],_,h=>by unfold kl Op.bytesLess at h;cases h
 | [],_::_,_::_,_,_=>rfl
 |a::x,b::y,c::z,h1,h2=>by
  unfold kl Op.bytesLess at h1 h2⊢
  simp only[iE,bH,decide_eq_true_eq,beq_iff_eq]at h1 h2⊢
  rcases h1 with h1|⟨rfl,h1⟩
  ·rcases h2 with h2|⟨rfl,h2⟩
   ·exact .inl (UInt8.lt_trans h1 h2)
   ·exact .inl h1
  ·rcases h2 with h2|⟨rfl,h2⟩
   ·exact .inl h2
   ·exact .inr ⟨rfl,zb9 (a:=x) (b:=y) (c:=z) h1 h2⟩
theorem zu1:∀(a b:K),kl a b∨a=b∨kl b a
 | [],[]=>.inr (.inl rfl)
 | [],_::_=>.inl rfl
 |_::_,[]=>.inr (.inr rfl)
 |a::x,b::y=>by
  unfold kl Op.bytesLess
  simp only[iE,bH,decide_eq_true_eq,beq_iff_eq]
  rcases iH a.toNat b.toNat with h|h|h
  ·exact .inl (.inl (UInt8.lt_iff_toNat_lt.2 h))
  ·obtain rfl:a=b:=UInt8.toNat_inj.1 h
   rcases zu1 x y with h|rfl|h
   ·exact .inl (.inr ⟨rfl,h⟩)
   ·exact .inr (.inl rfl)
   ·exact .inr (.inr (.inr ⟨rfl,h⟩))
  ·exact .inr (.inr (.inl (UInt8.lt_iff_toNat_lt.2 h)))
variable{a b:K}
theorem zhf(h:kl a b):¬kl b a:=fun h'=>zh3 a (zb9 h h')
theorem zi8(h:kl a b):a≠b:=fun e=>zh3 b (e▸h)
theorem qqz(h:¬kl a b)(hne:a≠b):kl b a:=by
 rcases zu1 a b with h1|h1|h1
 ·exact absurd h1 h
 ·exact absurd h1 hne
 ·exact h1
theorem qoa(h:¬kl a b):kl b a∨b=a:=by
 rcases zu1 a b with h1|h1|h1
 ·exact absurd h1 h
 ·exact .inr h1.symm
 ·exact .inl h1
theorem zd5{c:K}(h1:¬kl b a)(h2:kl b c):kl a c:=by
 rcases qoa h1 with h|rfl
 ·exact zb9 h h2
 ·exact h2
theorem zu0{c:K}(h1:kl a b)(h2:¬kl c b):kl a c:=by
 rcases qoa h2 with h|rfl
 ·exact zb9 h1 h
 ·exact h1
def Ks(l:List K):Prop:=l.Pairwise kl
def lb(ns:List K)(t:K):Nat:=(ns.takeWhile fun x=>decide (kl x t)).length
def fd(ns:List K)(t:K):Bool:=decide (ns[lb ns t]? =some t)
theorem qkn(ns:List K)(t:K):lb ns t≤ns.length:=(List.takeWhile_sublist _).length_le
variable{ns:List K}{t:K}
theorem qq5:∀{k:Nat} (h:k<ns.length),k<lb ns t→kl ns[k] t:=by
 induction ns with
 |nil=>intro k h;simp at h
 |cons x r ih=>
  intro k h hk
  by_cases hx:kl x t
  ·have e:lb (x::r) t=lb r t+1:=by simp[lb,hx]
   cases k with
   |zero=>exact hx
   |succ k=>exact ih (k:=k) (by simpa using h) oQ
  ·have e:lb (x::r) t=0:=by simp[lb,hx]
   omega
theorem qsv(hs:Ks ns):∀{k:Nat} (h:k<ns.length),lb ns t≤k→¬kl ns[k] t:=by
 induction ns with
 |nil=>intro k h;simp at h
 |cons x r ih=>
  obtain⟨hs1,hs2⟩:=bP.1 hs
  intro k h hk
  by_cases hx:kl x t
  ·have e:lb (x::r) t=lb r t+1:=by simp[lb,hx]
   cases k with
   |zero=>omega
   |succ k=>exact ih hs2 (k:=k) (by simpa using h) oQ
  ·cases k with
   |zero=>exact hx
   |succ k=>exact fun h'=>hx (zb9 (hs1 _ (aT (by simpa using h))) h')
theorem qq6:∀{i:Nat},i≤ns.length→(∀k (h:k<ns.length),k<i→kl ns[k] t)→(∀h:i<ns.length,¬kl ns[i] t)→lb ns t=i:=by
 induction ns with
 |nil=>intro i h _ _;simp at h;simp[lb,h]
 |cons x r ih=>
  intro i h h1 h2
  cases i with
  |zero=>have:=h2 sQ;simp only[jD]at this;simp[lb,this]
  |succ i=>
   have h3:=h1 0 sQ oQ
   simp only[jD]at h3
   have h4:=ih (i:=i) (by simpa using h) (fun k hk hki=>by have:=h1 (k+1) (by simpa using hk) oQ;simpa using this) (fun hk=>by have:=h2 (by simpa using hk);simpa using this)
   simp only[lb]at h4
   simp[lb,h3,h4]
theorem zly:fd ns t=true↔ns[lb ns t]? =some t:=by simp[fd]
theorem qbl(hs:Ks ns):fd ns t=true↔t∈ns:=by
 rw[zly]
 refine⟨bI,fun h=>?_⟩
 obtain⟨i,hi,rfl⟩:=bL h
 have e:lb ns ns[i]=i:=qq6 oQ (fun k hk hki=>cG.1 hs k i hk hi hki) (fun _=>zh3 _)
 rw[e,aB hi]
def dn(ns:List K)(t:K):Nat:=if fd ns t then lb ns t+1 else lb ns t
theorem zoh(ns:List K)(t:K):dn ns t≤ns.length:=by
 unfold dn
 split
 ·rename_i h
  have:=(aC.1 (zly.1 h)).1
  omega
 ·exact qkn ns t
variable{k:Nat}
theorem qqq(h:k<ns.length)(hk:k<dn ns t):¬kl t ns[k]:=by
 unfold dn at hk
 split at hk
 ·rename_i hf
  rcases Nat.lt_succ_iff_lt_or_eq.1 hk with h1|rfl
  ·exact zhf (qq5 h h1)
  ·have:=zly.1 hf
   rw[aB h]at this
   rw[cR this]
   exact zh3 _
 ·exact zhf (qq5 h hk)
theorem qqp(hs:Ks ns)(h:k<ns.length)(hk:dn ns t≤k):kl t ns[k]:=by
 unfold dn at hk
 split at hk
 ·rename_i hf
  have h1:=zly.1 hf
  obtain⟨h2,h3⟩:=aC.1 h1
  have:=cG.1 hs (lb ns t) k h2 h oQ
  rwa[h3]at this
 ·rename_i hf
  have h1:=qsv hs h hk
  rcases qoa h1 with h2|h2
  ·exact h2
  ·exfalso
   apply hf
   rw[qbl hs,h2]
   exact aT h
abbrev E:=List (K×K)
def Es(e:E):Prop:=Ks (e.map (·.1))
def zfx:E→K→K→E
 | [],k,v=>[(k,v)]
 |p::r,k,v=>if k=p.1 then(k,v)::r else if kl k p.1 then(k,v)::p::r else p::zfx r k v
def zi6(e:E)(k:K):Option K:=(e.find? fun p=>decide (p.1=k)).map (·.2)
def zfy(e:E)(k:K):E:=e.filter fun p=>decide (p.1≠k)
def zxc(e:E)(k:K)(also:Bool):Option (K×K):=e.find? fun p=>decide (kl k p.1)||also&&decide (p.1=k)
def zfo(e:E)(k:K):Prop:=∀p∈e,kl p.1 k
def zzc(e:E)(k:K):Prop:=∀p∈e,kl k p.1
variable{A:E}{k:K}
theorem qhx(h:zfo A k)(e:E)(v:K):zfx (A++e) k v=A++zfx e k v:=by
 induction A with
 |nil=>rfl
 |cons p A ih=>
  have hp:=h p (.head _)
  show(if k=p.1 then _ else if kl k p.1 then _ else p::zfx (A++e) k v)=_
  rw[if_neg (fun h=>zi8 hp h.symm),if_neg (zhf hp),ih fun q hq=>h q (.tail _ hq)]
  rfl
variable{B:E}
theorem qhw{v:K}(h:zzc B k):zfx B k v=(k,v)::B:=by
 cases B with
 |nil=>rfl
 |cons p B=>
  have hp:=h p (.head _)
  show(if k=p.1 then _ else if kl k p.1 then _ else _)=_
  rw[if_neg (zi8 hp),if_pos hp]
theorem zs8{B:E}{k v:K}(h:zzc B k):∀e:E,zfx (e++B) k v=zfx e k v++B
 | []=>qhw h
 |p::e=>by
  show(if k=p.1 then _ else if kl k p.1 then _ else p::zfx (e++B) k v)=(if k=p.1 then _ else if kl k p.1 then _ else p::zfx e k v)++B
  split
  ·rfl
  ·split
   ·rfl
   ·rw[zs8 h e];rfl
theorem qk8{e:E}{v:K}(hA:zfo A k)(hB:zzc B k):zfx (A++(e++B)) k v=A++(zfx e k v++B):=by
 rw[qhx hA,zs8 hB]
theorem qwn{e:E}(hA:zfo A k)(hB:zzc B k):zi6 (A++(e++B)) k=zi6 e k:=by
 have h1:A.find? (fun p=>decide (p.1=k))=none:=eF.2 fun p hp=>by simpa using zi8 (hA p hp)
 have h2:B.find? (fun p=>decide (p.1=k))=none:=eF.2 fun p hp=>by simpa using (zi8 (hB p hp)).symm
 unfold zi6
 rw[iG,iG,h1,h2]
 simp
theorem qjt{e:E}(hA:zfo A k)(hB:zzc B k):zfy (A++(e++B)) k=A++(zfy e k++B):=by
 have h1:A.filter (fun p=>decide (p.1≠k))=A:=cY.2 fun p hp=>by simpa using zi8 (hA p hp)
 have h2:B.filter (fun p=>decide (p.1≠k))=B:=cY.2 fun p hp=>by simpa using (zi8 (hB p hp)).symm
 unfold zfy
 rw[iB,iB,h1,h2]
end Go.Eng.Tr
