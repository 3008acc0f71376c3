/- Parts: package pack; package crc; package disk; package sheet; package wal. No condition. -/
import Derived.Test.YthafakdplhdfjaaGreatDoorHf05
import Derived.Test.YthafakdplhdfjaaGreatDoorHf02
set_option maxRecDepth 100000
set_option maxHeartbeats 40000000
namespace Go.Proofs.YthafakdplhdfjaaGreatDoor
open Go.RowKit Go.Eng
abbrev opJ(b:Nat)(a:Option Addr)(n c e:Nat):Eng.Item:=pt b (.cells #[.slice a n c,.int .i64 e] 217 (0,0))
def opI(b:Nat)(a:Option Addr)(c:Nat)(st:Opn):Eng.Item:=opJ b a st.1.length c (if st.2 then 3 else 0)
theorem qgz(b:Nat)(a:Option Addr)(c:Nat)(r:Bys):opI b a c (r,false)=opJ b a r.length c 0:=rfl
theorem qt1(b:Nat)(a:Option Addr)(c:Nat)(r:Bys):opI b a c (r,true)=opJ b a r.length c 3:=rfl
theorem zak(b:Nat)(a:Option Addr)(c:Nat)(st:Opn):(opI b a c st).Stable none':=zab _ _ _
def zjg(D:Eng.Item)(a:Option Addr)(c:Nat)(r:Bys):Prop:=r.length≤c∧∀w,D.prop w→Rd w a (zae r)
theorem zjg.drop{D:Eng.Item}{a:Option Addr}{c:Nat}{r:Bys}(h:zjg D a c r)(n:Nat):zjg D (zwe a (decide (c=n)) (n*1)) (c - n) (r.drop n):=
 ⟨by rw[aX];have:=h.1;omega,fun w hw=>by rw[zzh];exact(h.2 w hw).drop1 n (by rw[zan];exact h.1)⟩
variable{D:Eng.Item}{a:Option Addr}{c:Nat}{r:Bys}{w:World}
theorem zjg.front(h:zjg D a c r)(n:Nat)(hw:D.prop w):Rd w a (zae (r.take n)):=by
 rw[zzi];exact(h.2 w hw).take n
variable{n:Nat}
theorem zx5(h:r.length<n):opT n (r,false)=([],(r,true)):=by simp[opT,h]
theorem qb9(h:n≤r.length):opT n (r,false)=(r.take n,(r.drop n,false)):=by simp[opT,Nat.not_lt.2 h]
variable{k:Nat}
theorem qjn(bs:Bys)(h:k<bs.length):beV (bs.take (k+1))=beV (bs.take k)*256+bs[k].toNat:=by
 rw[dA h,qbg]
theorem qfh(bs:Bys)(hk:k≤7):beV (bs.take k)*256+255<18446744073709551616:=by
 have h1:=ql7 (bs.take k)
 have h2:(bs.take k).length≤7:=by rw[aM];omega
 have h3:256^(bs.take k).length≤256^7:=dK dQ h2
 have e:256^7=72057594037927936:=dQ
 omega
theorem qjo(a:Option Addr)(n c:Nat)(bs:Bys)(hn:bs.length=n)(h8:n≤8)(w:World)(hr:Rd w a (zae bs)):
  Pu Tryz.prog 139 #[.slice a n c] w (.int .u64 (beV bs:Nat)):=by
 refine zbn [_] Tryz.func139 rfl rfl ?_
 simp only[zaa]
 refine goA ?_
 refine zc0 (α:=Nat) (fun k=>[(3,.int .u64 (beV (bs.take k):Nat)),(6,.slice a n c),(7,.int .i64 n),(8,.int .i64 k)]) (fun k=>k≤n) (fun _=>[]) (fun k=>n - k) 0 ⟨rfl,rfl,rfl,rfl,trivial⟩ (aZ _) (fun _ h=>h) fun k hk=>?_
 by_cases hk2:k<n
 ·have hkb:k<bs.length:=oQ
  obtain⟨b,off,rfl,hc⟩:=hr.byte hkb
  have hst:=qjn bs hkb
  have hsm:=qfh bs (k:=k) oQ
  have hlt:=bs[k].toNat_lt
  generalize bs[k]=x at hc hst hlt
  have hor:=qrk (beV (bs.take k)) x.toNat hsm hlt
  refine goA ?_
  refine l_w rfl (ze3 rfl rfl (fun h=>h) hc) ?_
  refine goA ?_
  rw[hor,←hst]
  refine goA ?_
  exact zaw (k+1) ⟨rfl,rfl,rfl,rfl,trivial⟩ hk2 (fun _ h=>h) oQ
 ·obtain rfl:k=n:=oQ
  have ht:bs.take k=bs:=bJ oQ
  rw[ht]
  refine goA ?_
  exact zdk rfl rfl rfl
theorem zq6(b:Nat)(a:Option Addr)(c:Nat)(st:Opn)(n:Nat)(D:Eng.Item)(hsD:D.Stable none')(hD:zjg D a c st.1)(hn:n≤8)(hz:st.1.length≤1000000000):
  Cw Tryz.prog 138 #[.pointer (some ⟨b,0,none⟩),.int .i64 n,.func (.func 139) #[] #[]] [opI b a c st,D] (fun _:Option Addr×Nat=>.int .u64 ((opN n st).1:Nat)) (fun p=>zjg D p.1 p.2 (opN n st).2.1) (fun p=>[opI b p.1 p.2 (opN n st).2,D]):=by
 intro w hw ha
 obtain⟨r,bad⟩:=st
 simp only[opN]at*
 cases bad with
 |true=>
  rw[qhi]
  simp only[qt1]at*
  refine za2 [_,_,_] _ Tryz.func138 rfl rfl hw ha ?_
  simp only[zaa,Nat.reduceAdd]
  refine goA ?_
  exact zbd (a,c) rfl rfl rfl hD (.refl _) (by simp[zab,hsD])
 |false=>
  by_cases hs:r.length<n
  ·rw[zx5 hs]
   simp only[qt1,qgz]at*
   refine za2 [_,_,_] _ Tryz.func138 rfl rfl hw ha ?_
   simp only[zaa,Nat.reduceAdd]
   refine goA ?_
   refine za1 rfl (zai rfl rfl rfl rfl rfl rfl sQ) fun _=>?_
   refine goA ?_
   exact zbd (a,c) rfl rfl rfl hD (.refl _) (by simp[zab,hsD])
  ·have hl:n≤r.length:=oQ
   have hcap:=hD.1
   rw[qb9 hl]
   simp only[qgz]at*
   refine za2 [_,_,_] _ Tryz.func138 rfl rfl hw ha ?_
   simp only[zaa,Nat.reduceAdd]
   refine goA ?_
   refine za1 rfl (zai rfl rfl rfl rfl rfl rfl sQ) fun _=>?_
   refine goA ?_
   refine zeh rfl (zm6 (fs:=[]) (cs:=[]) rfl kQ rfl rfl rfl fun w1 hw1=>qjo a n c (r.take n) (by rw[aM];omega) hn w1 (hD.front n (hw1.item D sQ).1)) fun _=>?_
   refine goA ?_
   have e:r.length - n=(r.drop n).length:=by rw[aX]
   rw[e]
   exact zbd (_,_) rfl rfl rfl (hD.drop n) (.refl _) (by simp[zab,hsD])
theorem qc8(a:Option Addr)(n c:Nat)(bs:Bys)(hn:bs.length=n)(w:World)(hr:Rd w a (zae bs)):
  Pu Tryz.prog 165 #[.slice a n c] w (.string ⟨bs.toArray⟩):=by
 refine zbn [_] Tryz.func165 rfl rfl ?_
 simp only[zaa]
 refine goA ?_
 refine l_w rfl (ztt rfl hn.symm rfl rfl (fun w1 hw1=>hr.keep hw1)) ?_
 refine goA ?_
 exact zdk rfl rfl rfl
theorem qax(b:Nat)(a:Option Addr)(c:Nat)(st:Opn)(n:Nat)(D:Eng.Item)(hsD:D.Stable none')(hD:zjg D a c st.1)(hz:st.1.length≤1000000000):
  Cw Tryz.prog 164 #[.pointer (some ⟨b,0,none⟩),.int .i64 n,.func (.func 165) #[] #[]] [opI b a c st,D] (fun _:Option Addr×Nat=>.string ⟨(opT n st).1.toArray⟩) (fun p=>zjg D p.1 p.2 (opT n st).2.1) (fun p=>[opI b p.1 p.2 (opT n st).2,D]):=by
 intro w hw ha
 obtain⟨r,bad⟩:=st
 cases bad with
 |true=>
  rw[qhi]
  simp only[qt1]at*
  refine za2 [_,_,_] _ Tryz.func164 rfl rfl hw ha ?_
  simp only[zaa,Nat.reduceAdd]
  refine goA ?_
  exact zbd (a,c) rfl rfl rfl hD (.refl _) (by simp[zab,hsD])
 |false=>
  by_cases hs:r.length<n
  ·rw[zx5 hs]
   simp only[qt1,qgz]at*
   refine za2 [_,_,_] _ Tryz.func164 rfl rfl hw ha ?_
   simp only[zaa,Nat.reduceAdd]
   refine goA ?_
   refine za1 rfl (zai rfl rfl rfl rfl rfl rfl sQ) fun _=>?_
   refine goA ?_
   exact zbd (a,c) rfl rfl rfl hD (.refl _) (by simp[zab,hsD])
  ·have hl:n≤r.length:=oQ
   have hcap:=hD.1
   rw[qb9 hl]
   simp only[qgz]at*
   refine za2 [_,_,_] _ Tryz.func164 rfl rfl hw ha ?_
   simp only[zaa,Nat.reduceAdd]
   refine goA ?_
   refine za1 rfl (zai rfl rfl rfl rfl rfl rfl sQ) fun _=>?_
   refine goA ?_
   refine zeh rfl (zm6 (fs:=[]) (cs:=[]) rfl kQ rfl rfl rfl fun w1 hw1=>qc8 a n c (r.take n) (by rw[aM];omega) w1 (hD.front n (hw1.item D sQ).1)) fun _=>?_
   refine goA ?_
   have e:r.length - n=(r.drop n).length:=by rw[aX]
   rw[e]
   exact zbd (_,_) rfl rfl rfl (hD.drop n) (.refl _) (by simp[zab,hsD])
theorem qaw(b:Nat)(a:Option Addr)(c:Nat)(st:Opn)(D:Eng.Item)(hsD:D.Stable none')(hD:zjg D a c st.1):
  Cw Tryz.prog 164 #[.pointer (some ⟨b,0,none⟩),.int .i64 (-1),.func (.func 165) #[] #[]] [opI b a c st,D] (fun _:Unit=>.string ⟨#[]⟩) (fun _=>True) (fun _=>[opI b a c (st.1,true),D]):=by
 intro w hw ha
 obtain⟨r,bad⟩:=st
 cases bad with
 |true=>
  simp only[qt1]at*
  refine za2 [_,_,_] _ Tryz.func164 rfl rfl hw ha ?_
  simp only[zaa,Nat.reduceAdd]
  refine goA ?_
  exact zbd () rfl rfl rfl trivial (.refl _) (by simp[zab,hsD])
 |false=>
  simp only[qt1,qgz]at*
  refine za2 [_,_,_] _ Tryz.func164 rfl rfl hw ha ?_
  simp only[zaa,Nat.reduceAdd]
  refine goA ?_
  refine za1 rfl (zai rfl rfl rfl rfl rfl rfl sQ) fun _=>?_
  refine goA ?_
  exact zbd () rfl rfl rfl trivial (.refl _) (by simp[zab,hsD])
theorem qai(b:Nat)(a:Option Addr)(c:Nat)(st:Opn)(n:Nat)(D:Eng.Item)(hsD:D.Stable none')(hD:zjg D a c st.1)(hn:n=1∨n=2∨n=4)(hz:st.1.length≤1000000000):
  Cw Tryz.prog 82 #[.pointer (some ⟨b,0,none⟩),.int .i64 n] [opI b a c st,D] (fun _:Option Addr×Nat=>.int .u64 ((opN n st).1:Nat)) (fun p=>zjg D p.1 p.2 (opN n st).2.1) (fun p=>[opI b p.1 p.2 (opN n st).2,D]):=by
 intro w hw ha
 refine za2 [_,_] _ Tryz.func82 rfl rfl hw ha ?_
 simp only[zaa,Nat.reduceAdd]
 refine goA ?_
 refine lPu rfl (fun w1 hw1=>zkt n oQ w1) ?_
 refine goA ?_
 refine lCu [opI b a c st,D] rfl (by simp[zak,hsD]) (fun w1 hw1 hh1 ha1=>zq6 b a c st n D hsD hD oQ hz w1 hh1 ha1) fun⟨x,hx⟩=>?_
 refine goA ?_
 exact zbd x rfl rfl rfl hx (.refl _) (by simp[zak,hsD])
theorem zp8(b:Nat)(a:Option Addr)(c:Nat)(st:Opn)(n:Nat)(D:Eng.Item)(hsD:D.Stable none')(hD:zjg D a c st.1)(hz:st.1.length≤1000000000):
  Cw Tryz.prog 111 #[.pointer (some ⟨b,0,none⟩),.int .i64 n] [opI b a c st,D] (fun _:Option Addr×Nat=>.string ⟨(opT n st).1.toArray⟩) (fun p=>zjg D p.1 p.2 (opT n st).2.1) (fun p=>[opI b p.1 p.2 (opT n st).2,D]):=by
 intro w hw ha
 refine za2 [_,_] _ Tryz.func111 rfl rfl hw ha ?_
 simp only[zaa,Nat.reduceAdd]
 refine goA ?_
 refine lCu [opI b a c st,D] rfl (by simp[zak,hsD]) (fun w1 hw1 hh1 ha1=>qax b a c st n D hsD hD hz w1 hh1 ha1) fun⟨x,hx⟩=>?_
 refine goA ?_
 exact zbd x rfl rfl rfl hx (.refl _) (by simp[zak,hsD])
theorem zn2(b:Nat)(a:Option Addr)(c:Nat)(st:Opn)(D:Eng.Item)(hsD:D.Stable none')(hD:zjg D a c st.1):
  Cw Tryz.prog 111 #[.pointer (some ⟨b,0,none⟩),.int .i64 (-1)] [opI b a c st,D] (fun _:Unit=>.string ⟨#[]⟩) (fun _=>True) (fun _=>[opI b a c (st.1,true),D]):=by
 intro w hw ha
 refine za2 [_,_] _ Tryz.func111 rfl rfl hw ha ?_
 simp only[zaa,Nat.reduceAdd]
 refine goA ?_
 refine lCu [opI b a c st,D] rfl (by simp[zak,hsD]) (fun w1 hw1 hh1 ha1=>qaw b a c st D hsD hD w1 hh1 ha1) fun⟨x,hx⟩=>?_
 refine goA ?_
 exact zbd x rfl rfl rfl hx (.refl _) (by simp[zak,hsD])
theorem zgt(b:Nat)(a:Option Addr)(c:Nat)(st:Opn)(w:World)(hw:zbq (opI b a c st) w):Pu Tryz.prog 112 #[.pointer (some ⟨b,0,none⟩)] w (.int .i64 st.1.length):=by
 refine zbn [_] Tryz.func112 rfl rfl ?_
 simp only[zaa]
 refine goA ?_
 refine l_w rfl (ze3 rfl rfl (fun h=>h) (zd4 hw.1 rfl)) ?_
 refine goA ?_
 exact zdk rfl rfl rfl
theorem zev(b:Nat)(a:Option Addr)(c:Nat)(st:Opn)(w:World)(hw:zbq (opI b a c st) w):Pu Tryz.prog 140 #[.pointer (some ⟨b,0,none⟩)] w (.int .i64 ((if st.2 then 3 else 0:Nat):Int)):=by
 refine zbn [_] Tryz.func140 rfl rfl ?_
 simp only[zaa]
 refine goA ?_
 refine l_w rfl (ze3 rfl rfl (fun h=>h) (zd4 hw.1 rfl)) ?_
 refine goA ?_
 exact zdk rfl rfl rfl
theorem zwz(b:Nat)(a:Option Addr)(c:Nat)(st:Opn)(w:World)(hw:zbq (opI b a c st) w):Pu Tryz.prog 83 #[.pointer (some ⟨b,0,none⟩)] w (.int .i64 ((if st=([],false)then 0 else 3:Nat):Int)):=by
 refine zbn [_] Tryz.func83 rfl rfl ?_
 simp only[zaa]
 refine goA ?_
 refine lPu rfl (fun w1 hw1=>zev b a c st w1 (hw.fr hw1.fr)) ?_
 obtain⟨r,bad⟩:=st
 cases bad with
 |true=>
  simp only[if_true,show¬(r,true)=(([],false):Opn)from fun h=>(by cases h),if_false]
  refine goA ?_
  exact zdk rfl rfl rfl
 |false=>
  simp only[if_neg bK]
  refine goA ?_
  refine lPu rfl (fun w1 hw1=>zgt b a c (r,false) w1 (hw.fr hw1.fr)) ?_
  cases r with
  |nil=>
   simp only[if_true,eI]
   refine goA ?_
   exact zdk rfl rfl rfl
  |cons x r=>
   simp only[show¬(x::r,false)=(([],false):Opn)from fun h=>(by cases h),if_false,aW]
   refine goA ?_
   exact zdk rfl rfl rfl
theorem zih(a:Option Addr)(n c:Nat)(bs:Bys)(hn:bs.length=n)(hz:n≤1000000000)(w:World)(hr:Rd w a (zae bs)):
  Ct Tryz.prog 81 #[.slice a n c] w none' (fun p:Nat×Option (Nat×Nat)=>.pointer (some ⟨p.1,0,none⟩)) (fun p=>zjg (own 5 1 p.2 n (zae bs)) (slA p.2) (slC p.2) bs) (fun p=>[opI p.1 (slA p.2) (slC p.2) (bs,false),own 5 1 p.2 n (zae bs)]):=by
 refine zes [_] Tryz.func81 rfl rfl ?_
 simp only[zaa]
 refine goA ?_
 refine zdy rfl rfl kQ rfl (fun w1 hw1=>zpg a n c bs hn hz w1 (hr.keep hw1)) fun x hx=>?_
 refine zch (fun w hw=>(zas (hw.item (own 5 1 x n (zae bs)) sQ).1)) fun⟨hsl,hcap⟩=>?_
 rw[hsl]
 refine goA ?_
 refine zbp rfl rfl fun b hb=>?_
 refine goA ?_
 subst hn
 exact zbd (b,x) rfl rfl rfl ⟨hcap,fun w hw=>za8 hw⟩ (.refl _) (by simp[zac,zak])
variable{b:Nat}{x:UInt8}
theorem Rd.at0{off:Nat}(h:Rd w (some ⟨b,off,none⟩) (zae (x::r))):w.cell? ⟨b,off+0,none⟩=some (.int .u8 (x.toNat:Int)):=by
 obtain⟨b2,off2,e,h2⟩:=h.byte (i:=0) sQ
 cases e
 exact h2
theorem zs5(r:Bys):zgd (r,true)=([],(r,true)):=rfl
theorem qd6:zgd ([],false)=([],([],true)):=rfl
theorem zn4(h:r.length<x.toNat):zgd (x::r,false)=([],(x::r,true)):=by simp[zgd,h]
theorem zp9(h:¬r.length<x.toNat):zgd (x::r,false)=opT x.toNat (r,false):=by simp[zgd,opT,h]
theorem qoq(x:UInt8)(r:Bys):opN 1 (x::r,false)=(x.toNat,(r,false)):=by simp[opN,opT,beV]
theorem qk1(n:Nat)(r:Bys):opN n (r,true)=(0,(r,true)):=by simp[opN,opT,beV]
variable{st:Opn}
theorem zhh(v:Nat)(st':Opn)(he:opN n st=(v,st'))(hsD:D.Stable none')(hD:zjg D a c st.1)(hn:n=1∨n=2∨n=4)(hz:st.1.length≤1000000000)(hw:∀it∈[opI b a c st,D],zbq it w)(ha:[opI b a c st,D].Pairwise Eng.Item.Apart):
  Ct Tryz.prog 82 #[.pointer (some ⟨b,0,none⟩),.int .i64 n] w (za4 [opI b a c st,D]) (fun _:Option Addr×Nat=>.int .u64 (v:Nat)) (fun p=>zjg D p.1 p.2 st'.1) (fun p=>[opI b p.1 p.2 st',D]):=by
 have:=qai b a c st n D hsD hD hn hz w hw ha
 rw[he]at this;exact this
theorem zp7(t:Bys)(st':Opn)(he:opT n st=(t,st'))(hsD:D.Stable none')(hD:zjg D a c st.1)(hz:st.1.length≤1000000000)(hw:∀it∈[opI b a c st,D],zbq it w)(ha:[opI b a c st,D].Pairwise Eng.Item.Apart):
  Ct Tryz.prog 111 #[.pointer (some ⟨b,0,none⟩),.int .i64 n] w (za4 [opI b a c st,D]) (fun _:Option Addr×Nat=>.string ⟨t.toArray⟩) (fun p=>zjg D p.1 p.2 st'.1) (fun p=>[opI b p.1 p.2 st',D]):=by
 have:=zp8 b a c st n D hsD hD hz w hw ha
 rw[he]at this;exact this
theorem qag(b:Nat)(a:Option Addr)(c:Nat)(st:Opn)(D:Eng.Item)(hsD:D.Stable none')(hD:zjg D a c st.1)(hz:st.1.length≤1000000000):
  Cw Tryz.prog 230 #[.pointer (some ⟨b,0,none⟩)] [opI b a c st,D] (fun _:Option Addr×Nat=>.string ⟨(zgd st).1.toArray⟩) (fun p=>zjg D p.1 p.2 (zgd st).2.1) (fun p=>[opI b p.1 p.2 (zgd st).2,D]):=by
 intro w hw ha
 refine za2 [_] _ Tryz.func230 rfl rfl hw ha ?_
 simp only[zaa]
 refine goA ?_
 obtain⟨r,bad⟩:=st
 cases r with
 |nil=>
  refine ziw kQ ?_
  refine goE ?_
  refine dPu 1 rfl rfl (fun w1 hw1=>zgt b a c ([],bad) w1 ⟨(hw1.item _ (.head _)).1,zak _ _ _ _,fun k hk=>((hw1.item _ (.head _)).2.2 k hk).1⟩) ?_
  simp only[eI]
  refine goX ?_
  have e:opN 1 (([]:Bys),bad)=(0,([],true)):=by cases bad<;>rfl
  have e2:zgd (([]:Bys),bad)=([],([],true)):=by cases bad<;>rfl
  rw[e2]
  refine lCu ([opI b a c ([],bad),D]) rfl (by simp[zak,hsD]) (fun w1 hw1 hh1 ha1=>zhh 0 ([],true) e hsD hD (.inl rfl) sQ hh1 ha1) fun⟨x,hx⟩=>?_
  refine goA ?_
  refine lCu ([opI b x.1 x.2 ([],true),D]) rfl (by simp[zak,hsD]) (fun w1 hw1 hh1 ha1=>zp7 (n:=0) [] ([],true) rfl hsD hx sQ hh1 ha1) fun⟨y,hy⟩=>?_
  refine goA ?_
  exact zbd y rfl rfl rfl hy (.refl _) (by simp[zak,hsD])
 |cons x r=>
  have hrw:=hD.2 w (hw D sQ).1
  obtain⟨bb,off,rfl,hc0⟩:=hrw.byte (i:=0) sQ
  have hx0:∀{F:Nat→Prop} {m:List Eng.Item} w',Hp w F m w'→D∈m→w'.cell? ⟨bb,off+0,none⟩=some (.int .u8 (x.toNat:Int)):=fun w' hw' hm=>Rd.at0 (hD.2 w' (hw'.item D hm).1)
  have hxl:=x.toNat_lt
  have hzr:r.length≤1000000000:=by simp only[aW]at hz;omega
  obtain⟨N1,hN1⟩:∃n,(x::r).length=n:=⟨_,rfl⟩
  have hN2:N1=r.length+1:=by rw[←hN1];rfl
  have hopI:opI b (some ⟨bb,off,none⟩) c (x::r,bad)=opJ b (some ⟨bb,off,none⟩) N1 c (if bad then 3 else 0):=by rw[←hN1];rfl
  rw[hopI]
  refine ziw kQ ?_
  refine goE ?_
  refine dPu 1 rfl rfl (fun w1 hw1=>zgt b (some ⟨bb,off,none⟩) c (x::r,bad) w1 (by rw[hopI];exact⟨(hw1.item _ (.head _)).1,zab _ _ _,fun k hk=>((hw1.item _ (.head _)).2.2 k hk).1⟩)) ?_
  simp only[hN1]
  refine goE ?_
  refine d_v [] rfl rfl kQ (fun _ h=>h) rfl rfl (za0 rfl rfl (fun w' hw'=>hx0 w' hw' sQ)) ?_
  refine goE ?_
  refine zdn kQ ?_
  rw[←hopI]
  cases bad with
  |true=>
   rw[zs5]
   refine goA ?_
   refine qp3 rfl rfl (fun h=>?_) (fun h=>?_)
   ·refine goA ?_
    refine lCu [opI b (some ⟨bb,off,none⟩) c (x::r,true),D] rfl (by simp[zak,hsD]) (fun w1 hw1 hh1 ha1=>zn2 b _ c (x::r,true) D hsD hD w1 hh1 ha1) fun _=>?_
    refine goA ?_
    exact zbd (some ⟨bb,off,none⟩,c) rfl rfl rfl hD (.refl _) (by simp[zak,hsD])
   ·refine goA ?_
    refine lCu [opI b (some ⟨bb,off,none⟩) c (x::r,true),D] rfl (by simp[zak,hsD]) (fun w1 hw1 hh1 ha1=>zhh 0 (x::r,true) (qk1 1 _) hsD hD (.inl rfl) hz hh1 ha1) fun⟨y,hy⟩=>?_
    refine goA ?_
    refine lCu [opI b y.1 y.2 (x::r,true),D] rfl (by simp[zak,hsD]) (fun w1 hw1 hh1 ha1=>zp7 (n:=0) [] (x::r,true) rfl hsD hy hz hh1 ha1) fun⟨z,hz2⟩=>?_
    refine goA ?_
    exact zbd z rfl rfl rfl hz2 (.refl _) (by simp[zak,hsD])
  |false=>
   by_cases hs:r.length<x.toNat
   ·rw[zn4 hs]
    refine goA ?_
    refine lCu [opI b (some ⟨bb,off,none⟩) c (x::r,false),D] rfl (by simp[zak,hsD]) (fun w1 hw1 hh1 ha1=>zn2 b _ c (x::r,false) D hsD hD w1 hh1 ha1) fun _=>?_
    refine goA ?_
    exact zbd (some ⟨bb,off,none⟩,c) rfl rfl rfl hD (.refl _) (by simp[zak,hsD])
   ·rw[zp9 hs]
    refine goA ?_
    refine lCu [opI b (some ⟨bb,off,none⟩) c (x::r,false),D] rfl (by simp[zak,hsD]) (fun w1 hw1 hh1 ha1=>zhh x.toNat (r,false) (qoq x r) hsD hD (.inl rfl) hz hh1 ha1) fun⟨y,hy⟩=>?_
    refine goA ?_
    refine lCu [opI b y.1 y.2 (r,false),D] rfl (by simp[zak,hsD]) (fun w1 hw1 hh1 ha1=>zp8 b y.1 y.2 (r,false) x.toNat D hsD hy hzr w1 hh1 ha1) fun⟨z,hz2⟩=>?_
    refine goA ?_
    exact zbd z rfl rfl rfl hz2 (.refl _) (by simp[zak,hsD])
theorem znb(b:Nat)(o:Option (Nat×Nat))(xs:List UInt8)(n:Nat)(hn:n<18446744073709551616)(hz:xs.length≤900000000):
  Cw Tryz.prog 50 #[.pointer (some ⟨b,0,none⟩),.int .i64 8,.int .u64 n] (pks b o xs) (fun _:Option (Nat×Nat)=>.pointer (some ⟨b,0,none⟩)) (fun _=>True) (fun o'=>pks b o' (xs++beN 8 n)):=by
 intro w hw ha
 refine za2 [_,_,_] _ Tryz.func50 rfl rfl hw ha ?_
 simp only[zaa,Nat.reduceAdd]
 refine goA ?_
 refine zc9 rfl rfl rfl fun b4 hb4=>?_
 refine goA ?_
 refine zc9 rfl rfl rfl fun b5 hb5=>?_
 refine goA ?_
 refine lPu rfl (fun w1 hw1=>zkt 8 dQ w1) ?_
 refine goA ?_
 refine l_w rfl (zhw rfl) ?_
 refine zay [2,3,1,0] rfl rfl ?_
 refine lCu [own _ _ _ _ _,pt b _] rfl (by first|(simp[zab,zac,mp_stable];done) |(intro it hm;(iterate 6 (all_goals try (rcases hm with _|⟨_,hm⟩)))<;>first|exact zad _|exact zab _ _ _|exact zac _ _ _ _ _ _)) (fun w1 hw1 hh1 ha1=>zkn b o xs (beN 8 n) 86 [.pointer (some ⟨b4,0,none⟩),.pointer (some ⟨b5,0,none⟩)] (fun p:Nat×Nat=>⟨p.1,0,none⟩) (fun p=>p.2) (fun p=>own 5 1 (some p) 8 (zae (beN 8 n))) (fun p=>zac _ _ _ _ _ _) kQ (by rw[zal];omega) w1 hh1 ha1 (fun w2 hw2=>by rw[zal];exact zs9 b4 b5 8 n dQ w2 (hw2.old (zs6 hw1 (.head _)) (zd4 (hw1.get (.tail _ (.tail _ (.head _)))) rfl)) (hw2.old (zs6 hw1 (.tail _ (.head _))) (zd4 (hw1.get (.tail _ (.tail _ (.tail _ (.head _))))) rfl))) (fun p w2 hp _ j v hj=>by rw[zde,aH];exact zby hp j v hj)) fun⟨x,hx⟩=>?_
 refine goA ?_
 exact zbd x rfl rfl rfl trivial (.cons_cons _ (.cons_cons _ (aK _))) (by simp[zac,zab])
theorem zxy(b:Nat)(a:Option Addr)(c:Nat)(st:Opn)(D:Eng.Item)(hsD:D.Stable none')(hD:zjg D a c st.1)(hz:st.1.length≤1000000000):
  Cw Tryz.prog 82 #[.pointer (some ⟨b,0,none⟩),.int .i64 8] [opI b a c st,D] (fun _:Option Addr×Nat=>.int .u64 ((opN 8 st).1:Nat)) (fun p=>zjg D p.1 p.2 (opN 8 st).2.1) (fun p=>[opI b p.1 p.2 (opN 8 st).2,D]):=by
 intro w hw ha
 refine za2 [_,_] _ Tryz.func82 rfl rfl hw ha ?_
 simp only[zaa,Nat.reduceAdd]
 refine goA ?_
 refine lPu rfl (fun w1 hw1=>zkt 8 dQ w1) ?_
 refine goA ?_
 refine lCu [opI b a c st,D] rfl (by simp[zak,hsD]) (fun w1 hw1 hh1 ha1=>zq6 b a c st 8 D hsD hD dQ hz w1 hh1 ha1) fun⟨x,hx⟩=>?_
 refine goA ?_
 exact zbd x rfl rfl rfl hx (.refl _) (by simp[zak,hsD])
theorem qah(v:Nat)(st':Opn)(he:opN 8 st=(v,st'))(hsD:D.Stable none')(hD:zjg D a c st.1)(hz:st.1.length≤1000000000)(hw:∀it∈[opI b a c st,D],zbq it w)(ha:[opI b a c st,D].Pairwise Eng.Item.Apart):
  Ct Tryz.prog 82 #[.pointer (some ⟨b,0,none⟩),.int .i64 8] w (za4 [opI b a c st,D]) (fun _:Option Addr×Nat=>.int .u64 (v:Nat)) (fun p=>zjg D p.1 p.2 st'.1) (fun p=>[opI b p.1 p.2 st',D]):=by
 have:=zxy b a c st D hsD hD hz w hw ha
 rw[he]at this;exact this
structure zo8 (w:World):Prop where
 obj:w.heap[1]? =some (.cells (halves.map w32).toArray 316 (0,0))
theorem zo8.halves{w:World}(h:zo8 w):w.rangeAt 1 0 (halves.map w32):=zbf h.obj
theorem zo8.top(h:zo8 w):1<w.heap.size:=(bR.1 h.obj).1
theorem zo8.fr{w':World}{F:Nat→Prop}(h:zo8 w)(hF:¬F 1)(hf:Fr F w w'):zo8 w':=⟨(hf.block _ h.top hF).trans h.obj⟩
theorem zo8.keep{w':World}{m:List Eng.Item}(h:zo8 w)(hw:Hp w none' m w'):zo8 w':=h.fr (fun h=>h) hw.fr
def hN:Nat→BitVec 32→BitVec 32
 |0,m=>m
 |j+1,m=>qst (hN j m)
theorem qga(m:BitVec 32):(halves.map w32)[(m&&& 15#32).toNat]? =some (w32 (halves[(m&&& 15#32).toNat]?.getD 0)):=by
 have h:(m&&& 15#32).toNat<halves.length:=by
  rw[fR]
  exact Nat.lt_succ_of_le Nat.and_le_right
 rw[aO,aB h]
 rfl
theorem zwu(a:Option Addr)(n c:Nat)(bs:Bys)(hn:bs.length=n)(hz:n≤1000000000)(w:World)(hr:Rd w a (zae bs))(ht:zo8 w):
  Pu Tryz.prog 218 #[.slice a n c] w (w32 (zwd bs)):=by
 refine zbn [_] Tryz.func218 rfl rfl ?_
 simp only[zaa]
 refine goA ?_
 refine zc0 (α:=Nat) (fun k=>[(3,w32 ((bs.take k).foldl qc9 (BitVec.allOnes 32))),(6,.slice a n c),(7,.int .i64 n),(8,.int .i64 k)]) (fun k=>k≤n) (fun _=>[]) (fun k=>n - k) 0 ⟨rfl,rfl,rfl,rfl,trivial⟩ (aZ _) (fun _ h=>h) fun k hk=>?_
 by_cases hk2:k<n
 ·have hkb:k<bs.length:=oQ
  obtain⟨b,off,rfl,hc⟩:=hr.byte hkb
  have hst:(bs.take (k+1)).foldl qc9 (BitVec.allOnes 32)=qc9 ((bs.take k).foldl qc9 (BitVec.allOnes 32)) bs[k]:=by rw[dA hkb,kO];rfl
  generalize bs[k]=x at hc hst
  generalize (bs.take k).foldl qc9 (BitVec.allOnes 32)=q at hst⊢
  refine goW ?_
  refine l_w rfl (ze3 rfl rfl (fun h=>h) hc) ?_
  refine goW ?_
  refine zc0 (α:=Nat) (fun j=>[(3,w32 (hN j (q^^^BitVec.ofNat 32 x.toNat))),(6,.slice (some ⟨b,off,none⟩) n c),(7,.int .i64 n),(8,.int .i64 k),(16,.int .i64 j)]) (fun j=>j≤2) (fun _=>[]) (fun j=>2 - j) 0 ⟨rfl,rfl,rfl,rfl,rfl,trivial⟩ (aZ _) (fun _ h=>h) fun j hj=>?_
  by_cases hj2:j<2
  ·have hh:=qga (hN j (q^^^BitVec.ofNat 32 x.toNat))
   have hl:(hN j (q^^^BitVec.ofNat 32 x.toNat)&&& 15#32).toNat<16:=by
    rw[fR]
    exact Nat.lt_succ_of_le Nat.and_le_right
   refine goW ?_
   refine l_w rfl (ze3 rfl rfl (fun h=>h) (ht.halves _ _ hh)) ?_
   refine goW ?_
   exact zaw (j+1) ⟨rfl,rfl,rfl,rfl,rfl,trivial⟩ hj2 (fun _ h=>h) oQ
  ·obtain rfl:j=2:=oQ
   refine goW ?_
   refine zaw (k+1) ⟨by rw[hst];rfl,rfl,rfl,rfl,trivial⟩ hk2 (fun _ h=>h) oQ
 ·obtain rfl:k=n:=oQ
  have ht:bs.take k=bs:=bJ oQ
  rw[ht]
  refine goW ?_
  exact zdk rfl rfl rfl
def rdI(b:Nat)(s:Bys):Eng.Item:=⟨fun k=>k=b,fun w=>w.rangeAt b 0 (zae s)∧b<w.heap.size⟩
theorem zfd(b:Nat)(s:Bys):(rdI b s).Stable none':=fun w w' h ⟨hp,hl⟩=>by
 have hb:=h b (.inr rfl)
 refine⟨fun j v hj=>?_,?_⟩
 ·rw[←hp j v hj]
  unfold World.cell?
  simp only[hb]
 ·rw[dH hl]at hb
  exact(bR.1 hb).1
def zcn(D:Dsk)(at_:Nat):Bys:=((D.wait.reverse.find? fun p=>decide (p.2=at_)).map (·.1)).getD (D.on.getD at_ [])
theorem zll(A:List Bys)(x:Bys)(B:List Bys):ze9 (A++x::B)=ze9 A++(zae x++ze9 B):=by simp[ze9]
variable{i:Nat}
theorem qoz{l:List Bys}(h:∀s∈l,s.length=512)(hi:i<l.length)(hr:w.rangeAt b 0 (ze9 l)):w.rangeAt b (i*512) (zae l[i]):=fun j v hj=>by
 have h5:j<512:=by have:=(aC.1 hj).1;rwa[zan,h _ (aT hi)]at this
 have hsp:l.take i++(l[i]::l.drop (i+1))=l:=by rw[dU,bF]
 have hlen:∀L:List Bys,(∀s∈L,s.length=512)→(ze9 L).length=L.length*512:=by
  intro L
  induction L with
  |nil=>intro _;rfl
  |cons x L ih=>
   intro hL
   have e:ze9 (x::L)=zae x++ze9 L:=by simp[ze9]
   rw[e,aA,ih fun q hq=>hL q (by simp[hq]),zan,hL x sQ,aW];omega
 have hl:(ze9 (l.take i)).length=i*512:=by rw[hlen _ fun s hs=>h s (bY hs),aM,dB oQ]
 have e:=zll (l.take i) l[i] (l.drop (i+1))
 rw[hsp]at e
 have:=hr (i*512+j) v ?_
 ·rwa[aH]at this
 ·rw[e,cZ oQ,hl,fY,cK (by rw[zan,h _ (aT hi)];exact h5)]
  exact hj
variable{d:Dk}
theorem qsp(h:zbq (dkI d) w)(ok:d.D.Ok)(hi:i<d.D.on.length):w.rangeAt d.onB (i*512) (zae d.D.on[i]):=
 qoz ok.size hi (zbf (h.1.1 (pt d.onB (.cells (ze9 d.D.on).toArray 255 (0,0))) (.tail _ (.head _))).1)
variable{p:Bys×Nat}
theorem zns(h:p.1.length=512):(wrV p).length=513:=by rw[wrV,aA,zan,h];rfl
theorem qhz(d:Dk)(ok:d.D.Ok)(at_:Nat)(hat:at_<d.D.on.length)(w:World)(h:zbq (dkI d) w):
  Ct Tryz.prog 187 #[.pointer (some ⟨d.b,0,none⟩),.int .i64 at_] w none' (fun b:Nat=>.slice (some ⟨b,0,none⟩) 512 512) (fun _=>True) (fun b=>[rdI b (d.D.on.getD at_ [])]):=by
 refine zes [_,_] Tryz.func187 rfl rfl ?_
 simp only[zaa,Nat.reduceAdd]
 have hmany:=ok.many
 have hrow:=qsp h ok hat
 have hs:=ok.size _ (aT hat)
 have hg:d.D.on.getD at_ []=d.D.on[at_]:=by rw[aE,aB hat];rfl
 rw[hg]
 generalize d.D.on[at_]=s at hrow hs⊢
 have hb:(zae s).length=512:=by rw[zan,hs]
 refine goA ?_
 refine lPu rfl (fun w1 hw1=>zpr d at_ oQ w1 (h.keep hw1)) ?_
 rw[if_pos hat]
 refine goA ?_
 refine l_w rfl (za0 rfl rfl (fun w' hw'=>qfw (h.keep hw') 2 rfl)) ?_
 refine goA ?_
 rw[aH]
 refine l_w rfl (zf6 (xs:=zae s) rfl (by rw[hb];rfl) (fun w' hw'=>za5 hrow (fun h=>h) hw')) ?_
 refine zam rfl rfl fun b5 hb5=>?_
 refine za1 rfl (zaf (cs':=(zae s).toArray) rfl rfl rfl (by rw[aI,hb];rfl) (zdd _) (by rw[aI,hb];rfl)) fun _=>?_
 refine goA ?_
 refine l_w rfl (zg9 (n:=512) rfl rfl rfl rfl) ?_
 refine goA ?_
 refine zbr (m':=[rdI b5 s]) (fun w' hw'=>hw'.imp (fun _ h=>h) (fun hp=>⟨zbf hp,(bR.1 hp).1⟩) ((zfd _ _).ro _)) ?_
 exact zbd b5 rfl rfl rfl trivial (.refl _) (by simp[zfd])
theorem qns(h:zbq (dkI d) w)(ok:d.D.Ok)(hi:i<d.D.wait.length):∃b c,d.w=some (b,c)∧w.rangeAt b (i*513) (wrV d.D.wait[i]):=by
 have hp:=(h.1.1 (own 257 513 d.w d.D.wait.length (zc6 wrV d.D.wait)) (.tail _ (.tail _ (.head _)))).1
 have hsz:∀p∈d.D.wait,(wrV p).length=513:=fun p hp=>zns (ok.wsize p hp).1
 match hw:d.w,hp with
 |none,hp=>exact absurd hp.2 oQ
 |some (b,c),hp=>
  refine⟨b,c,rfl,fun j v hj=>?_⟩
  have hl:∀L:List (Bys×Nat),(∀p∈L,(wrV p).length=513)→(zc6 wrV L).length=L.length*513:=by
   intro L
   induction L with
   |nil=>intro _;rfl
   |cons x L ih=>
    intro hL
    rw[zgx,aA,ih fun q hq=>hL q (by simp[hq]),hL x sQ,aW];omega
  have h5:j<513:=by have:=(aC.1 hj).1;rwa[hsz _ (aT hi)]at this
  have hsp:d.D.wait.take i++(d.D.wait[i]::d.D.wait.drop (i+1))=d.D.wait:=by rw[dU,bF]
  have e:zc6 wrV (d.D.wait.take i++(d.D.wait[i]::d.D.wait.drop (i+1)))=zc6 wrV (d.D.wait.take i)++(wrV d.D.wait[i]++zc6 wrV (d.D.wait.drop (i+1))):=by rw[zj3,zgx]
  rw[hsp]at e
  have h2:=zd7 hp (i*513+j) v ?_
  ·rwa[aH]at h2
  ·rw[e,cZ (by rw[hl _ fun p hp=>hsz p (bY hp),aM,dB oQ];omega),hl _ fun p hp=>hsz p (bY hp),aM,dB oQ,fY,cK (by rw[hsz _ (aT hi)];exact h5)]
   exact hj
def dnI:Nat→Int
 |0=> -1
 |j+1=>(j:Nat)
theorem qmc:∀j:Nat,dnI j=(j:Int) - 1
 |0=>rfl
 |j+1=>by rw[dnI];omega
theorem qtc{off:Nat}(h5:p.1.length=512)(h:w.rangeAt b off (wrV p)):w.cell? ⟨b,off+512,none⟩=some (.int .i64 (p.2:Int)):=
 h 512 _ (by rw[wrV,cZ (by rw[zan];omega),zan,h5];rfl)
theorem zv9{off:Nat}(h:w.rangeAt b off (wrV p)):w.rangeAt b off (zae p.1):=fun j v hj=>h j v (by
 rw[wrV,cK (aC.1 hj).1];exact hj)
theorem zv8(p:Bys×Nat):zb7 (wrV p)=true:=by
 rw[zba]
 intro v hv
 rcases aR.1 hv with hv|hv
 ·exact zba.1 (zdd _) v hv
 ·rw[aN]at hv;subst hv;rfl
variable{D:Dsk}{at_:Nat}
theorem qnn(hi:i<D.wait.length)(hno:∀p∈D.wait.drop (i+1),p.2≠at_)(he:D.wait[i].2=at_):zcn D at_=D.wait[i].1:=by
 have hsp:D.wait=D.wait.take i++(D.wait[i]::D.wait.drop (i+1)):=by rw[dU,bF]
 have hf:D.wait.reverse.find? (fun p=>decide (p.2=at_))=some D.wait[i]:=by
  conv=>lhs;rw[hsp]
  rw[List.reverse_append,List.reverse_cons,aG,iG,eF.2 fun x hx=>by simpa using hno x (kW.1 hx)]
  simp[he]
 unfold zcn
 rw[hf];rfl
theorem qjr(hno:∀p∈D.wait,p.2≠at_):zcn D at_=D.on.getD at_ []:=by
 have hf:D.wait.reverse.find? (fun p=>decide (p.2=at_))=none:=eF.2 fun x hx=>by simpa using hno x (kW.1 hx)
 unfold zcn
 rw[hf];rfl
theorem znc(d:Dk)(ok:d.D.Ok)(hlive:d.D.dead=false)(at_:Nat)(hat:at_<d.D.on.length)(hwl:d.D.wait.length≤1000000000)(w:World)(h:zbq (dkI d) w):
  Ct Tryz.prog 142 #[.pointer (some ⟨d.b,0,none⟩),.int .i64 at_] w none' (fun b:Nat=>.tuple #[.slice (some ⟨b,0,none⟩) 512 512,.int .i64 0]) (fun _=>True) (fun b=>[rdI b (zcn d.D at_)]):=by
 refine zes [_,_] Tryz.func142 rfl rfl ?_
 simp only[zaa,Nat.reduceAdd]
 have hmany:=ok.many
 refine goA ?_
 refine lPu rfl (fun w1 hw1=>zlk d w1 (h.keep hw1)) ?_
 rw[hlive]
 refine goA ?_
 refine lPu rfl (fun w1 hw1=>zpr d at_ oQ w1 (h.keep hw1)) ?_
 rw[if_pos hat]
 refine za1 rfl (za3 rfl rfl rfl rfl rfl rfl) fun⟨bq,hbq⟩=>?_
 refine lPu rfl (fun w1 hw1=>zk6 [0,0] (some ⟨bq,0,none⟩) 2 sQ w1 (za8 (o:=some (bq,2)) (hw1.item _ (.head _)).1)) ?_
 rw[show zi1 [0,0]=0 from rfl]
 refine goA ?_
 have hvl:=(zas (h.1.1 (own 257 513 d.w d.D.wait.length (zc6 wrV d.D.wait)) (.tail _ (.tail _ (.head _)))).1).1
 have h3:(zeu d)[3]? =some (.slice (slA d.w) d.D.wait.length (slC d.w)):=by rw[←hvl];rfl
 refine l_w rfl (za0 rfl rfl (fun w' hw'=>qfw (h.keep hw') 3 h3)) ?_
 refine goA ?_
 refine l_w rfl (ztv rfl rfl oQ) ?_
 refine goA ?_
 refine zc0 (α:=Nat) (fun k=>[(0,.pointer (some ⟨d.b,0,none⟩)),(1,.int .i64 at_),(7,.int .i64 (dnI k))]) (fun k=>k≤d.D.wait.length∧∀p∈d.D.wait.drop k,p.2≠at_) (fun _=>[]) (fun k=>k) d.D.wait.length ⟨rfl,rfl,by rw[qmc];rfl,trivial⟩ ⟨bA _,by rw[kT];exact fun _ h=>nomatch h⟩ (fun w' hw'=>hw'.pick [] rfl rfl) fun k ⟨hk,hno⟩=>?_
 cases k with
 |zero=>
  rw[qjr hno,show dnI 0= -1 from rfl]
  refine goA ?_
  refine zdy rfl rfl kQ rfl (fun w1 hw1=>qhz d ok at_ hat w1 (h.keep hw1)) fun x hx=>?_
  refine goA ?_
  exact zc1 x rfl rfl rfl rfl trivial (.refl _) (by simp[zfd])
 |succ j=>
  have hj:j<d.D.wait.length:=hk
  obtain⟨bw,cw,hbw,hrow⟩:=qns h ok hj
  have hsz:=ok.wsize _ (aT hj)
  have hhit:=qnn hj hno
  have hdr:d.D.wait.drop j=d.D.wait[j]::d.D.wait.drop (j+1):=(dU ..).symm
  rw[hbw]at h3
  generalize d.D.wait[j]=p at hrow hsz hhit hdr
  have hwl':=zns hsz.1
  rw[show dnI (j+1)=(j:Int)from rfl]
  refine goA ?_
  refine l_w rfl (za0 rfl rfl (fun w' hw'=>qfw (h.keep hw') 3 h3)) ?_
  refine goA ?_
  rw[aH]
  refine l_w rfl (zf6 (xs:=wrV p) rfl (by rw[hwl'];rfl) (fun w' hw'=>za5 hrow (fun h=>h) hw')) ?_
  refine zam rfl rfl fun b8 hb8=>?_
  refine za1 rfl (zaf (cs':=(wrV p).toArray) rfl rfl rfl (by rw[aI,hwl'];rfl) (zv8 _) (by rw[aI,hwl'];rfl)) fun _=>?_
  refine goA ?_
  refine l_w rfl (za0 rfl rfl (fun w' hw'=>(qtc hsz.1 (zbf (hw'.get (b:=b8) (.head _))):))) ?_
  refine goA ?_
  by_cases he:p.2=at_
  ·rw[hhit he]
   refine goA ?_
   refine l_w rfl (zg9 (n:=512) rfl rfl rfl rfl) ?_
   refine goA ?_
   refine zbr (m':=[rdI b8 p.1]) (fun w' hw'=>hw'.imp (fun _ h=>h) (fun hp=>⟨zv9 (zbf hp),(bR.1 hp).1⟩) ((zfd _ _).ro _)) ?_
   exact zc1 b8 rfl rfl rfl rfl trivial (.refl _) (by simp[zfd])
  ·refine goA ?_
   refine l_w rfl (ztv rfl rfl oQ) ?_
   refine goA ?_
   exact zaw j ⟨rfl,rfl,by rw[qmc];rfl,trivial⟩ ⟨oQ,fun q hq=>by
    rw[hdr]at hq
    rcases aL.1 hq with rfl|hq
    ·exact he
    ·exact hno q hq⟩ (fun w' hw'=>hw'.pick [] rfl rfl) oQ
end Go.Proofs.YthafakdplhdfjaaGreatDoor
namespace Go.Eng
open Go.RowKit
theorem zj8{P:Program}{l:zav}{H:World→Prop}{x y:Operand}{T U ty:TypeId}{a b:Nat}(hx:evO l x=some (.int .u64 (a:Int)))(hy:evO l y=some (.int .u64 (b:Int))):OV P (.binOp .add T x y U) ty l H (.int .u64 (((a+b)%18446744073709551616:Nat):Int)):=zf5 hx hy fun w=>ze4 w (by rw[←lG];exact zdu _)
end Go.Eng
namespace Go.Proofs.YthafakdplhdfjaaGreatDoor
open Go.RowKit Go.Eng
def zi7(k:Bys)(i:Nat):Bool:=decide (i/8<k.length)&&decide ((k.getD (i/8) 0).toNat/2^(i%8)%2=1)
def zjh(on:List Bys)(ws:List (Bys×Nat))(f:Nat→Bool):Nat→List Bys
 |0=>on
 |k+1=>if f k then(zjh on ws f k).set (ws.getD k ([],0)).2 (ws.getD k ([],0)).1 else zjh on ws f k
theorem zgg(on:List Bys)(ws:List (Bys×Nat))(f:Nat→Bool):∀k,(zjh on ws f k).length=on.length
 |0=>rfl
 |k+1=>by
  rw[zjh]
  split
  ·rw[bE,zgg]
  ·exact zgg on ws f k
theorem zkc{D:Dsk}(ok:D.Ok)(f:Nat→Bool):∀k,k≤D.wait.length→∀s∈zjh D.on D.wait f k,s.length=512
 |0,_=>ok.size
 |k+1,hk=>fun s hs=>by
  have hw:=(ok.wsize _ (aT (show k<D.wait.length from hk))).1
  rw[zjh]at hs
  split at hs
  ·rcases cF hs with hs|rfl
   ·exact zkc ok f k oQ s hs
   ·rwa[aE,aB (show k<D.wait.length from hk)]
  ·exact zkc ok f k oQ s hs
def zuq(D:Dsk)(keep:Bys):Dsk:=⟨zjh D.on D.wait (zi7 keep) D.wait.length,[],none,[],true⟩
def zsk(D:Dsk):Dsk:={ D with on:=zjh D.on D.wait (fun _=>true) D.wait.length,wait:=[] }
def zhb(D:Dsk):Nat×Dsk:=match D.left with
 |none=>(0,D)
 |some 0=>(4,zuq D D.keep)
 |some (n+1)=>(0,{ D with left:=some n })
variable{D:Dsk}
theorem qn5(ok:D.Ok)(keep:Bys):(zuq D keep).Ok:=
 ⟨zkc ok _ _ (bA _),fun _ h=>(nomatch h),by show(zjh _ _ _ _).length≤_;rw[zgg];exact ok.many,fun n h=>(nomatch h)⟩
theorem qj2(ok:D.Ok):(zsk D).Ok:=
 ⟨zkc ok _ _ (bA _),fun _ h=>(nomatch h),by show(zjh _ _ _ _).length≤_;rw[zgg];exact ok.many,ok.left⟩
theorem zr7(ok:D.Ok):(zhb D).2.Ok:=by
 unfold zhb
 split
 ·exact ok
 ·exact qn5 ok _
 ·rename_i n hn
  exact⟨ok.size,ok.wsize,ok.many,fun k hk=>by cases hk;have:=ok.left _ hn;omega⟩
theorem zqu{L:List Bys}(hL:∀s∈L,s.length=512):(ze9 L).length=L.length*512:=by
 induction L with
 |nil=>rfl
 |cons x L ih=>
  have e:ze9 (x::L)=zae x++ze9 L:=by simp[ze9]
  rw[e,aA,ih fun q hq=>hL q (by simp[hq]),zan,hL x sQ,aW];omega
theorem zyk{l:List Bys}(h:∀s∈l,s.length=512){i:Nat}(hi:i<l.length){s:Bys}(hs:s.length=512):put (ze9 l) (i*512) (zae s)=ze9 (l.set i s):=by
 have hsp:l.take i++(l[i]::l.drop (i+1))=l:=by rw[dU,bF]
 have e:=zll (l.take i) l[i] (l.drop (i+1))
 rw[hsp]at e
 have hlt:(ze9 (l.take i)).length=i*512:=by rw[zqu fun s hs=>h s (bY hs),aM,dB oQ]
 have hset:l.set i s=l.take i++(s::l.drop (i+1)):=by rw[jA,if_pos hi]
 rw[hset,zll,e]
 unfold put
 have hb:(zae l[i]).length=512:=by rw[zan,h _ (aT hi)]
 rw[zan,hs,←hlt,gX,←lJ,List.drop_left,←hb,List.drop_left,aG]
variable{w:World}
theorem qc1(ok:D.Ok){i:Nat}(hi:i<D.wait.length){b c:Nat}(hp:(own 257 513 (some (b,c)) D.wait.length (zc6 wrV D.wait)).prop w):w.rangeAt b (i*513) (wrV D.wait[i]):=fun j v hj=>by
 have hsz:∀p∈D.wait,(wrV p).length=513:=fun p hp=>zns (ok.wsize p hp).1
 have hl:∀L:List (Bys×Nat),(∀p∈L,(wrV p).length=513)→(zc6 wrV L).length=L.length*513:=by
  intro L
  induction L with
  |nil=>intro _;rfl
  |cons x L ih=>
   intro hL
   rw[zgx,aA,ih fun q hq=>hL q (by simp[hq]),hL x sQ,aW];omega
 have h5:j<513:=by have:=(aC.1 hj).1;rwa[hsz _ (aT hi)]at this
 have hsp:D.wait.take i++(D.wait[i]::D.wait.drop (i+1))=D.wait:=by rw[dU,bF]
 have e:zc6 wrV (D.wait.take i++(D.wait[i]::D.wait.drop (i+1)))=zc6 wrV (D.wait.take i)++(wrV D.wait[i]++zc6 wrV (D.wait.drop (i+1))):=by rw[zj3,zgx]
 rw[hsp]at e
 have h2:=zd7 hp (i*513+j) v ?_
 ·rwa[aH]at h2
 ·rw[e,cZ (by rw[hl _ fun p hp=>hsz p (bY hp),aM,dB oQ];omega),hl _ fun p hp=>hsz p (bY hp),aM,dB oQ,fY,cK (by rw[hsz _ (aT hi)];exact h5)]
  exact hj
theorem qi4{p:Bys×Nat}(h5:p.1.length=512):(wrV p)[512]? =some (.int .i64 (p.2:Int)):=by
 rw[wrV,cZ (by rw[zan];omega),zan,h5];rfl
theorem qdm(d:Dk)(ok:d.D.Ok)(keep:Bys)(hk:keep.length≤1000000)(hwl:d.D.wait.length≤1000000000):
  Cv Tryz.prog 209 #[.pointer (some ⟨d.b,0,none⟩),.string ⟨keep.toArray⟩] [dkI d] (fun _:Unit=>.tuple #[]) (fun _=>True) (fun _=>[dkI { d with w:=none,D:=zuq d.D keep }]):=by
 intro w hw
 refine za2 [_,_] _ Tryz.func209 rfl rfl hw (.cons (fun _ h=>nomatch h) .nil) ?_
 simp only[zaa,Nat.reduceAdd]
 have hmany:=ok.many
 have hkl:=bal keep
 refine zg8 (m':=dkL d) (fun w' hw'=>by have:=hw'.open1;rwa[bC]at this) ?_
 unfold dkL
 refine zhm (fun w' hw'=>zas (hw'.item (own 257 513 d.w d.D.wait.length (zc6 wrV d.D.wait)) sQ).1) fun⟨hv,hc⟩=>?_
 have h3:(zeu d)[3]? =some (.slice (slA d.w) d.D.wait.length (slC d.w)):=by rw[←hv];rfl
 have h2:(zeu d)[2]? =some (.slice (some ⟨d.onB,0,none⟩) d.D.on.length d.D.on.length):=rfl
 refine goA ?_
 rw[hv]
 refine goA ?_
 refine zc0 (α:=Nat) (fun i=>[(0,.pointer (some ⟨d.b,0,none⟩)),(1,.string ⟨keep.toArray⟩),(9,.slice (slA d.w) d.D.wait.length (slC d.w)),(10,.int .i64 d.D.wait.length),(11,.int .i64 i)]) (fun i=>i≤d.D.wait.length)
  (fun i=>[pt d.onB (.cells (ze9 (zjh d.D.on d.D.wait (zi7 keep) i)).toArray 255 (0,0)),own 257 513 d.w d.D.wait.length (zc6 wrV d.D.wait),pt d.b (.cells (zeu d).toArray 130 (0,0))]) (fun i=>d.D.wait.length - i) 0 ⟨rfl,rfl,rfl,rfl,rfl,trivial⟩ (aZ _) (fun w' hw'=>hw'.pick [1,2,0] rfl rfl) fun i hi=>?_
 by_cases hi2:i<d.D.wait.length
 ·obtain⟨bw,cw,hbw⟩:∃b c,d.w=some (b,c):=by
   cases h:d.w with
   |none=>rw[h,show slC none=0 from rfl]at hc;omega
   |some bc=>exact⟨bc.1,bc.2,rfl⟩
  rw[hbw]
  have hrow:=fun(w':World) (hp:(own 257 513 (some (bw,cw)) d.D.wait.length (zc6 wrV d.D.wait)).prop w')=>qc1 ok hi2 hp
  have hsz:=ok.wsize _ (aT hi2)
  have hgd:d.D.wait.getD i ([],0)=d.D.wait[i]:=by rw[aE,aB hi2];rfl
  have hup:zjh d.D.on d.D.wait (zi7 keep) (i+1)=if zi7 keep i then(zjh d.D.on d.D.wait (zi7 keep) i).set d.D.wait[i].2 d.D.wait[i].1 else zjh d.D.on d.D.wait (zi7 keep) i:=by rw[zjh,hgd]
  have h512:=zkc ok (zi7 keep) i hi
  have hal:=zgg d.D.on d.D.wait (zi7 keep) i
  generalize zjh d.D.on d.D.wait (zi7 keep) i=L at hup h512 hal⊢
  generalize d.D.wait[i]=p at hrow hsz hup
  have hwl':=zns hsz.1
  have hbl:(zae p.1).length=512:=by rw[zan,hsz.1]
  have hsl:=zqu h512
  refine goA ?_
  refine l_w rfl (zf6 (xs:=wrV p) rfl (by rw[hwl'];rfl) (fun w' hw'=>by rw[aH];exact hrow w' (hw'.item _ (.tail _ (.head _))).1)) ?_
  refine zam rfl rfl fun b5 hb5=>?_
  refine goA ?_
  refine za1 rfl (zaf (cs':=(wrV p).toArray) rfl rfl rfl (by rw[aI,hwl'];rfl) (zv8 _) (by rw[aI,hwl'];rfl)) fun _=>?_
  refine zu3 (zka ?_)
  refine zr5 ?_
  refine zq3 (w0:=w) (F:=za4 [dkI d]) (α:=Unit) (fun _=>[(0,.pointer (some ⟨d.b,0,none⟩)),(1,.string ⟨keep.toArray⟩),(9,.slice (slA (some (bw,cw))) d.D.wait.length (slC (some (bw,cw)))),(10,.int .i64 d.D.wait.length),(11,.int .i64 i),(5,.pointer (some ⟨b5,0,none⟩)),(31,.bool (zi7 keep i))]) (fun _=>True)
   (fun _=>[pt b5 (.cells (wrV p).toArray 257 (0,0)),pt d.onB (.cells (ze9 L).toArray 255 (0,0)),own 257 513 (some (bw,cw)) d.D.wait.length (zc6 wrV d.D.wait),pt d.b (.cells (zeu d).toArray 130 (0,0))]) ?_ fun _ _=>?_
  ·have hkb:zi7 keep i=(decide (i/8<keep.length)&&decide ((keep.getD (i/8) 0).toNat/2^(i%8)%2=1)):=rfl
   by_cases h8:i/8<keep.length
   ·have h8':i/8<(⟨keep.toArray⟩:ByteArray).size:=by rw[hkl];exact h8
    have hget:((⟨keep.toArray⟩:ByteArray)[i/8]).toNat=(keep.getD (i/8) 0).toNat:=by
     rw[aE,aB h8];rfl
    have hb:=(keep.getD (i/8) 0).toNat_lt
    rw[decide_eq_true h8,gC]at hkb
    rw[hkb]
    generalize (keep.getD (i/8) 0).toNat=c at hget hb
    have hq:c/2^(i%8)<256:=cL (eW _ _) hb
    rw[←hget]at hq⊢
    generalize hQ:((⟨keep.toArray⟩:ByteArray)[i/8]).toNat/2^(i%8)=q at hq
    refine goA ?_
    simp only[hQ]
    refine goA ?_
    refine zep () ⟨rfl,rfl,rfl,rfl,rfl,rfl,?_,trivial⟩ trivial (fun w' hw'=>hw')
    refine congrArg (fun z=>some (Value.bool z)) ?_
    rw[kK]
    by_cases h1:q%2=1
    ·rw[decide_eq_true h1,h1];rfl
    ·rw[decide_eq_false h1,beq_eq_false_iff_ne];omega
   ·rw[decide_eq_false h8,eH]at hkb
    rw[hkb]
    have h8':¬i/8<(⟨keep.toArray⟩:ByteArray).size:=by rw[hkl];exact h8
    refine goA ?_
    exact zep () ⟨rfl,rfl,rfl,rfl,rfl,rfl,rfl,trivial⟩ trivial (fun w' hw'=>hw')
  ·cases hb:zi7 keep i with
   |true=>
    rw[hb,if_pos rfl]at hup
    refine zcx [1,0,2,3] rfl rfl ?_
    refine goA ?_
    refine zap [0,1,2,3] 9 rfl rfl kQ ?_
    (repeat first|refine dAv [5,7] rfl rfl rfl ?_ |refine dno [5,7] rfl rfl rfl ?_ |refine dT [5,7] rfl rfl rfl rfl ?_ |refine dF [5,7] rfl rfl rfl rfl ?_)
    refine d_v [7] rfl rfl kQ (fun _ h=>goH h) rfl rfl (zc5 rfl rfl (.tail _ (.head _)) (by rw[fB];exact qi4 hsz.1)) ?_
    (repeat first|refine dAv [7] rfl rfl rfl ?_ |refine dno [7] rfl rfl rfl ?_ |refine dT [7] rfl rfl rfl rfl ?_ |refine dF [7] rfl rfl rfl rfl ?_)
    refine goV rfl rfl (zf6 (xs:=zae p.1) rfl (by rw[hbl];rfl) (fun w' hw'=>zv9 (zbf (hw'.get (b:=b5) (.tail _ (.head _)))))) ?_
    refine goE ?_
    refine zet ⟨kQ,kQ⟩ rfl rfl (zjz (V:=zae p.1) rfl rfl rfl rfl (by rw[hbl];rfl) (zdd _) (by rw[hbl,hsl,hal];omega)) fun _=>?_
    rw[aH,zyk h512 (by rw[hal];exact hsz.2) hsz.1,←hup]
    refine goA ?_
    exact zaw (i+1) ⟨rfl,rfl,rfl,rfl,rfl,trivial⟩ hi2 (fun w' hw'=>hw'.pick [0,2,3] rfl rfl) oQ
   |false=>
    rw[hb,if_neg dQ]at hup
    refine goA ?_
    exact zaw (i+1) ⟨rfl,rfl,rfl,rfl,rfl,trivial⟩ hi2 (fun w' hw'=>by rw[hup];exact hw'.sub (.cons _ (.refl _))) oQ
 ·obtain rfl:i=d.D.wait.length:=oQ
  refine goA ?_
  refine za1 rfl (zah (zdf _ _ _ _) (zai rfl rfl rfl rfl rfl rfl (show(3:Nat)<6 from dQ))) fun _=>?_
  refine goA ?_
  refine za1 rfl (zai rfl rfl rfl rfl rfl rfl (show(4:Nat)<6 from dQ)) fun _=>?_
  refine goA ?_
  refine zcy (m':=[pt d.b (.cells [.int .i64 (zpx d.D.left),.string ⟨d.D.keep.toArray⟩,.slice (some ⟨d.onB,0,none⟩) d.D.on.length d.D.on.length,.slice none 0 0,.bool true,.int .u64 (d.acts:Nat)].toArray 130 (0,0)),pt d.onB (.cells (ze9 (zjh d.D.on d.D.wait (zi7 keep) d.D.wait.length)).toArray 255 (0,0))]) (fun w' hw'=>hw'.sub (.cons_cons _ (.cons_cons _ (.cons _ (.refl _))))) ?_
  refine za1 rfl (zjz (V:=[.int .i64 (-1),.string ⟨#[]⟩]) rfl rfl rfl rfl rfl rfl (show(0+2:Nat)≤6 from dQ)) fun _=>?_
  refine goA ?_
  have hcl:zeu { d with w:=none,D:=zuq d.D keep }=put [.int .i64 (zpx d.D.left),.string ⟨d.D.keep.toArray⟩,.slice (some ⟨d.onB,0,none⟩) d.D.on.length d.D.on.length,.slice none 0 0,.bool true,.int .u64 (d.acts:Nat)] 0 [.int .i64 (-1),.string ⟨#[]⟩]:=by
   show[_,_,Value.slice _ (zjh d.D.on d.D.wait (zi7 keep) d.D.wait.length).length (zjh d.D.on d.D.wait (zi7 keep) d.D.wait.length).length,_,_,_]=_
   rw[zgg];rfl
  refine zbr (m':=[dkI { d with w:=none,D:=zuq d.D keep }]) (fun w' hw'=>Hp.close1 (m:=[]) (zsg _) ?_) (zk0 () rfl rfl trivial (.refl _) (by simp[dkI,zad]))
  rw[bC]
  unfold dkL
  rw[hcl]
  exact(zd1 257 513 hw').pick [1,2,0] rfl rfl
variable{d:Dk}
theorem zwx(h:(dkI d).prop w)(i:Nat){v:Value}(hv:(zeu d)[i]? =some v):w.cell? ⟨d.b,i,none⟩=some v:=
 zd4 (h.1 (pt d.b (.cells (zeu d).toArray 130 (0,0))) (.head _)).1 (by rw[fB];exact hv)
variable{F:Nat→Prop}
theorem zt9{w0:World}(h:Hp w0 F [dkI d] w):Hp w0 F (dkL d) w:=by
 have:=Hp.open1 (m:=[]) h
 rwa[bC]at this
theorem zlw{w0:World}{m:List Eng.Item}(h:Hp w0 F (dkL d++m) w):Hp w0 F (dkI d::m) w:=Hp.close1 (zsg _) h
def zfz(d:Dk)(D':Dsk)(d':Dk):Prop:=d'.b=d.b∧d'.onB=d.onB∧d'.D=D'
theorem zwj(d:Dk)(ok:d.D.Ok)(hkl:d.D.keep.length≤1000000)(hwl:d.D.wait.length≤1000000000):
  Cv Tryz.prog 169 #[.pointer (some ⟨d.b,0,none⟩)] [dkI d] (fun _:Dk=>.int .i64 ((zhb d.D).1:Nat)) (zfz d (zhb d.D).2) (fun d'=>[dkI d']):=by
 intro w hw
 refine za2 [_] _ Tryz.func169 rfl rfl hw (.cons (fun _ h=>nomatch h) .nil) ?_
 simp only[zaa]
 refine goA ?_
 refine l_w rfl (za0 rfl rfl (fun w' hw'=>zwx (hw'.item _ (.head _)).1 0 rfl)) ?_
 cases hl:d.D.left with
 |some n=>
  have hn:=ok.left n hl
  rw[show zpx (some n)=(n:Int)from rfl]
  cases n with
  |zero=>
   have ha:zhb d.D=(4,zuq d.D d.D.keep):=by unfold zhb;rw[hl]
   rw[ha]
   refine goA ?_
   refine l_w rfl (za0 rfl rfl (fun w' hw'=>zwx (hw'.item _ (.head _)).1 1 rfl)) ?_
   refine lCu [dkI d] rfl (by first|(simp[zab,zac,mp_stable];done) |(intro it hm;(iterate 6 (all_goals try (rcases hm with _|⟨_,hm⟩)))<;>first|exact zad _|exact zab _ _ _|exact zac _ _ _ _ _ _)) (fun w1 hw1 hh1 ha1=>qdm d ok d.D.keep hkl hwl w1 hh1) fun⟨x,hx⟩=>?_
   refine goA ?_
   exact zbd { d with w:=none,D:=zuq d.D d.D.keep } rfl rfl rfl ⟨rfl,rfl,rfl⟩ (.refl _) (by simp[dkI,zad])
  |succ n=>
   have ha:zhb d.D=(0,{ d.D with left:=some n }):=by unfold zhb;rw[hl]
   rw[ha]
   refine goA ?_
   refine l_w rfl (za0 rfl rfl (fun w' hw'=>zwx (hw'.item _ (.head _)).1 0 (congrArg (fun z=>some (Value.int .i64 (zpx z))) hl))) ?_
   rw[show zpx (some (n+1))=((n+1:Nat):Int)from rfl]
   refine goA ?_
   refine l_w rfl (za0 rfl rfl (fun w' hw'=>zwx (hw'.item _ (.head _)).1 0 (congrArg (fun z=>some (Value.int .i64 (zpx z))) hl))) ?_
   rw[show zpx (some (n+1))=((n+1:Nat):Int)from rfl]
   refine goA ?_
   refine zcy (m':=dkL d) (fun w' hw'=>zt9 hw') ?_
   unfold dkL
   refine za1 rfl (zai rfl rfl rfl rfl rfl rfl (show(0:Nat)<6 from dQ)) fun _=>?_
   refine goA ?_
   refine l_w rfl (zj8 rfl rfl) ?_
   refine goA ?_
   refine za1 rfl (zai rfl rfl rfl rfl rfl rfl (show(5:Nat)<6 from dQ)) fun _=>?_
   refine goA ?_
   refine zbr (m':=[dkI { d with acts:=(d.acts+1)%18446744073709551616,D:={ d.D with left:=some n } }]) (fun w' hw'=>zlw (m:=[]) ?_) (zbd { d with acts:=(d.acts+1)%18446744073709551616,D:={ d.D with left:=some n } } rfl rfl rfl ⟨rfl,rfl,rfl⟩ (.refl _) (by simp[dkI,zad]))
   rw[bC]
   exact hw'
 |none=>
  have ha:zhb d.D=(0,d.D):=by unfold zhb;rw[hl]
  rw[ha,show zpx none= -1 from rfl]
  refine goA ?_
  refine l_w rfl (za0 rfl rfl (fun w' hw'=>zwx (hw'.item _ (.head _)).1 0 (congrArg (fun z=>some (Value.int .i64 (zpx z))) hl))) ?_
  rw[show zpx none= -1 from rfl]
  refine goA ?_
  refine zcy (m':=dkL d) (fun w' hw'=>zt9 hw') ?_
  unfold dkL
  refine goA ?_
  refine l_w rfl (zj8 rfl rfl) ?_
  refine goA ?_
  refine za1 rfl (zai rfl rfl rfl rfl rfl rfl (show(5:Nat)<6 from dQ)) fun _=>?_
  refine goA ?_
  refine zbr (m':=[dkI { d with acts:=(d.acts+1)%18446744073709551616 }]) (fun w' hw'=>zlw (m:=[]) ?_) (zbd { d with acts:=(d.acts+1)%18446744073709551616 } rfl rfl rfl ⟨rfl,rfl,rfl⟩ (.refl _) (by simp[dkI,zad]))
  rw[bC]
  exact hw'
def zbz(D:Dsk)(at_:Nat)(s:Bys):Nat×Dsk:=
 if D.dead then(4,D)else if¬at_<D.on.length then(2,D)else if s.length≠512 then(2,D)else
 if (zhb D).1=0 then(0,{ (zhb D).2 with wait:=(zhb D).2.wait++[(s,at_)] })else zhb D
def zbi(D:Dsk):Nat×Dsk:=if D.dead then(4,D)else if (zhb D).1=0 then(0,zsk (zhb D).2)else zhb D
theorem zkb(h:(zhb D).1=0):(zhb D).2.wait=D.wait∧(zhb D).2.on=D.on∧(zhb D).2.dead=D.dead∧(zhb D).2.keep=D.keep:=by
 unfold zhb at h⊢
 split
 ·exact⟨rfl,rfl,rfl,rfl⟩
 ·rename_i hl
  rw[hl]at h;cases h
 ·exact⟨rfl,rfl,rfl,rfl⟩
theorem zg4(d:Dk)(ok:d.D.Ok)(hkl:d.D.keep.length≤1000000)(hwl:d.D.wait.length≤1000000000):
  Cv Tryz.prog 118 #[.pointer (some ⟨d.b,0,none⟩)] [dkI d] (fun _:Dk=>.int .i64 ((zbi d.D).1:Nat)) (zfz d (zbi d.D).2) (fun d'=>[dkI d']):=by
 intro w hw
 refine za2 [_] _ Tryz.func118 rfl rfl hw (.cons (fun _ h=>nomatch h) .nil) ?_
 simp only[zaa]
 refine goA ?_
 refine lPu rfl (fun w1 hw1=>zlk d w1 (zbq.of (hw1.item _ (.head _)) (zad _))) ?_
 unfold zbi
 cases hd:d.D.dead with
 |true=>
  simp only[if_true]
  refine goA ?_
  exact zbd d rfl rfl rfl ⟨rfl,rfl,rfl⟩ (.refl _) (by simp[dkI,zad])
 |false=>
  simp only[bT,if_false]
  refine goA ?_
  refine lCu [dkI d] rfl (by first|(simp[zab,zac,mp_stable];done) |(intro it hm;(iterate 6 (all_goals try (rcases hm with _|⟨_,hm⟩)))<;>first|exact zad _|exact zab _ _ _|exact zac _ _ _ _ _ _)) (fun w1 hw1 hh1 ha1=>zwj d ok hkl hwl w1 hh1) fun⟨x,hx⟩=>?_
  have hok:=zr7 ok
  by_cases he:(zhb d.D).1=0
  ·obtain⟨hwt,hon,hdd,hkk⟩:=zkb he
   rw[if_pos he,he]
   dsimp only
   obtain⟨h1,h2,h3⟩:=hx
   rw[←h3]at hwt hon hdd hkk hok⊢
   rw[←h1]
   have hwl2:x.D.wait.length≤1000000000:=by rw[hwt];exact hwl
   refine goA ?_
   refine zcy (m':=dkL x) (fun w' hw'=>zt9 hw') ?_
   unfold dkL
   refine zch (fun w' hw'=>zas (hw'.item (own 257 513 x.w x.D.wait.length (zc6 wrV x.D.wait)) sQ).1) fun⟨hv,hc⟩=>?_
   refine goA ?_
   rw[hv]
   refine goA ?_
   refine zc0 (α:=Nat) (fun i=>[(0,.pointer (some ⟨x.b,0,none⟩)),(20,.slice (slA x.w) x.D.wait.length (slC x.w)),(21,.int .i64 x.D.wait.length),(22,.int .i64 i)]) (fun i=>i≤x.D.wait.length)
    (fun i=>[pt x.onB (.cells (ze9 (zjh x.D.on x.D.wait (fun _=>true) i)).toArray 255 (0,0)),own 257 513 x.w x.D.wait.length (zc6 wrV x.D.wait),pt x.b (.cells (zeu x).toArray 130 (0,0))]) (fun i=>x.D.wait.length - i) 0 ⟨rfl,rfl,rfl,rfl,trivial⟩ (aZ _) (fun w' hw'=>hw'.pick [1,2,0] rfl rfl) fun i hi=>?_
   have hmany:=hok.many
   by_cases hi2:i<x.D.wait.length
   ·obtain⟨bw,cw,hbw⟩:∃b c,x.w=some (b,c):=by
     cases h:x.w with
     |none=>rw[h,show slC none=0 from rfl]at hc;omega
     |some bc=>exact⟨bc.1,bc.2,rfl⟩
    rw[hbw]
    have hrow:=fun(w':World) (hp:(own 257 513 (some (bw,cw)) x.D.wait.length (zc6 wrV x.D.wait)).prop w')=>qc1 hok hi2 hp
    have hsz:=hok.wsize _ (aT hi2)
    have hgd:x.D.wait.getD i ([],0)=x.D.wait[i]:=by rw[aE,aB hi2];rfl
    have hup:zjh x.D.on x.D.wait (fun _=>true) (i+1)=(zjh x.D.on x.D.wait (fun _=>true) i).set x.D.wait[i].2 x.D.wait[i].1:=by rw[zjh,hgd,if_pos rfl]
    have h512:=zkc hok (fun _=>true) i hi
    have hal:=zgg x.D.on x.D.wait (fun _=>true) i
    generalize zjh x.D.on x.D.wait (fun _=>true) i=L at hup h512 hal⊢
    generalize x.D.wait[i]=p at hrow hsz hup
    have hwl':=zns hsz.1
    have hbl:(zae p.1).length=512:=by rw[zan,hsz.1]
    have hsl:=zqu h512
    refine goA ?_
    refine l_w rfl (zf6 (xs:=wrV p) rfl (by rw[hwl'];rfl) (fun w' hw'=>by rw[aH];exact hrow w' (hw'.item _ (.tail _ (.head _))).1)) ?_
    refine zam rfl rfl fun b6 hb6=>?_
    refine za1 rfl (zaf (cs':=(wrV p).toArray) rfl rfl rfl (by rw[aI,hwl'];rfl) (zv8 _) (by rw[aI,hwl'];rfl)) fun _=>?_
    refine zu3 (zka ?_)
    refine zcx [1,0,2,3] rfl rfl ?_
    refine goA ?_
    refine zap [0,1,2,3] 9 rfl rfl kQ ?_
    (repeat first|refine dAv [5,7] rfl rfl rfl ?_ |refine dno [5,7] rfl rfl rfl ?_ |refine dT [5,7] rfl rfl rfl rfl ?_ |refine dF [5,7] rfl rfl rfl rfl ?_)
    refine d_v [7] rfl rfl kQ (fun _ h=>goH h) rfl rfl (zc5 rfl rfl (.tail _ (.head _)) (by rw[fB];exact qi4 hsz.1)) ?_
    (repeat first|refine dAv [7] rfl rfl rfl ?_ |refine dno [7] rfl rfl rfl ?_ |refine dT [7] rfl rfl rfl rfl ?_ |refine dF [7] rfl rfl rfl rfl ?_)
    refine goV rfl rfl (zf6 (xs:=zae p.1) rfl (by rw[hbl];rfl) (fun w' hw'=>zv9 (zbf (hw'.get (b:=b6) (.tail _ (.head _)))))) ?_
    refine goE ?_
    refine zet ⟨kQ,kQ⟩ rfl rfl (zjz (V:=zae p.1) rfl rfl rfl rfl (by rw[hbl];rfl) (zdd _) (by rw[hbl,hsl,hal];omega)) fun _=>?_
    rw[aH,zyk h512 (by rw[hal];exact hsz.2) hsz.1,←hup]
    refine goA ?_
    exact zaw (i+1) ⟨rfl,rfl,rfl,rfl,trivial⟩ hi2 (fun w' hw'=>hw'.pick [0,2,3] rfl rfl) oQ
   ·obtain rfl:i=x.D.wait.length:=oQ
    refine goA ?_
    refine za1 rfl (zah (zdf _ _ _ _) (zai rfl rfl rfl rfl rfl rfl (show(3:Nat)<6 from dQ))) fun _=>?_
    refine goA ?_
    have hcl:(zeu { x with w:=none,D:=zsk x.D }).toArray=(zeu x).toArray.setIfInBounds (0+3) (.slice none 0 0):=by
     show #[_,_,Value.slice _ (zjh x.D.on x.D.wait (fun _=>true) x.D.wait.length).length (zjh x.D.on x.D.wait (fun _=>true) x.D.wait.length).length,_,_,_]=_
     rw[zgg];rfl
    refine zbr (m':=[dkI { x with w:=none,D:=zsk x.D }]) (fun w' hw'=>zlw (m:=[]) ?_) (zbd { x with w:=none,D:=zsk x.D } rfl rfl rfl ⟨h1,h2,rfl⟩ (.refl _) (by simp[dkI,zad]))
    rw[bC]
    unfold dkL
    rw[hcl]
    exact(zd1 257 513 hw').pick [1,2,0] rfl rfl
  ·rw[if_neg he]
   refine goA ?_
   exact zbd x rfl rfl rfl hx (.refl _) (by simp[dkI,zad])
theorem qc2(ok:D.Ok)(at_:Nat)(s:Bys):(zbz D at_ s).2.Ok:=by
 unfold zbz
 split
 ·exact ok
 ·split
  ·exact ok
  ·rename_i hl
   split
   ·exact ok
   ·rename_i h5
    have h:=zr7 ok
    split
    ·rename_i he
     obtain⟨h1,h2, -⟩:=zkb he
     refine⟨h.size,fun p hp=>?_,h.many,h.left⟩
     rcases aR.1 hp with hp|hp
     ·exact h.wsize p hp
     ·rw[aN]at hp
      subst hp
      refine⟨by simpa using h5,?_⟩
      show at_<(zhb D).2.on.length
      rw[h2]
      simpa using hl
    ·exact h
theorem zfr(ok:D.Ok):(zbi D).2.Ok:=by
 unfold zbi
 split
 ·exact ok
 ·split
  ·exact qj2 (zr7 ok)
  ·exact zr7 ok
theorem zwy(d:Dk)(ok:d.D.Ok)(hkl:d.D.keep.length≤1000000)(hwl:d.D.wait.length≤1000000)(at_:Nat)(hat:at_<9223372036854775808)(s:Bys)(a:Option Addr)(c:Nat)(hsl:s.length≤1000000)(w:World)(hw:∀it∈[dkI d],zbq it w)(hr:∀w',Fr (za4 [dkI d]) w w'→Rd w' a (zae s)):
  Ct Tryz.prog 126 #[.pointer (some ⟨d.b,0,none⟩),.int .i64 at_,.slice a s.length c] w (za4 [dkI d]) (fun _:Dk=>.int .i64 ((zbz d.D at_ s).1:Nat)) (zfz d (zbz d.D at_ s).2) (fun d'=>[dkI d']):=by
 refine za2 [_,_,_] _ Tryz.func126 rfl rfl hw (.cons (fun _ h=>nomatch h) .nil) ?_
 simp only[zaa,Nat.reduceAdd]
 have hmany:=ok.many
 refine goA ?_
 refine lPu rfl (fun w1 hw1=>zlk d w1 (zbq.of (hw1.item _ (.head _)) (zad _))) ?_
 refine goA ?_
 refine lPu rfl (fun w1 hw1=>zpr d at_ hat w1 (zbq.of (hw1.item _ (.head _)) (zad _))) ?_
 refine goA ?_
 obtain⟨e1,he1⟩:∃e,(if d.D.dead then 4 else 0:Nat)=e:=⟨_,rfl⟩
 obtain⟨e2,he2⟩:∃e,(if at_<d.D.on.length then 0 else 2:Nat)=e:=⟨_,rfl⟩
 obtain⟨e3,he3⟩:∃e,(if s.length=512 then 0 else 2:Nat)=e:=⟨_,rfl⟩
 rw[he1,he2]
 refine zd2 16 _ (.bool (decide (s.length=512))) rfl (congrArg Value.bool (by by_cases h:s.length=512<;>simp[h];omega)) ?_
 refine lPu rfl (fun w1 hw1=>zfw (decide (s.length=512)) 2 w1) ?_
 refine zd2 17 _ (.int .i64 (e3:Nat)) rfl (by rw[←he3];by_cases h:s.length=512<;>simp[h]) ?_
 refine za1 rfl (za3 rfl rfl rfl rfl rfl rfl) fun⟨bq,hbq⟩=>?_
 refine lPu rfl (fun w1 hw1=>zk6 [e1,e2,e3] (some ⟨bq,0,none⟩) 3 sQ w1 (za8 (o:=some (bq,3)) (hw1.item _ (.head _)).1)) ?_
 have hfe:zi1 [e1,e2,e3]=if e1≠0 then e1 else if e2≠0 then e2 else e3:=by
  unfold zi1
  by_cases h1:e1=0
  ·by_cases h2:e2=0
   ·by_cases h3:e3=0
    ·simp[h1,h2,h3]
    ·simp[h1,h2,h3]
   ·simp[h1,h2]
  ·simp[h1]
 by_cases hbad:(d.D.dead=false∧at_<d.D.on.length)∧s.length=512
 ·obtain⟨⟨hd,hl⟩,h5⟩:=hbad
  have hW:zbz d.D at_ s=if (zhb d.D).1=0 then(0,{ (zhb d.D).2 with wait:=(zhb d.D).2.wait++[(s,at_)] })else zhb d.D:=by
   unfold zbz
   rw[hd,if_neg dQ,if_neg (by simp[hl]),if_neg (by simp[h5])]
  have hf0:zi1 [e1,e2,e3]=0:=by
   rw[hfe,←he1,←he2,←he3,hd,if_pos hl,if_pos h5];rfl
  rw[hf0,hW]
  refine zay [1] rfl rfl ?_
  refine goA ?_
  refine lCu [dkI d] rfl (by first|(simp[zab,zac,mp_stable];done) |(intro it hm;(iterate 6 (all_goals try (rcases hm with _|⟨_,hm⟩)))<;>first|exact zad _|exact zab _ _ _|exact zac _ _ _ _ _ _)) (fun w1 hw1 hh1 ha1=>zwj d ok hkl oQ w1 hh1) fun⟨x,hx⟩=>?_
  have hok:=zr7 ok
  by_cases he:(zhb d.D).1=0
  ·obtain⟨hwt,hon,hdd,hkk⟩:=zkb he
   rw[if_pos he,he]
   dsimp only
   obtain⟨h1,h2,h3⟩:=hx
   rw[←h3]at hwt hon hdd hkk hok⊢
   have hwl2:x.D.wait.length≤1000000:=by rw[hwt];exact hwl
   rw[←h1]
   refine goA ?_
   refine zg8 (m':=dkL x) (fun w' hw'=>zt9 hw') ?_
   unfold dkL
   have hl5:(zae s).length=512:=by rw[zan,h5]
   have hwv:(wrV (s,at_)).length=513:=zns h5
   obtain⟨b,off,rfl, -⟩:=(hr w (.refl _ _)).at_ (fun e=>by have:=congrArg List.length e;rw[zan,h5]at this;cases this)
   have hrow:∀{m:List Eng.Item} (w':World),Hp w (za4 [dkI d]) m w'→w'.rangeAt b off (zae s):=fun w' hw'=>by
    obtain⟨b2,off2,e,h6⟩:=(hr w' hw'.fr).at_ (fun e=>by rw[e]at hl5;cases hl5)
    cases e
    exact h6
   refine zcx [2,0,1] rfl rfl ?_
   refine zap [1,2] 14 rfl rfl kQ ?_
   (repeat first|refine dAv [6,7,9] rfl rfl rfl ?_ |refine dno [6,7,9] rfl rfl rfl ?_ |refine dT [6,7,9] rfl rfl rfl rfl ?_ |refine dF [6,7,9] rfl rfl rfl rfl ?_)
   refine d_v [7,9] rfl rfl kQ (fun _ h=>goH h) rfl rfl (ztu (n:=512) (k:=s.length) rfl rfl oQ) ?_
   refine d_v [9] rfl rfl kQ (fun _ h=>goH h) rfl rfl (zf6 (xs:=zae s) rfl (by rw[hl5];rfl) (fun w' hw'=>hrow w' hw')) ?_
   refine goV rfl rfl (zo5 (L:=[(0,512,.agg (zae s).toArray),(512,1,.int .i64 (at_:Int))]) rfl rfl rfl rfl (by simp[zdi,Value.cells,hl5])) ?_
   refine zro 37 _ (.agg (wrV (s,at_)).toArray) rfl ?_ ?_
   ·show Value.agg ((over (over _ 0 (zae s)) 512 [Value.int .i64 (at_:Int)]).toArray)=_
    have e:∀z:List Value,z.length=513→over (over z 0 (zae s)) 512 [Value.int .i64 (at_:Int)]=wrV (s,at_):=fun z hz=>by
     have h1:over z 0 (zae s)=zae s++z.drop 512:=by
      unfold over;rw[hl5];simp
     rw[h1]
     unfold over wrV
     rw[jQ oQ,bJ oQ,fI (by simp[hl5,hz])]
     simp
    rw[e _ rfl]
   refine zat 10 ⟨kQ,dQ⟩ rfl rfl (za3 (L:=[(0,513,.agg (wrV (s,at_)).toArray)]) rfl rfl rfl rfl rfl (qre (by rw[aI,hwv]) dQ)) (fun _ _ h=>goH h) fun⟨bp,hbp⟩=>?_
   refine goE ?_
   refine zat 11 ⟨kQ,dQ⟩ rfl rfl (zah (zcg _ _ _) (zdh (news:=wrV (s,at_)) rfl rfl rfl rfl rfl rfl (by rw[hwv]) (zv8 _) oQ (fun w' hw' j v hj=>by rw[zde,aH];refine zby (hw'.item _ (.tail _ (.head _))).1 j v ?_;rw[qtq (by rw[zds,aD,fX,hwv])];exact hj))) (fun _ _ h=>goH h) fun o'=>?_
   refine goE ?_
   refine zet ⟨kQ,kQ⟩ rfl rfl (zah (zdf _ _ _ _) (zai rfl rfl rfl rfl (zct _ _) (zc3 _ _) (show(3:Nat)<6 from dQ))) fun _=>?_
   refine goA ?_
   have hrw:zc6 wrV x.D.wait++wrV (s,at_)=zc6 wrV (x.D.wait++[(s,at_)]):=by rw[zj3,qh7]
   have hlw:x.D.wait.length+1=(x.D.wait++[(s,at_)]).length:=by simp
   rw[hrw,hlw]
   refine zbr (m':=[dkI { x with w:=o',D:={ x.D with wait:=x.D.wait++[(s,at_)] } }]) (fun w' hw'=>zlw (m:=[]) ?_) (zbd { x with w:=o',D:={ x.D with wait:=x.D.wait++[(s,at_)] } } rfl rfl rfl ⟨h1,h2,rfl⟩ (.refl _) (by simp[dkI,zad]))
   rw[bC]
   unfold dkL
   exact hw'.pick [0,3,1] rfl rfl
  ·rw[if_neg he]
   refine goA ?_
   exact zbd x rfl rfl rfl hx (.refl _) (by simp[dkI,zad])
 ·have hne:zi1 [e1,e2,e3]≠0∧zbz d.D at_ s=(zi1 [e1,e2,e3],d.D):=by
   rw[hfe,←he1,←he2,←he3]
   unfold zbz
   cases hd:d.D.dead with
   |true=>simp
   |false=>
    by_cases hl:at_<d.D.on.length
    ·have h5:¬s.length=512:=fun h=>hbad ⟨⟨hd,hl⟩,h⟩
     simp[hl,h5]
    ·simp[hl]
  obtain⟨hne,hW⟩:=hne
  rw[hW]
  generalize zi1 [e1,e2,e3]=e at hne
  refine goA ?_
  exact zbd d rfl rfl rfl ⟨rfl,rfl,rfl⟩ (.cons _ (.refl _)) (by simp[dkI,zad])
def zvd(n:Nat):Dsk:=⟨List.replicate n (List.replicate 512 0),[],none,[],false⟩
theorem qg8{n:Nat}(hn:n≤4096):(zvd n).Ok:=
 ⟨fun s hs=>by rw[fC hs,cD],fun _ h=>(nomatch h),by show(List.replicate _ _).length≤_;rw[cD];exact hn,fun _ h=>(nomatch h)⟩
theorem qsj(N j:Nat)(h:j<(zae (List.replicate N 0)).toArray.size):(zae (List.replicate N 0)).toArray[j]= .int .u8 0:=by simp[zae]
theorem qjc(k:Nat):zds (.agg (zae (List.replicate 512 0)).toArray) k=List.replicate k (.int .u8 0):=by
 unfold zds
 apply List.ext_getElem?
 intro i
 rw[aO,iZ]
 by_cases hi:i<k
 ·rw[eO hi,if_pos hi,bZ]
  congr 1
  have hs:(Value.agg (zae (List.replicate 512 0)).toArray).cells.size=512:=by
   show(zae (List.replicate 512 0)).toArray.size=512
   rw[aI,zan,cD]
  have h5:i%512<512:=dY _ dQ
  rw[hs]
  show(zae (List.replicate 512 0)).toArray[i%512]! =_
  rw[getElem!_pos _ _ (by rw[aI,zan,cD];exact h5)]
  exact qsj 512 _ _
 ·rw[dG (by simpa using hi),if_neg hi];rfl
theorem qib(n:Nat):ze9 (List.replicate n (List.replicate 512 0))=List.replicate (n*512) (.int .u8 0):=by
 have hb:zae (List.replicate 512 0)=List.replicate 512 (.int .u8 0):=by simp[zae]
 induction n with
 |zero=>rfl
 |succ n ih=>
  have e:ze9 (List.replicate (n+1) (List.replicate 512 0))=zae (List.replicate 512 0)++ze9 (List.replicate n (List.replicate 512 0)):=by
   rw[List.replicate_succ];simp[ze9]
  rw[e,ih,hb,jI]
  congr 1
  omega
theorem qdd(n:Nat)(hn:1≤n∧n≤4096)(w:World):
  Ct Tryz.prog 43 #[.int .i64 n] w none' (fun d:Dk=>.tuple #[.pointer (some ⟨d.b,0,none⟩),.int .i64 0]) (fun d=>d.D=zvd n) (fun d=>[dkI d]):=by
 refine zes [_] Tryz.func43 rfl rfl ?_
 simp only[zaa]
 refine goA ?_
 refine za1 rfl (qon rfl rfl rfl rfl rfl oQ) fun⟨ob,hob⟩=>?_
 refine goA ?_
 refine zd2 13 _ (.agg #[.int .i64 (-1),.string ⟨#[]⟩,.slice (some ⟨ob,0,none⟩) n n,.slice none 0 0,.bool false,.int .u64 0]) rfl rfl ?_
 refine zbp rfl rfl fun b hb=>?_
 refine goA ?_
 have hz:zds (.agg (zae (List.replicate 512 0)).toArray) (n*512)=ze9 (zvd n).on:=by rw[qjc];exact(qib n).symm
 refine zbr (m':=[dkI ⟨b,ob,none,0,zvd n⟩]) (fun w' hw'=>zlw (m:=[]) ?_) (zc1 ⟨b,ob,none,0,zvd n⟩ rfl rfl rfl rfl rfl (.refl _) (by simp[dkI,zad]))
 rw[bC]
 unfold dkL
 rw[←hz]
 show Hp w none' [pt b (.cells #[_,_,Value.slice _ (List.replicate n (List.replicate 512 0)).length (List.replicate n (List.replicate 512 0)).length,_,_,_] _ _),_,_] w'
 rw[cD]
 exact(zd1 257 513 hw').pick [1,2,0] rfl rfl
theorem zfp(a a':Option Addr)(n n' c c':Nat)(x y:Bys)(hx:x.length=n)(hy:y.length=n')(w:World)(h1:Rd w a (zae x))(h2:Rd w a' (zae y)):
  Pu Tryz.prog 90 #[.slice a n c,.slice a' n' c'] w (.bool (decide (x=y))):=by
 refine zbn [_,_] Tryz.func90 rfl rfl ?_
 simp only[zaa,Nat.reduceAdd]
 refine goA ?_
 refine l_w rfl (ztt rfl hx.symm rfl rfl (fun w1 hw1=>h1.keep hw1)) ?_
 refine goA ?_
 refine l_w rfl (ztt rfl hy.symm rfl rfl (fun w1 hw1=>h2.keep hw1)) ?_
 refine goA ?_
 have e:seq ⟨x.toArray⟩ ⟨y.toArray⟩=decide (x=y):=by
  rw[qle,eA]
  simp
 rw[e]
 exact zdk rfl rfl rfl
def zao(n:Nat):Nat:=max 1 ((n+496)/497)
theorem zsw(n:Nat)(hn:n≤1000000000)(w:World):Pu Tryz.prog 132 #[.int .i64 n] w (.int .i64 (zao n:Nat)):=by
 refine zbn [_] Tryz.func132 rfl rfl ?_
 simp only[zaa]
 refine goA ?_
 refine l_w rfl (qpi rfl rfl) ?_
 rw[show max 0 n=n by omega]
 refine goA ?_
 refine l_w rfl (qpi rfl rfl) ?_
 refine goA ?_
 refine zdk rfl rfl ?_
 rw[show n+497 - 1=n+496 by omega]
 rfl
def qti(x:W32):W32:=(x>>>8&&& 16711935#32)|||((x&&& 16711935#32)<<<8)
def qlc(x:W32):W32:=qti x>>>16|||qti x<<<16
theorem qh4(x:W32)(w:World):Pu Tryz.prog 217 #[w32 x] w (w32 (qlc x)):=by
 refine zbn [_] Tryz.func217 rfl rfl ?_
 simp only[zaa]
 refine goW ?_
 exact zdk rfl rfl rfl
structure Sht where
 seq:Nat
 last:Bool
 text:Bys
abbrev zjf(s:Sht):Array Value:= #[.int .u64 (s.seq:Int),.bool s.last,.string ⟨s.text.toArray⟩]
def qje(s:Sht):Bys:=beN 8 s.seq++beN 1 (if s.last then 2 else 1)++beN 2 s.text.length++s.text++List.replicate (497 - s.text.length) 0
def zmh(s:Sht):Bys:=qje s++beN 4 (qlc (zwd (qje s))).toNat
variable{s:Sht}
theorem qcp(h:s.text.length≤497):(qje s).length=508:=by
 simp only[qje,aA,zal,cD];omega
theorem zvz(h:s.text.length≤497):(zmh s).length=512:=by
 rw[zmh,aA,qcp h,zal]
theorem zqy(s:Sht)(hq:s.seq<18446744073709551616)(ht5:s.text.length≤497)(w:World)(ht:zo8 w):
  Ct Tryz.prog 185 #[.agg (zjf s)] w none' (fun o:Option (Nat×Nat)=>.tuple #[slV o 512,.int .i64 0]) (fun _=>True) (fun o=>[own 5 1 o 512 (zae (zmh s))]):=by
 refine zes [_] Tryz.func185 rfl rfl ?_
 simp only[zaa]
 have htl:=bal s.text
 refine goA ?_
 refine zbp rfl rfl fun b1 hb1=>?_
 refine goA ?_
 obtain⟨kd,hkd⟩:∃k,(if s.last then 2 else 1:Nat)=k:=⟨_,rfl⟩
 have hk2:kd<256:=by rw[←hkd];split<;>omega
 refine goA ?_
 refine zq3 (w0:=w) (F:=none') (α:=Unit) (fun _=>[(1,.pointer (some ⟨b1,0,none⟩)),(4,.int .u64 kd)]) (fun _=>True) (fun _=>[pt b1 (.cells (zjf s) 265 (0,0))]) ?_ fun _ _=>?_
 ·cases hl:s.last with
  |true=>
   rw[hl,if_pos rfl]at hkd
   subst hkd
   refine goA ?_
   exact zep () ⟨rfl,rfl,trivial⟩ trivial (fun w' hw'=>hw')
  |false=>
   rw[hl,if_neg dQ]at hkd
   subst hkd
   refine goA ?_
   exact zep () ⟨rfl,rfl,trivial⟩ trivial (fun w' hw'=>hw')
 ·have hX:qje s=beN 8 s.seq++beN 1 kd++beN 2 s.text.length++s.text++List.replicate (497 - s.text.length) 0:=by rw[←hkd];rfl
  have hXl:=qcp ht5
  refine goA ?_
  refine zap [0] 15 rfl rfl kQ ?_
  refine goE ?_
  refine zat 0 ⟨kQ,dQ⟩ rfl rfl (qhd rfl kQ rfl (fun w1 hw1=>zg6 w1)) (fun _ _ h=>goH h) fun⟨b,hb⟩=>?_
  refine goE ?_
  refine zat 3 ⟨kQ,dQ⟩ rfl rfl (zfb (pre:=pks b none []) rfl kQ rfl (by simp[zab,zac]) (fun w1 hw1 hh1 ha1=>znb b none [] s.seq hq dQ w1 hh1 ha1)) (fun _ _ h=>goH h) fun⟨o1,_⟩=>?_
  rw[aJ]
  refine goE ?_
  refine zat 5 ⟨kQ,dQ⟩ rfl rfl (zfb (pre:=pks b o1 (beN 8 s.seq)) rfl kQ rfl (by simp[zab,zac]) (fun w1 hw1 hh1 ha1=>zdr b o1 _ 1 kd (.inl rfl) oQ (by rw[zal];decide) w1 hh1 ha1)) (fun _ _ h=>goH h) fun⟨o2,_⟩=>?_
  refine goE ?_
  refine zat 10 ⟨kQ,dQ⟩ rfl rfl (zfb (pre:=pks b o2 (beN 8 s.seq++beN 1 kd)) rfl kQ rfl (by simp[zab,zac]) (fun w1 hw1 hh1 ha1=>zdr b o2 _ 2 s.text.length (.inr (.inl rfl)) oQ (by rw[aA,zal,zal];decide) w1 hh1 ha1)) (fun _ _ h=>goH h) fun⟨o3,_⟩=>?_
  refine goE ?_
  refine zat 13 ⟨kQ,dQ⟩ rfl rfl (zfb (pre:=pks b o3 (beN 8 s.seq++beN 1 kd++beN 2 s.text.length)) rfl kQ rfl (by simp[zab,zac]) (fun w1 hw1 hh1 ha1=>zen b o3 _ ⟨s.text.toArray⟩ (by rw[htl,aA,aA,zal,zal,zal];omega) w1 hh1 ha1)) (fun _ _ h=>goH h) fun⟨o4,_⟩=>?_
  refine goE ?_
  refine zdn kQ ?_
  obtain⟨Y,hY⟩:∃Y,beN 8 s.seq++beN 1 kd++beN 2 s.text.length++s.text=Y:=⟨_,rfl⟩
  have hYl:Y.length=11+s.text.length:=by rw[←hY];simp only[aA,zal]
  refine zbr (m':=pks b o4 Y++[pt b1 (.cells (zjf s) 265 (0,0))]) (fun w' hw'=>by rw[←hY];exact hw') ?_
  rw[hY]at hX
  have hXY:Y++List.replicate (497 - s.text.length) 0=qje s:=hX.symm
  refine goA ?_
  rw[htl]
  refine lPu rfl (fun w1 hw1=>zhj (497 - s.text.length) oQ w1) ?_
  have hrl:(⟨(List.replicate (497 - s.text.length) (0:UInt8)).toArray⟩:ByteArray).size=497 - s.text.length:=by rw[bal,cD]
  refine lCu (pks b o4 Y) rfl (by simp[zab,zac]) (fun w1 hw1 hh1 ha1=>zen b o4 Y ⟨(List.replicate (497 - s.text.length) (0:UInt8)).toArray⟩ (by rw[hrl,hYl];omega) w1 hh1 ha1) fun⟨o5,_⟩=>?_
  refine zcy (m':=pks b o5 (qje s)) (fun w' hw'=>by rw[←hXY];exact hw'.sub (.cons_cons _ (.cons_cons _ (.cons _ (.refl _))))) ?_
  generalize hXe:qje s=X at hXl
  have hPe:zmh s=X++beN 4 (qlc (zwd X)).toNat:=by rw[zmh,hXe]
  rw[hPe]
  have hr32:=(qlc (zwd X)).isLt
  refine goA ?_
  refine lCu (pks b o5 X) rfl (by simp[zab,zac]) (fun w1 hw1 hh1 ha1=>zdv b o5 X (by rw[hXl];decide) w1 hh1 ha1) fun⟨o6,_⟩=>?_
  dsimp only
  refine zch (fun w hw=>(zas (hw.item (own 5 1 o6 X.length (zae X)) (.head _)).1)) fun⟨hsl,hcap⟩=>?_
  rw[hsl]
  refine goA ?_
  refine lPu rfl (fun w1 hw1=>zwu (slA o6) X.length (slC o6) X rfl oQ w1 (za8 (hw1.item (own 5 1 o6 X.length (zae X)) (.head _)).1) (ht.keep hw1)) ?_
  refine lPu rfl (fun w1 hw1=>qh4 (zwd X) w1) ?_
  refine goA ?_
  refine zcy (m':=pks b o5 X) (fun w' hw'=>hw'.sub (.cons _ (.cons_cons _ (.cons_cons _ (.refl _))))) ?_
  refine lCu (pks b o5 X) rfl (by simp[zab,zac]) (fun w1 hw1 hh1 ha1=>zdr b o5 X 4 (qlc (zwd X)).toNat (.inr (.inr rfl)) oQ (by rw[hXl];decide) w1 hh1 ha1) fun⟨o7,_⟩=>?_
  refine lCu (pks b o7 (X++beN 4 (qlc (zwd X)).toNat)) rfl (by simp[zab,zac]) (fun w1 hw1 hh1 ha1=>zdv b o7 _ (by rw[aA,hXl,zal];decide) w1 hh1 ha1) fun⟨o8,_⟩=>?_
  have hzl:(X++beN 4 (qlc (zwd X)).toNat).length=512:=by rw[aA,hXl,zal]
  dsimp only
  generalize X++beN 4 (qlc (zwd X)).toNat=Z at hzl⊢
  rw[hzl]
  refine goA ?_
  exact zc1 o8 rfl rfl rfl rfl trivial (.cons_cons _ (aK _)) (by simp[zac])
theorem zrx(w:Nat)(o:Opn):(opN w o).1<256^w:=by
 have h1:=zqa w o
 have h2:=ql7 (opT w o).1
 have h3:256^(opT w o).1.length≤256^w:=dK dQ h1
 exact aY h2 h3
theorem zf3(n:Nat)(o:Opn):(opT n o).2.1.length≤o.1.length:=by
 unfold opT
 split
 ·exact bA _
 ·split
  ·exact bA _
  ·rw[aX];omega
def qmp(b:Bys):Sht×Opn:=
 let o1:=opN 8 (b,false)
 let o2:=opN 1 o1.2
 let o3:=opN 2 o2.2
 let t:=opT o3.1 o3.2
 (⟨o1.1,decide (o2.1=2),t.1⟩,t.2)
def zjc(b:Bys):Bool:= !(qmp b).2.2&&(decide ((qmp b).1.text.length≤497)&&decide (zmh (qmp b).1=b))
def qd3:Sht:=⟨0,false,[]⟩
def zgl(b:Bys):Sht:=if zjc b then(qmp b).1 else qd3
theorem qie(s:Sht)(ht5:¬s.text.length≤497)(hz:s.text.length≤1000000)(w:World):Pu Tryz.prog 185 #[.agg (zjf s)] w (.tuple #[.slice none 0 0,.int .i64 6]):=by
 refine zbn [_] Tryz.func185 rfl rfl ?_
 simp only[zaa]
 have htl:=bal s.text
 refine goA ?_
 refine zbp rfl rfl fun b1 hb1=>?_
 refine goA ?_
 exact zie rfl rfl rfl rfl
theorem zym(a:Option Addr)(n c:Nat)(bs:Bys)(hn:bs.length=n)(hz:n≤1000000)(w:World)(hr:Rd w a (zae bs))(ht:zo8 w):
  Pu Tryz.prog 204 #[.slice a n c] w (.tuple #[.agg (zjf (zgl bs)),.int .i64 ((if zjc bs then 0 else 3:Nat):Int)]):=by
 refine zbn [_] Tryz.func204 rfl rfl ?_
 simp only[zaa]
 refine goA ?_
 refine zam rfl rfl fun b2 hb2=>?_
 refine goA ?_
 refine zdy rfl rfl kQ rfl (fun w1 hw1=>zih a n c bs hn oQ w1 (hr.keep hw1)) fun x hx=>?_
 obtain⟨b,oD⟩:=x
 simp only at hx⊢
 refine goA ?_
 obtain⟨v1,s1,h1⟩:∃v s,opN 8 (bs,false)=(v,s):=⟨_,_,rfl⟩
 obtain⟨v2,s2,h2⟩:∃v s,opN 1 s1=(v,s):=⟨_,_,rfl⟩
 obtain⟨v3,s3,h3⟩:∃v s,opN 2 s2=(v,s):=⟨_,_,rfl⟩
 obtain⟨t,s4,h4⟩:∃v s,opT v3 s3=(v,s):=⟨_,_,rfl⟩
 have hR:qmp bs=(⟨v1,decide (v2=2),t⟩,s4):=by
  unfold qmp
  simp only
  rw[h1];simp only
  rw[h2];simp only
  rw[h3];simp only
  rw[h4]
 have l1:s1.1.length≤n:=by have:=zf3 8 (bs,false);have e:(opT 8 (bs,false)).2=s1:=congrArg Prod.snd h1;rw[e]at this;rw[←hn];exact this
 have l2:s2.1.length≤n:=by have:=zf3 1 s1;have e:(opT 1 s1).2=s2:=congrArg Prod.snd h2;rw[e]at this;omega
 have l3:s3.1.length≤n:=by have:=zf3 2 s2;have e:(opT 2 s2).2=s3:=congrArg Prod.snd h3;rw[e]at this;omega
 have b1:v1<18446744073709551616:=by have:=zrx 8 (bs,false);rw[h1]at this;exact this
 have b2':v2<256:=by have:=zrx 1 s1;rw[h2]at this;exact this
 have b3:v3<65536:=by have:=zrx 2 s2;rw[h3]at this;exact this
 have b4:t.length<65536:=by have:=zqa v3 s3;rw[h4]at this;simp only at this;omega
 have hsD:(own 5 1 oD n (zae bs)).Stable none':=zac _ _ _ _ _ _
 generalize own 5 1 oD n (zae bs)=D at hx hsD
 refine lCu [opI b (slA oD) (slC oD) (bs,false),D] rfl (by simp[zak,hsD]) (fun w1 hw1 hh1 ha1=>qah v1 s1 h1 hsD hx (by simp only;omega) hh1 ha1) fun⟨y1,hy1⟩=>?_
 refine goA ?_
 refine lCu [opI b y1.1 y1.2 s1,D] rfl (by simp[zak,hsD]) (fun w1 hw1 hh1 ha1=>zhh v2 s2 h2 hsD hy1 (.inl rfl) oQ hh1 ha1) fun⟨y2,hy2⟩=>?_
 refine goA ?_
 refine zd2 15 _ (.agg #[.int .u64 (v1:Int),.bool (decide (v2=2)),.string ⟨#[]⟩]) rfl ?_ ?_
 ·have e:((v2:Int)==2)=decide (v2=2):=by by_cases h:v2=2<;>simp[h];omega
  rw[e];rfl
 dsimp only
 refine zam rfl rfl fun b5 hb5=>?_
 refine za1 rfl (zaf (cs':= #[.int .u64 (v1:Int),.bool (decide (v2=2)),.string ⟨#[]⟩]) rfl rfl rfl rfl rfl rfl) fun _=>?_
 refine goA ?_
 refine zay [1,2,0,3] rfl rfl ?_
 refine lCu [opI b y2.1 y2.2 s2,D] rfl (by simp[zak,hsD]) (fun w1 hw1 hh1 ha1=>zhh v3 s3 h3 hsD hy2 (.inr (.inl rfl)) oQ hh1 ha1) fun⟨y3,hy3⟩=>?_
 refine goA ?_
 refine lCu [opI b y3.1 y3.2 s3,D] rfl (by simp[zak,hsD]) (fun w1 hw1 hh1 ha1=>zp7 t s4 h4 hsD hy3 oQ hh1 ha1) fun⟨y4,hy4⟩=>?_
 dsimp only
 refine goA ?_
 refine zay [2,0,1,3] rfl rfl ?_
 refine za1 rfl (zai rfl rfl rfl rfl rfl rfl (show(2:Nat)<3 from dQ)) fun _=>?_
 refine zcy (m':=[pt b5 (.cells (zjf ⟨v1,decide (v2=2),t⟩) 265 (0,0)),opI b y4.1 y4.2 s4,D,pt b2 (.cells (zjf qd3) 265 (0,0))]) (fun w' hw'=>hw') ?_
 refine goA ?_
 have hOk:zjc bs=(!s4.2&&(decide (t.length≤497)&&decide (zmh ⟨v1,decide (v2=2),t⟩=bs))):=by unfold zjc;rw[hR]
 by_cases h497:t.length≤497
 ·rw[decide_eq_true h497,gC]at hOk
  refine zdy rfl rfl kQ rfl (fun w1 hw1=>zqy ⟨v1,decide (v2=2),t⟩ b1 h497 w1 (ht.keep hw1)) fun x hx=>?_
  refine zch (fun w hw=>(zas (hw.item (own 5 1 x 512 (zae (zmh ⟨v1,decide (v2=2),t⟩))) (.head _)).1)) fun⟨hsl,hcap⟩=>?_
  have hpl:(zmh ⟨v1,decide (v2=2),t⟩).length=512:=zvz h497
  rw[hsl]
  refine goA ?_
  refine lPu rfl (fun w1 hw1=>zev b y4.1 y4.2 s4 w1 (zbq.of (hw1.item _ (.tail _ (.tail _ (.head _)))) (zak _ _ _ _))) ?_
  cases h42:s4.2
  ·rw[h42,kE,gC]at hOk
   simp only[bT,if_false]
   refine goA ?_
   refine lPu rfl (fun w1 hw1=>zfp (slA x) a 512 n (slC x) c (zmh ⟨v1,decide (v2=2),t⟩) bs hpl hn w1 (za8 (hw1.item (own 5 1 x 512 (zae (zmh ⟨v1,decide (v2=2),t⟩))) (.head _)).1) (hr.keep hw1)) ?_
   by_cases hq:zmh ⟨v1,decide (v2=2),t⟩=bs
   ·rw[decide_eq_true hq]at hOk
    rw[decide_eq_true hq]
    refine goA ?_
    refine za1 rfl (zah (zji _ _ _ _ _ _) (zaf (cs':=zjf ⟨v1,decide (v2=2),t⟩) rfl rfl rfl rfl rfl rfl)) fun _=>?_
    refine goA ?_
    refine zie rfl ⟨_,rfl,zaq rfl (.head _)⟩ rfl ?_
    simp only[zgl,hOk,hR,if_true];rfl
   ·rw[decide_eq_false hq]at hOk
    rw[decide_eq_false hq]
    refine goA ?_
    refine za1 rfl (zah (zji _ _ _ _ _ _) (zaf (cs':=zjf qd3) rfl rfl rfl rfl rfl rfl)) fun _=>?_
    refine goA ?_
    refine zie rfl ⟨_,rfl,zaq rfl (.head _)⟩ rfl ?_
    simp only[zgl,hOk,bT,if_false];rfl
  ·rw[h42,jO,eH]at hOk
   simp only[if_true]
   refine goA ?_
   refine za1 rfl (zah (zji _ _ _ _ _ _) (zaf (cs':=zjf qd3) rfl rfl rfl rfl rfl rfl)) fun _=>?_
   refine goA ?_
   refine zie rfl ⟨_,rfl,zaq rfl (.head _)⟩ rfl ?_
   simp only[zgl,hOk,bT,if_false];rfl
 ·rw[decide_eq_false h497,eH,lI]at hOk
  refine lPu rfl (fun w1 hw1=>qie ⟨v1,decide (v2=2),t⟩ h497 (by simp only;omega) w1) ?_
  refine goA ?_
  refine lPu rfl (fun w1 hw1=>zev b y4.1 y4.2 s4 w1 (zbq.of (hw1.item _ (.tail _ (.head _))) (zak _ _ _ _))) ?_
  have herr:(((if s4.2 then 3 else 0:Nat):Int) != 0)=s4.2:=by cases s4.2<;>rfl
  refine goA ?_
  rw[herr]
  cases h42:s4.2
  ·refine goA ?_
   refine za1 rfl (zah (zfq _ _ _ _ _) (zaf (cs':=zjf qd3) rfl rfl rfl rfl rfl rfl)) fun _=>?_
   refine goA ?_
   refine zie rfl ⟨_,rfl,zaq rfl (.head _)⟩ rfl ?_
   simp only[zgl,hOk,bT,if_false];rfl
  ·refine goA ?_
   refine za1 rfl (zah (zfq _ _ _ _ _) (zaf (cs':=zjf qd3) rfl rfl rfl rfl rfl rfl)) fun _=>?_
   refine goA ?_
   refine zie rfl ⟨_,rfl,zaq rfl (.head _)⟩ rfl ?_
   simp only[zgl,hOk,bT,if_false];rfl
structure Hd where
 gen:Nat
 first:Nat
 secs:Nat
 note:Bys
structure Hd.Ok (h:Hd):Prop where
 gen:h.gen<18446744073709551616
 first:h.first<18446744073709551616
 secs:h.secs<65536
 note:h.note.length≤64
abbrev hdA(h:Hd):Array Value:= #[.int .u64 (h.gen:Int),.int .u64 (h.first:Int),.int .i64 (h.secs:Int),.string ⟨h.note.toArray⟩]
def hdH(h:Hd):Bys:=beN 8 h.gen++beN 8 h.first++beN 2 h.secs++(beN 1 h.note.length++h.note)++List.replicate (489 - h.note.length) 0
def hdP(h:Hd):Bys:=hdH h++beN 4 (zwd (hdH h)).toNat
variable{h:Hd}
theorem qgb(hn:h.note.length≤64):(hdH h).length=508:=by
 simp only[hdH,aA,zal,cD];omega
theorem zut(hn:h.note.length≤64):(hdP h).length=512:=by
 rw[hdP,aA,qgb hn,zal]
theorem zsm(s:Hd)(hs:s.Ok)(w:World)(ht:zo8 w):
  Ct Tryz.prog 210 #[.agg (hdA s)] w none' (fun o:Option (Nat×Nat)=>slV o 512) (fun _=>True) (fun o=>[own 5 1 o 512 (zae (hdP s))]):=by
 refine zes [_] Tryz.func210 rfl rfl ?_
 obtain⟨hg,hf,hc,hn⟩:=hs
 simp only[zaa]
 have htl:=bal s.note
 refine goA ?_
 refine zbp rfl rfl fun b1 hb1=>?_
 refine goA ?_
 have hX:hdH s=beN 8 s.gen++beN 8 s.first++beN 2 s.secs++(beN 1 s.note.length++s.note)++List.replicate (489 - s.note.length) 0:=rfl
 have hXl:=qgb hn
 refine zap [0] 15 rfl rfl kQ ?_
 refine goE ?_
 refine zat 0 ⟨kQ,dQ⟩ rfl rfl (qhd rfl kQ rfl (fun w1 hw1=>zg6 w1)) (fun _ _ h=>goH h) fun⟨b,hb⟩=>?_
 refine goE ?_
 refine zat 3 ⟨kQ,dQ⟩ rfl rfl (zfb (pre:=pks b none []) rfl kQ rfl (by simp[zab,zac]) (fun w1 hw1 hh1 ha1=>znb b none [] s.gen hg dQ w1 hh1 ha1)) (fun _ _ h=>goH h) fun⟨o1,_⟩=>?_
 rw[aJ]
 refine goE ?_
 refine zat 6 ⟨kQ,dQ⟩ rfl rfl (zfb (pre:=pks b o1 (beN 8 s.gen)) rfl kQ rfl (by simp[zab,zac]) (fun w1 hw1 hh1 ha1=>znb b o1 _ s.first hf (by rw[zal];decide) w1 hh1 ha1)) (fun _ _ h=>goH h) fun⟨o2,_⟩=>?_
 refine goE ?_
 refine zat 10 ⟨kQ,dQ⟩ rfl rfl (zfb (pre:=pks b o2 (beN 8 s.gen++beN 8 s.first)) rfl kQ rfl (by simp[zab,zac]) (fun w1 hw1 hh1 ha1=>zdr b o2 _ 2 s.secs (.inr (.inl rfl)) oQ (by rw[aA,zal,zal];decide) w1 hh1 ha1)) (fun _ _ h=>goH h) fun⟨o3,_⟩=>?_
 refine goE ?_
 refine zat 13 ⟨kQ,dQ⟩ rfl rfl (zfb (pre:=pks b o3 (beN 8 s.gen++beN 8 s.first++beN 2 s.secs)) rfl kQ rfl (by simp[zab,zac]) (fun w1 hw1 hh1 ha1=>qdz b o3 _ ⟨s.note.toArray⟩ (by rw[htl];omega) (by rw[aA,aA,zal,zal,zal];decide) w1 hh1 ha1)) (fun _ _ h=>goH h) fun⟨o4,_⟩=>?_
 refine goE ?_
 refine zdn kQ ?_
 obtain⟨Y,hY⟩:∃Y,beN 8 s.gen++beN 8 s.first++beN 2 s.secs++(beN 1 s.note.length++s.note)=Y:=⟨_,rfl⟩
 have hYl:Y.length=19+s.note.length:=by rw[←hY];simp only[aA,zal];omega
 refine zbr (m':=pks b o4 Y++[pt b1 (.cells (hdA s) 238 (0,0))]) (fun w' hw'=>by rw[←hY];rw[htl]at hw';exact hw') ?_
 rw[hY]at hX
 have hXY:Y++List.replicate (489 - s.note.length) 0=hdH s:=hX.symm
 refine goA ?_
 rw[htl]
 refine goA ?_
 refine lPu rfl (fun w1 hw1=>zhj (489 - s.note.length) oQ w1) ?_
 have hrl:(⟨(List.replicate (489 - s.note.length) (0:UInt8)).toArray⟩:ByteArray).size=489 - s.note.length:=by rw[bal,cD]
 refine lCu (pks b o4 Y) rfl (by simp[zab,zac]) (fun w1 hw1 hh1 ha1=>zen b o4 Y ⟨(List.replicate (489 - s.note.length) (0:UInt8)).toArray⟩ (by rw[hrl,hYl];omega) w1 hh1 ha1) fun⟨o5,_⟩=>?_
 refine zcy (m':=pks b o5 (hdH s)) (fun w' hw'=>by rw[←hXY];exact hw'.sub (.cons_cons _ (.cons_cons _ (.cons _ (.refl _))))) ?_
 generalize hXe:hdH s=X at hXl
 have hPe:hdP s=X++beN 4 (zwd X).toNat:=by rw[hdP,hXe]
 rw[hPe]
 have hr32:=(zwd X).isLt
 refine goA ?_
 refine lCu (pks b o5 X) rfl (by simp[zab,zac]) (fun w1 hw1 hh1 ha1=>zdv b o5 X (by rw[hXl];decide) w1 hh1 ha1) fun⟨o6,_⟩=>?_
 dsimp only
 refine zch (fun w hw=>(zas (hw.item (own 5 1 o6 X.length (zae X)) (.head _)).1)) fun⟨hsl,hcap⟩=>?_
 rw[hsl]
 refine goA ?_
 refine lPu rfl (fun w1 hw1=>zwu (slA o6) X.length (slC o6) X rfl oQ w1 (za8 (hw1.item (own 5 1 o6 X.length (zae X)) (.head _)).1) (ht.keep hw1)) ?_
 refine goA ?_
 refine zcy (m':=pks b o5 X) (fun w' hw'=>hw'.sub (.cons _ (.cons_cons _ (.cons_cons _ (.refl _))))) ?_
 refine lCu (pks b o5 X) rfl (by simp[zab,zac]) (fun w1 hw1 hh1 ha1=>zdr b o5 X 4 (zwd X).toNat (.inr (.inr rfl)) oQ (by rw[hXl];decide) w1 hh1 ha1) fun⟨o7,_⟩=>?_
 refine lCu (pks b o7 (X++beN 4 (zwd X).toNat)) rfl (by simp[zab,zac]) (fun w1 hw1 hh1 ha1=>zdv b o7 _ (by rw[aA,hXl,zal];decide) w1 hh1 ha1) fun⟨o8,_⟩=>?_
 have hzl:(X++beN 4 (zwd X).toNat).length=512:=by rw[aA,hXl,zal]
 dsimp only
 generalize X++beN 4 (zwd X).toNat=Z at hzl⊢
 rw[hzl]
 refine goA ?_
 exact zbd o8 rfl rfl rfl trivial (.cons_cons _ (aK _)) (by simp[zac])
def hdR(b:Bys):Hd×Opn:=
 let o1:=opN 8 (b,false)
 let o2:=opN 8 o1.2
 let o3:=opN 2 o2.2
 let t:=zgd o3.2
 (⟨o1.1,o2.1,o3.1,t.1⟩,t.2)
def qae:Hd:=⟨0,0,0,[]⟩
def hdF(b:Bys):Bool:= !(hdR b).2.2&&decide ((hdR b).1.note.length≤64)
def hdT(b:Bys):Hd:=if hdF b then(hdR b).1 else qae
def zrt(b:Bys):Bool:=hdF b&&decide (hdP (hdR b).1=b)
theorem qhh(o:Opn):(zgd o).1.length≤255:=by
 obtain⟨r,bad⟩:=o
 cases bad with
 |true=>rw[zs5];exact aZ _
 |false=>
  cases r with
  |nil=>rw[qd6];exact aZ _
  |cons x r=>
   by_cases h:r.length<x.toNat
   ·rw[zn4 h];exact aZ _
   ·rw[zp9 h]
    have:=zqa x.toNat (r,false)
    have:=x.toNat_lt
    omega
theorem qra{b:Nat}{a:Option Addr}{c:Nat}{st:Opn}{D:Eng.Item}(t:Bys)(st':Opn)(he:zgd st=(t,st'))(hsD:D.Stable none')(hD:zjg D a c st.1)(hz:st.1.length≤1000000000)(hw:∀it∈[opI b a c st,D],zbq it w)(ha:[opI b a c st,D].Pairwise Eng.Item.Apart):
  Ct Tryz.prog 230 #[.pointer (some ⟨b,0,none⟩)] w (za4 [opI b a c st,D]) (fun _:Option Addr×Nat=>.string ⟨t.toArray⟩) (fun p=>zjg D p.1 p.2 st'.1) (fun p=>[opI b p.1 p.2 st',D]):=by
 have:=qag b a c st D hsD hD hz w hw ha
 rw[he]at this;exact this
theorem zzz(a:Option Addr)(n c:Nat)(bs:Bys)(hn:bs.length=n)(hz:n≤1000000)(w:World)(hr:Rd w a (zae bs))(ht:zo8 w):
  Pu Tryz.prog 203 #[.slice a n c] w (.tuple #[.agg (hdA (hdT bs)),.bool (zrt bs)]):=by
 refine zbn [_] Tryz.func203 rfl rfl ?_
 simp only[zaa]
 refine goA ?_
 refine zam rfl rfl fun b2 hb2=>?_
 refine goA ?_
 refine zdy rfl rfl kQ rfl (fun w1 hw1=>zih a n c bs hn oQ w1 (hr.keep hw1)) fun x hx=>?_
 obtain⟨b,oD⟩:=x
 simp only at hx⊢
 refine goA ?_
 obtain⟨v1,s1,h1⟩:∃v s,opN 8 (bs,false)=(v,s):=⟨_,_,rfl⟩
 obtain⟨v2,s2,h2⟩:∃v s,opN 8 s1=(v,s):=⟨_,_,rfl⟩
 obtain⟨v3,s3,h3⟩:∃v s,opN 2 s2=(v,s):=⟨_,_,rfl⟩
 obtain⟨t,s4,h4⟩:∃v s,zgd s3=(v,s):=⟨_,_,rfl⟩
 have hR:hdR bs=(⟨v1,v2,v3,t⟩,s4):=by
  unfold hdR
  simp only
  rw[h1];simp only
  rw[h2];simp only
  rw[h3];simp only
  rw[h4]
 have l1:s1.1.length≤n:=by have:=zf3 8 (bs,false);have e:(opT 8 (bs,false)).2=s1:=congrArg Prod.snd h1;rw[e]at this;rw[←hn];exact this
 have l2:s2.1.length≤n:=by have:=zf3 8 s1;have e:(opT 8 s1).2=s2:=congrArg Prod.snd h2;rw[e]at this;omega
 have l3:s3.1.length≤n:=by have:=zf3 2 s2;have e:(opT 2 s2).2=s3:=congrArg Prod.snd h3;rw[e]at this;omega
 have b1:v1<18446744073709551616:=by have:=zrx 8 (bs,false);rw[h1]at this;exact this
 have b2':v2<18446744073709551616:=by have:=zrx 8 s1;rw[h2]at this;exact this
 have b3:v3<65536:=by have:=zrx 2 s2;rw[h3]at this;exact this
 have b4:t.length≤255:=by have:=qhh s3;rw[h4]at this;exact this
 have hsD:(own 5 1 oD n (zae bs)).Stable none':=zac _ _ _ _ _ _
 generalize own 5 1 oD n (zae bs)=D at hx hsD
 refine lCu [opI b (slA oD) (slC oD) (bs,false),D] rfl (by simp[zak,hsD]) (fun w1 hw1 hh1 ha1=>qah v1 s1 h1 hsD hx (by simp only;omega) hh1 ha1) fun⟨y1,hy1⟩=>?_
 refine goA ?_
 refine lCu [opI b y1.1 y1.2 s1,D] rfl (by simp[zak,hsD]) (fun w1 hw1 hh1 ha1=>qah v2 s2 h2 hsD hy1 oQ hh1 ha1) fun⟨y2,hy2⟩=>?_
 refine goA ?_
 refine lCu [opI b y2.1 y2.2 s2,D] rfl (by simp[zak,hsD]) (fun w1 hw1 hh1 ha1=>zhh v3 s3 h3 hsD hy2 (.inr (.inl rfl)) oQ hh1 ha1) fun⟨y3,hy3⟩=>?_
 refine goA ?_
 refine lCu [opI b y3.1 y3.2 s3,D] rfl (by simp[zak,hsD]) (fun w1 hw1 hh1 ha1=>qra t s4 h4 hsD hy3 oQ hh1 ha1) fun⟨y4,hy4⟩=>?_
 dsimp only
 refine goA ?_
 refine zd2 17 _ (.agg (hdA ⟨v1,v2,v3,t⟩)) rfl rfl ?_
 refine zam rfl rfl fun b5 hb5=>?_
 refine za1 rfl (zaf (cs':=hdA ⟨v1,v2,v3,t⟩) rfl rfl rfl rfl rfl rfl) fun _=>?_
 refine goA ?_
 refine zcy (m':=[pt b5 (.cells (hdA ⟨v1,v2,v3,t⟩) 238 (0,0)),opI b y4.1 y4.2 s4,D,pt b2 (.cells (hdA qae) 238 (0,0))]) (fun w' hw'=>hw') ?_
 refine zay [3,0,1,2] rfl rfl ?_
 refine lPu rfl (fun w1 hw1=>zev b y4.1 y4.2 s4 w1 (zbq.of (hw1.item _ (.tail _ (.tail _ (.head _)))) (zak _ _ _ _))) ?_
 have htl:=bal t
 have hFe:hdF bs=(!s4.2&&decide (t.length≤64)):=by unfold hdF;rw[hR]
 cases h42:s4.2
 ·rw[h42,kE,gC]at hFe
  simp only[bT,if_false]
  refine goA ?_
  rw[htl]
  have hgt:decide ((t.length:Int)>64)= !decide (t.length≤64):=by by_cases h:t.length≤64<;>simp[h]<;>omega
  rw[hgt]
  by_cases h64:t.length≤64
  ·rw[decide_eq_true h64]at hFe⊢
   have hT:hdT bs=⟨v1,v2,v3,t⟩:=by rw[hdT,hFe,if_pos rfl,hR]
   refine goA ?_
   refine zap [1,2,3] 7 rfl rfl kQ ?_
   refine goE ?_
   refine zat 2 ⟨kQ,dQ⟩ rfl rfl (qhd rfl kQ rfl (fun w1 hw1=>zsm ⟨v1,v2,v3,t⟩ ⟨b1,b2',b3,h64⟩ w1 (ht.keep hw1))) (fun _ _ h=>goH h) fun⟨x,hx⟩=>?_
   refine zat 4 ⟨kQ,dQ⟩ rfl rfl (zfc (v:=.bool (decide (hdP ⟨v1,v2,v3,t⟩=bs))) rfl kQ rfl (fun w1 hw1=>?_)) (fun _ _ h=>goH h) fun _=>?_
   ·have hi:=(hw1.item (own 5 1 x 512 (zae (hdP ⟨v1,v2,v3,t⟩))) (.head _)).1
    show Pu _ _ #[slV x 512,.slice a n c] _ _
    rw[(zas hi).1]
    exact zfp (slA x) a 512 n (slC x) c (hdP ⟨v1,v2,v3,t⟩) bs (zut h64) hn w1 (za8 hi) (hr.keep hw1)
   refine goE ?_
   refine zat 5 ⟨kQ,dQ⟩ rfl rfl (zah (zcg _ _ _) (zaf (cs':=hdA ⟨v1,v2,v3,t⟩) rfl rfl rfl rfl rfl rfl)) (fun _ _ h=>goH h) fun _=>?_
   refine goX ?_
   refine zie rfl ⟨_,rfl,zaq rfl (.head _)⟩ rfl ?_
   rw[hT,zrt,hFe,hR];rfl
  ·rw[decide_eq_false h64]at hFe⊢
   have hT:hdT bs=qae:=by rw[hdT,hFe];rfl
   refine goA ?_
   refine za1 rfl (zaf (cs':=hdA qae) rfl rfl rfl rfl rfl rfl) fun _=>?_
   refine goA ?_
   refine zie rfl ⟨_,rfl,zaq rfl (.head _)⟩ rfl ?_
   rw[hT,zrt,hFe];rfl
 ·rw[h42,jO,eH]at hFe
  have hT:hdT bs=qae:=by rw[hdT,hFe];rfl
  simp only[if_true]
  refine goA ?_
  refine za1 rfl (zaf (cs':=hdA qae) rfl rfl rfl rfl rfl rfl) fun _=>?_
  refine goA ?_
  refine zie rfl ⟨_,rfl,zaq rfl (.head _)⟩ rfl ?_
  rw[hT,zrt,hFe];rfl
end Go.Proofs.YthafakdplhdfjaaGreatDoor
