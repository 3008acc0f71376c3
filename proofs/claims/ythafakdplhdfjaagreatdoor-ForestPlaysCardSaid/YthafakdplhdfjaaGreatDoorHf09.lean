/- Parts: Contracts of package bits; maps; slices; package pages. No condition. -/
import Derived.Test.YthafakdplhdfjaaGreatDoorChecked
import Derived.Test.YthafakdplhdfjaaGreatDoorHf02
import Derived.Test.YthafakdplhdfjaaGreatDoorHf08
import Derived.Shelf.SortM.Plain
import Derived.Shelf.SortM.SortNone
import Derived.Sort.OwnSortedInts
set_option maxRecDepth 100000
set_option maxHeartbeats 40000000
namespace Go.Proofs.YthafakdplhdfjaaGreatDoor
open Go.RowKit Go.Eng Go.Eng.Bm
theorem zx4(c:Array Value)(n i:Int)(w:World)(hc:c[0]? =some (.int .i64 n)):
  Pu Tryz.prog 177 #[.agg c,.int .i64 i] w (.bool (decide (0≤i)&&decide (i<n))):=by
 refine zbn [_,_] Tryz.func177 rfl rfl ?_
 simp only[zaa,Nat.reduceAdd]
 refine goA ?_
 refine zbp rfl rfl fun b hb=>?_
 refine goA ?_
 refine qof 7 _ rfl (fun h=>?_) (fun h=>?_)
 ·refine goA ?_
  refine l_w rfl ((zc5 rfl rfl (.head _) hc)) ?_
  refine goA ?_
  refine zdk rfl rfl ?_
  simp only[ge_iff_le]at h;rw[h];rfl
 ·refine goA ?_
  refine zdk rfl rfl ?_
  simp only[ge_iff_le]at h;rw[h];rfl
theorem qo0(c:Array Value)(n i:Int)(u:Bool)(w:World)(hc:c[0]? =some (.int .i64 n))(hs:c.size=17)(h1:zb7 c.toList=true)(hi:(decide (0≤i)&&decide (i<n))=false):
  Pu Tryz.prog 124 #[.agg c,.int .i64 i,.bool u] w (.agg c):=by
 refine zbn [_,_,_] Tryz.func124 rfl rfl ?_
 simp only[zaa,Nat.reduceAdd]
 refine goA ?_
 refine zbp rfl rfl fun b hb=>?_
 refine goA ?_
 refine zam rfl rfl fun r hr=>?_
 refine goA ?_
 refine l_w rfl ((zcw rfl (by rw[hs];rfl) (.tail _ (.head _)))) ?_
 refine goA ?_
 refine lPu rfl (fun w _=>zx4 c n i w hc) ?_
 refine zd2 9 _ (.bool false) rfl (by rw[hi]) ?_
 refine goA ?_
 refine l_w rfl ((zcw rfl (by rw[hs];rfl) (.tail _ (.head _)))) ?_
 refine za1 rfl (zaf rfl rfl rfl (by rw[hs];rfl) h1 hs) fun _=>?_
 refine goA ?_
 exact zdk rfl ⟨_,rfl,zaq (by rw[hs];rfl) (.head _)⟩ rfl
theorem qrj(c:Array Value)(n k:Nat)(u:Bool)(w:World)(hc:c[0]? =some (.int .i64 n))(hs:c.size=17)(h1:zb7 c.toList=true)(hi:k<n)(hn:n≤1024)(x:Nat)(hx:c[1+k/64]? =some (.int .u64 x))(hx2:x<18446744073709551616):
  Pu Tryz.prog 124 #[.agg c,.int .i64 k,.bool u] w (.agg (c.setIfInBounds (1+k/64) (.int .u64 (qp2 x (k%64) u)))):=by
 refine zbn [_,_,_] Tryz.func124 rfl rfl ?_
 simp only[zaa,Nat.reduceAdd]
 refine goA ?_
 refine zbp rfl rfl fun b hb=>?_
 refine goA ?_
 refine zam rfl rfl fun r hr=>?_
 refine goA ?_
 refine l_w rfl ((zcw rfl (by rw[hs];rfl) (.tail _ (.head _)))) ?_
 refine goA ?_
 refine lPu rfl (fun w _=>zx4 c n k w hc) ?_
 refine zd2 9 _ (.bool true) rfl (by simp;omega) ?_
 refine goA ?_
 refine qct 11 kQ (fun _ h=>h.drew) ?_
 have hk:k/64<16:=oQ
 have hp:2^(k%64)<18446744073709551616:=qrg oQ
 have hpe:1*2^(k%64)%18446744073709551616=2^(k%64):=by rw[jR,bD hp]
 (repeat first|(apply d_w [8] rfl rfl rfl kQ (fun _ h=>h);focus (first|exact zi4 rfl|exact zgm rfl|exact qit rfl rfl|exact ze2 rfl rfl|exact zea rfl rfl|exact zhv rfl rfl|exact zmm rfl rfl|exact zgn rfl rfl|exact qlq rfl|exact zgo rfl rfl (by repeat first|exact .head _|apply List.Mem.tail) |exact zc5 rfl rfl (by repeat first|exact .head _|apply List.Mem.tail) rfl|exact zcw rfl rfl (by repeat first|exact .head _|apply List.Mem.tail) |exact zv3 rfl rfl rfl|((first|refine qjf rfl rfl ?_ |refine zra rfl rfl rfl ?_ |refine zv4 rfl rfl rfl ?_ |refine qlv rfl rfl rfl ?_ |refine qlt rfl rfl rfl ?_ |refine qlu rfl rfl rfl ?_ |refine v_sFT rfl rfl rfl rfl ?_ |refine qlp rfl rfl rfl rfl ?_ |refine qlo rfl rfl rfl ?_ |refine qln rfl rfl rfl ?_);first|omega|assumption) |exact qls rfl rfl cQ|exact qlr rfl rfl cQ|exact v_pickB rfl rfl rfl)) |refine qez [8] rfl rfl rfl kQ (fun _ h=>h) ?_ |refine d_T [8] rfl rfl rfl rfl cQ ?_ |refine d_F [8] rfl rfl rfl rfl cQ ?_)
 refine d_v [] rfl rfl kQ (fun _ h=>h) rfl rfl (zc5 rfl rfl (.tail _ (.head _)) hx) ?_
 (repeat first|(apply d_w [8] rfl rfl rfl kQ (fun _ h=>h);focus (first|exact zi4 rfl|exact zgm rfl|exact qit rfl rfl|exact ze2 rfl rfl|exact zea rfl rfl|exact zhv rfl rfl|exact zmm rfl rfl|exact zgn rfl rfl|exact qlq rfl|exact zgo rfl rfl (by repeat first|exact .head _|apply List.Mem.tail) |exact zc5 rfl rfl (by repeat first|exact .head _|apply List.Mem.tail) rfl|exact zcw rfl rfl (by repeat first|exact .head _|apply List.Mem.tail) |exact zv3 rfl rfl rfl|((first|refine qjf rfl rfl ?_ |refine zra rfl rfl rfl ?_ |refine zv4 rfl rfl rfl ?_ |refine qlv rfl rfl rfl ?_ |refine qlt rfl rfl rfl ?_ |refine qlu rfl rfl rfl ?_ |refine v_sFT rfl rfl rfl rfl ?_ |refine qlp rfl rfl rfl rfl ?_ |refine qlo rfl rfl rfl ?_ |refine qln rfl rfl rfl ?_);first|omega|assumption) |exact qls rfl rfl cQ|exact qlr rfl rfl cQ|exact v_pickB rfl rfl rfl)) |refine qez [8] rfl rfl rfl kQ (fun _ h=>h) ?_ |refine d_T [8] rfl rfl rfl rfl cQ ?_ |refine d_F [8] rfl rfl rfl rfl cQ ?_)
 simp only[hpe]
 refine d_v [] rfl rfl kQ (fun _ h=>h) rfl rfl (qev rfl rfl hx2 hp) ?_
 (repeat refine d_ ?_)
 refine zet ⟨kQ,kQ⟩ rfl rfl (zah (zcg _ _ _) (zai rfl rfl rfl rfl rfl rfl oQ)) fun _=>?_
 have hs':∀v,(c.setIfInBounds (1+k/64) v).size=17:=fun v=>by simp[hs]
 have hx':∀v:Value,(c.setIfInBounds (1+k/64) v)[1+k/64]? =some v:=fun v=>Array.getElem?_setIfInBounds_self_of_lt oQ
 have h1':∀y:Nat,zb7 (c.setIfInBounds (1+k/64) (.int .u64 y)).toList=true:=fun y=>by
  rw[zba]at h1⊢
  intro v hv
  rcases Array.mem_or_eq_of_mem_setIfInBounds (Array.mem_toList_iff.1 hv)with h|h
  ·exact h1 v (Array.mem_toList_iff.2 h)
  ·rw[h];rfl
 refine goA ?_
 refine zq2 u rfl rfl (fun h=>?_) (fun h=>?_)
 ·refine goA ?_
  refine qct 11 kQ (fun _ h=>h.drew) ?_
  (repeat first|(apply d_w [8] rfl rfl rfl kQ (fun _ h=>h);focus (first|exact zi4 rfl|exact zgm rfl|exact qit rfl rfl|exact ze2 rfl rfl|exact zea rfl rfl|exact zhv rfl rfl|exact zmm rfl rfl|exact zgn rfl rfl|exact qlq rfl|exact zgo rfl rfl (by repeat first|exact .head _|apply List.Mem.tail) |exact zc5 rfl rfl (by repeat first|exact .head _|apply List.Mem.tail) rfl|exact zcw rfl rfl (by repeat first|exact .head _|apply List.Mem.tail) |exact zv3 rfl rfl rfl|((first|refine qjf rfl rfl ?_ |refine zra rfl rfl rfl ?_ |refine zv4 rfl rfl rfl ?_ |refine qlv rfl rfl rfl ?_ |refine qlt rfl rfl rfl ?_ |refine qlu rfl rfl rfl ?_ |refine v_sFT rfl rfl rfl rfl ?_ |refine qlp rfl rfl rfl rfl ?_ |refine qlo rfl rfl rfl ?_ |refine qln rfl rfl rfl ?_);first|omega|assumption) |exact qls rfl rfl cQ|exact qlr rfl rfl cQ|exact v_pickB rfl rfl rfl)) |refine qez [8] rfl rfl rfl kQ (fun _ h=>h) ?_ |refine d_T [8] rfl rfl rfl rfl cQ ?_ |refine d_F [8] rfl rfl rfl rfl cQ ?_)
  refine d_v [] rfl rfl kQ (fun _ h=>h) rfl rfl (zc5 rfl rfl (.head _) (hx' _)) ?_
  (repeat first|(apply d_w [8] rfl rfl rfl kQ (fun _ h=>h);focus (first|exact zi4 rfl|exact zgm rfl|exact qit rfl rfl|exact ze2 rfl rfl|exact zea rfl rfl|exact zhv rfl rfl|exact zmm rfl rfl|exact zgn rfl rfl|exact qlq rfl|exact zgo rfl rfl (by repeat first|exact .head _|apply List.Mem.tail) |exact zc5 rfl rfl (by repeat first|exact .head _|apply List.Mem.tail) rfl|exact zcw rfl rfl (by repeat first|exact .head _|apply List.Mem.tail) |exact zv3 rfl rfl rfl|((first|refine qjf rfl rfl ?_ |refine zra rfl rfl rfl ?_ |refine zv4 rfl rfl rfl ?_ |refine qlv rfl rfl rfl ?_ |refine qlt rfl rfl rfl ?_ |refine qlu rfl rfl rfl ?_ |refine v_sFT rfl rfl rfl rfl ?_ |refine qlp rfl rfl rfl rfl ?_ |refine qlo rfl rfl rfl ?_ |refine qln rfl rfl rfl ?_);first|omega|assumption) |exact qls rfl rfl cQ|exact qlr rfl rfl cQ|exact v_pickB rfl rfl rfl)) |refine qez [8] rfl rfl rfl kQ (fun _ h=>h) ?_ |refine d_T [8] rfl rfl rfl rfl cQ ?_ |refine d_F [8] rfl rfl rfl rfl cQ ?_)
  simp only[hpe]
  refine d_v [] rfl rfl kQ (fun _ h=>h) rfl rfl (qr0 rfl rfl (qqk _ hx2) hp) ?_
  (repeat refine d_ ?_)
  refine zet ⟨kQ,kQ⟩ rfl rfl (zai rfl rfl rfl rfl rfl rfl (by rw[hs'];omega)) fun _=>?_
  refine goA ?_
  rw[Array.setIfInBounds_setIfInBounds]
  refine l_w rfl ((zcw rfl (by rw[hs'];rfl) (.head _))) ?_
  refine za1 rfl (zah (zcg _ _ _) (zaf rfl rfl rfl (by rw[hs'];rfl) (h1' _) (hs' _))) fun _=>?_
  refine goA ?_
  exact zdk rfl ⟨_,rfl,zaq (by rw[hs'];rfl) (.head _)⟩ (by rw[h];rfl)
 ·refine goA ?_
  refine l_w rfl ((zcw rfl (by rw[hs'];rfl) (.head _))) ?_
  refine za1 rfl (zah (zcg _ _ _) (zaf rfl rfl rfl (by rw[hs'];rfl) (h1' _) (hs' _))) fun _=>?_
  refine goA ?_
  exact zdk rfl ⟨_,rfl,zaq (by rw[hs'];rfl) (.head _)⟩ (by rw[h];rfl)
def qq9(n:Nat)(S:Nat→Bool):List Value:=.int .i64 n::(List.range 16).map (fun k=>.int .u64 (zrd S k))
def zif(n:Nat)(S:Nat→Bool):Array Value:=(qq9 n S).toArray
theorem za6(n:Nat)(S:Nat→Bool):(zif n S).size=17:=by simp[zif,qq9]
theorem zpy(n:Nat)(S:Nat→Bool):(zif n S)[0]? =some (.int .i64 n):=by simp[zif,qq9]
variable{k:Nat}
theorem zm0(n:Nat)(S:Nat→Bool)(hk:k<16):(zif n S)[1+k]? =some (.int .u64 (zrd S k)):=by
 simp only[zif,qq9,fB]
 rw[fT,fW,aO,eO hk]
 rfl
theorem zey(n:Nat)(S:Nat→Bool):zb7 (zif n S).toList=true:=by
 rw[zba]
 intro v hv
 simp only[zif,qq9,aL,aS]at hv
 rcases hv with rfl|⟨_,_,rfl⟩<;>rfl
theorem qkq(n:Nat)(S:Nat→Bool)(u:Bool)(hk:k<1024):(zif n S).setIfInBounds (1+k/64) (.int .u64 (qp2 (zrd S (k/64)) (k%64) u))=zif n (upd S k u):=by
 refine iA fun i=>?_
 rw[jV]
 have h16:k/64<16:=oQ
 have hw:qp2 (zrd S (k/64)) (k%64) u=zrd (upd S k u) (k/64):=by
  rw[qid _ _ _ _ oQ,show 64*(k/64)+k%64=k by omega]
 by_cases e:1+k/64=i
 ·subst e
  rw[if_pos rfl,if_pos (by rw[za6];omega),zm0 _ _ h16,hw]
 ·rw[if_neg e]
  by_cases h0:i=0
  ·subst h0;rw[zpy,zpy]
  ·by_cases h17:i<17
   ·obtain⟨q,rfl⟩:∃q,i=1+q:=⟨i - 1,oQ⟩
    rw[zm0 _ _ oQ,zm0 _ _ oQ,zr6 _ _ _ _ oQ]
   ·rw[dR (by rw[za6];omega),dR (by rw[za6];omega)]
theorem qg4:zif 0 (fun _=>false)= #[.int .i64 0,.int .u64 0,.int .u64 0,.int .u64 0,.int .u64 0,.int .u64 0,.int .u64 0,.int .u64 0,.int .u64 0,.int .u64 0,.int .u64 0,.int .u64 0,.int .u64 0,.int .u64 0,.int .u64 0,.int .u64 0,.int .u64 0]:=by rfl
def onB(n:Nat)(i:Int):Bool:=decide (0≤i)&&decide (i<n)
def qe5(n:Nat)(S:Nat→Bool)(i:Int)(u:Bool):Nat→Bool:=bif onB n i then upd S i.toNat u else S
theorem zm2(n:Nat)(S:Nat→Bool)(i:Int)(u:Bool)(hn:n≤1024)(w:World):
  Pu Tryz.prog 124 #[.agg (zif n S),.int .i64 i,.bool u] w (.agg (zif n (qe5 n S i u))):=by
 by_cases h:onB n i=true
 ·have h':=h
  simp only[onB,bH,decide_eq_true_eq]at h'
  obtain⟨k,rfl⟩:=iX h'.1
  have:=qrj (zif n S) n k u w (zpy n S) (za6 n S) (zey n S) oQ hn (zrd S (k/64)) (zm0 n S oQ) (qa4 S _)
  rw[qkq n S u oQ]at this
  simp only[qe5,h,cond_true,cB]
  exact this
 ·have h:onB n i=false:=by simpa using h
  have:=qo0 (zif n S) n i u w (zpy n S) (za6 n S) (zey n S) h
  simp only[qe5,h,cond_false]
  exact this
theorem qg6(n:Nat)(h:1≤n)(h':n≤1024)(w:World):Pu Tryz.prog 122 #[.int .i64 n] w (.tuple #[.agg (zif n (fun _=>false)),.int .i64 0]):=by
 refine zbn [_] Tryz.func122 rfl rfl ?_
 simp only[zaa]
 refine goA ?_
 refine zam rfl rfl fun b hb=>?_
 refine goA ?_
 refine za1 rfl (zaf rfl rfl rfl rfl rfl rfl) fun _=>?_
 refine goA ?_
 exact zie rfl ⟨_,rfl,zaq rfl (.head _)⟩ rfl rfl
theorem qjp(S:Nat→Bool)(k:Nat):Value.bool (((zrd S (k/64)/2^(k%64)%2:Nat):Int)==1)= .bool (S k):=by
 have h:=zj4 S (k/64) (k%64) oQ
 rw[show 64*(k/64)+k%64=k by omega,jG]at h
 rw[←h]
 congr 1
 rw[eA]
 simp only[beq_iff_eq,decide_eq_true_eq]
 generalize zrd S (k/64)/2^(k%64)=q
 omega
theorem qn7(n:Nat)(S:Nat→Bool)(i:Int)(h:onB n i=false)(w:World):Pu Tryz.prog 150 #[.agg (zif n S),.int .i64 i] w (.bool true):=by
 refine zbn [_,_] Tryz.func150 rfl rfl ?_
 simp only[zaa,Nat.reduceAdd]
 refine goA ?_
 refine zbp rfl rfl fun b hb=>?_
 refine goA ?_
 refine lPu rfl (fun w _=>zx4 _ n i w (zpy n S)) ?_
 refine zd2 7 _ (.bool false) rfl (congrArg Value.bool h) ?_
 refine goA ?_
 exact zdk rfl rfl rfl
theorem qmg(n:Nat)(S:Nat→Bool)(k:Nat)(h:k<n)(hn:n≤1024)(w:World):Pu Tryz.prog 150 #[.agg (zif n S),.int .i64 k] w (.bool (S k)):=by
 refine zbn [_,_] Tryz.func150 rfl rfl ?_
 simp only[zaa,Nat.reduceAdd]
 refine goA ?_
 refine zbp rfl rfl fun b hb=>?_
 refine goA ?_
 refine lPu rfl (fun w _=>zx4 _ n k w (zpy n S)) ?_
 refine zd2 7 _ (.bool true) rfl (by simp;omega) ?_
 have hk:k/64<16:=oQ
 refine goA ?_
 refine l_w rfl ((zc5 rfl rfl (.head _) (zm0 n S hk))) ?_
 refine goA ?_
 refine l_w rfl (qir rfl rfl) ?_
 refine goA ?_
 refine zdk rfl rfl ?_
 rw[qjp S k]
def qn6(n:Nat)(S:Nat→Bool)(i:Int):Bool:= !onB n i||S i.toNat
theorem zsu(n:Nat)(S:Nat→Bool)(i:Int)(hn:n≤1024)(w:World):Pu Tryz.prog 150 #[.agg (zif n S),.int .i64 i] w (.bool (qn6 n S i)):=by
 by_cases h:onB n i=true
 ·have h':=h
  simp only[onB,bH,decide_eq_true_eq]at h'
  obtain⟨k,rfl⟩:=iX h'.1
  have:=qmg n S k oQ hn w
  simp only[qn6,h,jO,gS,cB]
  exact this
 ·have h:onB n i=false:=by simpa using h
  have:=qn7 n S i h w
  simp only[qn6,h,kE,Bool.true_or]
  exact this
theorem qh9(f:Nat→Bool)(w:World):Pu Tryz.prog 151 #[.int .u64 (num f 64)] w (.int .i64 (cnt f 64)):=by
 obtain⟨b0,b1,b2,b3,b4,b5,b6,b7⟩:=qjw f
 have hp:=quz f
 unfold pop at hp
 generalize hx0:num f 64=x0 at*
 refine zbn [_] Tryz.func151 rfl rfl ?_
 simp only[zaa]
 refine zr5 (zkr ?_)
 (repeat (apply l_w rfl;focus (first|exact zi4 rfl|exact zgm rfl|exact qlw rfl rfl dQ|exact zko rfl rfl aQ|exact zrk rfl rfl aQ)))
 refine zu3 (zka (zr5 (zkr ?_)))
 have c0:=qn8 1 b0
 have d0:(x0/2^1&&& 6148914691236517205)+(x0&&& 6148914691236517205)<18446744073709551616:=b1
 (repeat (apply l_w rfl;focus (first|exact zi4 rfl|exact zgm rfl|exact qlw rfl rfl dQ|exact zko rfl rfl aQ|exact zrk rfl rfl aQ)))
 refine zd2 0 _ (.int .u64 (qji x0)) rfl rfl ?_
 generalize qji x0=x1 at*
 refine zu3 (zka (zr5 (zkr ?_)))
 have c1:=qn8 2 b1
 have d1:(x1/2^2&&& 3689348814741910323)+(x1&&& 3689348814741910323)<18446744073709551616:=b2
 (repeat (apply l_w rfl;focus (first|exact zi4 rfl|exact zgm rfl|exact qlw rfl rfl dQ|exact zko rfl rfl aQ|exact zrk rfl rfl aQ)))
 refine zd2 0 _ (.int .u64 (qj8 x1)) rfl rfl ?_
 generalize qj8 x1=x2 at*
 refine zu3 (zka (zr5 (zkr ?_)))
 have d2:x2/2^4+x2<18446744073709551616:=b3
 (repeat (apply l_w rfl;focus (first|exact zi4 rfl|exact zgm rfl|exact qlw rfl rfl dQ|exact zko rfl rfl aQ|exact zrk rfl rfl aQ)))
 refine zd2 0 _ (.int .u64 (qub x2)) rfl rfl ?_
 generalize qub x2=x3 at*
 refine zu3 (zka (zr5 (zkr ?_)))
 have d3:x3+x3/2^8<18446744073709551616:=b5
 (repeat (apply l_w rfl;focus (first|exact zi4 rfl|exact zgm rfl|exact qlw rfl rfl dQ|exact zko rfl rfl aQ|exact zrk rfl rfl aQ)))
 refine zd2 0 _ (.int .u64 (qul x3)) rfl rfl ?_
 generalize qul x3=x4 at*
 refine zu3 (zka (zr5 (zkr ?_)))
 have d4:x4+x4/2^16<18446744073709551616:=b6
 (repeat (apply l_w rfl;focus (first|exact zi4 rfl|exact zgm rfl|exact qlw rfl rfl dQ|exact zko rfl rfl aQ|exact zrk rfl rfl aQ)))
 refine zd2 0 _ (.int .u64 (quy x4)) rfl rfl ?_
 generalize quy x4=x5 at*
 refine zu3 (zka (zr5 (zkr ?_)))
 have d5:x5+x5/2^32<18446744073709551616:=b7
 (repeat (apply l_w rfl;focus (first|exact zi4 rfl|exact zgm rfl|exact qlw rfl rfl dQ|exact zko rfl rfl aQ|exact zrk rfl rfl aQ)))
 refine zd2 0 _ (.int .u64 (qu5 x5)) rfl rfl ?_
 generalize qu5 x5=x6 at*
 refine zu3 (zka (zr5 (zkr ?_)))
 refine l_w rfl ((zi4 rfl)) ?_
 refine l_w rfl ((ov fun _ _ _ _ _=>rfl)) ?_
 refine l_w rfl ((zwf (ov fun _ _ _ _ _=>rfl) (congrArg (Value.int .i64) (qdf x6 7 dQ)))) ?_
 refine goA ?_
 exact zdk rfl rfl (by rw[←hp])
def qi2(n:Nat)(S:Nat→Bool):Array Value:=(zif n S).extract 1 17
theorem qi3(n:Nat)(S:Nat→Bool)(hk:k<16):(qi2 n S)[k]? =some (.int .u64 (zrd S k)):=by
 unfold qi2
 rw[Array.getElem?_extract,if_pos (by rw[za6];omega),zm0 n S hk]
theorem qed(n:Nat)(S:Nat→Bool)(w:World):Pu Tryz.prog 101 #[.agg (zif n S)] w (.int .i64 (cnt S 1024)):=by
 refine zbn [_] Tryz.func101 rfl rfl ?_
 simp only[zaa]
 refine goA ?_
 refine zbp rfl rfl fun b hb=>?_
 refine goA ?_
 refine l_w rfl ((qiv (n:=16) rfl rfl (.head _) (by rw[za6];omega))) ?_
 refine goA ?_
 refine zc0 (α:=Nat) (fun k=>[(8,.int .i64 k),(3,.int .i64 (cnt S (64*k))),(7,.agg (qi2 n S))]) (fun k=>k≤16) (fun _=>[]) (fun k=>16 - k) 0 ⟨rfl,rfl,rfl,trivial⟩ dQ Hp.none fun k hk=>?_
 have hc:=qfo S (64*k)
 refine goA ?_
 refine zq2 _ rfl rfl (fun h=>?_) (fun h=>?_)
 ·have hk':k<16:=by simp at h;omega
  refine goA ?_
  refine l_w rfl ((qis rfl rfl rfl rfl rfl hk' (qi3 n S hk'))) ?_
  refine goA ?_
  refine lPu rfl (fun w _=>qh9 _ w) ?_
  have hc2:=qfo (fun i=>S (64*k+i)) 64
  refine goA ?_
  exact zaw (k+1) ⟨rfl,by rw[show 64*(k+1)=64*k+64 by omega,qm1];rfl,rfl,trivial⟩ oQ Hp.none oQ
 ·obtain rfl:k=16:=by simp at h;omega
  refine goA ?_
  exact zdk rfl rfl rfl
structure qbc (w:World):Prop where
 obj:w.heap[0]? =some (.cells (tab64.map fun n:Nat=>Value.int .u8 n).toArray 295 (0,0))
theorem qbc.at_{w:World}(h:qbc w)(j:Nat)(hj:j<64):w.cell? ⟨0,j,none⟩=some (.int .u8 (tab64.getD j 0:Nat)):=by
 have:=zbf h.obj j (.int .u8 (tab64.getD j 0:Nat)) (by
  rw[aO,aE,aB (show j<tab64.length from hj)];rfl)
 rwa[aH]at this
theorem qbc.keep{w0 w:World}{m:List Eng.Item}(h:qbc w0)(hw:Hp w0 none' m w):qbc w:=⟨(hw.fr.block _ (bR.1 h.obj).1 (fun h=>h)).trans h.obj⟩
theorem qlk(x t:Nat)(hx:x<18446744073709551616)(ht:x.testBit t=true)(hl:∀j,j<t→x.testBit j=false)(w:World)(hw:qbc w):Pu Tryz.prog 180 #[.int .u64 x] w (.int .i64 t):=by
 have h0:0<x:=by
  rcases fE x with h|h
  ·subst h;simp at ht
  ·exact h
 have ht64:t<64:=by
  rcases gQ t 64 with h|h
  ·exact h
  ·have:x.testBit t=false:=fM (aY hx (dK (n:=2) (i:=64) dQ h))
   rw[this]at ht;cases ht
 have hn:=qnj hx ht hl
 obtain⟨t1,t2⟩:=qrr t ht64
 refine zbn [_] Tryz.func180 rfl rfl ?_
 simp only[zaa]
 refine goA ?_
 refine l_w rfl ((qpk rfl h0 hx)) ?_
 refine l_w rfl ((qpd rfl rfl hx)) ?_
 refine zd2 8 _ (.int .u64 (2^t:Nat)) rfl (by rw[hn]) ?_
 refine l_w rfl ((qpj rfl rfl)) ?_
 refine l_w rfl ((qlw rfl rfl dQ)) ?_
 refine zd2 10 _ (.int .u64 (qcx t:Nat)) rfl rfl ?_
 refine l_w rfl ((qiu rfl rfl rfl t1)) ?_
 refine l_w rfl ((za0 (v:=.int .u8 t) rfl rfl fun w' hw'=>?_)) ?_
 ·have:=(hw.keep hw').at_ (qcx t) t1
  rw[t2]at this
  simpa using this
 refine goA ?_
 exact zdk rfl rfl rfl
theorem qpc(w:World):Pu Tryz.prog 180 #[.int .u64 0] w (.int .i64 64):=by
 refine zbn [_] Tryz.func180 rfl rfl ?_
 simp only[zaa]
 refine goA ?_
 exact zdk rfl rfl rfl
theorem qdy(n:Nat)(S:Nat→Bool)(a:Nat)(hn:n≤1024)(ha:a<n)(hS:S a=false)(hl:∀j,j<a→S j=true)(w:World)(hw:qbc w):
  Pu Tryz.prog 129 #[.agg (zif n S)] w (.tuple #[.int .i64 a,.bool true]):=by
 refine zbn [_] Tryz.func129 rfl rfl ?_
 simp only[zaa]
 refine goA ?_
 refine zbp rfl rfl fun b hb=>?_
 refine goA ?_
 refine l_w rfl ((qiv (n:=16) rfl rfl (.head _) (by rw[za6];omega))) ?_
 refine goA ?_
 refine zc0 (α:=Nat) (fun k=>[(1,.pointer (some ⟨b,0,none⟩)),(9,.int .i64 k),(8,.agg (qi2 n S))]) (fun k=>k≤a/64) (fun _=>[pt b (.cells (zif n S) 179 (0,0))]) (fun k=>16 - k) 0 ⟨rfl,rfl,rfl,trivial⟩ (aZ _) (fun _ h=>h) fun k hk=>?_
 refine goA ?_
 have hk':k<16:=oQ
 have hwl:=qa4 S k
 refine goA ?_
 refine l_w rfl ((qis rfl rfl rfl rfl rfl hk' (qi3 n S hk'))) ?_
 refine goA ?_
 refine l_w rfl (qpl rfl hwl) ?_
 refine goA ?_
 by_cases hka:k=a/64
 ·have htz:=qlk (18446744073709551615^^^zrd S k) (a%64) (kL (n:=64) dQ hwl) (by rw[qb3 S k _ oQ,show 64*k+a%64=a by omega,hS];rfl) (fun j hj=>by rw[qb3 S k _ oQ,hl _ oQ];rfl)
  have hnf:zrd S k≠18446744073709551615:=zyx (j:=a%64) oQ (by rw[show 64*k+a%64=a by omega,hS])
  refine lPu rfl (fun w' hw'=>htz w' (hw.keep hw')) ?_
  refine l_w rfl ((qs4 rfl rfl oQ)) ?_
  refine zd2 18 _ (.int .i64 a) rfl (by rw[show k*64+a%64=a by omega]) ?_
  refine goA ?_
  refine zd2 21 _ (.bool true) rfl (by congr 1) ?_
  refine goA ?_
  refine lPu rfl (fun w' _=>zx4 _ n a w' (zpy n S)) ?_
  refine zd2 24 _ (.bool true) rfl (by simp;omega) ?_
  refine goA ?_
  exact zie rfl rfl rfl rfl
 ·have hf:=qi1 (S:=S) (k:=k) (fun j hj=>hl _ oQ)
  rw[hf]
  refine lPu rfl (fun w' hw'=>qpc w') ?_
  refine goA ?_
  exact zaw (k+1) ⟨rfl,rfl,rfl,trivial⟩ oQ (fun _ h=>h) oQ
def zhc(S:Nat→Bool)(k:Nat):Array Value:=((List.range 512).map fun j=>Value.int .u8 (byte (zd3 S k) j:Nat)).toArray
theorem zg2(S:Nat→Bool)(k:Nat):(zhc S k).size=512:=by simp[zhc]
theorem zhx(S:Nat→Bool)(k:Nat){j:Nat}(hj:j<512):(zhc S k)[j]? =some (.int .u8 (byte (zd3 S k) j:Nat)):=by
 simp only[zhc,fB]
 rw[aO,eO hj];rfl
theorem zze(S:Nat→Bool):zhc S 0=Array.replicate 512 (.int .u8 0):=by
 refine iA fun j=>?_
 by_cases hj:j<512
 ·rw[zhx S 0 hj]
  have:byte (zd3 S 0) j=0:=by
   refine eU fun i=>?_
   unfold byte;rw[zc4];simp[zd3]
  rw[this];simp[hj]
 ·rw[dR (by rw[zg2];omega),dR (by simp;omega)]
theorem qff(S:Nat→Bool)(k:Nat)(h:S k=false):zhc S (k+1)=zhc S k:=by
 exact congrArg List.toArray (cT fun j _=>by rw[zwp S k j (.inr h)])
theorem qc6(S:Nat→Bool)(k:Nat)(hk:k<4096)(h:S k=true):(zhc S k).setIfInBounds (k/8) (.int .u8 (byte (zd3 S k) (k/8)|||2^(k%8):Nat))=zhc S (k+1):=by
 refine iA fun j=>?_
 rw[jV]
 by_cases e:k/8=j
 ·subst e
  rw[if_pos rfl,if_pos (by rw[zg2];omega),zhx _ _ oQ,qnl S k h]
 ·rw[if_neg e]
  by_cases hj:j<512
  ·rw[zhx _ _ hj,zhx _ _ hj,zwp S k j (.inl (Ne.symm e))]
  ·rw[dR (by rw[zg2];omega),dR (by rw[zg2];omega)]
theorem zn1(n:Nat)(S:Nat→Bool)(hn:n≤1024)(w:World):
  Ct Tryz.prog 125 #[.agg (zif n S)] w none' (α:=Nat) (fun c=>.slice (some ⟨c,0,none⟩) 512 512) (fun _=>True) (fun c=>[pt c (.cells (zhc S n) 5 (0,0))]):=by
 refine zes [_] Tryz.func125 rfl rfl ?_
 simp only[zaa]
 refine goA ?_
 refine zbp rfl rfl fun b hb=>?_
 refine goA ?_
 refine qmj rfl rfl rfl rfl rfl rfl dQ dQ fun c hc=>?_
 refine goA ?_
 refine zc0 (α:=Nat) (fun k=>[(1,.pointer (some ⟨b,0,none⟩)),(7,.int .i64 n),(8,.int .i64 k),(3,.slice (some ⟨c,0,none⟩) 512 512)]) (fun k=>k≤n) (fun k=>[pt c (.cells (zhc S k) 5 (0,0)),pt b (.cells (zif n S) 179 (0,0))]) (fun k=>n - k) 0 ⟨rfl,rfl,rfl,rfl,trivial⟩ (aZ _) (fun _ h=>by rw[zze];exact h) fun k hk=>?_
 refine goA ?_
 refine zq2 _ rfl rfl (fun h=>?_) (fun h=>?_)
 ·have hk':k<n:=by simp at h;omega
  refine goA ?_
  refine lPu rfl (fun w' _=>qmg n S k hk' hn w') ?_
  refine goA ?_
  refine zq2 _ rfl rfl (fun hS=>?_) (fun hS=>?_)
  ·refine goA ?_
   have hk8:k/8<512:=oQ
   have hb8:=qfl (zd3 S k) (k/8)
   have hp8:2^(k%8)<256:=jT (n:=8) dQ oQ
   have hpe:1*2^(k%8)%256=2^(k%8):=by rw[jR,bD hp8]
   refine qct 10 kQ (fun _ h=>h.drew) ?_
   (repeat refine d_ ?_)
   refine d_v [] rfl rfl kQ (fun _ h=>h) rfl rfl (zc5 rfl rfl (.head _) (by rw[aH];exact zhx S k hk8)) ?_
   (repeat first|(apply d_w [8] rfl rfl rfl kQ (fun _ h=>h);focus (first|exact zi4 rfl|exact zgm rfl|exact qit rfl rfl|exact ze2 rfl rfl|exact zea rfl rfl|exact zhv rfl rfl|exact zmm rfl rfl|exact zgn rfl rfl|exact qlq rfl|exact zgo rfl rfl (by repeat first|exact .head _|apply List.Mem.tail) |exact zc5 rfl rfl (by repeat first|exact .head _|apply List.Mem.tail) rfl|exact zcw rfl rfl (by repeat first|exact .head _|apply List.Mem.tail) |exact zv3 rfl rfl rfl|((first|refine qjf rfl rfl ?_ |refine zra rfl rfl rfl ?_ |refine zv4 rfl rfl rfl ?_ |refine qlv rfl rfl rfl ?_ |refine qlt rfl rfl rfl ?_ |refine qlu rfl rfl rfl ?_ |refine v_sFT rfl rfl rfl rfl ?_ |refine qlp rfl rfl rfl rfl ?_ |refine qlo rfl rfl rfl ?_ |refine qln rfl rfl rfl ?_);first|omega|assumption) |exact qls rfl rfl cQ|exact qlr rfl rfl cQ|exact v_pickB rfl rfl rfl)) |refine qez [8] rfl rfl rfl kQ (fun _ h=>h) ?_ |refine d_T [8] rfl rfl rfl rfl cQ ?_ |refine d_F [8] rfl rfl rfl rfl cQ ?_)
   simp only[hpe]
   refine d_v [] rfl rfl kQ (fun _ h=>h) rfl rfl (qs9 rfl rfl hb8 hp8) ?_
   (repeat refine d_ ?_)
   refine zet ⟨kQ,kQ⟩ rfl rfl (zai rfl rfl rfl rfl rfl rfl (by rw[zg2];omega)) fun _=>?_
   refine goA ?_
   exact zaw (k+1) ⟨rfl,rfl,rfl,rfl,trivial⟩ oQ (fun _ h=>by rw[aH,qc6 S k oQ hS]at h;exact h) oQ
  ·refine goA ?_
   exact zaw (k+1) ⟨rfl,rfl,rfl,rfl,trivial⟩ oQ (fun _ h=>by rw[qff S k hS];exact h) oQ
 ·obtain rfl:k=n:=by simp at h;omega
  refine goA ?_
  refine zbd c rfl rfl rfl trivial sQ (fun it hm=>?_)
  obtain rfl:it=pt c (.cells (zhc S k) 5 (0,0)):=by simpa using hm
  exact zab _ _ _
abbrev noS:Nat→Bool:=fun _=>false
def zhd(bs:Nat→Nat):Nat→Bool:=fun i=>(bs (i/8)).testBit (i%8)
theorem qfi(bs:Nat→Nat){i:Nat}(hk:k<8):((((bs i)/2^k%2:Nat):Int)==0)= !zhd bs (8*i+k):=by
 unfold zhd
 rw[show(8*i+k)/8=i by omega,show(8*i+k)%8=k by omega,jG,eA]
 generalize bs i/2^k=q
 simp
 omega
theorem qiq(f:Nat→Bool)(k:Nat)(h:f k=true):upd (zd3 f k) k true=zd3 f (k+1):=funext fun j=>by
 unfold upd zd3
 by_cases e:j=k
 ·subst e;simp[h]
 ·by_cases h2:j<k
  ·simp[e,h2,eQ h2]
  ·simp only[if_neg e,h2,decide_false,eH,show¬j<k+1 by omega]
theorem qlj(f:Nat→Bool)(k:Nat)(h:f k=false):zd3 f k=zd3 f (k+1):=funext fun j=>by
 unfold zd3
 by_cases e:j=k
 ·subst e;simp[h]
 ·by_cases h2:j<k
  ·simp[h2,eQ h2]
  ·simp only[h2,decide_false,eH,show¬j<k+1 by omega]
theorem qeu(f:Nat→Bool):zd3 f 0=fun _=>false:=funext fun j=>by simp[zd3]
theorem qku(ba off cap:Nat)(bs:Nat→Nat)(n:Nat)(h1:1≤n)(h2:n≤1024)(w:World)(hbs:∀i,i<512→w.cell? ⟨ba,off+i,none⟩=some (.int .u8 (bs i:Nat)))(hf:∀j,j<4096→zhd bs j=true→j<n):
  Pu Tryz.prog 149 #[.slice (some ⟨ba,off,none⟩) 512 cap,.int .i64 n] w (.tuple #[.agg (zif n (zd3 (zhd bs) 4096)),.int .i64 0]):=by
 refine zbn [_,_] Tryz.func149 rfl rfl ?_
 simp only[zaa,Nat.reduceAdd]
 refine goA ?_
 refine zam rfl rfl fun b hb=>?_
 refine goA ?_
 refine lPu rfl (fun w' _=>qg6 n h1 h2 w') ?_
 refine goA ?_
 refine zam rfl rfl fun b2 hb2=>?_
 refine za1 rfl (zaf rfl rfl rfl (by rw[za6];rfl) (zey _ _) (by rw[za6];rfl)) fun _=>?_
 refine goA ?_
 refine zc0 (α:=Nat) (fun i=>[(1,.int .i64 n),(4,.pointer (some ⟨b,0,none⟩)),(6,.pointer (some ⟨b2,0,none⟩)),(25,.slice (some ⟨ba,off,none⟩) 512 cap),(26,.int .i64 512),(27,.int .i64 i)]) (fun i=>i≤512) (fun i=>[pt b2 (.cells (zif n (zd3 (zhd bs) (8*i))) 179 (0,0)),pt b (.cells (zif 0 noS) 179 (0,0))]) (fun i=>512 - i) 0 ⟨rfl,rfl,rfl,rfl,rfl,rfl,trivial⟩ (aZ _) (fun _ h=>by rw[Nat.mul_zero,qeu,qg4];exact h) fun i hi=>?_
 refine goA ?_
 refine zq2 _ rfl rfl (fun h=>?_) (fun h=>?_)
 ·have hi':i<512:=by simp at h;omega
  refine goA ?_
  refine l_w rfl ((ze3 rfl rfl (fun h=>h) (hbs i hi'))) ?_
  refine goA ?_
  refine zc0 (α:=Nat) (fun k=>[(1,.int .i64 n),(4,.pointer (some ⟨b,0,none⟩)),(6,.pointer (some ⟨b2,0,none⟩)),(25,.slice (some ⟨ba,off,none⟩) 512 cap),(26,.int .i64 512),(27,.int .i64 i),(8,.int .i64 i),(9,.int .u8 (bs i:Nat)),(32,.int .i64 k)]) (fun k=>k≤8) (fun k=>[pt b2 (.cells (zif n (zd3 (zhd bs) (8*i+k))) 179 (0,0)),pt b (.cells (zif 0 noS) 179 (0,0))]) (fun k=>8 - k) 0 ⟨rfl,rfl,rfl,rfl,rfl,rfl,rfl,rfl,rfl,trivial⟩ (aZ _) (fun _ h=>by rw[fU];exact h) fun k hk=>?_
  refine goA ?_
  refine zq2 _ rfl rfl (fun h=>?_) (fun h=>?_)
  ·have hk':k<8:=by simp at h;omega
   refine goA ?_
   refine l_w rfl (qll rfl rfl) ?_
   refine goA ?_
   refine zq2 _ rfl rfl (fun h=>?_) (fun h=>?_)
   ·have hb0:zhd bs (8*i+k)=false:=by
     have:=qfi bs (i:=i) hk'
     rw[show(((bs i/2^k%2:Nat):Int)==0)=true from h]at this
     simpa using this.symm
    refine goA ?_
    exact zaw (k+1) ⟨rfl,rfl,rfl,rfl,rfl,rfl,rfl,rfl,rfl,trivial⟩ oQ (fun _ h=>by rw[←eV,←qlj _ _ hb0];exact h) oQ
   ·have hb1:zhd bs (8*i+k)=true:=by
     have:=qfi bs (i:=i) hk'
     rw[show(((bs i/2^k%2:Nat):Int)==0)=false from h]at this
     simpa using this.symm
    have hlt:=hf (8*i+k) oQ hb1
    refine goA ?_
    refine lPu rfl (fun w' _=>zm2 n _ _ true h2 w') ?_
    have hset:qe5 n (zd3 (zhd bs) (8*i+k)) ((8*i+k:Nat):Int) true=zd3 (zhd bs) (8*i+k+1):=by
     unfold qe5 onB
     rw[decide_eq_true (show(0:Int)≤((8*i+k:Nat):Int) by omega),decide_eq_true (show((8*i+k:Nat):Int)<(n:Int) by omega)]
     simp only[Bool.and_self,cond_true,cB]
     exact qiq _ _ hb1
    rw[hset]
    refine za1 rfl (zaf rfl rfl rfl (by rw[za6];rfl) (zey _ _) (by rw[za6,za6])) fun _=>?_
    refine goA ?_
    exact zaw (k+1) ⟨rfl,rfl,rfl,rfl,rfl,rfl,rfl,rfl,rfl,trivial⟩ oQ (fun _ h=>h) oQ
  ·obtain rfl:k=8:=by simp at h;omega
   refine goA ?_
   exact zaw (i+1) ⟨rfl,rfl,rfl,rfl,rfl,rfl,trivial⟩ oQ (fun _ h=>h) oQ
 ·obtain rfl:i=512:=by simp at h;omega
  refine goA ?_
  refine za1 rfl (zah (zcg _ _ _) (zaf rfl rfl rfl (by rw[za6];rfl) (zey _ _) (by rw[za6,za6]))) fun _=>?_
  refine goA ?_
  exact zie rfl ⟨_,rfl,zaq (by rw[za6];rfl) (.head _)⟩ rfl rfl
end Go.Proofs.YthafakdplhdfjaaGreatDoor
namespace Go.Proofs.YthafakdplhdfjaaGreatDoor
open Go.RowKit Go.Eng
def kyI(x:Nat)(b:Nat)(A:zcs):List Eng.Item:=[pt x (.cells #[.map (some b)] 165 (0,0)),zck .i64 b A]
theorem zki(x b:Nat)(A:zcs):∀it∈kyI x b A,it.Stable none':=by simp[kyI,zab,zax]
def zjv(A:zcs):List Nat:=A.map (·.1)
theorem zld{b:Nat}{q:IntKind}{A:zcs}{w:World}(h:(zck q b A).prop w):(zjv A).Nodup:=by
 obtain⟨es,clk, -,R⟩:=h
 exact R.nodup
theorem zm8{A:zcs}{k:List Nat}{L:zcs}(hL:L=A.filter fun x=>decide (x.1∉k))(p:Nat×Value):qca L p=A.filter fun x=>decide (x.1∉k++[p.1]):=by
 subst hL
 unfold qca
 rw[kG]
 refine kN fun x _=>?_
 by_cases h1:x.1=p.1<;>by_cases h2:x.1∈k<;>simp[h1,h2]
abbrev kyE(A:zcs):List Nat→Nat→Prop:=fun k x=>(k++[x]).Nodup∧∀y∈k++[x],y∈zjv A
abbrev kyS(A:zcs):List Nat→Prop:=fun k=>k.Perm (zjv A)
theorem qgu(x b:Nat)(A:zcs):zwg Tryz.prog 208 [.pointer (some ⟨x,0,none⟩)] (kyI x b A) [zck .i64 b A] (kyE A) (kyS A) (fun n=>[.int .i64 (n:Int)]):=by
 simp only[kyI]
 refine qbv [_] _ _ _ _ _ Tryz.func208 rfl rfl ?_
 intro σ ly Y I J s0 w hst h0 hy
 simp only[zaa]
 refine zhm (fun w hw=>zld (hw.item (zck .i64 b A) sQ).1) fun hnd=>?_
 refine goA ?_
 refine zay [2,0,1] rfl rfl ?_
 refine za1 rfl (zov rfl rfl rfl) fun⟨r,hr⟩=>?_
 refine goA ?_
 refine zc0 (α:=zcs×List Nat×Option (Nat×Value)×σ) (fun y=>[(0,.func (.yield ly) #[] #[]),(1,.pointer (some ⟨x,0,none⟩)),(5,.pointer (some ⟨r,0,none⟩))]) (fun y=>y.1=A.filter (fun x=>decide (x.1∉y.2.1))∧y.2.1.Nodup∧(∀z∈y.2.1,z∈zjv A)∧I y.2.1 y.2.2.2) (fun y=>[itN .i64 r b A y.1 y.2.2.1,Y y.2.2.2]) (fun y=>y.1.length) (A,[],none,s0) ⟨rfl,rfl,rfl,trivial⟩ ⟨by show A=A.filter (fun x=>decide (x.1∉([]:List Nat)));exact(cY.2 fun _ _=>by simp).symm,eT,⟨(fun _ (h:_∈([]:List Nat))=>nomatch h),h0⟩⟩ (fun w h=>h.sub (.cons_cons _ (.cons_cons _ (aK _)))) fun⟨L,k,c,st⟩ ⟨hL,hk,hkA,hI⟩=>?_
 simp only at hL hk hkA hI⊢
 refine goA ?_
 refine za1 rfl (zvh rfl rfl) fun⟨y,hyy⟩=>?_
 cases y with
 |none=>
  simp only at hyy⊢
  refine goA ?_
  subst hyy
  have hS:kyS A k:=by
   refine(kI hk hnd).2 fun z=>⟨hkA z,fun hz=>?_⟩
   obtain⟨p,hp,rfl⟩:=aS.1 hz
   by_cases h:p.1∈k
   ·exact h
   ·have:p∈A.filter (fun x=>decide (x.1∉k)):=dP.2 ⟨hp,by simpa using h⟩
    rw[←hL]at this
    exact nomatch this
  refine zbr (m':=[Y st,zck .i64 b A]) (fun w' hw'=>(zpu hw').pick [1,0] rfl rfl) (qc5 st rfl (.inl ⟨k,hS,hI⟩) ?_ (.refl _))
  intro it hm
  rcases hm with _|⟨_,_|⟨_,hm⟩⟩
  ·exact hst st
  ·exact zax _ _ _ _
  ·exact nomatch hm
 |some p=>
  simp only at hyy⊢
  have hpk:p.1∉k∧p∈A:=by
   rw[hL]at hyy
   obtain⟨h1,h2⟩:=dP.1 hyy
   exact⟨by simpa using h2,h1⟩
  have hE:kyE A k p.1:=by
   refine⟨?_,fun z hz=>?_⟩
   ·rw[cN]
    refine⟨hk,by simp,fun a ha b hb=>?_⟩
    rw[aN]at hb
    subst hb
    exact fun e=>hpk.1 (e▸ha)
   ·rcases aR.1 hz with hz|hz
    ·exact hkA z hz
    ·rw[aN]at hz
     subst hz
     exact aS.2 ⟨p,hpk.2,rfl⟩
  have hlt:=zow hyy
  have hof:=zm8 hL p
  refine goA ?_
  refine l_w rfl (zo6 rfl (.head _)) ?_
  refine goA ?_
  refine zay [1,0] rfl rfl ?_
  refine zz8 rfl rfl rfl rfl (hst st) (hy k p.1 st hE hI) fun bb s' hR=>?_
  rcases hR with ⟨rfl,h8⟩ |⟨rfl,h8⟩
  ·refine goA ?_
   exact zaw (qca L p,k++[p.1],some p,s') ⟨rfl,rfl,rfl,trivial⟩ ⟨hof,hE.1,hE.2,h8⟩ (fun w hw=>hw.pick [1,0] rfl rfl) hlt
  ·refine goA ?_
   refine zbr (m':=[Y s',zck .i64 b A]) (fun w' hw'=>(zpu (hw'.pick [1,0] rfl rfl)).pick [1,0] rfl rfl) (qi8 s' rfl (.inr h8) ?_ (.refl _))
   intro it hm
   rcases hm with _|⟨_,_|⟨_,hm⟩⟩
   ·exact hst s'
   ·exact zax _ _ _ _
   ·exact nomatch hm
end Go.Proofs.YthafakdplhdfjaaGreatDoor
namespace Go.Proofs.YthafakdplhdfjaaGreatDoor
open Go.RowKit Go.Eng
def zeq(L:List Nat):List Value:=L.map fun n:Nat=>Value.int .i64 (n:Int)
def aiB(b:Nat)(y:Option (Nat×Nat)×List Nat):List Eng.Item:=[own 3 1 y.1 y.2.length (zeq y.2),pt b (.cells #[slV y.1 y.2.length] 183 (0,0))]
theorem zr8(b:Nat)(y:Option (Nat×Nat)×List Nat):∀it∈aiB b y,it.Stable none':=by simp[aiB,zab,zac]
variable{f:FuncId}{cs:List Value}{E:List Nat→Nat→Prop}{S:List Nat→Prop}
theorem zuv{mi mo:List Eng.Item}(hb:za7 Tryz.prog f=true)(hit:zwg Tryz.prog f cs mi mo E S (fun n=>[.int .i64 (n:Int)]))(hmi:∀it∈mi,it.Stable none')(hmo:∀it∈mo,it.Stable none')(hE:∀k x,E k x→k.length<1000000000):
  Cw Tryz.prog 231 #[.slice none 0 0,.func (.func f) #[] cs.toArray] mi (fun x:Option (Nat×Nat)×List Nat=>slV x.1 x.2.length) (fun x=>S x.2) (fun x=>own 3 1 x.1 x.2.length (zeq x.2)::mo):=by
 intro w hw ha
 refine qfr [_,_] mi Tryz.func231 rfl rfl hw ha ?_
 simp only[zaa]
 refine goA ?_
 refine zc9 rfl rfl rfl fun b2 _=>?_
 refine goA ?_
 refine qms 3 1 ?_
 refine ztn (m':=aiB b2 (none,[])++(mi++[])) (by rw[bC];exact .refl _) ?_
 refine qcv (m2:=[]) (aiB b2) (fun k y=>y.2=k) (fun _ _=>False) (none,[]) rfl rfl hb hit (fun _=>rfl) dQ (zr8 _) hmi rfl ?_ ?_ ?_
 ·rintro ly rc k x ⟨o,out⟩ W hx hk
  simp only at hk
  subst hk
  have hlen:=hE _ _ hx
  simp only[aiB,zn8,gG,iD]
  refine goA ?_
  refine qly ?_
  refine goA ?_
  refine za1 rfl (za3 rfl rfl rfl rfl rfl rfl) fun⟨bq,hbq⟩=>?_
  refine goA ?_
  refine za1 rfl (zah (zdf _ _ _ _) (zdh (news:=[.int .i64 (x:Int)]) rfl rfl rfl rfl rfl rfl rfl rfl oQ (fun w' hw' j v hj=>by rw[zde,aH];exact zby (hw'.item _ (.tail _ (.head _))).1 j v hj))) fun o'=>?_
  refine goA ?_
  refine zay [3,0,2] rfl rfl ?_
  refine za1 rfl (zai rfl rfl rfl rfl (ztj _ _) (qcr _ _) (show(0:Nat)<1 from dQ)) fun _=>?_
  refine zay [2,1,0] rfl rfl ?_
  refine goA ?_
  have e1:(out++[x]).length=out.length+1:=by simp
  have e2:zeq (out++[x])=zeq out++[.int .i64 (x:Int)]:=by simp[zeq]
  refine ztw .normal none rfl (o',out++[x]) rfl ?_ (zr8 b2 _)
  simp only[aiB,e1,e2]
  exact .refl _
 ·rintro D k ⟨o,out⟩ hS hk
  simp only at hk
  subst hk
  simp only[aiB,bC]
  refine goA ?_
  refine qi9 ?_
  exact zbd (o,out) rfl rfl rfl hS (.cons_cons _ (.cons _ (.refl _))) (by
   intro it hm
   rcases hm with _|⟨_,hm⟩
   ·exact zac _ _ _ _ _ _
   ·exact hmo it hm)
 ·rintro D c s h
  exact h.elim
theorem zru{mi mo:List Eng.Item}(hb:za7 Tryz.prog f=true)(hit:zwg Tryz.prog f cs mi mo E S (fun n=>[.int .i64 (n:Int)]))(hmi:∀it∈mi,it.Stable none')(hmo:∀it∈mo,it.Stable none')(hE:∀k x,E k x→k.length<1000000000):
  Cw Tryz.prog 206 #[.func (.func f) #[] cs.toArray] mi (fun x:Option (Nat×Nat)×List Nat=>slV x.1 x.2.length) (fun x=>S x.2) (fun x=>own 3 1 x.1 x.2.length (zeq x.2)::mo):=by
 intro w hw ha
 refine za2 [_] mi Tryz.func206 rfl rfl hw ha ?_
 simp only[zaa]
 refine goA ?_
 refine zgb (m':=mi++[]) (by rw[bC]) ?_
 refine zeh rfl (zfb (pre:=mi) (m:=[]) rfl kQ rfl hmi (fun w1 hw1 hh1 ha1=>zuv hb hit hmi hmo hE w1 hh1 ha1)) fun⟨⟨o,out⟩,hS⟩=>?_
 dsimp only at hS⊢
 refine zgb (m':=own 3 1 o out.length (zeq out)::mo) (by rw[bC]) ?_
 refine goA ?_
 exact zbd (o,out) rfl rfl rfl hS (.refl _) (by
   intro it hm
   rcases hm with _|⟨_,hm⟩
   ·exact zac _ _ _ _ _ _
   ·exact hmo it hm)
def kyV(x:Nat):Value:=.func (.func 208) #[] #[.pointer (some ⟨x,0,none⟩)]
theorem zsq(b:Nat)(w:World):Ct Tryz.prog 167 #[.map (some b)] w none' kyV (fun _=>True) (fun x=>[pt x (.cells #[.map (some b)] 165 (0,0))]):=by
 refine zes [_] Tryz.func167 rfl rfl ?_
 simp only[zaa]
 refine goA ?_
 refine zc9 rfl rfl rfl fun b1 _=>?_
 refine goA ?_
 refine l_w rfl (zhw rfl) ?_
 refine goA ?_
 exact zbd b1 rfl rfl rfl trivial (.refl _) (by simp[zab])
end Go.Proofs.YthafakdplhdfjaaGreatDoor
namespace Go.Eng
open Go.RowKit
variable{P:Program}{l:zav}{H:World→Prop}{ty:TypeId}{q:IntKind}{x y:Operand}{T k e:TypeId}{b:Nat}{A:zcs}{h:Nat}{zv:Value}
theorem zyw(hx:evO l x=some (.map (some b)))(hT:P.underlying T=some (.map k e))(hm:∀w,H w→(zck q b A).prop w):OV P (.call ⟨.builtin .len, #[x], #[T]⟩) ty l H (.int .i64 (A.length:Nat)):=ov fun _ _ _ w hw=>by
 obtain⟨es,clk,h1,h2⟩:=hm w hw
 have hlen:es.size=A.length:=by have:=congrArg List.length h2.rows;simpa using this
 have hg:(getObj b).run P w= .ok (.map es clk) w:=by simp[getObj,Sem.run,h1]
 simp[execOp,resolve,invoke,builtin,zar hx,Builtin.len_,run_underlying hT w,goInt,hg,hlen]
end Go.Eng
namespace Go.Proofs.YthafakdplhdfjaaGreatDoor
open Go.RowKit Go.Eng Go.Eng.Bm
abbrev PR:=List (Nat×Bys)
def pgV(s:Bys):Value:=.agg (zae s).toArray
def toP(A:PR):zcs:=A.map fun p=>(p.1,pgV p.2)
def toB(R:List Nat):zcs:=R.map fun n=>(n,.bool true)
structure Pg where
 b:Nat
 bl:Nat
 kb:Nat
 db:Nat
 cb:Nat
 g:Lg
 n:Nat
 note:Bys
 K:PR
 R:List Nat
 C:PR
 dead:Bool
abbrev pgA(s:Pg)(d:Dk):Array Value:= #[.pointer (some ⟨s.bl,0,none⟩),.pointer (some ⟨d.b,0,none⟩),.int .i64 (s.n:Int),.string ⟨s.note.toArray⟩,.map (some s.kb),.map (some s.db),.map (some s.cb),.bool s.dead]
abbrev pgC(s:Pg)(d:Dk):Eng.Item:=pt s.b (.cells (pgA s d) 168 (0,0))
def pgL(s:Pg)(d:Dk):List Eng.Item:=[pgC s d,lgI s.bl d s.g,zck .i64 s.kb (toP s.K),zck .i64 s.db (toB s.R),zck .i64 s.cb (toP s.C)]
def pgI(s:Pg)(d:Dk):Eng.Item:=zef (pgL s d)
theorem qea(s:Pg)(d:Dk):∀it∈pgL s d,it.Stable none':=by simp[pgL,zab,zax]
theorem zbv(s:Pg)(d:Dk):(pgI s d).Stable none':=zad _
variable{s:Pg}{d:Dk}{w:World}{F:Nat→Prop}{m:List Eng.Item}
theorem ze1{w0:World}(h:Hp w0 F (pgI s d::m) w):Hp w0 F (pgL s d++m) w:=Hp.open1 h
theorem zdm{w0:World}(h:Hp w0 F (pgL s d++m) w):Hp w0 F (pgI s d::m) w:=Hp.close1 (qea s d) h
theorem zvp(h:zbq (pgI s d) w){it:Eng.Item}(hm:it∈pgL s d):zbq it w:=h.1.1 it hm
theorem zkv(h:zbq (pgI s d) w)(i:Nat){v:Value}(hv:(pgA s d)[i]? =some v):w.cell? ⟨s.b,i,none⟩=some v:=
 zd4 (zvp h (it:=pgC s d) (.head _)).1 hv
theorem qhu(h:zbq (pgI s d) w):zbq (lgI s.bl d s.g) w:=zvp h (.tail _ (.head _))
theorem zfv(a b:Nat)(ha:a≤1000000)(hb:b≤1000000)(w:World):Pu Tryz.prog 123 #[.int .i64 a,.int .i64 b] w (.int .i64 (2+a+b:Nat)):=by
 refine zbn [_,_] Tryz.func123 rfl rfl ?_
 simp only[zaa,Nat.reduceAdd]
 refine goA ?_
 exact zdk rfl rfl rfl
theorem zxt(s:Pg)(d:Dk)(w:World)(h:zbq (pgI s d) w):Pu Tryz.prog 57 #[.pointer (some ⟨s.b,0,none⟩)] w (.string ⟨s.note.toArray⟩):=by
 refine zbn [_] Tryz.func57 rfl rfl ?_
 simp only[zaa]
 refine goA ?_
 refine l_w rfl (za0 rfl rfl (fun w' hw'=>zkv (h.keep hw') 3 rfl)) ?_
 refine goA ?_
 exact zdk rfl rfl rfl
theorem zl8(s:Pg)(d:Dk)(w:World)(h:zbq (pgI s d) w):Pu Tryz.prog 92 #[.pointer (some ⟨s.b,0,none⟩)] w (.int .i64 (s.n:Int)):=by
 refine zbn [_] Tryz.func92 rfl rfl ?_
 simp only[zaa]
 refine goA ?_
 refine l_w rfl (za0 rfl rfl (fun w' hw'=>zkv (h.keep hw') 2 rfl)) ?_
 refine goA ?_
 exact zdk rfl rfl rfl
theorem zr0(s:Pg)(d:Dk)(hn:s.n≤1024)(hs:s.g.h.secs<65536)(w:World)(h:zbq (pgI s d) w):Pu Tryz.prog 113 #[.pointer (some ⟨s.b,0,none⟩)] w (.int .i64 (2+s.g.h.secs+s.n:Nat)):=by
 refine zbn [_] Tryz.func113 rfl rfl ?_
 simp only[zaa]
 refine goA ?_
 refine zap [] 11 rfl rfl kQ ?_
 (repeat first|refine dAv [3,8] rfl rfl rfl ?_ |refine dno [3,8] rfl rfl rfl ?_ |refine dT [3,8] rfl rfl rfl rfl ?_ |refine dF [3,8] rfl rfl rfl rfl ?_)
 refine d_v [8] rfl rfl kQ (fun _ h=>goH h) rfl rfl (za0 rfl rfl (fun w' hw'=>zkv (h.keep hw') 0 rfl)) ?_
 (repeat first|refine dAv [8] rfl rfl rfl ?_ |refine dno [8] rfl rfl rfl ?_ |refine dT [8] rfl rfl rfl rfl ?_ |refine dF [8] rfl rfl rfl rfl ?_)
 refine d_v [4] rfl rfl kQ (fun _ h=>goH h) rfl rfl (za0 rfl rfl (fun w' hw'=>zkv (h.keep hw') 2 rfl)) ?_
 refine goE ?_
 refine zat 4 ⟨kQ,dQ⟩ rfl rfl (zfc rfl kQ rfl (fun w1 hw1=>zd6 s.bl d s.g w1 (qhu (h.keep hw1)))) (fun _ _ h=>goH h) fun _=>?_
 refine goE ?_
 refine zat 9 ⟨kQ,dQ⟩ rfl rfl (zfc rfl kQ rfl (fun w1 hw1=>zfv s.g.h.secs s.n oQ oQ w1)) (fun _ _ h=>goH h) fun _=>?_
 refine goX ?_
 exact zdk rfl rfl rfl
def qe3(s:Pg)(i:Int):Nat:=if i<0∨(s.n:Int)≤i then 2 else if s.dead then 4 else 0
theorem zp1(s:Pg)(d:Dk)(i:Int)(w:World)(h:zbq (pgI s d) w):Pu Tryz.prog 141 #[.pointer (some ⟨s.b,0,none⟩),.int .i64 i] w (.int .i64 (qe3 s i:Nat)):=by
 refine zbn [_,_] Tryz.func141 rfl rfl ?_
 simp only[zaa,Nat.reduceAdd]
 refine goA ?_
 unfold qe3
 by_cases h0:i<0
 ·refine goA ?_
  exact zdk rfl rfl (by rw[if_pos (.inl h0)];rfl)
 ·refine goA ?_
  refine l_w rfl (za0 (v:=.int .i64 (s.n:Int)) rfl rfl (fun w' hw'=>zkv (h.keep hw') 2 rfl)) ?_
  refine goA ?_
  by_cases h1:(s.n:Int)≤i
  ·refine goA ?_
   exact zdk rfl rfl (by rw[if_pos (.inr h1)];rfl)
  ·refine goA ?_
   refine l_w rfl (za0 (v:=.bool s.dead) rfl rfl (fun w' hw'=>zkv (h.keep hw') 7 rfl)) ?_
   rw[if_neg oQ]
   cases hd:s.dead with
   |true=>
    refine goA ?_
    exact zdk rfl rfl rfl
   |false=>
    refine goA ?_
    exact zdk rfl rfl rfl
end Go.Proofs.YthafakdplhdfjaaGreatDoor
namespace Go.Eng
open Go.RowKit
section
variable{P:Program}{Q:Exit→Act→World→Prop}{N:Fm}{l:zav}{H:World→Prop}{w0:World}{F:Nat→Prop}{m:List Item}{ty:TypeId}{pos:String}{after:Array Edge}{g:Option (Nat×Bool)}{op:Op}{x:Operand}{b:Nat}{q:IntKind}{T:TypeId}{A:zcs}
theorem qml{α:Type}{val:α→Value}{H':α→World→Prop}(hok:(zez op&&zec l op)=true)(hr:∀w,H w→∃x w',(execOp (ev l) ⟨none,op,ty,pos,after,g⟩).run P w= .ok (.value (val x)) w'∧H' x w'):
  HO P ⟨none,op,ty,pos,after,g⟩ Q N l H (fun _=>l) H':=by
 simp only[bH]at hok
 unfold HO
 intro a w s hw K hK
 refine⟨zp3 hok.1,?_⟩
 obtain⟨x,w',hr,hw'⟩:=hr w hw
 unfold Oper.wp
 rw[s.exec _ (zm5 hok.1) hok.2,hr]
 exact hK x _ _ s hw'
theorem zx0{T':TypeId}(hok:(zez (.call ⟨.builtin .clear, #[x], #[T]⟩)&&zec l (.call ⟨.builtin .clear, #[x], #[T]⟩))=true)(hx:evO l x=some (.map (some b)))(hT:(P.underlying T).isSome=true):
  HO P ⟨none,.call ⟨.builtin .clear, #[x], #[T]⟩,T',pos,after,g⟩ Q N l (Hp w0 F (zck q b A::m)) (α:=Unit) (fun _=>l) (fun _=>Hp w0 F (zck q b []::m)):=
 qml (val:=fun _=>.tuple #[]) hok (fun w hw=>by
  obtain⟨es,clk,h3,R⟩:=(hw.item _ (.head _)).1
  have hg:(getObj b).run P w= .ok (.map es clk) w:=by simp[getObj,Sem.run,h3]
  have hset:∀o,(setObj b o).run P w= .ok () (w.putObj b o):=fun o=>by simp[setObj,Sem.run,h3,World.putObj]
  have hw1:Hp w0 F (pt b (.map es clk)::m) w:=hw.imp (fun _ h=>h) (fun _=>h3) (zab _ _ _)
  obtain⟨u,hu⟩:=cI.1 hT
  refine⟨(),w.putObj b (.map #[] clk),?_,(hw1.put _).imp (fun _ h=>h) (fun hp=>⟨_,_,hp,⟨.nil,(fun _ h=>nomatch h),rfl,.nil,(fun _ h=>nomatch h)⟩⟩) (zax _ _ _ _)⟩
  simp only[execOp,resolve,invoke,builtin]
  simp[zar hx,Builtin.clear_,run_underlying hu w,hg,hset])
end
end Go.Eng
namespace Go.Proofs.YthafakdplhdfjaaGreatDoor
open Go.RowKit Go.Eng Go.Eng.Bm
section ins
variable{β:Type}
def zeb(B:List (Nat×β))(h:Nat)(s:β):List (Nat×β):=if (B.lookup h).isSome then B.map (fun p=>if p.1=h then(h,s)else p)else B++[(h,s)]
def toG(enc:β→Value)(B:List (Nat×β)):zcs:=B.map fun p=>(p.1,enc p.2)
theorem ztq(enc:β→Value)(B:List (Nat×β))(n:Nat):(toG enc B).lookup n=(B.lookup n).map enc:=by
 unfold toG
 induction B with
 |nil=>rfl
 |cons p B ih=>
  rw[bG,cJ,cJ]
  cases h:n==p.1 with
  |true=>rfl
  |false=>exact ih
theorem qo9(enc:β→Value)(B:List (Nat×β))(h:Nat)(s:β):toG enc (zeb B h s)=zjs (toG enc B) h (enc s):=by
 unfold zeb zjs
 rw[ztq,kR]
 split
 ·unfold toG
  rw[dJ,dJ]
  refine cT fun p _=>?_
  show(_,_)=_
  by_cases hp:p.1=h
  ·simp[hp]
  ·simp[hp]
 ·unfold toG
  rw[cC];rfl
theorem zcp(B:List (Nat×β))(h:Nat)(s:β)(k:Nat):(zeb B h s).lookup k=if k=h then some s else B.lookup k:=by
 unfold zeb
 split
 ·rename_i hs
  have:∀L:List (Nat×β),(L.map fun p=>if p.1=h then(h,s)else p).lookup k=if k=h then(L.lookup k).map (fun _=>s)else L.lookup k:=by
   intro L
   induction L with
   |nil=>simp
   |cons p L ih=>
    obtain⟨q,x⟩:=p
    rw[bG]
    by_cases hq:q=h
    ·subst hq
     rw[if_pos rfl,cJ,cJ]
     by_cases hk:k=q
     ·subst hk;simp
     ·have:(k==q)=false:=by simpa using hk
      rw[this]
      simp only[if_neg hk]at ih⊢
      exact ih
    ·rw[if_neg hq,cJ,cJ,ih]
     by_cases hk:k=q
     ·subst hk
      simp[hq]
     ·have:(k==q)=false:=by simpa using hk
      rw[this]
  rw[this]
  by_cases hk:k=h
  ·subst hk
   rw[if_pos rfl,if_pos rfl]
   cases hb:B.lookup k with
   |none=>rw[hb]at hs;cases hs
   |some x=>rfl
  ·rw[if_neg hk,if_neg hk]
 ·rename_i hs
  have hs':B.lookup h=none:=by
   cases hb:B.lookup h with
   |none=>rfl
   |some x=>rw[hb]at hs;exact absurd rfl hs
  by_cases hk:k=h
  ·subst hk
   rw[if_pos rfl,iT,hs']
   simp
  ·rw[if_neg hk,iT]
   have:([(h,s)]:List (Nat×β)).lookup k=none:=by
    rw[cJ,show(k==h)=false by simpa using hk];rfl
   rw[this]
   cases B.lookup k<;>rfl
variable{B:List (Nat×β)}{s:β}
theorem qkc{h:Nat}{p:Nat×β}(hp:p∈zeb B h s):p=(h,s)∨p∈B:=by
 unfold zeb at hp
 split at hp
 ·obtain⟨q,hq,rfl⟩:=aS.1 hp
  split
  ·exact .inl rfl
  ·exact .inr hq
 ·rcases aR.1 hp with hp|hp
  ·exact .inr hp
  ·exact .inl (aN.1 hp)
theorem zbt{n:Nat}(h:B.lookup n=some s):(n,s)∈B:=by
 induction B with
 |nil=>cases h
 |cons p B ih=>
  obtain⟨q,x⟩:=p
  rw[cJ]at h
  by_cases hk:n=q
  ·subst hk
   simp at h
   subst h
   exact .head _
  ·have:(n==q)=false:=by simpa using hk
   rw[this]at h
   exact .tail _ (ih h)
end ins
theorem zln(A:PR)(h:Nat)(s:Bys):toP (zeb A h s)=zjs (toP A) h (pgV s):=qo9 pgV A h s
theorem zic(A:PR)(h:Nat):(toP A).lookup h=(A.lookup h).map pgV:=ztq pgV A h
def PR.Ok(A:PR)(n:Nat):Prop:=∀p∈A,p.1<n∧p.2.length=512
variable{n:Nat}
theorem PR.Ok.ins{A:PR}{h:Nat}{s:Bys}(hA:A.Ok n)(hh:h<n)(hs:s.length=512):PR.Ok (zeb A h s) n:=fun p hp=>by
 rcases qkc hp with rfl|hp
 ·exact⟨hh,hs⟩
 ·exact hA p hp
theorem okI(h:n≤1000000):okN .i64 n:=by
 unfold okN
 simp[Lit.wf,IntKind.min,IntKind.max,IntKind.signed,IntKind.bits]
 omega
theorem zbl(s:Pg)(d:Dk):∀it∈[pgI s d],it.Stable none':=by
 intro it hm
 rcases hm with _|⟨_,hm⟩
 ·exact zbv s d
 ·exact nomatch hm
theorem zni(s:Pg)(d:Dk)(e:Nat):
  Cv Tryz.prog 135 #[.pointer (some ⟨s.b,0,none⟩),.int .i64 (e:Int)] [pgI s d] (fun _:Unit=>.int .i64 (e:Int)) (fun _=>True) (fun _=>[pgI { s with dead:=s.dead||decide (e=4) } d]):=by
 intro w hw
 refine za2 [_,_] _ Tryz.func135 rfl rfl hw (.cons (fun _ h=>nomatch h) .nil) ?_
 simp only[zaa,Nat.reduceAdd]
 refine zg8 (m':=pgL s d) (fun w h=>ze1 (m:=[]) h) ?_
 unfold pgL
 obtain⟨b,bl,kb,db,cb,g,n,note,K,R,C,dead⟩:=s
 simp only
 have hend:∀x:Bool,∀w',Hp w (za4 [pgI ⟨b,bl,kb,db,cb,g,n,note,K,R,C,dead⟩ d]) (pgL ⟨b,bl,kb,db,cb,g,n,note,K,R,C,x⟩ d) w'→Hp w (za4 [pgI ⟨b,bl,kb,db,cb,g,n,note,K,R,C,dead⟩ d]) [pgI ⟨b,bl,kb,db,cb,g,n,note,K,R,C,x⟩ d] w':=fun x w' hw'=>zdm (m:=[]) (by rw[bC];exact hw')
 cases dead with
 |true=>
  refine goA ?_
  refine za1 rfl (zai rfl rfl rfl rfl rfl rfl (show(7:Nat)<8 from dQ)) fun _=>?_
  refine goA ?_
  exact zbr (hend true) (zbd () rfl rfl rfl trivial (.refl _) (zbl _ _))
 |false=>
  by_cases he:e=4
  ·subst he
   refine goA ?_
   refine za1 rfl (zai rfl rfl rfl rfl rfl rfl (show(7:Nat)<8 from dQ)) fun _=>?_
   refine goA ?_
   exact zbr (hend true) (zbd () rfl rfl rfl trivial (.refl _) (zbl _ _))
  ·have he2:decide (e=4)=false:=by simp[he]
   have he3:((e:Int)==4)=false:=by simp;omega
   rw[he2]
   refine goA ?_
   rw[he3]
   refine za1 rfl (zai rfl rfl rfl rfl rfl rfl (show(7:Nat)<8 from dQ)) fun _=>?_
   refine goA ?_
   exact zbr (hend false) (zbd () rfl rfl rfl trivial (.refl _) (zbl _ _))
theorem zk2(s:Pg)(d:Dk):
  Cv Tryz.prog 55 #[.pointer (some ⟨s.b,0,none⟩)] [pgI s d] (fun _:Unit=>.tuple #[]) (fun _=>True) (fun _=>[pgI { s with C:=[] } d]):=by
 intro w hw
 refine za2 [_] _ Tryz.func55 rfl rfl hw (.cons (fun _ h=>nomatch h) .nil) ?_
 simp only[zaa]
 refine zg8 (m':=pgL s d) (fun w h=>ze1 (m:=[]) h) ?_
 unfold pgL
 refine goA ?_
 refine zd2 7 _ (.map (some s.cb)) rfl rfl ?_
 refine zay [4,0,1,2,3] rfl rfl ?_
 refine za1 rfl (zx0 rfl rfl rfl) fun _=>?_
 refine goA ?_
 exact zbr (m':=[pgI { s with C:=[] } d]) (fun w' hw'=>zdm (m:=[]) (hw'.pick [1,2,3,4,0] rfl rfl)) (zk0 () rfl rfl trivial (.refl _) (zbl _ _))
theorem zqf(s:Pg)(d:Dk)(i:Int)(bs:Bys)(hbs:bs.length=512)(a:Option Addr)(c:Nat)(hdead:s.dead=false)(hn:s.n≤1024)(w:World)(hw:∀it∈[pgI s d],zbq it w)(hr:Rd w a (zae bs))(hap:∀b off,a=some ⟨b,off,none⟩→¬za4 [pgI s d] b):
  Ct Tryz.prog 91 #[.pointer (some ⟨s.b,0,none⟩),.int .i64 i,.slice a 512 c] w (za4 [pgI s d]) (fun _:Unit=>.int .i64 (if i<1∨(s.n:Int)≤i then 2 else 0:Nat)) (fun _=>True) (fun _=>[pgI (if i<1∨(s.n:Int)≤i then s else { s with C:=zeb s.C i.toNat bs }) d]):=by
 refine za2 [_,_,_] _ Tryz.func91 rfl rfl hw (.cons (fun _ h=>nomatch h) .nil) ?_
 simp only[zaa,Nat.reduceAdd]
 refine goA ?_
 refine lPu rfl (fun w1 hw1=>zp1 s d i w1 (zbq.of (hw1.item _ (.head _)) (zbv s d))) ?_
 have hbl:(zae bs).length=512:=by rw[zan,hbs]
 by_cases h1:i<1∨(s.n:Int)≤i
 ·rw[if_pos h1,if_pos h1]
  by_cases h2:i<0∨(s.n:Int)≤i
  ·rw[show qe3 s i=2 by rw[qe3,if_pos h2]]
   refine goA ?_
   exact zbd () rfl rfl rfl trivial (.refl _) (zbl _ _)
  ·rw[show qe3 s i=0 by rw[qe3,if_neg h2,hdead];rfl]
   refine goA ?_
   exact zbd () rfl rfl rfl trivial (.refl _) (zbl _ _)
 ·rw[if_neg h1,if_neg h1,show qe3 s i=0 by rw[qe3,if_neg oQ,hdead];rfl]
  obtain⟨k,rfl⟩:=iX (show 0≤i by omega)
  refine goA ?_
  refine zg8 (m':=pgL s d) (fun w h=>ze1 (m:=[]) h) ?_
  unfold pgL
  obtain⟨rb,off,ha,hcell⟩:∃rb off,a=some ⟨rb,off,none⟩∧w.rangeAt rb off (zae bs):=by
   rcases hr with h|⟨rb,off,ha,hc⟩
   ·rw[h]at hbl;cases hbl
   ·exact⟨rb,off,ha,hc⟩
  have hF:=hap rb off ha
  subst ha
  refine zcx [4,0,1,2,3] rfl rfl ?_
  refine zap [1,2,3,4] 9 rfl rfl kQ ?_
  refine goE ?_
  refine goV rfl rfl (ztu rfl rfl dQ) ?_
  refine goE ?_
  refine goV rfl rfl (zgp (xs:=zae bs) (c:=(zae bs).toArray) rfl (by rw[hbl];rfl) (fun w' hw'=>za5 hcell hF hw') rfl) ?_
  refine zro 33 _ (.map (some s.cb)) rfl rfl ?_
  refine zat 8 ⟨kQ,dQ⟩ rfl rfl (zir (h:=k) (v:=pgV bs) rfl rfl rfl rfl rfl rfl (okI oQ)) (fun _ _ h=>goH h) fun _=>?_
  refine zdn kQ ?_
  refine goA ?_
  rw[←zln]
  exact zbr (m':=[pgI { s with C:=zeb s.C k bs } d]) (fun w' hw'=>zdm (m:=[]) (hw'.pick [1,2,3,4,0] rfl rfl)) (zbd () rfl rfl rfl trivial (.refl _) (zbl _ _))
def pageB(s:Pg)(D:Dsk)(i:Nat):Bys:=((s.C.lookup i).or (s.K.lookup i)).getD (zcn D (2+s.g.h.secs+i))
def zb1(s:Pg)(D:Dsk)(i:Nat):Pg:=if ((s.C.lookup i).or (s.K.lookup i)).isSome then s else { s with K:=zeb s.K i (zcn D (2+s.g.h.secs+i)) }
structure Pg.Ok (s:Pg) (D:Dsk):Prop where
 n:s.n≤1024
 secs:s.g.h.secs<65536
 room:2+s.g.h.secs+s.n≤D.on.length
 C:s.C.Ok s.n
 K:s.K.Ok s.n
theorem zdp(s:Pg)(d:Dk):∀it∈[pgI s d,dkI d],it.Stable none':=by
 intro it hm
 rcases hm with _|⟨_,_|⟨_,hm⟩⟩
 ·exact zbv s d
 ·exact zad _
 ·exact nomatch hm
theorem ztg(b:Nat)(bs:Bys)(s:Pg)(d:Dk):∀it∈[rdI b bs,pgI s d,dkI d],it.Stable none':=by
 intro it hm
 rcases hm with _|⟨_,hm⟩
 ·exact zfd _ _
 ·exact zdp s d it hm
variable{F:Nat→Prop}{m:List Eng.Item}
theorem zqe{s:Pg}{d:Dk}{w w0:World}{x:Eng.Item}(h:Hp w0 F (x::(pgL s d++m)) w):Hp w0 F (x::pgI s d::m) w:=
 (zdm (m:=x::m) (h.perm bM.symm)).perm (.swap _ _ _)
theorem qs0{b:Nat}{bs:Bys}{E:TypeId}{w w0:World}(h:Hp w0 F (pt b (.cells (zae bs).toArray E (0,0))::m) w):Hp w0 F (rdI b bs::m) w:=
 h.imp (fun _ h=>h) (fun hp=>⟨zbf hp,(bR.1 hp).1⟩) ((zfd _ _).ro _)
theorem zhi(s:Pg)(d:Dk)(ok:d.D.Ok)(hlive:d.D.dead=false)(hwl:d.D.wait.length≤1000000000)(hdead:s.dead=false)(sok:s.Ok d.D)(i:Nat)(hi:i<s.n):
  Cw Tryz.prog 88 #[.pointer (some ⟨s.b,0,none⟩),.int .i64 (i:Int)] [pgI s d,dkI d] (fun b:Nat=>.tuple #[.slice (some ⟨b,0,none⟩) 512 512,.int .i64 0]) (fun _=>True) (fun b=>[rdI b (pageB s d.D i),pgI (zb1 s d.D i) d,dkI d]):=by
 intro w hw ha
 refine za2 [_,_] _ Tryz.func88 rfl rfl hw ha ?_
 obtain⟨hn,hsecs,hroom,hC,hK⟩:=sok
 simp only[zaa,Nat.reduceAdd]
 refine goA ?_
 refine lPu rfl (fun w1 hw1=>zp1 s d i w1 (zbq.of (hw1.item _ (.head _)) (zbv s d))) ?_
 rw[show qe3 s i=0 by rw[qe3,if_neg oQ,hdead];rfl]
 refine goA ?_
 refine zg8 (m':=pgL s d++[dkI d]) (fun w h=>ze1 (m:=[dkI d]) h) ?_
 unfold pgL
 refine zap [0,1,2,3,4,5] 10 rfl rfl kQ ?_
 refine goE ?_
 refine d_v [9] rfl rfl kQ (fun _ h=>goH h) rfl rfl (zks rfl rfl rfl rfl rfl) ?_
 refine goE ?_
 refine zdn kQ ?_
 refine qty [(0,.pointer (some ⟨s.b,0,none⟩)),(1,.int .i64 (i:Int)),(27,.agg #[.map (some s.cb),.map (some s.kb)]),(28,.int .i64 (0:Nat))] (pgL s d++[dkI d]) ⟨rfl,rfl,rfl,rfl,trivial⟩ (fun w h=>h) ?_
 refine goA ?_
 refine zc0 (α:=Nat) (fun k=>[(0,.pointer (some ⟨s.b,0,none⟩)),(1,.int .i64 (i:Int)),(27,.agg #[.map (some s.cb),.map (some s.kb)]),(28,.int .i64 k)]) (fun k=>k≤2∧(1≤k→s.C.lookup i=none)∧(2≤k→s.K.lookup i=none)) (fun k=>pgL s d++[dkI d]) (fun k=>2 - k) 0 ⟨rfl,rfl,rfl,rfl,trivial⟩ ⟨oQ,oQ,oQ⟩ (fun w h=>h) fun k ⟨hk,hk1,hk2⟩=>?_
 unfold pgL
 by_cases hlt:k<2
 ·obtain⟨mb,A,hv,hm,hA,hs1,hs2⟩:∃(mb:Nat) (A:PR),(#[Value.map (some s.cb),.map (some s.kb)]:Array Value)[k]? =some (.map (some mb))∧zck .i64 mb (toP A)∈pgL s d++[dkI d]∧A.Ok s.n∧(∀bs,A.lookup i=some bs→pageB s d.D i=bs∧zb1 s d.D i=s)∧(A.lookup i=none→(1≤k+1→s.C.lookup i=none)∧(2≤k+1→s.K.lookup i=none)):=by
   match k,hlt with
   |0,_=>exact⟨s.cb,s.C,rfl,by simp[pgL],hC,fun bs hb=>by unfold pageB zb1;rw[hb];exact⟨rfl,rfl⟩,fun hb=>⟨fun _=>hb,fun h=>absurd h oQ⟩⟩
   |1,_=>
    have hc:=hk1 oQ
    exact⟨s.kb,s.K,rfl,by simp[pgL],hK,fun bs hb=>by unfold pageB zb1;rw[hc,hb];exact⟨rfl,rfl⟩,fun hb=>⟨fun _=>hc,fun _=>hb⟩⟩
  refine goA ?_
  refine l_w rfl (qis rfl rfl rfl rfl rfl hlt hv) ?_
  refine goA ?_
  refine l_w rfl (qiw (q:=.i64) (h:=i) rfl rfl rfl rfl rfl (okI oQ) hm) ?_
  rw[zic]
  cases hb:A.lookup i with
  |some bs=>
   obtain⟨hs3,hs4⟩:=hs1 bs hb
   have hbs:(zae bs).length=512:=by rw[zan];exact(hA _ (zbt hb)).2
   rw[hs3,hs4]
   simp only[bZ,eD,gH,pgV]
   refine goA ?_
   refine zam rfl rfl fun b9 hb9=>?_
   refine za1 rfl (zaf (cs':=(zae bs).toArray) rfl rfl rfl (by rw[aI,hbs];rfl) (zdd _) (by rw[aI,hbs];rfl)) fun _=>?_
   refine goA ?_
   refine l_w rfl (zg9 (n:=512) rfl rfl rfl rfl) ?_
   refine goA ?_
   exact zbr (m':=[rdI b9 bs,pgI s d,dkI d]) (fun w' hw'=>zqe (qs0 hw')) (zc1 b9 rfl rfl rfl rfl trivial (.refl _) (ztg _ _ _ _))
  |none=>
   simp only[fZ,kX,iW]
   refine goA ?_
   refine zam rfl rfl fun b9 hb9=>?_
   refine za1 rfl (zaf rfl rfl rfl rfl rfl rfl) fun _=>?_
   refine goA ?_
   obtain⟨h3,h4⟩:=hs2 hb
   exact zaw (k+1) ⟨rfl,rfl,rfl,rfl,trivial⟩ ⟨hlt,h3,h4⟩ (fun w' hw'=>hw'.sub (gB _ _)) oQ
 ·obtain rfl:k=2:=oQ
  have hc:=hk1 oQ
  have hkk:=hk2 oQ
  have hpb:pageB s d.D i=zcn d.D (2+s.g.h.secs+i):=by unfold pageB;rw[hc,hkk];rfl
  have hps:zb1 s d.D i={ s with K:=zeb s.K i (zcn d.D (2+s.g.h.secs+i)) }:=by unfold zb1;rw[hc,hkk];rfl
  rw[hpb,hps]
  have hat:2+s.g.h.secs+i<d.D.on.length:=oQ
  have hcl:=zt6 ok hat
  refine goA ?_
  refine zap [0,1,2,3,4,5] 17 rfl rfl kQ ?_
  refine goE ?_
  refine zat 8 ⟨kQ,dQ⟩ rfl rfl (zfc rfl kQ rfl (fun w1 hw1=>zd6 s.bl d s.g w1 (zbq.of (hw1.item (lgI s.bl d s.g) sQ) (zab _ _ _)))) (fun _ _ h=>goH h) fun _=>?_
  refine goE ?_
  refine zat 10 ⟨kQ,dQ⟩ rfl rfl (zfc rfl kQ rfl (fun w1 hw1=>zfv s.g.h.secs i oQ oQ w1)) (fun _ _ h=>goH h) fun _=>?_
  refine goE ?_
  refine qqn 11 ⟨kQ,dQ⟩ rfl rfl rfl kQ rfl (fun _ h=>h) (fun w1 hw1=>znc d ok hlive (2+s.g.h.secs+i) hat hwl w1 (zbq.of (hw1.item (dkI d) sQ) (zad _))) fun x hx=>?_
  refine goE ?_
  refine zdn kQ ?_
  generalize zcn d.D (2+s.g.h.secs+i)=bs at hcl⊢
  refine goA ?_
  refine zcy (m':=[pgI s d,rdI x bs,dkI d]) (fun w' hw'=>(zqe hw').pick [1,0,2] rfl rfl) ?_
  refine lCu [pgI s d] rfl (zbl s d) (fun w1 hw1 hh1 ha1=>zni s d 0 w1 hh1) fun⟨_,_⟩=>?_
  rw[show({ s with dead:=s.dead||decide ((0:Nat)=4) }:Pg)=s by rw[hdead];cases s;simp only at hdead;subst hdead;rfl]
  refine goA ?_
  have hbl:(zae bs).length=512:=by rw[zan,hcl]
  refine zg8 (m':=pgL s d++[rdI x bs,dkI d]) (fun w h=>ze1 (m:=[rdI x bs,dkI d]) h) ?_
  unfold pgL
  refine zcx [2,0,1,3,4,5,6] rfl rfl ?_
  refine zap [1,2,3,4,5,6] 9 rfl rfl kQ ?_
  refine goE ?_
  refine goV rfl rfl (ztu rfl rfl dQ) ?_
  refine goE ?_
  refine goV rfl rfl (zgp (xs:=zae bs) (c:=(zae bs).toArray) rfl (by rw[hbl];rfl) (fun w' hw'=>(hw'.item (rdI x bs) sQ).1.1) rfl) ?_
  refine zat 8 ⟨kQ,dQ⟩ rfl rfl (zir (h:=i) (v:=pgV bs) rfl rfl rfl rfl rfl rfl (okI oQ)) (fun _ _ h=>goH h) fun _=>?_
  refine zdn kQ ?_
  refine goA ?_
  rw[←zln]
  refine zbr (m':=[rdI x bs,pgI { s with K:=zeb s.K i bs } d,dkI d]) (fun w' hw'=>?_) (zc1 x rfl rfl rfl rfl trivial (.refl _) (ztg _ _ _ _))
  exact zqe (s:={ s with K:=zeb s.K i bs }) (m:=[dkI d]) (hw'.pick [5,1,2,0,3,4,6] rfl rfl)
def bmB(n:Nat)(S:Nat→Bool):Bys:=(List.range 512).map fun j=>UInt8.ofNat (byte (zd3 S n) j)
theorem zpb(n:Nat)(S:Nat→Bool):(bmB n S).length=512:=by simp[bmB]
theorem zpa(n:Nat)(S:Nat→Bool):zhc S n=(zae (bmB n S)).toArray:=by
 unfold zhc zae bmB
 rw[dJ]
 congr 1
 refine cT fun j _=>?_
 show Value.int .u8 _=Value.int .u8 _
 rw[UInt8.toNat_ofNat',bD (qfl _ _)]
variable{S:Nat→Bool}
theorem qqi{j:Nat}(hj:j<512):(zae (bmB n S))[j]? =some (.int .u8 (byte (zd3 S n) j:Nat)):=by
 have:=zhx S n hj
 rw[zpa,fB]at this
 exact this
def zrl(n:Nat)(S:Nat→Bool):Prop:=∀j,n≤j→S j=false
theorem qc7(hn:n≤1024)(hc:zrl n S):zd3 (zhd fun j=>byte (zd3 S n) j) 4096=S:=funext fun i=>by
 unfold zd3 zhd
 by_cases hi:i<4096
 ·have:=zys (zd3 S n) (i/8) (i%8) (dY _ dQ)
  simp only[hi,decide_true,gC]
  unfold zd3 at this
  rw[this,show 8*(i/8)+i%8=i by omega]
  by_cases h:i<n
  ·simp[h]
  ·simp[h,hc i oQ]
 ·simp[hi,hc i oQ]
theorem zvy{k:Nat}(S:Nat→Bool)(u:Bool)(hk:k<n):qe5 n S (k:Int) u=upd S k u:=by
 unfold qe5 onB
 rw[decide_eq_true (show(0:Int)≤(k:Int) by omega),decide_eq_true (show(k:Int)<(n:Int) by omega)]
 simp only[Bool.and_self,cond_true,cB]
theorem zth(s:Pg)(d:Dk)(n:Nat)(S:Nat→Bool)(i:Int)(u:Bool)(hn:n≤1024):
  Cv Tryz.prog 130 #[.pointer (some ⟨s.b,0,none⟩),.agg (zif n S),.int .i64 i,.bool u] [pgI s d] (fun _:Unit=>.tuple #[]) (fun _=>True) (fun _=>[pgI { s with C:=zeb s.C 0 (bmB n (qe5 n S i u)) } d]):=by
 intro w hw
 refine za2 [_,_,_,_] _ Tryz.func130 rfl rfl hw (.cons (fun _ h=>nomatch h) .nil) ?_
 simp only[zaa,Nat.reduceAdd]
 refine zg8 (m':=pgL s d) (fun w h=>ze1 (m:=[]) h) ?_
 unfold pgL
 refine goA ?_
 refine zbp rfl rfl fun b5 hb5=>?_
 refine goA ?_
 refine zcx [5,0,1,2,3,4] rfl rfl ?_
 refine zap [1,2,3,4,5] 12 rfl rfl kQ ?_
 refine goE ?_
 refine zat 7 ⟨kQ,dQ⟩ rfl rfl (zfc rfl kQ rfl (fun w1 hw1=>zm2 n S i u hn w1)) (fun _ _ h=>goH h) fun _=>?_
 refine goE ?_
 refine zat 8 ⟨kQ,dQ⟩ rfl rfl (qhd rfl kQ rfl (fun w1 hw1=>zn1 n (qe5 n S i u) hn w1)) (fun _ _ h=>goH h) fun⟨x,hx⟩=>?_
 rw[zpa]
 have hbl:(zae (bmB n (qe5 n S i u))).length=512:=by rw[zan,zpb]
 generalize bmB n (qe5 n S i u)=bs at hbl⊢
 simp only[aF,aJ]
 refine goE ?_
 refine goV rfl rfl (ztu rfl rfl dQ) ?_
 refine zat 10 ⟨kQ,dQ⟩ rfl rfl (zx2 rfl (zgp (xs:=zae bs) (c:=(zae bs).toArray) rfl (by rw[hbl];rfl) (fun w' hw'=>zbf (hw'.get (b:=x) (.head _))) rfl)) (fun _ _ h=>goH h) fun _=>?_
 refine zat 11 ⟨kQ,dQ⟩ rfl rfl (zah (zcg _ _ _) (zir (h:=0) (v:=pgV bs) rfl rfl rfl rfl rfl rfl (okI dQ))) (fun _ _ h=>goH h) fun _=>?_
 refine zdn kQ ?_
 refine goA ?_
 rw[←zln]
 refine zbr (m':=[pgI { s with C:=zeb s.C 0 bs } d]) (fun w' hw'=>?_) (zk0 () rfl rfl trivial (.refl _) (zbl _ _))
 exact zdm (s:={ s with C:=zeb s.C 0 bs }) (m:=[]) (hw'.pick [3,4,5,6,0] rfl rfl)
theorem qkt(b n:Nat)(S:Nat→Bool)(h1:1≤n)(hn:n≤1024)(hc:zrl n S)(c:Nat)(w:World)(h:(rdI b (bmB n S)).prop w):Pu Tryz.prog 149 #[.slice (some ⟨b,0,none⟩) 512 c,.int .i64 (n:Int)] w (.tuple #[.agg (zif n S),.int .i64 0]):=by
 have hb:=qc7 hn hc
 have:=qku b 0 c (fun j=>byte (zd3 S n) j) n h1 hn w (fun i hi=>h.1 i _ (qqi hi)) (fun j hj hb1=>by
  have h2:=congrFun hb j
  rw[show zd3 (zhd fun j=>byte (zd3 S n) j) 4096 j=(decide (j<4096)&&zhd (fun j=>byte (zd3 S n) j) j)from rfl,hb1,decide_eq_true hj]at h2
  rcases gQ j n with h|h
  ·exact h
  ·rw[hc j h]at h2;cases h2)
 rw[hb]at this
 exact this
theorem zj1(s:Pg)(d:Dk)(ok:d.D.Ok)(hlive:d.D.dead=false)(hwl:d.D.wait.length≤1000000000)(hdead:s.dead=false)(sok:s.Ok d.D)(h1:1≤s.n)(S:Nat→Bool)(hS:pageB s d.D 0=bmB s.n S)(hc:zrl s.n S)(h0:S 0=true):
  Cw Tryz.prog 100 #[.pointer (some ⟨s.b,0,none⟩)] [pgI s d,dkI d] (fun _:Unit=>.tuple #[.agg (zif s.n S),.int .i64 0]) (fun _=>True) (fun _=>[pgI (zb1 s d.D 0) d,dkI d]):=by
 intro w hw ha
 refine za2 [_] _ Tryz.func100 rfl rfl hw ha ?_
 simp only[zaa]
 refine goA ?_
 refine zam rfl rfl fun b2 hb2=>?_
 refine goA ?_
 refine zay [1,2,0] rfl rfl ?_
 refine lCu [pgI s d,dkI d] rfl (zdp s d) (fun w1 hw1 hh1 ha1=>zhi s d ok hlive hwl hdead sok 0 h1 w1 hh1 ha1) fun⟨x,_⟩=>?_
 rw[hS]
 have hsn:(zb1 s d.D 0).n=s.n∧(zb1 s d.D 0).b=s.b:=by unfold zb1;split<;>exact⟨rfl,rfl⟩
 generalize zb1 s d.D 0=s1 at hsn⊢
 obtain⟨hsn,hsb⟩:=hsn
 rw[←hsb]
 dsimp only
 refine goA ?_
 refine l_w rfl (za0 (v:=.int .i64 (s.n:Int)) rfl rfl (fun w' hw'=>zkv (zbq.of (hw'.item (pgI s1 d) sQ) (zbv _ _)) 2 (by rw[←hsn];rfl))) ?_
 refine goA ?_
 refine lPu rfl (fun w1 hw1=>qkt x s.n S h1 sok.n hc 512 w1 (hw1.item (rdI x (bmB s.n S)) sQ).1) ?_
 refine goA ?_
 refine zam rfl rfl fun b6 hb6=>?_
 refine za1 rfl (zaf (cs':=zif s.n S) rfl rfl rfl (by rw[za6];rfl) (zey _ _) (by rw[za6];rfl)) fun _=>?_
 refine goA ?_
 refine lPu rfl (fun w1 _=>zsu s.n S 0 sok.n w1) ?_
 rw[show qn6 s.n S 0=true by unfold qn6;rw[show(0:Int).toNat=0 from rfl,h0,kZ]]
 refine goA ?_
 refine za1 rfl (zah (zji _ _ _ _ _ _) (zaf (cs':=zif s.n S) rfl rfl rfl (by rw[za6];rfl) (zey _ _) (by rw[za6];rfl))) fun _=>?_
 refine goA ?_
 exact zc1 () rfl ⟨_,rfl,zaq (by rw[za6];rfl) (.head _)⟩ rfl rfl trivial (.cons _ (.cons _ (.cons _ (.refl _)))) (zdp _ _)
theorem zu4(s:Pg)(d:Dk)(ok:d.D.Ok)(hlive:d.D.dead=false)(hwl:d.D.wait.length≤1000000000)(hdead:s.dead=false)(sok:s.Ok d.D)(h1:1≤s.n)(S:Nat→Bool)(hS:pageB s d.D 0=bmB s.n S)(hc:zrl s.n S)(h0:S 0=true):
  Cw Tryz.prog 66 #[.pointer (some ⟨s.b,0,none⟩)] [pgI s d,dkI d] (fun _:Unit=>.int .i64 (cnt S 1024:Nat)) (fun _=>True) (fun _=>[pgI (zb1 s d.D 0) d,dkI d]):=by
 intro w hw ha
 refine za2 [_] _ Tryz.func66 rfl rfl hw ha ?_
 simp only[zaa]
 refine goA ?_
 refine lCu [pgI s d,dkI d] rfl (zdp s d) (fun w1 hw1 hh1 ha1=>zj1 s d ok hlive hwl hdead sok h1 S hS hc h0 w1 hh1 ha1) fun⟨_,_⟩=>?_
 refine goA ?_
 refine zam rfl rfl fun b6 hb6=>?_
 refine za1 rfl (zaf (cs':=zif s.n S) rfl rfl rfl (by rw[za6];rfl) (zey _ _) (by rw[za6];rfl)) fun _=>?_
 refine goA ?_
 refine lPu rfl (fun w1 _=>qed s.n S w1) ?_
 refine goA ?_
 exact zbd () rfl rfl rfl trivial (.cons _ (.refl _)) (zdp _ _)
def tzI:Eng.Item:=⟨fun k=>k=0,fun w=>qbc w⟩
theorem zgz(ro:Nat→Prop):tzI.Stable ro:=fun _ _ h hp=>⟨(h _ (.inr rfl)).trans hp.obj⟩
def qdk(s:Pg)(D:Dsk)(S:Nat→Bool)(i:Nat)(u:Bool):Pg:={ zb1 s D 0 with C:=zeb (zb1 s D 0).C 0 (bmB s.n (upd S i u)) }
theorem zx8(s:Pg)(d:Dk)(ok:d.D.Ok)(hlive:d.D.dead=false)(hwl:d.D.wait.length≤1000000000)(hdead:s.dead=false)(sok:s.Ok d.D)(h1:1≤s.n)(S:Nat→Bool)(hS:pageB s d.D 0=bmB s.n S)(hc:zrl s.n S)(h0:S 0=true)(i:Nat)(hi:i<s.n):
  Cw Tryz.prog 158 #[.pointer (some ⟨s.b,0,none⟩),.int .i64 (i:Int)] [pgI s d,dkI d] (fun _:Unit=>.int .i64 (if i=0∨S i=false then 2 else 0:Nat)) (fun _=>True) (fun _=>[pgI (if i=0∨S i=false then zb1 s d.D 0 else qdk s d.D S i false) d,dkI d]):=by
 intro w hw ha
 refine za2 [_,_] _ Tryz.func158 rfl rfl hw ha ?_
 simp only[zaa,Nat.reduceAdd]
 refine goA ?_
 refine lPu rfl (fun w1 hw1=>zp1 s d i w1 (zbq.of (hw1.item _ (.head _)) (zbv s d))) ?_
 rw[show qe3 s i=0 by rw[qe3,if_neg oQ,hdead];rfl]
 refine goA ?_
 refine lCu [pgI s d,dkI d] rfl (zdp s d) (fun w1 hw1 hh1 ha1=>zj1 s d ok hlive hwl hdead sok h1 S hS hc h0 w1 hh1 ha1) fun⟨_,_⟩=>?_
 have hfr:qdk s d.D S i false={ zb1 s d.D 0 with C:=zeb (zb1 s d.D 0).C 0 (bmB s.n (upd S i false)) }:=rfl
 rw[hfr]
 have hsn:(zb1 s d.D 0).n=s.n∧(zb1 s d.D 0).b=s.b:=by unfold zb1;split<;>exact⟨rfl,rfl⟩
 generalize zb1 s d.D 0=s1 at hsn⊢
 obtain⟨hsn,hsb⟩:=hsn
 rw[←hsb]
 refine goA ?_
 refine zam rfl rfl fun b6 hb6=>?_
 refine za1 rfl (zaf (cs':=zif s.n S) rfl rfl rfl (by rw[za6];rfl) (zey _ _) (by rw[za6];rfl)) fun _=>?_
 refine goA ?_
 by_cases hi0:i=0
 ·subst hi0
  rw[if_pos (.inl rfl),if_pos (.inl rfl)]
  refine goA ?_
  exact zbd () rfl rfl rfl trivial (.cons _ (.refl _)) (zdp _ _)
 ·refine goA ?_
  refine lPu rfl (fun w1 _=>zsu s.n S i sok.n w1) ?_
  rw[show qn6 s.n S i=S i by unfold qn6 onB;simp;omega]
  cases hSi:S i with
  |false=>
   rw[if_pos (.inr rfl),if_pos (.inr rfl)]
   refine goA ?_
   exact zbd () rfl rfl rfl trivial (.cons _ (.refl _)) (zdp _ _)
  |true=>
   rw[if_neg (by simp[hi0]),if_neg (by simp[hi0])]
   refine goA ?_
   refine zay [1,0,2] rfl rfl ?_
   refine lCu [pgI s1 d] rfl (zbl s1 d) (fun w1 hw1 hh1 ha1=>zth s1 d s.n S i false sok.n w1 hh1) fun⟨_,_⟩=>?_
   rw[zvy S false hi]
   refine goA ?_
   exact zbd () rfl rfl rfl trivial (.cons_cons _ (.cons _ (.refl _))) (zdp _ _)
def zej:Bys:=List.replicate 512 0
theorem zgv(s:Pg)(d:Dk):∀it∈[pgI s d,dkI d,tzI],it.Stable none':=by
 intro it hm
 rcases hm with _|⟨_,_|⟨_,_|⟨_,hm⟩⟩⟩
 ·exact zbv s d
 ·exact zad _
 ·exact zgz _
 ·exact nomatch hm
def znt(s:Pg)(D:Dsk)(S:Nat→Bool)(a:Nat):Pg:={ zb1 s D 0 with C:=zeb (zeb (zb1 s D 0).C 0 (bmB s.n (upd S a true))) a zej }
theorem zn7(s:Pg)(d:Dk)(ok:d.D.Ok)(hlive:d.D.dead=false)(hwl:d.D.wait.length≤1000000000)(hdead:s.dead=false)(sok:s.Ok d.D)(S:Nat→Bool)(hS:pageB s d.D 0=bmB s.n S)(hc:zrl s.n S)(h0:S 0=true)(a:Nat)(han:a<s.n)(hSa:S a=false)(hl:∀j,j<a→S j=true):
  Cw Tryz.prog 79 #[.pointer (some ⟨s.b,0,none⟩)] [pgI s d,dkI d,tzI] (fun _:Unit=>.tuple #[.int .i64 (a:Int),.int .i64 0]) (fun _=>True) (fun _=>[pgI (znt s d.D S a) d,dkI d,tzI]):=by
 intro w hw ha
 refine za2 [_] _ Tryz.func79 rfl rfl hw ha ?_
 simp only[zaa]
 refine goA ?_
 refine lCu [pgI s d,dkI d] rfl (zdp s d) (fun w1 hw1 hh1 ha1=>zj1 s d ok hlive hwl hdead sok oQ S hS hc h0 w1 hh1 ha1) fun⟨_,_⟩=>?_
 have hfr:znt s d.D S a={ zb1 s d.D 0 with C:=zeb (zeb (zb1 s d.D 0).C 0 (bmB s.n (upd S a true))) a zej }:=rfl
 rw[hfr]
 have hsn:(zb1 s d.D 0).n=s.n∧(zb1 s d.D 0).b=s.b:=by unfold zb1;split<;>exact⟨rfl,rfl⟩
 generalize zb1 s d.D 0=s1 at hsn⊢
 obtain⟨hsn,hsb⟩:=hsn
 have hn:=sok.n
 rw[←hsb]
 refine goA ?_
 refine zam rfl rfl fun b6 hb6=>?_
 refine za1 rfl (zaf (cs':=zif s.n S) rfl rfl rfl (by rw[za6];rfl) (zey _ _) (by rw[za6];rfl)) fun _=>?_
 refine goA ?_
 refine lPu rfl (fun w1 hw1=>qdy s.n S a sok.n han hSa hl w1 (hw1.item tzI sQ).1) ?_
 refine goA ?_
 refine zay [1,0,2,3] rfl rfl ?_
 refine lCu [pgI s1 d] rfl (zbl s1 d) (fun w1 hw1 hh1 ha1=>zth s1 d s.n S a true sok.n w1 hh1) fun⟨_,_⟩=>?_
 rw[zvy S true han]
 refine goA ?_
 refine zcy (m':=pgL { s1 with C:=zeb s1.C 0 (bmB s.n (upd S a true)) } d++[pt b6 (.cells (zif s.n S) 179 (0,0)),dkI d,tzI]) (fun w h=>ze1 (m:=[pt b6 (.cells (zif s.n S) 179 (0,0)),dkI d,tzI]) h) ?_
 unfold pgL
 refine goA ?_
 refine l_w rfl (zks rfl rfl rfl rfl rfl) ?_
 refine zd2 32 _ (pgV zej) rfl (by rfl) ?_
 refine zd2 30 _ (.map (some s1.cb)) rfl rfl ?_
 refine zay [4,0,1,2,3,5,6,7] rfl rfl ?_
 refine za1 rfl (zir (h:=a) (v:=pgV zej) rfl rfl rfl rfl rfl rfl (okI oQ)) fun _=>?_
 simp only[←zln]
 refine goA ?_
 refine zbr (m':=[pgI { s1 with C:=zeb (zeb s1.C 0 (bmB s.n (upd S a true))) a zej } d,dkI d,tzI]) (fun w' hw'=>?_) (zc1 () rfl rfl rfl rfl trivial (.refl _) (zgv _ _))
 exact zdm (s:={ s1 with C:=zeb (zeb s1.C 0 (bmB s.n (upd S a true))) a zej }) (m:=[dkI d,tzI]) (hw'.pick [1,2,3,4,0,6,7] rfl rfl)
end Go.Proofs.YthafakdplhdfjaaGreatDoor
namespace Go.Proofs.YthafakdplhdfjaaGreatDoor
open Go.Shelf
open Go.Eng
def qig:Go.Shelf.Ren:=⟨fun|5=>207|8=>233|7=>232|19=>256|20=>257|10=>247|11=>248|12=>249|13=>250|14=>251|15=>252|16=>253|17=>254|18=>255|30=>264|31=>265|32=>266|33=>267|34=>268|35=>269|40=>271|n=>n,fun|23=>183|25=>3|3=>3|32=>141|22=>183|0=>0|44=>46|46=>112|4=>4|36=>326|35=>325|41=>187|5=>5|9=>9|53=>335|57=>339|63=>342|64=>343|n=>n,fun|n=>n⟩
theorem qrm:Go.Proofs.SlLaysM.n5 Tryz.prog qig:={
 mixed:=by kernel_rfl
 f5:=⟨Tryz.f207.name,dQ,Tryz.func207.trans (congrArg some kQ)⟩
 f7:=⟨Tryz.f232.name,dQ,Tryz.func232.trans (congrArg some kQ)⟩
 f8:=Tryz.func233.trans (congrArg some kQ)
 f10:=⟨Tryz.f247.name,dQ,Tryz.func247.trans (congrArg some kQ)⟩
 f11:=⟨Tryz.f248.name,dQ,Tryz.func248.trans (congrArg some kQ)⟩
 f12:=⟨Tryz.f249.name,dQ,Tryz.func249.trans (congrArg some kQ)⟩
 f13:=⟨Tryz.f250.name,dQ,Tryz.func250.trans (congrArg some kQ)⟩
 f14:=⟨Tryz.f251.name,dQ,Tryz.func251.trans (congrArg some kQ)⟩
 f15:=⟨Tryz.f252.name,dQ,Tryz.func252.trans (congrArg some kQ)⟩
 f16:=⟨Tryz.f253.name,dQ,Tryz.func253.trans (congrArg some kQ)⟩
 f17:=⟨Tryz.f254.name,dQ,Tryz.func254.trans (congrArg some kQ)⟩
 f18:=⟨Tryz.f255.name,dQ,Tryz.func255.trans (congrArg some kQ)⟩
 f19:=Tryz.func256.trans (congrArg some kQ)
 f20:=Tryz.func257.trans (congrArg some kQ)
 f30:=⟨Tryz.f264.name,dQ,Tryz.func264.trans (congrArg some kQ)⟩
 f31:=Tryz.func265.trans (congrArg some kQ)
 f32:=Tryz.func266.trans (congrArg some kQ)
 f33:=⟨Tryz.f267.name,dQ,Tryz.func267.trans (congrArg some kQ)⟩
 f34:=⟨Tryz.f268.name,dQ,Tryz.func268.trans (congrArg some kQ)⟩
 f35:=⟨Tryz.f269.name,dQ,Tryz.func269.trans (congrArg some kQ)⟩
 f40:=⟨Tryz.f271.name,dQ,Tryz.func271.trans (congrArg some kQ)⟩
 t0:=Tryz.underlying0
 a0:=Tryz.isAgg0
 z0:=Tryz.sizeOf0
 v0:=Tryz.zeroValue0
 t3:=Tryz.underlying3
 a3:=Tryz.isAgg3
 z3:=Tryz.sizeOf3
 v3:=Tryz.zeroValue3
 t4:=Tryz.underlying4
 a4:=Tryz.isAgg4
 z4:=Tryz.sizeOf4
 v4:=Tryz.zeroValue4
 t5:=Tryz.underlying5
 a5:=Tryz.isAgg5
 z5:=Tryz.sizeOf5
 v5:=Tryz.zeroValue5
 t9:=Tryz.underlying9
 a9:=Tryz.isAgg9
 z9:=Tryz.sizeOf9
 v9:=Tryz.zeroValue9
 t22:=Tryz.underlying183
 a22:=Tryz.isAgg183
 z22:=Tryz.sizeOf183
 v22:=Tryz.zeroValue183
 t23:=Tryz.underlying183
 a23:=Tryz.isAgg183
 z23:=Tryz.sizeOf183
 v23:=Tryz.zeroValue183
 t25:=Tryz.underlying3
 a25:=Tryz.isAgg3
 z25:=Tryz.sizeOf3
 v25:=Tryz.zeroValue3
 t32:=Tryz.underlying141
 a32:=Tryz.isAgg141
 z32:=Tryz.sizeOf141
 v32:=Tryz.zeroValue141
 t35:=Tryz.underlying325
 a35:=Tryz.isAgg325
 z35:=Tryz.sizeOf325
 v35:=Tryz.zeroValue325
 t36:=Tryz.underlying326
 a36:=Tryz.isAgg326
 z36:=Tryz.sizeOf326
 v36:=Tryz.zeroValue326
 t41:=Tryz.underlying187
 a41:=Tryz.isAgg187
 z41:=Tryz.sizeOf187
 v41:=Tryz.zeroValue187
 t44:=Tryz.underlying46
 a44:=Tryz.isAgg46
 z44:=Tryz.sizeOf46
 v44:=Tryz.zeroValue46
 t46:=Tryz.underlying112
 a46:=Tryz.isAgg112
 z46:=Tryz.sizeOf112
 v46:=Tryz.zeroValue112
 t53:=Tryz.underlying335
 a53:=Tryz.isAgg335
 z53:=Tryz.sizeOf335
 v53:=Tryz.zeroValue335
 t57:=Tryz.underlying339
 a57:=Tryz.isAgg339
 z57:=Tryz.sizeOf339
 v57:=Tryz.zeroValue339
 t63:=Tryz.underlying342
 a63:=Tryz.isAgg342
 z63:=Tryz.sizeOf342
 v63:=Tryz.zeroValue342
 t64:=Tryz.underlying343
 a64:=Tryz.isAgg343
 z64:=Tryz.sizeOf343
 v64:=Tryz.zeroValue343 }
open Go.RowKit Go.Eng
def zkq(L:List Nat):List Nat:=L.mergeSort fun x y=>decide (x≤y)
theorem qkr(L:List Nat):(L.map fun n:Nat=>(n:Int)).mergeSort (fun x y=>decide (x≤y))=(zkq L).map fun n:Nat=>(n:Int):=by
 unfold zkq
 refine(List.map_mergeSort (f:=fun n:Nat=>(n:Int)) fun a _ b _=>?_).symm
 simp
theorem zz4(o:Option (Nat×Nat))(L:List Nat)(hL:L.length≤1000000000):
  Cv Tryz.prog 207 #[slV o L.length] [own 3 1 o L.length (zeq L)] (fun _:Unit=>.tuple #[]) (fun _=>True) (fun _=>[own 3 1 o L.length (zeq (zkq L))]):=by
 intro w hw
 have hin:=hw _ (.head _)
 obtain⟨⟨hl,hp⟩, -,hfo⟩:=hin
 have hlen:(zkq L).length=L.length:=List.length_mergeSort L
 have hiv:zeq L=(L.map fun n:Nat=>(n:Int)).map (Value.int .i64):=by simp[zeq,fV]
 have hivs:zeq (zkq L)=((zkq L).map fun n:Nat=>(n:Int)).map (Value.int .i64):=by simp[zeq,fV]
 have hst:∀o:Option (Nat×Nat),∀it∈[own 3 1 o L.length (zeq (zkq L))],it.Stable none':=by simp[zac]
 rcases o with _|⟨b,c⟩
 ·have h0:L.length=0:=hp
  obtain rfl:L=[]:=bQ h0
  have h1:=AnyM.slices_Sort_int_none qrm none 0 w
  unfold Ct
  refine Calls.mono h1 ?_
  rintro e w' ⟨rfl,rfl⟩
  refine⟨(),rfl,trivial,.refl _ _,fun it hm=>?_,.cons (fun _ h=>nomatch h) .nil⟩
  obtain rfl:it=own 3 1 none 0 (zeq (zkq [])):=by simpa using hm
  exact⟨⟨by rw[hivs];simp[zkq],rfl⟩,zac _ _ _ _ _ _,fun k hk=>⟨hfo k hk,fun _=>⟨_,.head _,hk⟩⟩⟩
 ·obtain⟨h1,h2,cur,hb,hc,ht⟩:=hp
  rw[bO]at ht hc
  have hbl:b<w.heap.size:=(bR.1 hb).1
  have hH:Go.Sort.Holds (Value.int .i64) w b 0 (L.map fun n:Nat=>(n:Int)).toArray:=holds_of_blockI hb (by rw[aD,ht,hiv])
  have h3:=AnyM.slices_Sort_int qrm b 0 c (L.map fun n:Nat=>(n:Int)) w hH hbl (by rw[aD];omega)
  rw[aD,qkr]at h3
  unfold Ct
  refine Calls.mono h3 ?_
  rintro e w' ⟨rfl,n,os,rfl⟩
  obtain⟨g1,g2,g3,g4,g5⟩:=grownBy_sortedI (w:=w) (g:=b) (n:=n) (os:=os) ((zkq L).map fun n:Nat=>(n:Int)).toArray
  have hb':=heap_sortedI (n:=n) (os:=os) ((zkq L).map fun n:Nat=>(n:Int)).toArray hb
  refine⟨(),rfl,trivial,⟨g1,g2,g3,g4,fun k hk hF=>g5 k hk (fun e=>hF ⟨_,.head _,⟨c,by cases e;rfl⟩⟩)⟩,fun it hm=>?_,.cons (fun _ h=>nomatch h) .nil⟩
  obtain rfl:it=own 3 1 (some (b,c)) L.length (zeq (zkq L)):=by simpa using hm
  refine⟨⟨by rw[←hlen];simp[zeq],h1,h2,_,hb',by simp[Go.Sort.putCells,hc],?_⟩,zac _ _ _ _ _ _,fun k hk=>⟨aY (hfo k hk) g4,fun _=>⟨_,.head _,hk⟩⟩⟩
  have:=take_putCellsI cur ((zkq L).map fun n:Nat=>(n:Int)) (by rw[aD,hlen];omega)
  rw[aD,hlen]at this
  rw[bO,this,hivs]
theorem zkk{α:Type}[DecidableEq α]:∀{l L:List α},l.Nodup→(∀x∈l,x∈L)→l.length≤L.length
 | [],_,_,_=>aZ _
 |x::l,L,hn,h=>by
  have hx:=h x (.head _)
  have hn':=cP.1 hn
  have:=zkk (l:=l) (L:=L.erase x) hn'.2 fun y hy=>(List.mem_erase_of_ne (fun e:y=x=>hn'.1 (by rw[←e];exact hy))).2 (h y (.tail _ hy))
  rw[List.length_erase_of_mem hx]at this
  have:=List.length_pos_of_mem hx
  rw[aW]
  omega
theorem zyp{L L':List Nat}(h:L.Perm L'):zkq L=zkq L':=by
 unfold zkq
 have tr:∀a b c:Nat,decide (a≤b)=true→decide (b≤c)=true→decide (a≤c)=true:=fun a b c h1 h2=>by simp only[decide_eq_true_eq]at*;omega
 have to:∀a b:Nat,(decide (a≤b)||decide (b≤a))=true:=fun a b=>by simp only[iE,decide_eq_true_eq];omega
 refine List.Perm.eq_of_pairwise (le:=fun a b=>decide (a≤b)=true) (fun a b _ _ h1 h2=>?_) (List.pairwise_mergeSort tr to L) (List.pairwise_mergeSort tr to L') (((List.mergeSort_perm L _).trans h).trans (List.mergeSort_perm L' _).symm)
 simp only[decide_eq_true_eq]at h1 h2
 omega
theorem zi3(x b:Nat)(A:zcs)(hA:A.length≤1000000000):
  Cw Tryz.prog 166 #[kyV x] (kyI x b A) (fun o:Option (Nat×Nat)=>slV o A.length) (fun _=>True) (fun o=>[own 3 1 o A.length (zeq (zkq (zjv A))),zck .i64 b A]):=by
 intro w hw ha
 refine za2 [_] _ Tryz.func166 rfl rfl hw ha ?_
 simp only[zaa]
 unfold kyV
 refine goA ?_
 have hmo:∀it∈[zck .i64 b A],it.Stable none':=by simp[zax]
 have hkl:(zjv A).length=A.length:=by simp[zjv]
 refine zgb (m':=kyI x b A++[]) (by rw[bC]) ?_
 refine zeh rfl (zfb (pre:=kyI x b A) (m:=[]) rfl kQ rfl (zki x b A) (fun w1 hw1 hh1 ha1=>zru (f:=208) (cs:=[.pointer (some ⟨x,0,none⟩)]) kQ (qgu x b A) (zki x b A) hmo (fun k y h=>by
  have h1:(k++[y]).length≤(zjv A).length:=zkk h.1 h.2
  rw[aA,hkl]at h1
  simp at h1
  omega) w1 hh1 ha1)) fun⟨⟨o,out⟩,hS⟩=>?_
 dsimp only at hS⊢
 have hol:out.length=A.length:=by rw[hS.length_eq,hkl]
 have hso:zkq out=zkq (zjv A):=zyp hS
 refine goA ?_
 refine lCu [own 3 1 o out.length (zeq out)] rfl (by simp[zac]) (fun w1 hw1 hh1 ha1=>zz4 o out oQ w1 hh1) fun⟨_,_⟩=>?_
 rw[hso,hol]
 refine goA ?_
 exact zbd o rfl rfl rfl trivial (.cons_cons _ (.cons_cons _ (.refl _))) (by simp[zac,zax])
end Go.Proofs.YthafakdplhdfjaaGreatDoor
namespace Go.Proofs.YthafakdplhdfjaaGreatDoor
open Go.RowKit Go.Eng Go.Eng.Bm
theorem qot{s:Pg}{d d':Dk}(h:d'.b=d.b):pgI s d'=pgI s d:=by unfold pgI pgL pgC lgI pgA lgA;rw[h]
def zb2(A:PR):PR:=(zkq (A.map (·.1))).map fun i=>(i,(A.lookup i).getD [])
def wsP(secs:Nat)(A:PR):List (Nat×Bys):=(zb2 A).map fun p=>(2+secs+p.1,p.2)
theorem zhk(L:List Nat):(zkq L).length=L.length:=List.length_mergeSort L
theorem zhl{L:List Nat}{x:Nat}:x∈zkq L↔x∈L:=List.mem_mergeSort
variable{A:PR}
theorem zjw{i:Nat}(h:i∈A.map (·.1)):∃b,A.lookup i=some b:=by
 obtain⟨p,hp,rfl⟩:=aS.1 h
 cases hl:A.lookup p.1 with
 |some b=>exact⟨b,rfl⟩
 |none=>
  have:∀B:PR,p∈B→B.lookup p.1≠none:=by
   intro B
   induction B with
   |nil=>intro h;cases h
   |cons q B ih=>
    intro h hn
    rw[cJ]at hn
    by_cases e:p.1=q.1
    ·rw[e]at hn;simp at hn
    ·rcases aL.1 h with rfl|h
     ·exact e rfl
     ·rw[show(p.1==q.1)=false by simpa using e]at hn
      exact ih h hn
  exact absurd hl (this A hp)
theorem zmc{n:Nat}(h:A.Ok n):(zb2 A).Ok n:=by
 intro p hp
 obtain⟨i,hi,rfl⟩:=aS.1 hp
 obtain⟨b,hb⟩:=zjw (zhl.1 hi)
 have:=h _ (zbt hb)
 simp only[hb,eD]
 exact this
theorem ziz(d:Dk)(s:Pg)(lb:Nat)(A:PR):∀it∈[dkI d,pgI s d,zck .i64 lb (toP A)],it.Stable none':=by
 intro it hm
 rcases hm with _|⟨_,_|⟨_,_|⟨_,hm⟩⟩⟩
 ·exact zad _
 ·exact zbv _ _
 ·exact zax _ _ _ _
 ·exact nomatch hm
theorem zmo(s:Pg)(d:Dk)(lb:Nat)(A:PR)(ok:d.D.Ok)(hkl:d.D.keep.length≤1000000)(hwl:d.D.wait.length+A.length≤1000000)(hn:s.n≤1024)(hsecs:s.g.h.secs<65536)(hA:A.Ok s.n):
  Cw Tryz.prog 116 #[.pointer (some ⟨s.b,0,none⟩),.map (some lb)] [dkI d,pgI s d,zck .i64 lb (toP A)] (fun _:Dk=>.int .i64 ((zbb d.D (wsP s.g.h.secs A)).1:Nat)) (zfz d (zbb d.D (wsP s.g.h.secs A)).2) (fun d'=>[dkI d',pgI s d',zck .i64 lb (toP A)]):=by
 intro w hw ha
 refine za2 [_,_] _ Tryz.func116 rfl rfl hw ha ?_
 simp only[zaa,Nat.reduceAdd]
 refine goA ?_
 refine zdy rfl rfl kQ rfl (fun w1 hw1=>zsq lb w1) fun x hx=>?_
 refine goA ?_
 refine zay [0,3,1,2] rfl rfl ?_
 have hkl2:(toP A).length=A.length:=by simp[toP]
 have hke:zjv (toP A)=A.map (·.1):=by simp[zjv,toP,fV]
 refine lCu (kyI x lb (toP A)) rfl (zki _ _ _) (fun w1 hw1 hh1 ha1=>zi3 x lb (toP A) oQ w1 hh1 ha1) fun⟨o,_⟩=>?_
 rw[hkl2,hke]
 dsimp only
 refine zch (fun w hw=>(zas (hw.item (own 3 1 o A.length (zeq (zkq (A.map (·.1))))) (.head _)).1)) fun⟨hsl,hcap⟩=>?_
 rw[hsl]
 refine goA ?_
 have hrl:(zb2 A).length=A.length:=by rw[zb2,aD,zhk,aD]
 have hwsl:(wsP s.g.h.secs A).length=A.length:=by rw[wsP,aD,hrl]
 have hro:=zmc hA
 have hwsk:∀k (hk:k<A.length),(wsP s.g.h.secs A).take (k+1)=(wsP s.g.h.secs A).take k++[(2+s.g.h.secs+((zb2 A)[k]'oQ).1,((zb2 A)[k]'oQ).2)]:=fun k hk=>by
  rw[cV,wsP,aO,aB oQ]
  rfl
 have hokk:∀k,(zbb d.D ((wsP s.g.h.secs A).take k)).2.Ok:=fun k=>zf7 _ _ ok
 have hkeepk:∀k,k≤A.length→(zbb d.D ((wsP s.g.h.secs A).take k)).1=0→(zbb d.D ((wsP s.g.h.secs A).take k)).2.keep=d.D.keep∧(zbb d.D ((wsP s.g.h.secs A).take k)).2.wait.length=d.D.wait.length+k:=fun k hk h0=>by
  have:=ze7 ((wsP s.g.h.secs A).take k) d.D ok h0
  rw[aM,hwsl,dB hk]at this
  exact this
 have hbad:∀k,(zbb d.D ((wsP s.g.h.secs A).take k)).1≠0→zbb d.D (wsP s.g.h.secs A)=zbb d.D ((wsP s.g.h.secs A).take k):=fun k hk=>by
  have h1:=zmp ((wsP s.g.h.secs A).take k) ((wsP s.g.h.secs A).drop k) d.D hk
  rw[bF]at h1
  exact h1
 have hall:zbb d.D ((wsP s.g.h.secs A).take A.length)=zbb d.D (wsP s.g.h.secs A):=by rw[bJ oQ]
 refine zc0 (α:=Nat×Dk) (fun y=>[(0,.pointer (some ⟨s.b,0,none⟩)),(1,.map (some lb)),(11,.slice (slA o) A.length (slC o)),(12,.int .i64 A.length),(13,.int .i64 y.1)]) (fun y=>y.1≤A.length∧(zbb d.D ((wsP s.g.h.secs A).take y.1)).1=0∧zfz d (zbb d.D ((wsP s.g.h.secs A).take y.1)).2 y.2) (fun y=>[dkI y.2,pgC s d,lgI s.bl d s.g,zck .i64 s.kb (toP s.K),zck .i64 s.db (toB s.R),zck .i64 s.cb (toP s.C),zck .i64 lb (toP A),own 3 1 o A.length (zeq (zkq (A.map (·.1))))]) (fun y=>A.length - y.1) (0,d) ⟨rfl,rfl,rfl,rfl,rfl,trivial⟩ ⟨aZ _,rfl,rfl,rfl,rfl⟩ (fun w hw=>(ze1 (m:=[dkI d,zck .i64 lb (toP A),own 3 1 o A.length (zeq (zkq (A.map (·.1))))]) (hw.pick [3,2,1,0] rfl rfl)).pick [5,0,1,2,3,4,6,7] rfl rfl) fun⟨k,d1⟩ ⟨hk,h0,hd1⟩=>?_
 simp only at hk h0 hd1⊢
 by_cases hkn:k<A.length
 ·have hst:zbb d.D ((wsP s.g.h.secs A).take (k+1))=zbz (zbb d.D ((wsP s.g.h.secs A).take k)).2 (2+s.g.h.secs+((zb2 A)[k]'oQ).1) ((zb2 A)[k]'oQ).2:=by
   rw[hwsk k hkn,zmq,if_pos h0]
  obtain⟨hkp,hwt⟩:=hkeepk k oQ h0
  have hokd:=hokk k
  have hbad2:=hbad (k+1)
  generalize zbb d.D ((wsP s.g.h.secs A).take k)=r at*
  obtain⟨hd1a,hd1b,hd1c⟩:=hd1
  rw[←hd1c]at hkp hwt hokd hst
  have hin:=hro _ (aT (l:=zb2 A) (n:=k) oQ)
  have hsk:(zkq (A.map (·.1)))[k]? =some ((zb2 A)[k]'oQ).1:=by
   rw[aB (by rw[zhk,aD];exact hkn)]
   simp[zb2]
  have hlk:A.lookup ((zb2 A)[k]'oQ).1=some ((zb2 A)[k]'oQ).2:=by
   have h1:((zb2 A)[k]'oQ).1∈A.map (·.1):=zhl.1 (bI hsk)
   obtain⟨b,hb⟩:=zjw h1
   rw[hb]
   simp only[zb2,cS]at hb⊢
   rw[hb]
   rfl
  generalize (zb2 A)[k]'oQ=p at hst hin hsk hlk
  obtain⟨i,bs⟩:=p
  simp only at hst hin hsk hlk
  rcases o with _|⟨ob,oc⟩
  ·refine zhm (fun w hw=>(hw.item (own 3 1 none A.length (zeq (zkq (A.map (·.1))))) sQ).1.2) fun h=>?_
   exact absurd h oQ
  have hcell:∀{m:List Eng.Item} {w2:World} {F2:Nat→Prop} (w':World),Hp w2 F2 m w'→own 3 1 (some (ob,oc)) A.length (zeq (zkq (A.map (·.1))))∈m→w'.cell? ⟨ob,k,none⟩=some (.int .i64 (i:Int)):=fun w' hw' hm=>zby (hw'.item _ hm).1 k _ (by simp[zeq,hsk])
  simp only[slA,slC]
  have hbl:(zae bs).length=512:=by rw[zan,hin.2]
  refine goA ?_
  refine l_w rfl (za0 (v:=.int .i64 (i:Int)) rfl rfl (fun w' hw'=>by rw[aH];exact hcell w' hw' sQ)) ?_
  refine goA ?_
  refine l_w rfl (zv5 (q:=.i64) (h:=i) (A:=toP A) (b:=lb) rfl rfl rfl rfl rfl (okI oQ) sQ) ?_
  rw[zic,hlk]
  simp only[bZ,eD,pgV]
  refine goA ?_
  refine zam rfl rfl fun b7 hb7=>?_
  refine za1 rfl (zaf (cs':=(zae bs).toArray) rfl rfl rfl (by rw[aI,hbl];rfl) (zdd _) (by rw[aI,hbl];rfl)) fun _=>?_
  refine goA ?_
  refine zcx [1,0,2,3,4,5,6,7,8] rfl rfl ?_
  refine zap [1,2,3,4,5,6,7,8] 14 rfl rfl kQ ?_
  (repeat first|refine dAv [11] rfl rfl rfl ?_ |refine dno [11] rfl rfl rfl ?_ |refine dT [11] rfl rfl rfl rfl ?_ |refine dF [11] rfl rfl rfl rfl ?_)
  refine d_v [8] rfl rfl kQ (fun _ h=>goH h) rfl rfl (zg9 (n:=512) rfl rfl rfl rfl) ?_
  refine zat 8 ⟨kQ,dQ⟩ rfl rfl (zfc rfl kQ rfl (fun w1 hw1=>zd6 s.bl d s.g w1 (zbq.of (hw1.item (lgI s.bl d s.g) sQ) (zab _ _ _)))) (fun _ _ h=>goH h) fun _=>?_
  refine goE ?_
  refine zat 10 ⟨kQ,dQ⟩ rfl rfl (zfc rfl kQ rfl (fun w1 hw1=>zfv s.g.h.secs i oQ oQ w1)) (fun _ _ h=>goH h) fun _=>?_
  refine goE ?_
  rw[←hd1a]
  refine zat 12 ⟨kQ,dQ⟩ rfl rfl (zfb (pre:=[dkI d1]) rfl kQ rfl (by intro it hm;rcases hm with _|⟨_,hm⟩<;>first|exact zad _|exact(nomatch hm)) (fun w1 hw1 hh1 ha1=>zuc d1 hokd (by rw[hkp];exact hkl) (by rw[hwt];omega) (2+s.g.h.secs+i) oQ bs 512 hin.2 (some ⟨b7,0,none⟩) 512 dQ w1 hh1 (fun w2 hw2=>.inr ⟨b7,0,rfl,zbf (hw1.still (y:=pt b7 (.cells (zae bs).toArray 214 (0,0))) (.head _) (zab _ _ _) hw2)⟩))) (fun _ _ h=>goH h) fun⟨d2,hd2⟩=>?_
  refine goE ?_
  refine zdn kQ ?_
  dsimp only
  rw[←hst]at hd2⊢
  have hok2:zfz d (zbb d.D ((wsP s.g.h.secs A).take (k+1))).2 d2:=⟨hd2.1.trans hd1a,hd2.2.1.trans hd1b,hd2.2.2⟩
  refine goA ?_
  by_cases he:(zbb d.D ((wsP s.g.h.secs A).take (k+1))).1=0
  ·have hne:(((zbb d.D ((wsP s.g.h.secs A).take (k+1))).1:Int) != 0)=false:=by simp[he]
   rw[hne]
   refine goA ?_
   exact zaw (k+1,d2) ⟨rfl,rfl,rfl,rfl,rfl,trivial⟩ ⟨hkn,he,hok2⟩ (fun w hw=>by exact hw.pick [0,2,3,4,5,6,7,8] rfl rfl) (by show A.length - (k+1)<A.length - k;omega)
  ·have hne:(((zbb d.D ((wsP s.g.h.secs A).take (k+1))).1:Int) != 0)=true:=by simp[he]
   rw[hne,hbad2 he]
   refine goA ?_
   refine zbr (m':=[dkI d2,pgI s d2,zck .i64 lb (toP A)]) (fun w' hw'=>?_) (zbd d2 rfl rfl rfl hok2 (.refl _) (ziz _ _ _ _))
   rw[qot hok2.1]
   exact(zdm (m:=[dkI d2,zck .i64 lb (toP A)]) (hw'.pick [2,3,4,5,6,0,7] rfl rfl)).pick [1,0,2] rfl rfl
 ·obtain rfl:k=A.length:=oQ
  rw[hall]at h0 hd1
  rw[h0]
  refine goA ?_
  refine zbr (m':=[dkI d1,pgI s d1,zck .i64 lb (toP A)]) (fun w' hw'=>?_) (zbd d1 rfl rfl rfl hd1 (.refl _) (ziz _ _ _ _))
  rw[qot hd1.1]
  exact(zdm (m:=[dkI d1,zck .i64 lb (toP A)]) (hw'.pick [1,2,3,4,5,0,6] rfl rfl)).pick [1,0,2] rfl rfl
end Go.Proofs.YthafakdplhdfjaaGreatDoor
