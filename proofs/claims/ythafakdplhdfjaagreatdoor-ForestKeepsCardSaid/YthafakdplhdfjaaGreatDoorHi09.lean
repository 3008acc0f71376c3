/- Parts: Contracts of package bits; maps; slices; package pages. No condition. -/
import Derived.Test.YthafakdplhdfjaaGreatDoorHi08
import Derived.Test.YthafakdplhdfjaaGreatDoorHi02
import Derived.Test.YthafakdplhdfjaaGreatDoorChecked
import Derived.Shelf.SortM.Plain
import Derived.Shelf.SortM.SortNone
import Derived.Sort.OwnSortedInts
set_option maxRecDepth 100000
set_option maxHeartbeats 40000000
namespace Go.Proofs.YthafakdplhdfjaaGreatDoor
open Go.RowKit Go.Eng Go.Eng.Bm
def qi2(n:Nat)(S:Nat→Bool):Array Value:=(zif n S).extract 1 17
theorem qi3(n:Nat)(S:Nat→Bool){k:Nat}(hk:k<16):(qi2 n S)[k]? =some (.int .u64 (zrd S k)):=by
 unfold qi2
 rw[Array.getElem?_extract,if_pos (by rw[za6];omega),zm0 n S hk]
theorem qed(n:Nat)(S:Nat→Bool)(w:World):Pu Tryz.prog 101 #[.agg (zif n S)] w (.int .i64 (cnt S 1024)):=by
 refine zbn [_] Tryz.func101 rfl rfl ?_
 simp only[zaa]
 refine goA ?_
 refine zbp rfl rfl fun b hb=>?_
 refine goA ?_
 refine l_w rfl ((qiv (n:=16) rfl rfl (.head _) (by rw[za6];omega))) ?_
 refine goA ?_
 refine zc0 (α:=Nat) (fun k=>[(8,.int .i64 k),(3,.int .i64 (cnt S (64*k))),(7,.agg (qi2 n S))]) (fun k=>k≤16) (fun _=>[]) (fun k=>16 - k) 0 ⟨rfl,rfl,rfl,trivial⟩ dQ Hp.none fun k hk=>?_
 have hc:=qfo S (64*k)
 refine goA ?_
 refine zq2 _ rfl rfl (fun h=>?_) (fun h=>?_)
 ·have hk':k<16:=by simp at h;omega
  refine goA ?_
  refine l_w rfl ((qis rfl rfl rfl rfl rfl hk' (qi3 n S hk'))) ?_
  refine goA ?_
  refine lPu rfl (fun w _=>qh9 _ w) ?_
  have hc2:=qfo (fun i=>S (64*k+i)) 64
  refine goA ?_
  exact zaw (k+1) ⟨rfl,by rw[show 64*(k+1)=64*k+64 by omega,qm1];rfl,rfl,trivial⟩ oQ Hp.none oQ
 ·obtain rfl:k=16:=by simp at h;omega
  refine goA ?_
  exact zdk rfl rfl rfl
structure qbc (w:World):Prop where
 obj:w.heap[0]? =some (.cells (tab64.map fun n:Nat=>Value.int .u8 n).toArray 295 (0,0))
theorem qbc.at_{w:World}(h:qbc w)(j:Nat)(hj:j<64):w.cell? ⟨0,j,none⟩=some (.int .u8 (tab64.getD j 0:Nat)):=by
 have:=zbf h.obj j (.int .u8 (tab64.getD j 0:Nat)) (by
  rw[aN,aI,aB (show j<tab64.length from hj)];rfl)
 rwa[aJ]at this
theorem qbc.keep{w0 w:World}{m:List Eng.Item}(h:qbc w0)(hw:Hp w0 none' m w):qbc w:=⟨(hw.fr.block _ (bQ.1 h.obj).1 (fun h=>h)).trans h.obj⟩
theorem qlk(x t:Nat)(hx:x<18446744073709551616)(ht:x.testBit t=true)(hl:∀j,j<t→x.testBit j=false)(w:World)(hw:qbc w):Pu Tryz.prog 180 #[.int .u64 x] w (.int .i64 t):=by
 have h0:0<x:=by
  rcases fJ x with h|h
  ·subst h;simp at ht
  ·exact h
 have ht64:t<64:=by
  rcases gG t 64 with h|h
  ·exact h
  ·have:x.testBit t=false:=fR (aW hx (dK (n:=2) (i:=64) dQ h))
   rw[this]at ht;cases ht
 have hn:=qnj hx ht hl
 obtain⟨t1,t2⟩:=qrr t ht64
 refine zbn [_] Tryz.func180 rfl rfl ?_
 simp only[zaa]
 refine goA ?_
 refine l_w rfl ((qpk rfl h0 hx)) ?_
 refine l_w rfl ((qpd rfl rfl hx)) ?_
 refine zd2 8 _ (.int .u64 (2^t:Nat)) rfl (by rw[hn]) ?_
 refine l_w rfl ((qpj rfl rfl)) ?_
 refine l_w rfl ((qlw rfl rfl dQ)) ?_
 refine zd2 10 _ (.int .u64 (qcx t:Nat)) rfl rfl ?_
 refine l_w rfl ((qiu rfl rfl rfl t1)) ?_
 refine l_w rfl ((za0 (v:=.int .u8 t) rfl rfl fun w' hw'=>?_)) ?_
 ·have:=(hw.keep hw').at_ (qcx t) t1
  rw[t2]at this
  simpa using this
 refine goA ?_
 exact zdk rfl rfl rfl
theorem qpc(w:World):Pu Tryz.prog 180 #[.int .u64 0] w (.int .i64 64):=by
 refine zbn [_] Tryz.func180 rfl rfl ?_
 simp only[zaa]
 refine goA ?_
 exact zdk rfl rfl rfl
theorem qdy(n:Nat)(S:Nat→Bool)(a:Nat)(hn:n≤1024)(ha:a<n)(hS:S a=false)(hl:∀j,j<a→S j=true)(w:World)(hw:qbc w):
  Pu Tryz.prog 129 #[.agg (zif n S)] w (.tuple #[.int .i64 a,.bool true]):=by
 refine zbn [_] Tryz.func129 rfl rfl ?_
 simp only[zaa]
 refine goA ?_
 refine zbp rfl rfl fun b hb=>?_
 refine goA ?_
 refine l_w rfl ((qiv (n:=16) rfl rfl (.head _) (by rw[za6];omega))) ?_
 refine goA ?_
 refine zc0 (α:=Nat) (fun k=>[(1,.pointer (some ⟨b,0,none⟩)),(9,.int .i64 k),(8,.agg (qi2 n S))]) (fun k=>k≤a/64) (fun _=>[pt b (.cells (zif n S) 179 (0,0))]) (fun k=>16 - k) 0 ⟨rfl,rfl,rfl,trivial⟩ (bA _) (fun _ h=>h) fun k hk=>?_
 refine goA ?_
 have hk':k<16:=oQ
 have hwl:=qa4 S k
 refine goA ?_
 refine l_w rfl ((qis rfl rfl rfl rfl rfl hk' (qi3 n S hk'))) ?_
 refine goA ?_
 refine l_w rfl (qpl rfl hwl) ?_
 refine goA ?_
 by_cases hka:k=a/64
 ·have htz:=qlk (18446744073709551615^^^zrd S k) (a%64) (kL (n:=64) dQ hwl) (by rw[qb3 S k _ oQ,show 64*k+a%64=a by omega,hS];rfl) (fun j hj=>by rw[qb3 S k _ oQ,hl _ oQ];rfl)
  have hnf:zrd S k≠18446744073709551615:=zyx (j:=a%64) oQ (by rw[show 64*k+a%64=a by omega,hS])
  refine lPu rfl (fun w' hw'=>htz w' (hw.keep hw')) ?_
  refine l_w rfl ((qs4 rfl rfl oQ)) ?_
  refine zd2 18 _ (.int .i64 a) rfl (by rw[show k*64+a%64=a by omega]) ?_
  refine goA ?_
  refine zd2 21 _ (.bool true) rfl (by congr 1) ?_
  refine goA ?_
  refine lPu rfl (fun w' _=>zx4 _ n a w' (zpy n S)) ?_
  refine zd2 24 _ (.bool true) rfl (by simp;omega) ?_
  refine goA ?_
  exact zie rfl rfl rfl rfl
 ·have hf:=qi1 (S:=S) (k:=k) (fun j hj=>hl _ oQ)
  rw[hf]
  refine lPu rfl (fun w' hw'=>qpc w') ?_
  refine goA ?_
  exact zaw (k+1) ⟨rfl,rfl,rfl,trivial⟩ oQ (fun _ h=>h) oQ
def zhc(S:Nat→Bool)(k:Nat):Array Value:=((List.range 512).map fun j=>Value.int .u8 (byte (zd3 S k) j:Nat)).toArray
theorem zg2(S:Nat→Bool)(k:Nat):(zhc S k).size=512:=by simp[zhc]
theorem zhx(S:Nat→Bool)(k:Nat){j:Nat}(hj:j<512):(zhc S k)[j]? =some (.int .u8 (byte (zd3 S k) j:Nat)):=by
 simp only[zhc,fF]
 rw[aN,eQ hj];rfl
theorem zze(S:Nat→Bool):zhc S 0=Array.replicate 512 (.int .u8 0):=by
 refine iA fun j=>?_
 by_cases hj:j<512
 ·rw[zhx S 0 hj]
  have:byte (zd3 S 0) j=0:=by
   refine eX fun i=>?_
   unfold byte;rw[zc4];simp[zd3]
  rw[this];simp[hj]
 ·rw[dR (by rw[zg2];omega),dR (by simp;omega)]
theorem qff(S:Nat→Bool)(k:Nat)(h:S k=false):zhc S (k+1)=zhc S k:=by
 exact congrArg List.toArray (cT fun j _=>by rw[zwp S k j (.inr h)])
theorem qc6(S:Nat→Bool)(k:Nat)(hk:k<4096)(h:S k=true):(zhc S k).setIfInBounds (k/8) (.int .u8 (byte (zd3 S k) (k/8)|||2^(k%8):Nat))=zhc S (k+1):=by
 refine iA fun j=>?_
 rw[jV]
 by_cases e:k/8=j
 ·subst e
  rw[if_pos rfl,if_pos (by rw[zg2];omega),zhx _ _ oQ,qnl S k h]
 ·rw[if_neg e]
  by_cases hj:j<512
  ·rw[zhx _ _ hj,zhx _ _ hj,zwp S k j (.inl (Ne.symm e))]
  ·rw[dR (by rw[zg2];omega),dR (by rw[zg2];omega)]
theorem zn1(n:Nat)(S:Nat→Bool)(hn:n≤1024)(w:World):
  Ct Tryz.prog 125 #[.agg (zif n S)] w none' (α:=Nat) (fun c=>.slice (some ⟨c,0,none⟩) 512 512) (fun _=>True) (fun c=>[pt c (.cells (zhc S n) 5 (0,0))]):=by
 refine zes [_] Tryz.func125 rfl rfl ?_
 simp only[zaa]
 refine goA ?_
 refine zbp rfl rfl fun b hb=>?_
 refine goA ?_
 refine qmj rfl rfl rfl rfl rfl rfl dQ dQ fun c hc=>?_
 refine goA ?_
 refine zc0 (α:=Nat) (fun k=>[(1,.pointer (some ⟨b,0,none⟩)),(7,.int .i64 n),(8,.int .i64 k),(3,.slice (some ⟨c,0,none⟩) 512 512)]) (fun k=>k≤n) (fun k=>[pt c (.cells (zhc S k) 5 (0,0)),pt b (.cells (zif n S) 179 (0,0))]) (fun k=>n - k) 0 ⟨rfl,rfl,rfl,rfl,trivial⟩ (bA _) (fun _ h=>by rw[zze];exact h) fun k hk=>?_
 refine goA ?_
 refine zq2 _ rfl rfl (fun h=>?_) (fun h=>?_)
 ·have hk':k<n:=by simp at h;omega
  refine goA ?_
  refine lPu rfl (fun w' _=>qmg n S k hk' hn w') ?_
  refine goA ?_
  refine zq2 _ rfl rfl (fun hS=>?_) (fun hS=>?_)
  ·refine goA ?_
   have hk8:k/8<512:=oQ
   have hb8:=qfl (zd3 S k) (k/8)
   have hp8:2^(k%8)<256:=jU (n:=8) dQ oQ
   have hpe:1*2^(k%8)%256=2^(k%8):=by rw[jS,bC hp8]
   refine qct 10 kQ (fun _ h=>h.drew) ?_
   (repeat refine d_ ?_)
   refine d_v [] rfl rfl kQ (fun _ h=>h) rfl rfl (zc5 rfl rfl (.head _) (by rw[aJ];exact zhx S k hk8)) ?_
   (repeat first|(apply d_w [8] rfl rfl rfl kQ (fun _ h=>h);focus (first|exact zi4 rfl|exact zgm rfl|exact qit rfl rfl|exact ze2 rfl rfl|exact zea rfl rfl|exact zhv rfl rfl|exact zmm rfl rfl|exact zgn rfl rfl|exact qlq rfl|exact zgo rfl rfl (by repeat first|exact .head _|apply List.Mem.tail) |exact zc5 rfl rfl (by repeat first|exact .head _|apply List.Mem.tail) rfl|exact zcw rfl rfl (by repeat first|exact .head _|apply List.Mem.tail) |exact zv3 rfl rfl rfl|((first|refine qjf rfl rfl ?_ |refine zra rfl rfl rfl ?_ |refine zv4 rfl rfl rfl ?_ |refine qlv rfl rfl rfl ?_ |refine qlt rfl rfl rfl ?_ |refine qlu rfl rfl rfl ?_ |refine v_sFT rfl rfl rfl rfl ?_ |refine qlp rfl rfl rfl rfl ?_ |refine qlo rfl rfl rfl ?_ |refine qln rfl rfl rfl ?_);first|omega|assumption) |exact qls rfl rfl cQ|exact qlr rfl rfl cQ|exact v_pickB rfl rfl rfl)) |refine qez [8] rfl rfl rfl kQ (fun _ h=>h) ?_ |refine d_T [8] rfl rfl rfl rfl cQ ?_ |refine d_F [8] rfl rfl rfl rfl cQ ?_)
   simp only[hpe]
   refine d_v [] rfl rfl kQ (fun _ h=>h) rfl rfl (qs9 rfl rfl hb8 hp8) ?_
   (repeat refine d_ ?_)
   refine zet ⟨kQ,kQ⟩ rfl rfl (zai rfl rfl rfl rfl rfl rfl (by rw[zg2];omega)) fun _=>?_
   refine goA ?_
   exact zaw (k+1) ⟨rfl,rfl,rfl,rfl,trivial⟩ oQ (fun _ h=>by rw[aJ,qc6 S k oQ hS]at h;exact h) oQ
  ·refine goA ?_
   exact zaw (k+1) ⟨rfl,rfl,rfl,rfl,trivial⟩ oQ (fun _ h=>by rw[qff S k hS];exact h) oQ
 ·obtain rfl:k=n:=by simp at h;omega
  refine goA ?_
  refine zbd c rfl rfl rfl trivial sQ (fun it hm=>?_)
  obtain rfl:it=pt c (.cells (zhc S k) 5 (0,0)):=by simpa using hm
  exact zab _ _ _
abbrev noS:Nat→Bool:=fun _=>false
def zhd(bs:Nat→Nat):Nat→Bool:=fun i=>(bs (i/8)).testBit (i%8)
theorem qfi(bs:Nat→Nat){i k:Nat}(hk:k<8):((((bs i)/2^k%2:Nat):Int)==0)= !zhd bs (8*i+k):=by
 unfold zhd
 rw[show(8*i+k)/8=i by omega,show(8*i+k)%8=k by omega,jI,eA]
 generalize bs i/2^k=q
 simp
 omega
theorem qiq(f:Nat→Bool)(k:Nat)(h:f k=true):upd (zd3 f k) k true=zd3 f (k+1):=funext fun j=>by
 unfold upd zd3
 by_cases e:j=k
 ·subst e;simp[h]
 ·by_cases h2:j<k
  ·simp[e,h2,eS h2]
  ·simp only[if_neg e,h2,decide_false,eI,show¬j<k+1 by omega]
theorem qlj(f:Nat→Bool)(k:Nat)(h:f k=false):zd3 f k=zd3 f (k+1):=funext fun j=>by
 unfold zd3
 by_cases e:j=k
 ·subst e;simp[h]
 ·by_cases h2:j<k
  ·simp[h2,eS h2]
  ·simp only[h2,decide_false,eI,show¬j<k+1 by omega]
theorem qeu(f:Nat→Bool):zd3 f 0=fun _=>false:=funext fun j=>by simp[zd3]
theorem qku(ba off cap:Nat)(bs:Nat→Nat)(n:Nat)(h1:1≤n)(h2:n≤1024)(w:World)(hbs:∀i,i<512→w.cell? ⟨ba,off+i,none⟩=some (.int .u8 (bs i:Nat)))(hf:∀j,j<4096→zhd bs j=true→j<n):
  Pu Tryz.prog 149 #[.slice (some ⟨ba,off,none⟩) 512 cap,.int .i64 n] w (.tuple #[.agg (zif n (zd3 (zhd bs) 4096)),.int .i64 0]):=by
 refine zbn [_,_] Tryz.func149 rfl rfl ?_
 simp only[zaa,Nat.reduceAdd]
 refine goA ?_
 refine zam rfl rfl fun b hb=>?_
 refine goA ?_
 refine lPu rfl (fun w' _=>qg6 n h1 h2 w') ?_
 refine goA ?_
 refine zam rfl rfl fun b2 hb2=>?_
 refine za1 rfl (zaf rfl rfl rfl (by rw[za6];rfl) (zey _ _) (by rw[za6];rfl)) fun _=>?_
 refine goA ?_
 refine zc0 (α:=Nat) (fun i=>[(1,.int .i64 n),(4,.pointer (some ⟨b,0,none⟩)),(6,.pointer (some ⟨b2,0,none⟩)),(25,.slice (some ⟨ba,off,none⟩) 512 cap),(26,.int .i64 512),(27,.int .i64 i)]) (fun i=>i≤512) (fun i=>[pt b2 (.cells (zif n (zd3 (zhd bs) (8*i))) 179 (0,0)),pt b (.cells (zif 0 noS) 179 (0,0))]) (fun i=>512 - i) 0 ⟨rfl,rfl,rfl,rfl,rfl,rfl,trivial⟩ (bA _) (fun _ h=>by rw[Nat.mul_zero,qeu,qg4];exact h) fun i hi=>?_
 refine goA ?_
 refine zq2 _ rfl rfl (fun h=>?_) (fun h=>?_)
 ·have hi':i<512:=by simp at h;omega
  refine goA ?_
  refine l_w rfl ((ze3 rfl rfl (fun h=>h) (hbs i hi'))) ?_
  refine goA ?_
  refine zc0 (α:=Nat) (fun k=>[(1,.int .i64 n),(4,.pointer (some ⟨b,0,none⟩)),(6,.pointer (some ⟨b2,0,none⟩)),(25,.slice (some ⟨ba,off,none⟩) 512 cap),(26,.int .i64 512),(27,.int .i64 i),(8,.int .i64 i),(9,.int .u8 (bs i:Nat)),(32,.int .i64 k)]) (fun k=>k≤8) (fun k=>[pt b2 (.cells (zif n (zd3 (zhd bs) (8*i+k))) 179 (0,0)),pt b (.cells (zif 0 noS) 179 (0,0))]) (fun k=>8 - k) 0 ⟨rfl,rfl,rfl,rfl,rfl,rfl,rfl,rfl,rfl,trivial⟩ (bA _) (fun _ h=>by rw[fY];exact h) fun k hk=>?_
  refine goA ?_
  refine zq2 _ rfl rfl (fun h=>?_) (fun h=>?_)
  ·have hk':k<8:=by simp at h;omega
   refine goA ?_
   refine l_w rfl (qll rfl rfl) ?_
   refine goA ?_
   refine zq2 _ rfl rfl (fun h=>?_) (fun h=>?_)
   ·have hb0:zhd bs (8*i+k)=false:=by
     have:=qfi bs (i:=i) hk'
     rw[show(((bs i/2^k%2:Nat):Int)==0)=true from h]at this
     simpa using this.symm
    refine goA ?_
    exact zaw (k+1) ⟨rfl,rfl,rfl,rfl,rfl,rfl,rfl,rfl,rfl,trivial⟩ oQ (fun _ h=>by rw[←eY,←qlj _ _ hb0];exact h) oQ
   ·have hb1:zhd bs (8*i+k)=true:=by
     have:=qfi bs (i:=i) hk'
     rw[show(((bs i/2^k%2:Nat):Int)==0)=false from h]at this
     simpa using this.symm
    have hlt:=hf (8*i+k) oQ hb1
    refine goA ?_
    refine lPu rfl (fun w' _=>zm2 n _ _ true h2 w') ?_
    have hset:qe5 n (zd3 (zhd bs) (8*i+k)) ((8*i+k:Nat):Int) true=zd3 (zhd bs) (8*i+k+1):=by
     unfold qe5 onB
     rw[decide_eq_true (show(0:Int)≤((8*i+k:Nat):Int) by omega),decide_eq_true (show((8*i+k:Nat):Int)<(n:Int) by omega)]
     simp only[Bool.and_self,cond_true,cC]
     exact qiq _ _ hb1
    rw[hset]
    refine za1 rfl (zaf rfl rfl rfl (by rw[za6];rfl) (zey _ _) (by rw[za6,za6])) fun _=>?_
    refine goA ?_
    exact zaw (k+1) ⟨rfl,rfl,rfl,rfl,rfl,rfl,rfl,rfl,rfl,trivial⟩ oQ (fun _ h=>h) oQ
  ·obtain rfl:k=8:=by simp at h;omega
   refine goA ?_
   exact zaw (i+1) ⟨rfl,rfl,rfl,rfl,rfl,rfl,trivial⟩ oQ (fun _ h=>h) oQ
 ·obtain rfl:i=512:=by simp at h;omega
  refine goA ?_
  refine za1 rfl (zah (zcg _ _ _) (zaf rfl rfl rfl (by rw[za6];rfl) (zey _ _) (by rw[za6,za6]))) fun _=>?_
  refine goA ?_
  exact zie rfl ⟨_,rfl,zaq (by rw[za6];rfl) (.head _)⟩ rfl rfl
end Go.Proofs.YthafakdplhdfjaaGreatDoor
namespace Go.Proofs.YthafakdplhdfjaaGreatDoor
open Go.RowKit Go.Eng
def kyI(x:Nat)(b:Nat)(A:zcs):List Eng.Item:=[pt x (.cells #[.map (some b)] 165 (0,0)),zck .i64 b A]
theorem zki(x b:Nat)(A:zcs):∀it∈kyI x b A,it.Stable none':=by simp[kyI,zab,zax]
def zjv(A:zcs):List Nat:=A.map (·.1)
theorem zld{b:Nat}{q:IntKind}{A:zcs}{w:World}(h:(zck q b A).prop w):(zjv A).Nodup:=by
 obtain⟨es,clk, -,R⟩:=h
 exact R.nodup
theorem zm8{A:zcs}{k:List Nat}{L:zcs}(hL:L=A.filter fun x=>decide (x.1∉k))(p:Nat×Value):qca L p=A.filter fun x=>decide (x.1∉k++[p.1]):=by
 subst hL
 unfold qca
 rw[kG]
 refine kN fun x _=>?_
 by_cases h1:x.1=p.1<;>by_cases h2:x.1∈k<;>simp[h1,h2]
abbrev kyE(A:zcs):List Nat→Nat→Prop:=fun k x=>(k++[x]).Nodup∧∀y∈k++[x],y∈zjv A
abbrev kyS(A:zcs):List Nat→Prop:=fun k=>k.Perm (zjv A)
theorem qgu(x b:Nat)(A:zcs):zwg Tryz.prog 208 [.pointer (some ⟨x,0,none⟩)] (kyI x b A) [zck .i64 b A] (kyE A) (kyS A) (fun n=>[.int .i64 (n:Int)]):=by
 simp only[kyI]
 refine qbv [_] _ _ _ _ _ Tryz.func208 rfl rfl ?_
 intro σ ly Y I J s0 w hst h0 hy
 simp only[zaa]
 refine zhm (fun w hw=>zld (hw.item (zck .i64 b A) sQ).1) fun hnd=>?_
 refine goA ?_
 refine zay [2,0,1] rfl rfl ?_
 refine za1 rfl (zov rfl rfl rfl) fun⟨r,hr⟩=>?_
 refine goA ?_
 refine zc0 (α:=zcs×List Nat×Option (Nat×Value)×σ) (fun y=>[(0,.func (.yield ly) #[] #[]),(1,.pointer (some ⟨x,0,none⟩)),(5,.pointer (some ⟨r,0,none⟩))]) (fun y=>y.1=A.filter (fun x=>decide (x.1∉y.2.1))∧y.2.1.Nodup∧(∀z∈y.2.1,z∈zjv A)∧I y.2.1 y.2.2.2) (fun y=>[itN .i64 r b A y.1 y.2.2.1,Y y.2.2.2]) (fun y=>y.1.length) (A,[],none,s0) ⟨rfl,rfl,rfl,trivial⟩ ⟨by show A=A.filter (fun x=>decide (x.1∉([]:List Nat)));exact(cY.2 fun _ _=>by simp).symm,eW,⟨(fun _ (h:_∈([]:List Nat))=>nomatch h),h0⟩⟩ (fun w h=>h.sub (.cons_cons _ (.cons_cons _ (aL _)))) fun⟨L,k,c,st⟩ ⟨hL,hk,hkA,hI⟩=>?_
 simp only at hL hk hkA hI⊢
 refine goA ?_
 refine za1 rfl (zvh rfl rfl) fun⟨y,hyy⟩=>?_
 cases y with
 |none=>
  simp only at hyy⊢
  refine goA ?_
  subst hyy
  have hS:kyS A k:=by
   refine(kI hk hnd).2 fun z=>⟨hkA z,fun hz=>?_⟩
   obtain⟨p,hp,rfl⟩:=aT.1 hz
   by_cases h:p.1∈k
   ·exact h
   ·have:p∈A.filter (fun x=>decide (x.1∉k)):=dP.2 ⟨hp,by simpa using h⟩
    rw[←hL]at this
    exact nomatch this
  refine zbr (m':=[Y st,zck .i64 b A]) (fun w' hw'=>(zpu hw').pick [1,0] rfl rfl) (qc5 st rfl (.inl ⟨k,hS,hI⟩) ?_ (.refl _))
  intro it hm
  rcases hm with _|⟨_,_|⟨_,hm⟩⟩
  ·exact hst st
  ·exact zax _ _ _ _
  ·exact nomatch hm
 |some p=>
  simp only at hyy⊢
  have hpk:p.1∉k∧p∈A:=by
   rw[hL]at hyy
   obtain⟨h1,h2⟩:=dP.1 hyy
   exact⟨by simpa using h2,h1⟩
  have hE:kyE A k p.1:=by
   refine⟨?_,fun z hz=>?_⟩
   ·rw[cN]
    refine⟨hk,by simp,fun a ha b hb=>?_⟩
    rw[aO]at hb
    subst hb
    exact fun e=>hpk.1 (e▸ha)
   ·rcases aS.1 hz with hz|hz
    ·exact hkA z hz
    ·rw[aO]at hz
     subst hz
     exact aT.2 ⟨p,hpk.2,rfl⟩
  have hlt:=zow hyy
  have hof:=zm8 hL p
  refine goA ?_
  refine l_w rfl (zo6 rfl (.head _)) ?_
  refine goA ?_
  refine zay [1,0] rfl rfl ?_
  refine zz8 rfl rfl rfl rfl (hst st) (hy k p.1 st hE hI) fun bb s' hR=>?_
  rcases hR with ⟨rfl,h8⟩ |⟨rfl,h8⟩
  ·refine goA ?_
   exact zaw (qca L p,k++[p.1],some p,s') ⟨rfl,rfl,rfl,trivial⟩ ⟨hof,hE.1,hE.2,h8⟩ (fun w hw=>hw.pick [1,0] rfl rfl) hlt
  ·refine goA ?_
   refine zbr (m':=[Y s',zck .i64 b A]) (fun w' hw'=>(zpu (hw'.pick [1,0] rfl rfl)).pick [1,0] rfl rfl) (qi8 s' rfl (.inr h8) ?_ (.refl _))
   intro it hm
   rcases hm with _|⟨_,_|⟨_,hm⟩⟩
   ·exact hst s'
   ·exact zax _ _ _ _
   ·exact nomatch hm
end Go.Proofs.YthafakdplhdfjaaGreatDoor
namespace Go.Proofs.YthafakdplhdfjaaGreatDoor
open Go.RowKit Go.Eng
def zeq(L:List Nat):List Value:=L.map fun n:Nat=>Value.int .i64 (n:Int)
def aiB(b:Nat)(y:Option (Nat×Nat)×List Nat):List Eng.Item:=[own 3 1 y.1 y.2.length (zeq y.2),pt b (.cells #[slV y.1 y.2.length] 183 (0,0))]
theorem zr8(b:Nat)(y:Option (Nat×Nat)×List Nat):∀it∈aiB b y,it.Stable none':=by simp[aiB,zab,zac]
variable{f:FuncId}{cs:List Value}{E:List Nat→Nat→Prop}{S:List Nat→Prop}
theorem zuv{mi mo:List Eng.Item}(hb:za7 Tryz.prog f=true)(hit:zwg Tryz.prog f cs mi mo E S (fun n=>[.int .i64 (n:Int)]))(hmi:∀it∈mi,it.Stable none')(hmo:∀it∈mo,it.Stable none')(hE:∀k x,E k x→k.length<1000000000):
  Cw Tryz.prog 231 #[.slice none 0 0,.func (.func f) #[] cs.toArray] mi (fun x:Option (Nat×Nat)×List Nat=>slV x.1 x.2.length) (fun x=>S x.2) (fun x=>own 3 1 x.1 x.2.length (zeq x.2)::mo):=by
 intro w hw ha
 refine qfr [_,_] mi Tryz.func231 rfl rfl hw ha ?_
 simp only[zaa]
 refine goA ?_
 refine zc9 rfl rfl rfl fun b2 _=>?_
 refine goA ?_
 refine qms 3 1 ?_
 refine ztn (m':=aiB b2 (none,[])++(mi++[])) (by rw[bB];exact .refl _) ?_
 refine qcv (m2:=[]) (aiB b2) (fun k y=>y.2=k) (fun _ _=>False) (none,[]) rfl rfl hb hit (fun _=>rfl) dQ (zr8 _) hmi rfl ?_ ?_ ?_
 ·rintro ly rc k x ⟨o,out⟩ W hx hk
  simp only at hk
  subst hk
  have hlen:=hE _ _ hx
  simp only[aiB,zn8,iC,iU]
  refine goA ?_
  refine qly ?_
  refine goA ?_
  refine za1 rfl (za3 rfl rfl rfl rfl rfl rfl) fun⟨bq,hbq⟩=>?_
  refine goA ?_
  refine za1 rfl (zah (zdf _ _ _ _) (zdh (news:=[.int .i64 (x:Int)]) rfl rfl rfl rfl rfl rfl rfl rfl oQ (fun w' hw' j v hj=>by rw[zde,aJ];exact zby (hw'.item _ (.tail _ (.head _))).1 j v hj))) fun o'=>?_
  refine goA ?_
  refine zay [3,0,2] rfl rfl ?_
  refine za1 rfl (zai rfl rfl rfl rfl (ztj _ _) (qcr _ _) (show(0:Nat)<1 from dQ)) fun _=>?_
  refine zay [2,1,0] rfl rfl ?_
  refine goA ?_
  have e1:(out++[x]).length=out.length+1:=by simp
  have e2:zeq (out++[x])=zeq out++[.int .i64 (x:Int)]:=by simp[zeq]
  refine ztw .normal none rfl (o',out++[x]) rfl ?_ (zr8 b2 _)
  simp only[aiB,e1,e2]
  exact .refl _
 ·rintro D k ⟨o,out⟩ hS hk
  simp only at hk
  subst hk
  simp only[aiB,bB]
  refine goA ?_
  refine qi9 ?_
  exact zbd (o,out) rfl rfl rfl hS (.cons_cons _ (.cons _ (.refl _))) (by
   intro it hm
   rcases hm with _|⟨_,hm⟩
   ·exact zac _ _ _ _ _ _
   ·exact hmo it hm)
 ·rintro D c s h
  exact h.elim
theorem zru{mi mo:List Eng.Item}(hb:za7 Tryz.prog f=true)(hit:zwg Tryz.prog f cs mi mo E S (fun n=>[.int .i64 (n:Int)]))(hmi:∀it∈mi,it.Stable none')(hmo:∀it∈mo,it.Stable none')(hE:∀k x,E k x→k.length<1000000000):
  Cw Tryz.prog 206 #[.func (.func f) #[] cs.toArray] mi (fun x:Option (Nat×Nat)×List Nat=>slV x.1 x.2.length) (fun x=>S x.2) (fun x=>own 3 1 x.1 x.2.length (zeq x.2)::mo):=by
 intro w hw ha
 refine za2 [_] mi Tryz.func206 rfl rfl hw ha ?_
 simp only[zaa]
 refine goA ?_
 refine zgb (m':=mi++[]) (by rw[bB]) ?_
 refine zeh rfl (zfb (pre:=mi) (m:=[]) rfl kQ rfl hmi (fun w1 hw1 hh1 ha1=>zuv hb hit hmi hmo hE w1 hh1 ha1)) fun⟨⟨o,out⟩,hS⟩=>?_
 dsimp only at hS⊢
 refine zgb (m':=own 3 1 o out.length (zeq out)::mo) (by rw[bB]) ?_
 refine goA ?_
 exact zbd (o,out) rfl rfl rfl hS (.refl _) (by
   intro it hm
   rcases hm with _|⟨_,hm⟩
   ·exact zac _ _ _ _ _ _
   ·exact hmo it hm)
def kyV(x:Nat):Value:=.func (.func 208) #[] #[.pointer (some ⟨x,0,none⟩)]
theorem zsq(b:Nat)(w:World):Ct Tryz.prog 167 #[.map (some b)] w none' kyV (fun _=>True) (fun x=>[pt x (.cells #[.map (some b)] 165 (0,0))]):=by
 refine zes [_] Tryz.func167 rfl rfl ?_
 simp only[zaa]
 refine goA ?_
 refine zc9 rfl rfl rfl fun b1 _=>?_
 refine goA ?_
 refine l_w rfl (zhw rfl) ?_
 refine goA ?_
 exact zbd b1 rfl rfl rfl trivial (.refl _) (by simp[zab])
end Go.Proofs.YthafakdplhdfjaaGreatDoor
namespace Go.Eng
open Go.RowKit
variable{P:Program}{l:zav}{H:World→Prop}{ty:TypeId}{q:IntKind}{x y:Operand}{T k e:TypeId}{b:Nat}{A:zcs}{h:Nat}{zv:Value}
theorem zyw(hx:evO l x=some (.map (some b)))(hT:P.underlying T=some (.map k e))(hm:∀w,H w→(zck q b A).prop w):OV P (.call ⟨.builtin .len, #[x], #[T]⟩) ty l H (.int .i64 (A.length:Nat)):=ov fun _ _ _ w hw=>by
 obtain⟨es,clk,h1,h2⟩:=hm w hw
 have hlen:es.size=A.length:=by have:=congrArg List.length h2.rows;simpa using this
 have hg:(getObj b).run P w= .ok (.map es clk) w:=by simp[getObj,Sem.run,h1]
 simp[execOp,resolve,invoke,builtin,zar hx,Builtin.len_,run_underlying hT w,goInt,hg,hlen]
end Go.Eng
namespace Go.Proofs.YthafakdplhdfjaaGreatDoor
open Go.RowKit Go.Eng Go.Eng.Bm
abbrev PR:=List (Nat×Bys)
def pgV(s:Bys):Value:=.agg (zae s).toArray
def toP(A:PR):zcs:=A.map fun p=>(p.1,pgV p.2)
def toB(R:List Nat):zcs:=R.map fun n=>(n,.bool true)
structure Pg where
 b:Nat
 bl:Nat
 kb:Nat
 db:Nat
 cb:Nat
 g:Lg
 n:Nat
 note:Bys
 K:PR
 R:List Nat
 C:PR
 dead:Bool
abbrev pgA(s:Pg)(d:Dk):Array Value:= #[.pointer (some ⟨s.bl,0,none⟩),.pointer (some ⟨d.b,0,none⟩),.int .i64 (s.n:Int),.string ⟨s.note.toArray⟩,.map (some s.kb),.map (some s.db),.map (some s.cb),.bool s.dead]
abbrev pgC(s:Pg)(d:Dk):Eng.Item:=pt s.b (.cells (pgA s d) 168 (0,0))
def pgL(s:Pg)(d:Dk):List Eng.Item:=[pgC s d,lgI s.bl d s.g,zck .i64 s.kb (toP s.K),zck .i64 s.db (toB s.R),zck .i64 s.cb (toP s.C)]
def pgI(s:Pg)(d:Dk):Eng.Item:=zef (pgL s d)
theorem qea(s:Pg)(d:Dk):∀it∈pgL s d,it.Stable none':=by simp[pgL,zab,zax]
theorem zbv(s:Pg)(d:Dk):(pgI s d).Stable none':=zad _
variable{s:Pg}{d:Dk}{w:World}{F:Nat→Prop}{m:List Eng.Item}
theorem ze1{w0:World}(h:Hp w0 F (pgI s d::m) w):Hp w0 F (pgL s d++m) w:=Hp.open1 h
theorem zdm{w0:World}(h:Hp w0 F (pgL s d++m) w):Hp w0 F (pgI s d::m) w:=Hp.close1 (qea s d) h
theorem zvp(h:zbq (pgI s d) w){it:Eng.Item}(hm:it∈pgL s d):zbq it w:=h.1.1 it hm
theorem zkv(h:zbq (pgI s d) w)(i:Nat){v:Value}(hv:(pgA s d)[i]? =some v):w.cell? ⟨s.b,i,none⟩=some v:=
 zd4 (zvp h (it:=pgC s d) (.head _)).1 hv
theorem qhu(h:zbq (pgI s d) w):zbq (lgI s.bl d s.g) w:=zvp h (.tail _ (.head _))
theorem zfv(a b:Nat)(ha:a≤1000000)(hb:b≤1000000)(w:World):Pu Tryz.prog 123 #[.int .i64 a,.int .i64 b] w (.int .i64 (2+a+b:Nat)):=by
 refine zbn [_,_] Tryz.func123 rfl rfl ?_
 simp only[zaa,Nat.reduceAdd]
 refine goA ?_
 exact zdk rfl rfl rfl
theorem zxt(s:Pg)(d:Dk)(w:World)(h:zbq (pgI s d) w):Pu Tryz.prog 57 #[.pointer (some ⟨s.b,0,none⟩)] w (.string ⟨s.note.toArray⟩):=by
 refine zbn [_] Tryz.func57 rfl rfl ?_
 simp only[zaa]
 refine goA ?_
 refine l_w rfl (za0 rfl rfl (fun w' hw'=>zkv (h.keep hw') 3 rfl)) ?_
 refine goA ?_
 exact zdk rfl rfl rfl
theorem zl8(s:Pg)(d:Dk)(w:World)(h:zbq (pgI s d) w):Pu Tryz.prog 92 #[.pointer (some ⟨s.b,0,none⟩)] w (.int .i64 (s.n:Int)):=by
 refine zbn [_] Tryz.func92 rfl rfl ?_
 simp only[zaa]
 refine goA ?_
 refine l_w rfl (za0 rfl rfl (fun w' hw'=>zkv (h.keep hw') 2 rfl)) ?_
 refine goA ?_
 exact zdk rfl rfl rfl
theorem zr0(s:Pg)(d:Dk)(hn:s.n≤1024)(hs:s.g.h.secs<65536)(w:World)(h:zbq (pgI s d) w):Pu Tryz.prog 113 #[.pointer (some ⟨s.b,0,none⟩)] w (.int .i64 (2+s.g.h.secs+s.n:Nat)):=by
 refine zbn [_] Tryz.func113 rfl rfl ?_
 simp only[zaa]
 refine goA ?_
 refine zap [] 11 rfl rfl kQ ?_
 (repeat first|refine dAv [3,8] rfl rfl rfl ?_ |refine dno [3,8] rfl rfl rfl ?_ |refine dT [3,8] rfl rfl rfl rfl ?_ |refine dF [3,8] rfl rfl rfl rfl ?_)
 refine d_v [8] rfl rfl kQ (fun _ h=>goH h) rfl rfl (za0 rfl rfl (fun w' hw'=>zkv (h.keep hw') 0 rfl)) ?_
 (repeat first|refine dAv [8] rfl rfl rfl ?_ |refine dno [8] rfl rfl rfl ?_ |refine dT [8] rfl rfl rfl rfl ?_ |refine dF [8] rfl rfl rfl rfl ?_)
 refine d_v [4] rfl rfl kQ (fun _ h=>goH h) rfl rfl (za0 rfl rfl (fun w' hw'=>zkv (h.keep hw') 2 rfl)) ?_
 refine goE ?_
 refine zat 4 ⟨kQ,dQ⟩ rfl rfl (zfc rfl kQ rfl (fun w1 hw1=>zd6 s.bl d s.g w1 (qhu (h.keep hw1)))) (fun _ _ h=>goH h) fun _=>?_
 refine goE ?_
 refine zat 9 ⟨kQ,dQ⟩ rfl rfl (zfc rfl kQ rfl (fun w1 hw1=>zfv s.g.h.secs s.n oQ oQ w1)) (fun _ _ h=>goH h) fun _=>?_
 refine goX ?_
 exact zdk rfl rfl rfl
def qe3(s:Pg)(i:Int):Nat:=if i<0∨(s.n:Int)≤i then 2 else if s.dead then 4 else 0
theorem zp1(s:Pg)(d:Dk)(i:Int)(w:World)(h:zbq (pgI s d) w):Pu Tryz.prog 141 #[.pointer (some ⟨s.b,0,none⟩),.int .i64 i] w (.int .i64 (qe3 s i:Nat)):=by
 refine zbn [_,_] Tryz.func141 rfl rfl ?_
 simp only[zaa,Nat.reduceAdd]
 refine goA ?_
 unfold qe3
 by_cases h0:i<0
 ·refine goA ?_
  exact zdk rfl rfl (by rw[if_pos (.inl h0)];rfl)
 ·refine goA ?_
  refine l_w rfl (za0 (v:=.int .i64 (s.n:Int)) rfl rfl (fun w' hw'=>zkv (h.keep hw') 2 rfl)) ?_
  refine goA ?_
  by_cases h1:(s.n:Int)≤i
  ·refine goA ?_
   exact zdk rfl rfl (by rw[if_pos (.inr h1)];rfl)
  ·refine goA ?_
   refine l_w rfl (za0 (v:=.bool s.dead) rfl rfl (fun w' hw'=>zkv (h.keep hw') 7 rfl)) ?_
   rw[if_neg oQ]
   cases hd:s.dead with
   |true=>
    refine goA ?_
    exact zdk rfl rfl rfl
   |false=>
    refine goA ?_
    exact zdk rfl rfl rfl
end Go.Proofs.YthafakdplhdfjaaGreatDoor
namespace Go.Eng
open Go.RowKit
section
variable{P:Program}{Q:Exit→Act→World→Prop}{N:Fm}{l:zav}{H:World→Prop}{w0:World}{F:Nat→Prop}{m:List Item}{ty:TypeId}{pos:String}{after:Array Edge}{g:Option (Nat×Bool)}{op:Op}{x:Operand}{b:Nat}{q:IntKind}{T:TypeId}{A:zcs}
theorem qml{α:Type}{val:α→Value}{H':α→World→Prop}(hok:(zez op&&zec l op)=true)(hr:∀w,H w→∃x w',(execOp (ev l) ⟨none,op,ty,pos,after,g⟩).run P w= .ok (.value (val x)) w'∧H' x w'):
  HO P ⟨none,op,ty,pos,after,g⟩ Q N l H (fun _=>l) H':=by
 simp only[bJ]at hok
 unfold HO
 intro a w s hw K hK
 refine⟨zp3 hok.1,?_⟩
 obtain⟨x,w',hr,hw'⟩:=hr w hw
 unfold Oper.wp
 rw[s.exec _ (zm5 hok.1) hok.2,hr]
 exact hK x _ _ s hw'
theorem zx0{T':TypeId}(hok:(zez (.call ⟨.builtin .clear, #[x], #[T]⟩)&&zec l (.call ⟨.builtin .clear, #[x], #[T]⟩))=true)(hx:evO l x=some (.map (some b)))(hT:(P.underlying T).isSome=true):
  HO P ⟨none,.call ⟨.builtin .clear, #[x], #[T]⟩,T',pos,after,g⟩ Q N l (Hp w0 F (zck q b A::m)) (α:=Unit) (fun _=>l) (fun _=>Hp w0 F (zck q b []::m)):=
 qml (val:=fun _=>.tuple #[]) hok (fun w hw=>by
  obtain⟨es,clk,h3,R⟩:=(hw.item _ (.head _)).1
  have hg:(getObj b).run P w= .ok (.map es clk) w:=by simp[getObj,Sem.run,h3]
  have hset:∀o,(setObj b o).run P w= .ok () (w.putObj b o):=fun o=>by simp[setObj,Sem.run,h3,World.putObj]
  have hw1:Hp w0 F (pt b (.map es clk)::m) w:=hw.imp (fun _ h=>h) (fun _=>h3) (zab _ _ _)
  obtain⟨u,hu⟩:=cI.1 hT
  refine⟨(),w.putObj b (.map #[] clk),?_,(hw1.put _).imp (fun _ h=>h) (fun hp=>⟨_,_,hp,⟨.nil,(fun _ h=>nomatch h),rfl,.nil,(fun _ h=>nomatch h)⟩⟩) (zax _ _ _ _)⟩
  simp only[execOp,resolve,invoke,builtin]
  simp[zar hx,Builtin.clear_,run_underlying hu w,hg,hset])
end
end Go.Eng
namespace Go.Proofs.YthafakdplhdfjaaGreatDoor
open Go.RowKit Go.Eng Go.Eng.Bm
section ins
variable{β:Type}
def zeb(B:List (Nat×β))(h:Nat)(s:β):List (Nat×β):=if (B.lookup h).isSome then B.map (fun p=>if p.1=h then(h,s)else p)else B++[(h,s)]
def toG(enc:β→Value)(B:List (Nat×β)):zcs:=B.map fun p=>(p.1,enc p.2)
theorem ztq(enc:β→Value)(B:List (Nat×β))(n:Nat):(toG enc B).lookup n=(B.lookup n).map enc:=by
 unfold toG
 induction B with
 |nil=>rfl
 |cons p B ih=>
  rw[bG,cJ,cJ]
  cases h:n==p.1 with
  |true=>rfl
  |false=>exact ih
theorem qo9(enc:β→Value)(B:List (Nat×β))(h:Nat)(s:β):toG enc (zeb B h s)=zjs (toG enc B) h (enc s):=by
 unfold zeb zjs
 rw[ztq,kR]
 split
 ·unfold toG
  rw[dJ,dJ]
  refine cT fun p _=>?_
  show(_,_)=_
  by_cases hp:p.1=h
  ·simp[hp]
  ·simp[hp]
 ·unfold toG
  rw[cD];rfl
theorem zcp(B:List (Nat×β))(h:Nat)(s:β)(k:Nat):(zeb B h s).lookup k=if k=h then some s else B.lookup k:=by
 unfold zeb
 split
 ·rename_i hs
  have:∀L:List (Nat×β),(L.map fun p=>if p.1=h then(h,s)else p).lookup k=if k=h then(L.lookup k).map (fun _=>s)else L.lookup k:=by
   intro L
   induction L with
   |nil=>simp
   |cons p L ih=>
    obtain⟨q,x⟩:=p
    rw[bG]
    by_cases hq:q=h
    ·subst hq
     rw[if_pos rfl,cJ,cJ]
     by_cases hk:k=q
     ·subst hk;simp
     ·have:(k==q)=false:=by simpa using hk
      rw[this]
      simp only[if_neg hk]at ih⊢
      exact ih
    ·rw[if_neg hq,cJ,cJ,ih]
     by_cases hk:k=q
     ·subst hk
      simp[hq]
     ·have:(k==q)=false:=by simpa using hk
      rw[this]
  rw[this]
  by_cases hk:k=h
  ·subst hk
   rw[if_pos rfl,if_pos rfl]
   cases hb:B.lookup k with
   |none=>rw[hb]at hs;cases hs
   |some x=>rfl
  ·rw[if_neg hk,if_neg hk]
 ·rename_i hs
  have hs':B.lookup h=none:=by
   cases hb:B.lookup h with
   |none=>rfl
   |some x=>rw[hb]at hs;exact absurd rfl hs
  by_cases hk:k=h
  ·subst hk
   rw[if_pos rfl,iT,hs']
   simp
  ·rw[if_neg hk,iT]
   have:([(h,s)]:List (Nat×β)).lookup k=none:=by
    rw[cJ,show(k==h)=false by simpa using hk];rfl
   rw[this]
   cases B.lookup k<;>rfl
variable{B:List (Nat×β)}{s:β}
theorem qkc{h:Nat}{p:Nat×β}(hp:p∈zeb B h s):p=(h,s)∨p∈B:=by
 unfold zeb at hp
 split at hp
 ·obtain⟨q,hq,rfl⟩:=aT.1 hp
  split
  ·exact .inl rfl
  ·exact .inr hq
 ·rcases aS.1 hp with hp|hp
  ·exact .inr hp
  ·exact .inl (aO.1 hp)
theorem zbt{n:Nat}(h:B.lookup n=some s):(n,s)∈B:=by
 induction B with
 |nil=>cases h
 |cons p B ih=>
  obtain⟨q,x⟩:=p
  rw[cJ]at h
  by_cases hk:n=q
  ·subst hk
   simp at h
   subst h
   exact .head _
  ·have:(n==q)=false:=by simpa using hk
   rw[this]at h
   exact .tail _ (ih h)
end ins
theorem zln(A:PR)(h:Nat)(s:Bys):toP (zeb A h s)=zjs (toP A) h (pgV s):=qo9 pgV A h s
theorem zic(A:PR)(h:Nat):(toP A).lookup h=(A.lookup h).map pgV:=ztq pgV A h
def PR.Ok(A:PR)(n:Nat):Prop:=∀p∈A,p.1<n∧p.2.length=512
variable{n:Nat}
theorem PR.Ok.ins{A:PR}{h:Nat}{s:Bys}(hA:A.Ok n)(hh:h<n)(hs:s.length=512):PR.Ok (zeb A h s) n:=fun p hp=>by
 rcases qkc hp with rfl|hp
 ·exact⟨hh,hs⟩
 ·exact hA p hp
theorem okI(h:n≤1000000):okN .i64 n:=by
 unfold okN
 simp[Lit.wf,IntKind.min,IntKind.max,IntKind.signed,IntKind.bits]
 omega
theorem zbl(s:Pg)(d:Dk):∀it∈[pgI s d],it.Stable none':=by
 intro it hm
 rcases hm with _|⟨_,hm⟩
 ·exact zbv s d
 ·exact nomatch hm
theorem zni(s:Pg)(d:Dk)(e:Nat):
  Cv Tryz.prog 135 #[.pointer (some ⟨s.b,0,none⟩),.int .i64 (e:Int)] [pgI s d] (fun _:Unit=>.int .i64 (e:Int)) (fun _=>True) (fun _=>[pgI { s with dead:=s.dead||decide (e=4) } d]):=by
 intro w hw
 refine za2 [_,_] _ Tryz.func135 rfl rfl hw (.cons (fun _ h=>nomatch h) .nil) ?_
 simp only[zaa,Nat.reduceAdd]
 refine zg8 (m':=pgL s d) (fun w h=>ze1 (m:=[]) h) ?_
 unfold pgL
 obtain⟨b,bl,kb,db,cb,g,n,note,K,R,C,dead⟩:=s
 simp only
 have hend:∀x:Bool,∀w',Hp w (za4 [pgI ⟨b,bl,kb,db,cb,g,n,note,K,R,C,dead⟩ d]) (pgL ⟨b,bl,kb,db,cb,g,n,note,K,R,C,x⟩ d) w'→Hp w (za4 [pgI ⟨b,bl,kb,db,cb,g,n,note,K,R,C,dead⟩ d]) [pgI ⟨b,bl,kb,db,cb,g,n,note,K,R,C,x⟩ d] w':=fun x w' hw'=>zdm (m:=[]) (by rw[bB];exact hw')
 cases dead with
 |true=>
  refine goA ?_
  refine za1 rfl (zai rfl rfl rfl rfl rfl rfl (show(7:Nat)<8 from dQ)) fun _=>?_
  refine goA ?_
  exact zbr (hend true) (zbd () rfl rfl rfl trivial (.refl _) (zbl _ _))
 |false=>
  by_cases he:e=4
  ·subst he
   refine goA ?_
   refine za1 rfl (zai rfl rfl rfl rfl rfl rfl (show(7:Nat)<8 from dQ)) fun _=>?_
   refine goA ?_
   exact zbr (hend true) (zbd () rfl rfl rfl trivial (.refl _) (zbl _ _))
  ·have he2:decide (e=4)=false:=by simp[he]
   have he3:((e:Int)==4)=false:=by simp;omega
   rw[he2]
   refine goA ?_
   rw[he3]
   refine za1 rfl (zai rfl rfl rfl rfl rfl rfl (show(7:Nat)<8 from dQ)) fun _=>?_
   refine goA ?_
   exact zbr (hend false) (zbd () rfl rfl rfl trivial (.refl _) (zbl _ _))
theorem zk2(s:Pg)(d:Dk):
  Cv Tryz.prog 55 #[.pointer (some ⟨s.b,0,none⟩)] [pgI s d] (fun _:Unit=>.tuple #[]) (fun _=>True) (fun _=>[pgI { s with C:=[] } d]):=by
 intro w hw
 refine za2 [_] _ Tryz.func55 rfl rfl hw (.cons (fun _ h=>nomatch h) .nil) ?_
 simp only[zaa]
 refine zg8 (m':=pgL s d) (fun w h=>ze1 (m:=[]) h) ?_
 unfold pgL
 refine goA ?_
 refine zd2 7 _ (.map (some s.cb)) rfl rfl ?_
 refine zay [4,0,1,2,3] rfl rfl ?_
 refine za1 rfl (zx0 rfl rfl rfl) fun _=>?_
 refine goA ?_
 exact zbr (m':=[pgI { s with C:=[] } d]) (fun w' hw'=>zdm (m:=[]) (hw'.pick [1,2,3,4,0] rfl rfl)) (zk0 () rfl rfl trivial (.refl _) (zbl _ _))
theorem zqf(s:Pg)(d:Dk)(i:Int)(bs:Bys)(hbs:bs.length=512)(a:Option Addr)(c:Nat)(hdead:s.dead=false)(hn:s.n≤1024)(w:World)(hw:∀it∈[pgI s d],zbq it w)(hr:Rd w a (zae bs))(hap:∀b off,a=some ⟨b,off,none⟩→¬za4 [pgI s d] b):
  Ct Tryz.prog 91 #[.pointer (some ⟨s.b,0,none⟩),.int .i64 i,.slice a 512 c] w (za4 [pgI s d]) (fun _:Unit=>.int .i64 (if i<1∨(s.n:Int)≤i then 2 else 0:Nat)) (fun _=>True) (fun _=>[pgI (if i<1∨(s.n:Int)≤i then s else { s with C:=zeb s.C i.toNat bs }) d]):=by
 refine za2 [_,_,_] _ Tryz.func91 rfl rfl hw (.cons (fun _ h=>nomatch h) .nil) ?_
 simp only[zaa,Nat.reduceAdd]
 refine goA ?_
 refine lPu rfl (fun w1 hw1=>zp1 s d i w1 (zbq.of (hw1.item _ (.head _)) (zbv s d))) ?_
 have hbl:(zae bs).length=512:=by rw[zan,hbs]
 by_cases h1:i<1∨(s.n:Int)≤i
 ·rw[if_pos h1,if_pos h1]
  by_cases h2:i<0∨(s.n:Int)≤i
  ·rw[show qe3 s i=2 by rw[qe3,if_pos h2]]
   refine goA ?_
   exact zbd () rfl rfl rfl trivial (.refl _) (zbl _ _)
  ·rw[show qe3 s i=0 by rw[qe3,if_neg h2,hdead];rfl]
   refine goA ?_
   exact zbd () rfl rfl rfl trivial (.refl _) (zbl _ _)
 ·rw[if_neg h1,if_neg h1,show qe3 s i=0 by rw[qe3,if_neg oQ,hdead];rfl]
  obtain⟨k,rfl⟩:=iY (show 0≤i by omega)
  refine goA ?_
  refine zg8 (m':=pgL s d) (fun w h=>ze1 (m:=[]) h) ?_
  unfold pgL
  obtain⟨rb,off,ha,hcell⟩:∃rb off,a=some ⟨rb,off,none⟩∧w.rangeAt rb off (zae bs):=by
   rcases hr with h|⟨rb,off,ha,hc⟩
   ·rw[h]at hbl;cases hbl
   ·exact⟨rb,off,ha,hc⟩
  have hF:=hap rb off ha
  subst ha
  refine zcx [4,0,1,2,3] rfl rfl ?_
  refine zap [1,2,3,4] 9 rfl rfl kQ ?_
  refine goE ?_
  refine goV rfl rfl (ztu rfl rfl dQ) ?_
  refine goE ?_
  refine goV rfl rfl (zgp (xs:=zae bs) (c:=(zae bs).toArray) rfl (by rw[hbl];rfl) (fun w' hw'=>za5 hcell hF hw') rfl) ?_
  refine zro 33 _ (.map (some s.cb)) rfl rfl ?_
  refine zat 8 ⟨kQ,dQ⟩ rfl rfl (zir (h:=k) (v:=pgV bs) rfl rfl rfl rfl rfl rfl (okI oQ)) (fun _ _ h=>goH h) fun _=>?_
  refine zdn kQ ?_
  refine goA ?_
  rw[←zln]
  exact zbr (m':=[pgI { s with C:=zeb s.C k bs } d]) (fun w' hw'=>zdm (m:=[]) (hw'.pick [1,2,3,4,0] rfl rfl)) (zbd () rfl rfl rfl trivial (.refl _) (zbl _ _))
def pageB(s:Pg)(D:Dsk)(i:Nat):Bys:=((s.C.lookup i).or (s.K.lookup i)).getD (zcn D (2+s.g.h.secs+i))
def zb1(s:Pg)(D:Dsk)(i:Nat):Pg:=if ((s.C.lookup i).or (s.K.lookup i)).isSome then s else { s with K:=zeb s.K i (zcn D (2+s.g.h.secs+i)) }
structure Pg.Ok (s:Pg) (D:Dsk):Prop where
 n:s.n≤1024
 secs:s.g.h.secs<65536
 room:2+s.g.h.secs+s.n≤D.on.length
 C:s.C.Ok s.n
 K:s.K.Ok s.n
theorem zdp(s:Pg)(d:Dk):∀it∈[pgI s d,dkI d],it.Stable none':=by
 intro it hm
 rcases hm with _|⟨_,_|⟨_,hm⟩⟩
 ·exact zbv s d
 ·exact zad _
 ·exact nomatch hm
theorem ztg(b:Nat)(bs:Bys)(s:Pg)(d:Dk):∀it∈[rdI b bs,pgI s d,dkI d],it.Stable none':=by
 intro it hm
 rcases hm with _|⟨_,hm⟩
 ·exact zfd _ _
 ·exact zdp s d it hm
variable{F:Nat→Prop}{m:List Eng.Item}
theorem zqe{s:Pg}{d:Dk}{w w0:World}{x:Eng.Item}(h:Hp w0 F (x::(pgL s d++m)) w):Hp w0 F (x::pgI s d::m) w:=
 (zdm (m:=x::m) (h.perm bM.symm)).perm (.swap _ _ _)
theorem qs0{b:Nat}{bs:Bys}{E:TypeId}{w w0:World}(h:Hp w0 F (pt b (.cells (zae bs).toArray E (0,0))::m) w):Hp w0 F (rdI b bs::m) w:=
 h.imp (fun _ h=>h) (fun hp=>⟨zbf hp,(bQ.1 hp).1⟩) ((zfd _ _).ro _)
theorem zhi(s:Pg)(d:Dk)(ok:d.D.Ok)(hlive:d.D.dead=false)(hwl:d.D.wait.length≤1000000000)(hdead:s.dead=false)(sok:s.Ok d.D)(i:Nat)(hi:i<s.n):
  Cw Tryz.prog 88 #[.pointer (some ⟨s.b,0,none⟩),.int .i64 (i:Int)] [pgI s d,dkI d] (fun b:Nat=>.tuple #[.slice (some ⟨b,0,none⟩) 512 512,.int .i64 0]) (fun _=>True) (fun b=>[rdI b (pageB s d.D i),pgI (zb1 s d.D i) d,dkI d]):=by
 intro w hw ha
 refine za2 [_,_] _ Tryz.func88 rfl rfl hw ha ?_
 obtain⟨hn,hsecs,hroom,hC,hK⟩:=sok
 simp only[zaa,Nat.reduceAdd]
 refine goA ?_
 refine lPu rfl (fun w1 hw1=>zp1 s d i w1 (zbq.of (hw1.item _ (.head _)) (zbv s d))) ?_
 rw[show qe3 s i=0 by rw[qe3,if_neg oQ,hdead];rfl]
 refine goA ?_
 refine zg8 (m':=pgL s d++[dkI d]) (fun w h=>ze1 (m:=[dkI d]) h) ?_
 unfold pgL
 refine zap [0,1,2,3,4,5] 10 rfl rfl kQ ?_
 refine goE ?_
 refine d_v [9] rfl rfl kQ (fun _ h=>goH h) rfl rfl (zks rfl rfl rfl rfl rfl) ?_
 refine goE ?_
 refine zdn kQ ?_
 refine qty [(0,.pointer (some ⟨s.b,0,none⟩)),(1,.int .i64 (i:Int)),(27,.agg #[.map (some s.cb),.map (some s.kb)]),(28,.int .i64 (0:Nat))] (pgL s d++[dkI d]) ⟨rfl,rfl,rfl,rfl,trivial⟩ (fun w h=>h) ?_
 refine goA ?_
 refine zc0 (α:=Nat) (fun k=>[(0,.pointer (some ⟨s.b,0,none⟩)),(1,.int .i64 (i:Int)),(27,.agg #[.map (some s.cb),.map (some s.kb)]),(28,.int .i64 k)]) (fun k=>k≤2∧(1≤k→s.C.lookup i=none)∧(2≤k→s.K.lookup i=none)) (fun k=>pgL s d++[dkI d]) (fun k=>2 - k) 0 ⟨rfl,rfl,rfl,rfl,trivial⟩ ⟨oQ,oQ,oQ⟩ (fun w h=>h) fun k ⟨hk,hk1,hk2⟩=>?_
 unfold pgL
 by_cases hlt:k<2
 ·obtain⟨mb,A,hv,hm,hA,hs1,hs2⟩:∃(mb:Nat) (A:PR),(#[Value.map (some s.cb),.map (some s.kb)]:Array Value)[k]? =some (.map (some mb))∧zck .i64 mb (toP A)∈pgL s d++[dkI d]∧A.Ok s.n∧(∀bs,A.lookup i=some bs→pageB s d.D i=bs∧zb1 s d.D i=s)∧(A.lookup i=none→(1≤k+1→s.C.lookup i=none)∧(2≤k+1→s.K.lookup i=none)):=by
   match k,hlt with
   |0,_=>exact⟨s.cb,s.C,rfl,by simp[pgL],hC,fun bs hb=>by unfold pageB zb1;rw[hb];exact⟨rfl,rfl⟩,fun hb=>⟨fun _=>hb,fun h=>absurd h oQ⟩⟩
   |1,_=>
    have hc:=hk1 oQ
    exact⟨s.kb,s.K,rfl,by simp[pgL],hK,fun bs hb=>by unfold pageB zb1;rw[hc,hb];exact⟨rfl,rfl⟩,fun hb=>⟨fun _=>hc,fun _=>hb⟩⟩
  refine goA ?_
  refine l_w rfl (qis rfl rfl rfl rfl rfl hlt hv) ?_
  refine goA ?_
  refine l_w rfl (qiw (q:=.i64) (h:=i) rfl rfl rfl rfl rfl (okI oQ) hm) ?_
  rw[zic]
  cases hb:A.lookup i with
  |some bs=>
   obtain⟨hs3,hs4⟩:=hs1 bs hb
   have hbs:(zae bs).length=512:=by rw[zan];exact(hA _ (zbt hb)).2
   rw[hs3,hs4]
   simp only[bX,eE,fX,pgV]
   refine goA ?_
   refine zam rfl rfl fun b9 hb9=>?_
   refine za1 rfl (zaf (cs':=(zae bs).toArray) rfl rfl rfl (by rw[aC,hbs];rfl) (zdd _) (by rw[aC,hbs];rfl)) fun _=>?_
   refine goA ?_
   refine l_w rfl (zg9 (n:=512) rfl rfl rfl rfl) ?_
   refine goA ?_
   exact zbr (m':=[rdI b9 bs,pgI s d,dkI d]) (fun w' hw'=>zqe (qs0 hw')) (zc1 b9 rfl rfl rfl rfl trivial (.refl _) (ztg _ _ _ _))
  |none=>
   simp only[gD,kX,iX]
   refine goA ?_
   refine zam rfl rfl fun b9 hb9=>?_
   refine za1 rfl (zaf rfl rfl rfl rfl rfl rfl) fun _=>?_
   refine goA ?_
   obtain⟨h3,h4⟩:=hs2 hb
   exact zaw (k+1) ⟨rfl,rfl,rfl,rfl,trivial⟩ ⟨hlt,h3,h4⟩ (fun w' hw'=>hw'.sub (gF _ _)) oQ
 ·obtain rfl:k=2:=oQ
  have hc:=hk1 oQ
  have hkk:=hk2 oQ
  have hpb:pageB s d.D i=zcn d.D (2+s.g.h.secs+i):=by unfold pageB;rw[hc,hkk];rfl
  have hps:zb1 s d.D i={ s with K:=zeb s.K i (zcn d.D (2+s.g.h.secs+i)) }:=by unfold zb1;rw[hc,hkk];rfl
  rw[hpb,hps]
  have hat:2+s.g.h.secs+i<d.D.on.length:=oQ
  have hcl:=zt6 ok hat
  refine goA ?_
  refine zap [0,1,2,3,4,5] 17 rfl rfl kQ ?_
  refine goE ?_
  refine zat 8 ⟨kQ,dQ⟩ rfl rfl (zfc rfl kQ rfl (fun w1 hw1=>zd6 s.bl d s.g w1 (zbq.of (hw1.item (lgI s.bl d s.g) sQ) (zab _ _ _)))) (fun _ _ h=>goH h) fun _=>?_
  refine goE ?_
  refine zat 10 ⟨kQ,dQ⟩ rfl rfl (zfc rfl kQ rfl (fun w1 hw1=>zfv s.g.h.secs i oQ oQ w1)) (fun _ _ h=>goH h) fun _=>?_
  refine goE ?_
  refine qqn 11 ⟨kQ,dQ⟩ rfl rfl rfl kQ rfl (fun _ h=>h) (fun w1 hw1=>znc d ok hlive (2+s.g.h.secs+i) hat hwl w1 (zbq.of (hw1.item (dkI d) sQ) (zad _))) fun x hx=>?_
  refine goE ?_
  refine zdn kQ ?_
  generalize zcn d.D (2+s.g.h.secs+i)=bs at hcl⊢
  refine goA ?_
  refine zcy (m':=[pgI s d,rdI x bs,dkI d]) (fun w' hw'=>(zqe hw').pick [1,0,2] rfl rfl) ?_
  refine lCu [pgI s d] rfl (zbl s d) (fun w1 hw1 hh1 ha1=>zni s d 0 w1 hh1) fun⟨_,_⟩=>?_
  rw[show({ s with dead:=s.dead||decide ((0:Nat)=4) }:Pg)=s by rw[hdead];cases s;simp only at hdead;subst hdead;rfl]
  refine goA ?_
  have hbl:(zae bs).length=512:=by rw[zan,hcl]
  refine zg8 (m':=pgL s d++[rdI x bs,dkI d]) (fun w h=>ze1 (m:=[rdI x bs,dkI d]) h) ?_
  unfold pgL
  refine zcx [2,0,1,3,4,5,6] rfl rfl ?_
  refine zap [1,2,3,4,5,6] 9 rfl rfl kQ ?_
  refine goE ?_
  refine goV rfl rfl (ztu rfl rfl dQ) ?_
  refine goE ?_
  refine goV rfl rfl (zgp (xs:=zae bs) (c:=(zae bs).toArray) rfl (by rw[hbl];rfl) (fun w' hw'=>(hw'.item (rdI x bs) sQ).1.1) rfl) ?_
  refine zat 8 ⟨kQ,dQ⟩ rfl rfl (zir (h:=i) (v:=pgV bs) rfl rfl rfl rfl rfl rfl (okI oQ)) (fun _ _ h=>goH h) fun _=>?_
  refine zdn kQ ?_
  refine goA ?_
  rw[←zln]
  refine zbr (m':=[rdI x bs,pgI { s with K:=zeb s.K i bs } d,dkI d]) (fun w' hw'=>?_) (zc1 x rfl rfl rfl rfl trivial (.refl _) (ztg _ _ _ _))
  exact zqe (s:={ s with K:=zeb s.K i bs }) (m:=[dkI d]) (hw'.pick [5,1,2,0,3,4,6] rfl rfl)
def bmB(n:Nat)(S:Nat→Bool):Bys:=(List.range 512).map fun j=>UInt8.ofNat (byte (zd3 S n) j)
theorem zpb(n:Nat)(S:Nat→Bool):(bmB n S).length=512:=by simp[bmB]
theorem zpa(n:Nat)(S:Nat→Bool):zhc S n=(zae (bmB n S)).toArray:=by
 unfold zhc zae bmB
 rw[dJ]
 congr 1
 refine cT fun j _=>?_
 show Value.int .u8 _=Value.int .u8 _
 rw[UInt8.toNat_ofNat',bC (qfl _ _)]
variable{S:Nat→Bool}
theorem qqi{j:Nat}(hj:j<512):(zae (bmB n S))[j]? =some (.int .u8 (byte (zd3 S n) j:Nat)):=by
 have:=zhx S n hj
 rw[zpa,fF]at this
 exact this
def zrl(n:Nat)(S:Nat→Bool):Prop:=∀j,n≤j→S j=false
theorem qc7(hn:n≤1024)(hc:zrl n S):zd3 (zhd fun j=>byte (zd3 S n) j) 4096=S:=funext fun i=>by
 unfold zd3 zhd
 by_cases hi:i<4096
 ·have:=zys (zd3 S n) (i/8) (i%8) (dY _ dQ)
  simp only[hi,decide_true,gH]
  unfold zd3 at this
  rw[this,show 8*(i/8)+i%8=i by omega]
  by_cases h:i<n
  ·simp[h]
  ·simp[h,hc i oQ]
 ·simp[hi,hc i oQ]
theorem zvy{k:Nat}(S:Nat→Bool)(u:Bool)(hk:k<n):qe5 n S (k:Int) u=upd S k u:=by
 unfold qe5 onB
 rw[decide_eq_true (show(0:Int)≤(k:Int) by omega),decide_eq_true (show(k:Int)<(n:Int) by omega)]
 simp only[Bool.and_self,cond_true,cC]
theorem zth(s:Pg)(d:Dk)(n:Nat)(S:Nat→Bool)(i:Int)(u:Bool)(hn:n≤1024):
  Cv Tryz.prog 130 #[.pointer (some ⟨s.b,0,none⟩),.agg (zif n S),.int .i64 i,.bool u] [pgI s d] (fun _:Unit=>.tuple #[]) (fun _=>True) (fun _=>[pgI { s with C:=zeb s.C 0 (bmB n (qe5 n S i u)) } d]):=by
 intro w hw
 refine za2 [_,_,_,_] _ Tryz.func130 rfl rfl hw (.cons (fun _ h=>nomatch h) .nil) ?_
 simp only[zaa,Nat.reduceAdd]
 refine zg8 (m':=pgL s d) (fun w h=>ze1 (m:=[]) h) ?_
 unfold pgL
 refine goA ?_
 refine zbp rfl rfl fun b5 hb5=>?_
 refine goA ?_
 refine zcx [5,0,1,2,3,4] rfl rfl ?_
 refine zap [1,2,3,4,5] 12 rfl rfl kQ ?_
 refine goE ?_
 refine zat 7 ⟨kQ,dQ⟩ rfl rfl (zfc rfl kQ rfl (fun w1 hw1=>zm2 n S i u hn w1)) (fun _ _ h=>goH h) fun _=>?_
 refine goE ?_
 refine zat 8 ⟨kQ,dQ⟩ rfl rfl (qhd rfl kQ rfl (fun w1 hw1=>zn1 n (qe5 n S i u) hn w1)) (fun _ _ h=>goH h) fun⟨x,hx⟩=>?_
 rw[zpa]
 have hbl:(zae (bmB n (qe5 n S i u))).length=512:=by rw[zan,zpb]
 generalize bmB n (qe5 n S i u)=bs at hbl⊢
 simp only[aD,aH]
 refine goE ?_
 refine goV rfl rfl (ztu rfl rfl dQ) ?_
 refine zat 10 ⟨kQ,dQ⟩ rfl rfl (zx2 rfl (zgp (xs:=zae bs) (c:=(zae bs).toArray) rfl (by rw[hbl];rfl) (fun w' hw'=>zbf (hw'.get (b:=x) (.head _))) rfl)) (fun _ _ h=>goH h) fun _=>?_
 refine zat 11 ⟨kQ,dQ⟩ rfl rfl (zah (zcg _ _ _) (zir (h:=0) (v:=pgV bs) rfl rfl rfl rfl rfl rfl (okI dQ))) (fun _ _ h=>goH h) fun _=>?_
 refine zdn kQ ?_
 refine goA ?_
 rw[←zln]
 refine zbr (m':=[pgI { s with C:=zeb s.C 0 bs } d]) (fun w' hw'=>?_) (zk0 () rfl rfl trivial (.refl _) (zbl _ _))
 exact zdm (s:={ s with C:=zeb s.C 0 bs }) (m:=[]) (hw'.pick [3,4,5,6,0] rfl rfl)
theorem qkt(b n:Nat)(S:Nat→Bool)(h1:1≤n)(hn:n≤1024)(hc:zrl n S)(c:Nat)(w:World)(h:(rdI b (bmB n S)).prop w):Pu Tryz.prog 149 #[.slice (some ⟨b,0,none⟩) 512 c,.int .i64 (n:Int)] w (.tuple #[.agg (zif n S),.int .i64 0]):=by
 have hb:=qc7 hn hc
 have:=qku b 0 c (fun j=>byte (zd3 S n) j) n h1 hn w (fun i hi=>h.1 i _ (qqi hi)) (fun j hj hb1=>by
  have h2:=congrFun hb j
  rw[show zd3 (zhd fun j=>byte (zd3 S n) j) 4096 j=(decide (j<4096)&&zhd (fun j=>byte (zd3 S n) j) j)from rfl,hb1,decide_eq_true hj]at h2
  rcases gG j n with h|h
  ·exact h
  ·rw[hc j h]at h2;cases h2)
 rw[hb]at this
 exact this
theorem zj1(s:Pg)(d:Dk)(ok:d.D.Ok)(hlive:d.D.dead=false)(hwl:d.D.wait.length≤1000000000)(hdead:s.dead=false)(sok:s.Ok d.D)(h1:1≤s.n)(S:Nat→Bool)(hS:pageB s d.D 0=bmB s.n S)(hc:zrl s.n S)(h0:S 0=true):
  Cw Tryz.prog 100 #[.pointer (some ⟨s.b,0,none⟩)] [pgI s d,dkI d] (fun _:Unit=>.tuple #[.agg (zif s.n S),.int .i64 0]) (fun _=>True) (fun _=>[pgI (zb1 s d.D 0) d,dkI d]):=by
 intro w hw ha
 refine za2 [_] _ Tryz.func100 rfl rfl hw ha ?_
 simp only[zaa]
 refine goA ?_
 refine zam rfl rfl fun b2 hb2=>?_
 refine goA ?_
 refine zay [1,2,0] rfl rfl ?_
 refine lCu [pgI s d,dkI d] rfl (zdp s d) (fun w1 hw1 hh1 ha1=>zhi s d ok hlive hwl hdead sok 0 h1 w1 hh1 ha1) fun⟨x,_⟩=>?_
 rw[hS]
 have hsn:(zb1 s d.D 0).n=s.n∧(zb1 s d.D 0).b=s.b:=by unfold zb1;split<;>exact⟨rfl,rfl⟩
 generalize zb1 s d.D 0=s1 at hsn⊢
 obtain⟨hsn,hsb⟩:=hsn
 rw[←hsb]
 dsimp only
 refine goA ?_
 refine l_w rfl (za0 (v:=.int .i64 (s.n:Int)) rfl rfl (fun w' hw'=>zkv (zbq.of (hw'.item (pgI s1 d) sQ) (zbv _ _)) 2 (by rw[←hsn];rfl))) ?_
 refine goA ?_
 refine lPu rfl (fun w1 hw1=>qkt x s.n S h1 sok.n hc 512 w1 (hw1.item (rdI x (bmB s.n S)) sQ).1) ?_
 refine goA ?_
 refine zam rfl rfl fun b6 hb6=>?_
 refine za1 rfl (zaf (cs':=zif s.n S) rfl rfl rfl (by rw[za6];rfl) (zey _ _) (by rw[za6];rfl)) fun _=>?_
 refine goA ?_
 refine lPu rfl (fun w1 _=>zsu s.n S 0 sok.n w1) ?_
 rw[show qn6 s.n S 0=true by unfold qn6;rw[show(0:Int).toNat=0 from rfl,h0,kZ]]
 refine goA ?_
 refine za1 rfl (zah (zji _ _ _ _ _ _) (zaf (cs':=zif s.n S) rfl rfl rfl (by rw[za6];rfl) (zey _ _) (by rw[za6];rfl))) fun _=>?_
 refine goA ?_
 exact zc1 () rfl ⟨_,rfl,zaq (by rw[za6];rfl) (.head _)⟩ rfl rfl trivial (.cons _ (.cons _ (.cons _ (.refl _)))) (zdp _ _)
theorem zu4(s:Pg)(d:Dk)(ok:d.D.Ok)(hlive:d.D.dead=false)(hwl:d.D.wait.length≤1000000000)(hdead:s.dead=false)(sok:s.Ok d.D)(h1:1≤s.n)(S:Nat→Bool)(hS:pageB s d.D 0=bmB s.n S)(hc:zrl s.n S)(h0:S 0=true):
  Cw Tryz.prog 66 #[.pointer (some ⟨s.b,0,none⟩)] [pgI s d,dkI d] (fun _:Unit=>.int .i64 (cnt S 1024:Nat)) (fun _=>True) (fun _=>[pgI (zb1 s d.D 0) d,dkI d]):=by
 intro w hw ha
 refine za2 [_] _ Tryz.func66 rfl rfl hw ha ?_
 simp only[zaa]
 refine goA ?_
 refine lCu [pgI s d,dkI d] rfl (zdp s d) (fun w1 hw1 hh1 ha1=>zj1 s d ok hlive hwl hdead sok h1 S hS hc h0 w1 hh1 ha1) fun⟨_,_⟩=>?_
 refine goA ?_
 refine zam rfl rfl fun b6 hb6=>?_
 refine za1 rfl (zaf (cs':=zif s.n S) rfl rfl rfl (by rw[za6];rfl) (zey _ _) (by rw[za6];rfl)) fun _=>?_
 refine goA ?_
 refine lPu rfl (fun w1 _=>qed s.n S w1) ?_
 refine goA ?_
 exact zbd () rfl rfl rfl trivial (.cons _ (.refl _)) (zdp _ _)
def tzI:Eng.Item:=⟨fun k=>k=0,fun w=>qbc w⟩
theorem zgz(ro:Nat→Prop):tzI.Stable ro:=fun _ _ h hp=>⟨(h _ (.inr rfl)).trans hp.obj⟩
def qdk(s:Pg)(D:Dsk)(S:Nat→Bool)(i:Nat)(u:Bool):Pg:={ zb1 s D 0 with C:=zeb (zb1 s D 0).C 0 (bmB s.n (upd S i u)) }
theorem zx8(s:Pg)(d:Dk)(ok:d.D.Ok)(hlive:d.D.dead=false)(hwl:d.D.wait.length≤1000000000)(hdead:s.dead=false)(sok:s.Ok d.D)(h1:1≤s.n)(S:Nat→Bool)(hS:pageB s d.D 0=bmB s.n S)(hc:zrl s.n S)(h0:S 0=true)(i:Nat)(hi:i<s.n):
  Cw Tryz.prog 158 #[.pointer (some ⟨s.b,0,none⟩),.int .i64 (i:Int)] [pgI s d,dkI d] (fun _:Unit=>.int .i64 (if i=0∨S i=false then 2 else 0:Nat)) (fun _=>True) (fun _=>[pgI (if i=0∨S i=false then zb1 s d.D 0 else qdk s d.D S i false) d,dkI d]):=by
 intro w hw ha
 refine za2 [_,_] _ Tryz.func158 rfl rfl hw ha ?_
 simp only[zaa,Nat.reduceAdd]
 refine goA ?_
 refine lPu rfl (fun w1 hw1=>zp1 s d i w1 (zbq.of (hw1.item _ (.head _)) (zbv s d))) ?_
 rw[show qe3 s i=0 by rw[qe3,if_neg oQ,hdead];rfl]
 refine goA ?_
 refine lCu [pgI s d,dkI d] rfl (zdp s d) (fun w1 hw1 hh1 ha1=>zj1 s d ok hlive hwl hdead sok h1 S hS hc h0 w1 hh1 ha1) fun⟨_,_⟩=>?_
 have hfr:qdk s d.D S i false={ zb1 s d.D 0 with C:=zeb (zb1 s d.D 0).C 0 (bmB s.n (upd S i false)) }:=rfl
 rw[hfr]
 have hsn:(zb1 s d.D 0).n=s.n∧(zb1 s d.D 0).b=s.b:=by unfold zb1;split<;>exact⟨rfl,rfl⟩
 generalize zb1 s d.D 0=s1 at hsn⊢
 obtain⟨hsn,hsb⟩:=hsn
 rw[←hsb]
 refine goA ?_
 refine zam rfl rfl fun b6 hb6=>?_
 refine za1 rfl (zaf (cs':=zif s.n S) rfl rfl rfl (by rw[za6];rfl) (zey _ _) (by rw[za6];rfl)) fun _=>?_
 refine goA ?_
 by_cases hi0:i=0
 ·subst hi0
  rw[if_pos (.inl rfl),if_pos (.inl rfl)]
  refine goA ?_
  exact zbd () rfl rfl rfl trivial (.cons _ (.refl _)) (zdp _ _)
 ·refine goA ?_
  refine lPu rfl (fun w1 _=>zsu s.n S i sok.n w1) ?_
  rw[show qn6 s.n S i=S i by unfold qn6 onB;simp;omega]
  cases hSi:S i with
  |false=>
   rw[if_pos (.inr rfl),if_pos (.inr rfl)]
   refine goA ?_
   exact zbd () rfl rfl rfl trivial (.cons _ (.refl _)) (zdp _ _)
  |true=>
   rw[if_neg (by simp[hi0]),if_neg (by simp[hi0])]
   refine goA ?_
   refine zay [1,0,2] rfl rfl ?_
   refine lCu [pgI s1 d] rfl (zbl s1 d) (fun w1 hw1 hh1 ha1=>zth s1 d s.n S i false sok.n w1 hh1) fun⟨_,_⟩=>?_
   rw[zvy S false hi]
   refine goA ?_
   exact zbd () rfl rfl rfl trivial (.cons_cons _ (.cons _ (.refl _))) (zdp _ _)
def zej:Bys:=List.replicate 512 0
theorem zgv(s:Pg)(d:Dk):∀it∈[pgI s d,dkI d,tzI],it.Stable none':=by
 intro it hm
 rcases hm with _|⟨_,_|⟨_,_|⟨_,hm⟩⟩⟩
 ·exact zbv s d
 ·exact zad _
 ·exact zgz _
 ·exact nomatch hm
def znt(s:Pg)(D:Dsk)(S:Nat→Bool)(a:Nat):Pg:={ zb1 s D 0 with C:=zeb (zeb (zb1 s D 0).C 0 (bmB s.n (upd S a true))) a zej }
theorem zn7(s:Pg)(d:Dk)(ok:d.D.Ok)(hlive:d.D.dead=false)(hwl:d.D.wait.length≤1000000000)(hdead:s.dead=false)(sok:s.Ok d.D)(S:Nat→Bool)(hS:pageB s d.D 0=bmB s.n S)(hc:zrl s.n S)(h0:S 0=true)(a:Nat)(han:a<s.n)(hSa:S a=false)(hl:∀j,j<a→S j=true):
  Cw Tryz.prog 79 #[.pointer (some ⟨s.b,0,none⟩)] [pgI s d,dkI d,tzI] (fun _:Unit=>.tuple #[.int .i64 (a:Int),.int .i64 0]) (fun _=>True) (fun _=>[pgI (znt s d.D S a) d,dkI d,tzI]):=by
 intro w hw ha
 refine za2 [_] _ Tryz.func79 rfl rfl hw ha ?_
 simp only[zaa]
 refine goA ?_
 refine lCu [pgI s d,dkI d] rfl (zdp s d) (fun w1 hw1 hh1 ha1=>zj1 s d ok hlive hwl hdead sok oQ S hS hc h0 w1 hh1 ha1) fun⟨_,_⟩=>?_
 have hfr:znt s d.D S a={ zb1 s d.D 0 with C:=zeb (zeb (zb1 s d.D 0).C 0 (bmB s.n (upd S a true))) a zej }:=rfl
 rw[hfr]
 have hsn:(zb1 s d.D 0).n=s.n∧(zb1 s d.D 0).b=s.b:=by unfold zb1;split<;>exact⟨rfl,rfl⟩
 generalize zb1 s d.D 0=s1 at hsn⊢
 obtain⟨hsn,hsb⟩:=hsn
 have hn:=sok.n
 rw[←hsb]
 refine goA ?_
 refine zam rfl rfl fun b6 hb6=>?_
 refine za1 rfl (zaf (cs':=zif s.n S) rfl rfl rfl (by rw[za6];rfl) (zey _ _) (by rw[za6];rfl)) fun _=>?_
 refine goA ?_
 refine lPu rfl (fun w1 hw1=>qdy s.n S a sok.n han hSa hl w1 (hw1.item tzI sQ).1) ?_
 refine goA ?_
 refine zay [1,0,2,3] rfl rfl ?_
 refine lCu [pgI s1 d] rfl (zbl s1 d) (fun w1 hw1 hh1 ha1=>zth s1 d s.n S a true sok.n w1 hh1) fun⟨_,_⟩=>?_
 rw[zvy S true han]
 refine goA ?_
 refine zcy (m':=pgL { s1 with C:=zeb s1.C 0 (bmB s.n (upd S a true)) } d++[pt b6 (.cells (zif s.n S) 179 (0,0)),dkI d,tzI]) (fun w h=>ze1 (m:=[pt b6 (.cells (zif s.n S) 179 (0,0)),dkI d,tzI]) h) ?_
 unfold pgL
 refine goA ?_
 refine l_w rfl (zks rfl rfl rfl rfl rfl) ?_
 refine zd2 32 _ (pgV zej) rfl (by rfl) ?_
 refine zd2 30 _ (.map (some s1.cb)) rfl rfl ?_
 refine zay [4,0,1,2,3,5,6,7] rfl rfl ?_
 refine za1 rfl (zir (h:=a) (v:=pgV zej) rfl rfl rfl rfl rfl rfl (okI oQ)) fun _=>?_
 simp only[←zln]
 refine goA ?_
 refine zbr (m':=[pgI { s1 with C:=zeb (zeb s1.C 0 (bmB s.n (upd S a true))) a zej } d,dkI d,tzI]) (fun w' hw'=>?_) (zc1 () rfl rfl rfl rfl trivial (.refl _) (zgv _ _))
 exact zdm (s:={ s1 with C:=zeb (zeb s1.C 0 (bmB s.n (upd S a true))) a zej }) (m:=[dkI d,tzI]) (hw'.pick [1,2,3,4,0,6,7] rfl rfl)
end Go.Proofs.YthafakdplhdfjaaGreatDoor
namespace Go.Proofs.YthafakdplhdfjaaGreatDoor
open Go.Shelf
open Go.Eng
def qig:Go.Shelf.Ren:=⟨fun|5=>207|8=>233|7=>232|19=>256|20=>257|10=>247|11=>248|12=>249|13=>250|14=>251|15=>252|16=>253|17=>254|18=>255|30=>264|31=>265|32=>266|33=>267|34=>268|35=>269|40=>271|n=>n,fun|23=>183|25=>3|3=>3|32=>141|22=>183|0=>0|44=>46|46=>112|4=>4|36=>326|35=>325|41=>187|5=>5|9=>9|53=>335|57=>339|63=>342|64=>343|n=>n,fun|n=>n⟩
theorem qrm:Go.Proofs.SlLaysM.n5 Tryz.prog qig:={
 mixed:=by kernel_rfl
 f5:=⟨Tryz.f207.name,dQ,Tryz.func207.trans (congrArg some kQ)⟩
 f7:=⟨Tryz.f232.name,dQ,Tryz.func232.trans (congrArg some kQ)⟩
 f8:=Tryz.func233.trans (congrArg some kQ)
 f10:=⟨Tryz.f247.name,dQ,Tryz.func247.trans (congrArg some kQ)⟩
 f11:=⟨Tryz.f248.name,dQ,Tryz.func248.trans (congrArg some kQ)⟩
 f12:=⟨Tryz.f249.name,dQ,Tryz.func249.trans (congrArg some kQ)⟩
 f13:=⟨Tryz.f250.name,dQ,Tryz.func250.trans (congrArg some kQ)⟩
 f14:=⟨Tryz.f251.name,dQ,Tryz.func251.trans (congrArg some kQ)⟩
 f15:=⟨Tryz.f252.name,dQ,Tryz.func252.trans (congrArg some kQ)⟩
 f16:=⟨Tryz.f253.name,dQ,Tryz.func253.trans (congrArg some kQ)⟩
 f17:=⟨Tryz.f254.name,dQ,Tryz.func254.trans (congrArg some kQ)⟩
 f18:=⟨Tryz.f255.name,dQ,Tryz.func255.trans (congrArg some kQ)⟩
 f19:=Tryz.func256.trans (congrArg some kQ)
 f20:=Tryz.func257.trans (congrArg some kQ)
 f30:=⟨Tryz.f264.name,dQ,Tryz.func264.trans (congrArg some kQ)⟩
 f31:=Tryz.func265.trans (congrArg some kQ)
 f32:=Tryz.func266.trans (congrArg some kQ)
 f33:=⟨Tryz.f267.name,dQ,Tryz.func267.trans (congrArg some kQ)⟩
 f34:=⟨Tryz.f268.name,dQ,Tryz.func268.trans (congrArg some kQ)⟩
 f35:=⟨Tryz.f269.name,dQ,Tryz.func269.trans (congrArg some kQ)⟩
 f40:=⟨Tryz.f271.name,dQ,Tryz.func271.trans (congrArg some kQ)⟩
 t0:=Tryz.underlying0
 a0:=Tryz.isAgg0
 z0:=Tryz.sizeOf0
 v0:=Tryz.zeroValue0
 t3:=Tryz.underlying3
 a3:=Tryz.isAgg3
 z3:=Tryz.sizeOf3
 v3:=Tryz.zeroValue3
 t4:=Tryz.underlying4
 a4:=Tryz.isAgg4
 z4:=Tryz.sizeOf4
 v4:=Tryz.zeroValue4
 t5:=Tryz.underlying5
 a5:=Tryz.isAgg5
 z5:=Tryz.sizeOf5
 v5:=Tryz.zeroValue5
 t9:=Tryz.underlying9
 a9:=Tryz.isAgg9
 z9:=Tryz.sizeOf9
 v9:=Tryz.zeroValue9
 t22:=Tryz.underlying183
 a22:=Tryz.isAgg183
 z22:=Tryz.sizeOf183
 v22:=Tryz.zeroValue183
 t23:=Tryz.underlying183
 a23:=Tryz.isAgg183
 z23:=Tryz.sizeOf183
 v23:=Tryz.zeroValue183
 t25:=Tryz.underlying3
 a25:=Tryz.isAgg3
 z25:=Tryz.sizeOf3
 v25:=Tryz.zeroValue3
 t32:=Tryz.underlying141
 a32:=Tryz.isAgg141
 z32:=Tryz.sizeOf141
 v32:=Tryz.zeroValue141
 t35:=Tryz.underlying325
 a35:=Tryz.isAgg325
 z35:=Tryz.sizeOf325
 v35:=Tryz.zeroValue325
 t36:=Tryz.underlying326
 a36:=Tryz.isAgg326
 z36:=Tryz.sizeOf326
 v36:=Tryz.zeroValue326
 t41:=Tryz.underlying187
 a41:=Tryz.isAgg187
 z41:=Tryz.sizeOf187
 v41:=Tryz.zeroValue187
 t44:=Tryz.underlying46
 a44:=Tryz.isAgg46
 z44:=Tryz.sizeOf46
 v44:=Tryz.zeroValue46
 t46:=Tryz.underlying112
 a46:=Tryz.isAgg112
 z46:=Tryz.sizeOf112
 v46:=Tryz.zeroValue112
 t53:=Tryz.underlying335
 a53:=Tryz.isAgg335
 z53:=Tryz.sizeOf335
 v53:=Tryz.zeroValue335
 t57:=Tryz.underlying339
 a57:=Tryz.isAgg339
 z57:=Tryz.sizeOf339
 v57:=Tryz.zeroValue339
 t63:=Tryz.underlying342
 a63:=Tryz.isAgg342
 z63:=Tryz.sizeOf342
 v63:=Tryz.zeroValue342
 t64:=Tryz.underlying343
 a64:=Tryz.isAgg343
 z64:=Tryz.sizeOf343
 v64:=Tryz.zeroValue343 }
open Go.RowKit Go.Eng
def zkq(L:List Nat):List Nat:=L.mergeSort fun x y=>decide (x≤y)
theorem qkr(L:List Nat):(L.map fun n:Nat=>(n:Int)).mergeSort (fun x y=>decide (x≤y))=(zkq L).map fun n:Nat=>(n:Int):=by
 unfold zkq
 refine(List.map_mergeSort (f:=fun n:Nat=>(n:Int)) fun a _ b _=>?_).symm
 simp
theorem zz4(o:Option (Nat×Nat))(L:List Nat)(hL:L.length≤1000000000):
  Cv Tryz.prog 207 #[slV o L.length] [own 3 1 o L.length (zeq L)] (fun _:Unit=>.tuple #[]) (fun _=>True) (fun _=>[own 3 1 o L.length (zeq (zkq L))]):=by
 intro w hw
 have hin:=hw _ (.head _)
 obtain⟨⟨hl,hp⟩, -,hfo⟩:=hin
 have hlen:(zkq L).length=L.length:=List.length_mergeSort L
 have hiv:zeq L=(L.map fun n:Nat=>(n:Int)).map (Value.int .i64):=by simp[zeq,fZ]
 have hivs:zeq (zkq L)=((zkq L).map fun n:Nat=>(n:Int)).map (Value.int .i64):=by simp[zeq,fZ]
 have hst:∀o:Option (Nat×Nat),∀it∈[own 3 1 o L.length (zeq (zkq L))],it.Stable none':=by simp[zac]
 rcases o with _|⟨b,c⟩
 ·have h0:L.length=0:=hp
  obtain rfl:L=[]:=bP h0
  have h1:=AnyM.slices_Sort_int_none qrm none 0 w
  unfold Ct
  refine Calls.mono h1 ?_
  rintro e w' ⟨rfl,rfl⟩
  refine⟨(),rfl,trivial,.refl _ _,fun it hm=>?_,.cons (fun _ h=>nomatch h) .nil⟩
  obtain rfl:it=own 3 1 none 0 (zeq (zkq [])):=by simpa using hm
  exact⟨⟨by rw[hivs];simp[zkq],rfl⟩,zac _ _ _ _ _ _,fun k hk=>⟨hfo k hk,fun _=>⟨_,.head _,hk⟩⟩⟩
 ·obtain⟨h1,h2,cur,hb,hc,ht⟩:=hp
  rw[bN]at ht hc
  have hbl:b<w.heap.size:=(bQ.1 hb).1
  have hH:Go.Sort.Holds (Value.int .i64) w b 0 (L.map fun n:Nat=>(n:Int)).toArray:=holds_of_blockI hb (by rw[aE,ht,hiv])
  have h3:=AnyM.slices_Sort_int qrm b 0 c (L.map fun n:Nat=>(n:Int)) w hH hbl (by rw[aE];omega)
  rw[aE,qkr]at h3
  unfold Ct
  refine Calls.mono h3 ?_
  rintro e w' ⟨rfl,n,os,rfl⟩
  obtain⟨g1,g2,g3,g4,g5⟩:=grownBy_sortedI (w:=w) (g:=b) (n:=n) (os:=os) ((zkq L).map fun n:Nat=>(n:Int)).toArray
  have hb':=heap_sortedI (n:=n) (os:=os) ((zkq L).map fun n:Nat=>(n:Int)).toArray hb
  refine⟨(),rfl,trivial,⟨g1,g2,g3,g4,fun k hk hF=>g5 k hk (fun e=>hF ⟨_,.head _,⟨c,by cases e;rfl⟩⟩)⟩,fun it hm=>?_,.cons (fun _ h=>nomatch h) .nil⟩
  obtain rfl:it=own 3 1 (some (b,c)) L.length (zeq (zkq L)):=by simpa using hm
  refine⟨⟨by rw[←hlen];simp[zeq],h1,h2,_,hb',by simp[Go.Sort.putCells,hc],?_⟩,zac _ _ _ _ _ _,fun k hk=>⟨aW (hfo k hk) g4,fun _=>⟨_,.head _,hk⟩⟩⟩
  have:=take_putCellsI cur ((zkq L).map fun n:Nat=>(n:Int)) (by rw[aE,hlen];omega)
  rw[aE,hlen]at this
  rw[bN,this,hivs]
theorem zkk{α:Type}[DecidableEq α]:∀{l L:List α},l.Nodup→(∀x∈l,x∈L)→l.length≤L.length
 | [],_,_,_=>bA _
 |x::l,L,hn,h=>by
  have hx:=h x (.head _)
  have hn':=cP.1 hn
  have:=zkk (l:=l) (L:=L.erase x) hn'.2 fun y hy=>(List.mem_erase_of_ne (fun e:y=x=>hn'.1 (by rw[←e];exact hy))).2 (h y (.tail _ hy))
  rw[List.length_erase_of_mem hx]at this
  have:=List.length_pos_of_mem hx
  rw[aR]
  omega
theorem zyp{L L':List Nat}(h:L.Perm L'):zkq L=zkq L':=by
 unfold zkq
 have tr:∀a b c:Nat,decide (a≤b)=true→decide (b≤c)=true→decide (a≤c)=true:=fun a b c h1 h2=>by simp only[decide_eq_true_eq]at*;omega
 have to:∀a b:Nat,(decide (a≤b)||decide (b≤a))=true:=fun a b=>by simp only[iD,decide_eq_true_eq];omega
 refine List.Perm.eq_of_pairwise (le:=fun a b=>decide (a≤b)=true) (fun a b _ _ h1 h2=>?_) (List.pairwise_mergeSort tr to L) (List.pairwise_mergeSort tr to L') (((List.mergeSort_perm L _).trans h).trans (List.mergeSort_perm L' _).symm)
 simp only[decide_eq_true_eq]at h1 h2
 omega
theorem zi3(x b:Nat)(A:zcs)(hA:A.length≤1000000000):
  Cw Tryz.prog 166 #[kyV x] (kyI x b A) (fun o:Option (Nat×Nat)=>slV o A.length) (fun _=>True) (fun o=>[own 3 1 o A.length (zeq (zkq (zjv A))),zck .i64 b A]):=by
 intro w hw ha
 refine za2 [_] _ Tryz.func166 rfl rfl hw ha ?_
 simp only[zaa]
 unfold kyV
 refine goA ?_
 have hmo:∀it∈[zck .i64 b A],it.Stable none':=by simp[zax]
 have hkl:(zjv A).length=A.length:=by simp[zjv]
 refine zgb (m':=kyI x b A++[]) (by rw[bB]) ?_
 refine zeh rfl (zfb (pre:=kyI x b A) (m:=[]) rfl kQ rfl (zki x b A) (fun w1 hw1 hh1 ha1=>zru (f:=208) (cs:=[.pointer (some ⟨x,0,none⟩)]) kQ (qgu x b A) (zki x b A) hmo (fun k y h=>by
  have h1:(k++[y]).length≤(zjv A).length:=zkk h.1 h.2
  rw[aA,hkl]at h1
  simp at h1
  omega) w1 hh1 ha1)) fun⟨⟨o,out⟩,hS⟩=>?_
 dsimp only at hS⊢
 have hol:out.length=A.length:=by rw[hS.length_eq,hkl]
 have hso:zkq out=zkq (zjv A):=zyp hS
 refine goA ?_
 refine lCu [own 3 1 o out.length (zeq out)] rfl (by simp[zac]) (fun w1 hw1 hh1 ha1=>zz4 o out oQ w1 hh1) fun⟨_,_⟩=>?_
 rw[hso,hol]
 refine goA ?_
 exact zbd o rfl rfl rfl trivial (.cons_cons _ (.cons_cons _ (.refl _))) (by simp[zac,zax])
end Go.Proofs.YthafakdplhdfjaaGreatDoor
namespace Go.Proofs.YthafakdplhdfjaaGreatDoor
open Go.RowKit Go.Eng Go.Eng.Bm
theorem qot{s:Pg}{d d':Dk}(h:d'.b=d.b):pgI s d'=pgI s d:=by unfold pgI pgL pgC lgI pgA lgA;rw[h]
def zb2(A:PR):PR:=(zkq (A.map (·.1))).map fun i=>(i,(A.lookup i).getD [])
def wsP(secs:Nat)(A:PR):List (Nat×Bys):=(zb2 A).map fun p=>(2+secs+p.1,p.2)
theorem zhk(L:List Nat):(zkq L).length=L.length:=List.length_mergeSort L
theorem zhl{L:List Nat}{x:Nat}:x∈zkq L↔x∈L:=List.mem_mergeSort
variable{A:PR}
theorem zjw{i:Nat}(h:i∈A.map (·.1)):∃b,A.lookup i=some b:=by
 obtain⟨p,hp,rfl⟩:=aT.1 h
 cases hl:A.lookup p.1 with
 |some b=>exact⟨b,rfl⟩
 |none=>
  have:∀B:PR,p∈B→B.lookup p.1≠none:=by
   intro B
   induction B with
   |nil=>intro h;cases h
   |cons q B ih=>
    intro h hn
    rw[cJ]at hn
    by_cases e:p.1=q.1
    ·rw[e]at hn;simp at hn
    ·rcases aK.1 h with rfl|h
     ·exact e rfl
     ·rw[show(p.1==q.1)=false by simpa using e]at hn
      exact ih h hn
  exact absurd hl (this A hp)
variable{n:Nat}
theorem zmc(h:A.Ok n):(zb2 A).Ok n:=by
 intro p hp
 obtain⟨i,hi,rfl⟩:=aT.1 hp
 obtain⟨b,hb⟩:=zjw (zhl.1 hi)
 have:=h _ (zbt hb)
 simp only[hb,eE]
 exact this
theorem ziz(d:Dk)(s:Pg)(lb:Nat)(A:PR):∀it∈[dkI d,pgI s d,zck .i64 lb (toP A)],it.Stable none':=by
 intro it hm
 rcases hm with _|⟨_,_|⟨_,_|⟨_,hm⟩⟩⟩
 ·exact zad _
 ·exact zbv _ _
 ·exact zax _ _ _ _
 ·exact nomatch hm
theorem zmo(s:Pg)(d:Dk)(lb:Nat)(A:PR)(ok:d.D.Ok)(hkl:d.D.keep.length≤1000000)(hwl:d.D.wait.length+A.length≤1000000)(hn:s.n≤1024)(hsecs:s.g.h.secs<65536)(hA:A.Ok s.n):
  Cw Tryz.prog 116 #[.pointer (some ⟨s.b,0,none⟩),.map (some lb)] [dkI d,pgI s d,zck .i64 lb (toP A)] (fun _:Dk=>.int .i64 ((zbb d.D (wsP s.g.h.secs A)).1:Nat)) (zfz d (zbb d.D (wsP s.g.h.secs A)).2) (fun d'=>[dkI d',pgI s d',zck .i64 lb (toP A)]):=by
 intro w hw ha
 refine za2 [_,_] _ Tryz.func116 rfl rfl hw ha ?_
 simp only[zaa,Nat.reduceAdd]
 refine goA ?_
 refine zdy rfl rfl kQ rfl (fun w1 hw1=>zsq lb w1) fun x hx=>?_
 refine goA ?_
 refine zay [0,3,1,2] rfl rfl ?_
 have hkl2:(toP A).length=A.length:=by simp[toP]
 have hke:zjv (toP A)=A.map (·.1):=by simp[zjv,toP,fZ]
 refine lCu (kyI x lb (toP A)) rfl (zki _ _ _) (fun w1 hw1 hh1 ha1=>zi3 x lb (toP A) oQ w1 hh1 ha1) fun⟨o,_⟩=>?_
 rw[hkl2,hke]
 dsimp only
 refine zch (fun w hw=>(zas (hw.item (own 3 1 o A.length (zeq (zkq (A.map (·.1))))) (.head _)).1)) fun⟨hsl,hcap⟩=>?_
 rw[hsl]
 refine goA ?_
 have hrl:(zb2 A).length=A.length:=by rw[zb2,aE,zhk,aE]
 have hwsl:(wsP s.g.h.secs A).length=A.length:=by rw[wsP,aE,hrl]
 have hro:=zmc hA
 have hwsk:∀k (hk:k<A.length),(wsP s.g.h.secs A).take (k+1)=(wsP s.g.h.secs A).take k++[(2+s.g.h.secs+((zb2 A)[k]'oQ).1,((zb2 A)[k]'oQ).2)]:=fun k hk=>by
  rw[cV,wsP,aN,aB oQ]
  rfl
 have hokk:∀k,(zbb d.D ((wsP s.g.h.secs A).take k)).2.Ok:=fun k=>zf7 _ _ ok
 have hkeepk:∀k,k≤A.length→(zbb d.D ((wsP s.g.h.secs A).take k)).1=0→(zbb d.D ((wsP s.g.h.secs A).take k)).2.keep=d.D.keep∧(zbb d.D ((wsP s.g.h.secs A).take k)).2.wait.length=d.D.wait.length+k:=fun k hk h0=>by
  have:=ze7 ((wsP s.g.h.secs A).take k) d.D ok h0
  rw[aM,hwsl,dB hk]at this
  exact this
 have hbad:∀k,(zbb d.D ((wsP s.g.h.secs A).take k)).1≠0→zbb d.D (wsP s.g.h.secs A)=zbb d.D ((wsP s.g.h.secs A).take k):=fun k hk=>by
  have h1:=zmp ((wsP s.g.h.secs A).take k) ((wsP s.g.h.secs A).drop k) d.D hk
  rw[bF]at h1
  exact h1
 have hall:zbb d.D ((wsP s.g.h.secs A).take A.length)=zbb d.D (wsP s.g.h.secs A):=by rw[bI oQ]
 refine zc0 (α:=Nat×Dk) (fun y=>[(0,.pointer (some ⟨s.b,0,none⟩)),(1,.map (some lb)),(11,.slice (slA o) A.length (slC o)),(12,.int .i64 A.length),(13,.int .i64 y.1)]) (fun y=>y.1≤A.length∧(zbb d.D ((wsP s.g.h.secs A).take y.1)).1=0∧zfz d (zbb d.D ((wsP s.g.h.secs A).take y.1)).2 y.2) (fun y=>[dkI y.2,pgC s d,lgI s.bl d s.g,zck .i64 s.kb (toP s.K),zck .i64 s.db (toB s.R),zck .i64 s.cb (toP s.C),zck .i64 lb (toP A),own 3 1 o A.length (zeq (zkq (A.map (·.1))))]) (fun y=>A.length - y.1) (0,d) ⟨rfl,rfl,rfl,rfl,rfl,trivial⟩ ⟨bA _,rfl,rfl,rfl,rfl⟩ (fun w hw=>(ze1 (m:=[dkI d,zck .i64 lb (toP A),own 3 1 o A.length (zeq (zkq (A.map (·.1))))]) (hw.pick [3,2,1,0] rfl rfl)).pick [5,0,1,2,3,4,6,7] rfl rfl) fun⟨k,d1⟩ ⟨hk,h0,hd1⟩=>?_
 simp only at hk h0 hd1⊢
 by_cases hkn:k<A.length
 ·have hst:zbb d.D ((wsP s.g.h.secs A).take (k+1))=zbz (zbb d.D ((wsP s.g.h.secs A).take k)).2 (2+s.g.h.secs+((zb2 A)[k]'oQ).1) ((zb2 A)[k]'oQ).2:=by
   rw[hwsk k hkn,zmq,if_pos h0]
  obtain⟨hkp,hwt⟩:=hkeepk k oQ h0
  have hokd:=hokk k
  have hbad2:=hbad (k+1)
  generalize zbb d.D ((wsP s.g.h.secs A).take k)=r at*
  obtain⟨hd1a,hd1b,hd1c⟩:=hd1
  rw[←hd1c]at hkp hwt hokd hst
  have hin:=hro _ (aV (l:=zb2 A) (n:=k) oQ)
  have hsk:(zkq (A.map (·.1)))[k]? =some ((zb2 A)[k]'oQ).1:=by
   rw[aB (by rw[zhk,aE];exact hkn)]
   simp[zb2]
  have hlk:A.lookup ((zb2 A)[k]'oQ).1=some ((zb2 A)[k]'oQ).2:=by
   have h1:((zb2 A)[k]'oQ).1∈A.map (·.1):=zhl.1 (bH hsk)
   obtain⟨b,hb⟩:=zjw h1
   rw[hb]
   simp only[zb2,cS]at hb⊢
   rw[hb]
   rfl
  generalize (zb2 A)[k]'oQ=p at hst hin hsk hlk
  obtain⟨i,bs⟩:=p
  simp only at hst hin hsk hlk
  rcases o with _|⟨ob,oc⟩
  ·refine zhm (fun w hw=>(hw.item (own 3 1 none A.length (zeq (zkq (A.map (·.1))))) sQ).1.2) fun h=>?_
   exact absurd h oQ
  have hcell:∀{m:List Eng.Item} {w2:World} {F2:Nat→Prop} (w':World),Hp w2 F2 m w'→own 3 1 (some (ob,oc)) A.length (zeq (zkq (A.map (·.1))))∈m→w'.cell? ⟨ob,k,none⟩=some (.int .i64 (i:Int)):=fun w' hw' hm=>zby (hw'.item _ hm).1 k _ (by simp[zeq,hsk])
  simp only[slA,slC]
  have hbl:(zae bs).length=512:=by rw[zan,hin.2]
  refine goA ?_
  refine l_w rfl (za0 (v:=.int .i64 (i:Int)) rfl rfl (fun w' hw'=>by rw[aJ];exact hcell w' hw' sQ)) ?_
  refine goA ?_
  refine l_w rfl (zv5 (q:=.i64) (h:=i) (A:=toP A) (b:=lb) rfl rfl rfl rfl rfl (okI oQ) sQ) ?_
  rw[zic,hlk]
  simp only[bX,eE,pgV]
  refine goA ?_
  refine zam rfl rfl fun b7 hb7=>?_
  refine za1 rfl (zaf (cs':=(zae bs).toArray) rfl rfl rfl (by rw[aC,hbl];rfl) (zdd _) (by rw[aC,hbl];rfl)) fun _=>?_
  refine goA ?_
  refine zcx [1,0,2,3,4,5,6,7,8] rfl rfl ?_
  refine zap [1,2,3,4,5,6,7,8] 14 rfl rfl kQ ?_
  (repeat first|refine dAv [11] rfl rfl rfl ?_ |refine dno [11] rfl rfl rfl ?_ |refine dT [11] rfl rfl rfl rfl ?_ |refine dF [11] rfl rfl rfl rfl ?_)
  refine d_v [8] rfl rfl kQ (fun _ h=>goH h) rfl rfl (zg9 (n:=512) rfl rfl rfl rfl) ?_
  refine zat 8 ⟨kQ,dQ⟩ rfl rfl (zfc rfl kQ rfl (fun w1 hw1=>zd6 s.bl d s.g w1 (zbq.of (hw1.item (lgI s.bl d s.g) sQ) (zab _ _ _)))) (fun _ _ h=>goH h) fun _=>?_
  refine goE ?_
  refine zat 10 ⟨kQ,dQ⟩ rfl rfl (zfc rfl kQ rfl (fun w1 hw1=>zfv s.g.h.secs i oQ oQ w1)) (fun _ _ h=>goH h) fun _=>?_
  refine goE ?_
  rw[←hd1a]
  refine zat 12 ⟨kQ,dQ⟩ rfl rfl (zfb (pre:=[dkI d1]) rfl kQ rfl (by intro it hm;rcases hm with _|⟨_,hm⟩<;>first|exact zad _|exact(nomatch hm)) (fun w1 hw1 hh1 ha1=>zuc d1 hokd (by rw[hkp];exact hkl) (by rw[hwt];omega) (2+s.g.h.secs+i) oQ bs 512 hin.2 (some ⟨b7,0,none⟩) 512 dQ w1 hh1 (fun w2 hw2=>.inr ⟨b7,0,rfl,zbf (hw1.still (y:=pt b7 (.cells (zae bs).toArray 214 (0,0))) (.head _) (zab _ _ _) hw2)⟩))) (fun _ _ h=>goH h) fun⟨d2,hd2⟩=>?_
  refine goE ?_
  refine zdn kQ ?_
  dsimp only
  rw[←hst]at hd2⊢
  have hok2:zfz d (zbb d.D ((wsP s.g.h.secs A).take (k+1))).2 d2:=⟨hd2.1.trans hd1a,hd2.2.1.trans hd1b,hd2.2.2⟩
  refine goA ?_
  by_cases he:(zbb d.D ((wsP s.g.h.secs A).take (k+1))).1=0
  ·have hne:(((zbb d.D ((wsP s.g.h.secs A).take (k+1))).1:Int) != 0)=false:=by simp[he]
   rw[hne]
   refine goA ?_
   exact zaw (k+1,d2) ⟨rfl,rfl,rfl,rfl,rfl,trivial⟩ ⟨hkn,he,hok2⟩ (fun w hw=>by exact hw.pick [0,2,3,4,5,6,7,8] rfl rfl) (by show A.length - (k+1)<A.length - k;omega)
  ·have hne:(((zbb d.D ((wsP s.g.h.secs A).take (k+1))).1:Int) != 0)=true:=by simp[he]
   rw[hne,hbad2 he]
   refine goA ?_
   refine zbr (m':=[dkI d2,pgI s d2,zck .i64 lb (toP A)]) (fun w' hw'=>?_) (zbd d2 rfl rfl rfl hok2 (.refl _) (ziz _ _ _ _))
   rw[qot hok2.1]
   exact(zdm (m:=[dkI d2,zck .i64 lb (toP A)]) (hw'.pick [2,3,4,5,6,0,7] rfl rfl)).pick [1,0,2] rfl rfl
 ·obtain rfl:k=A.length:=oQ
  rw[hall]at h0 hd1
  rw[h0]
  refine goA ?_
  refine zbr (m':=[dkI d1,pgI s d1,zck .i64 lb (toP A)]) (fun w' hw'=>?_) (zbd d1 rfl rfl rfl hd1 (.refl _) (ziz _ _ _ _))
  rw[qot hd1.1]
  exact(zdm (m:=[dkI d1,zck .i64 lb (toP A)]) (hw'.pick [1,2,3,4,5,0,6] rfl rfl)).pick [1,0,2] rfl rfl
def zc7(R:PR):Bys:=R.flatMap fun p=>beN 2 p.1++p.2
theorem zj5{R:PR}(h:R.Ok n):(zc7 R).length=514*R.length:=by
 induction R with
 |nil=>rfl
 |cons p R ih=>
  have h1:=(h p (.head _)).2
  have h2:=ih fun q hq=>h q (.tail _ hq)
  unfold zc7 at h2⊢
  rw[aX,aA,aA,zal,h1,h2,aR]
  omega
theorem qeq(R:PR)(p:Nat×Bys):zc7 (R++[p])=zc7 R++beN 2 p.1++p.2:=by
 simp[zc7]
theorem zya(s:Pg)(d:Dk)(hn:s.n≤1024)(hC:s.C.Ok s.n)(hCl:s.C.length≤1024):
  Cv Tryz.prog 131 #[.pointer (some ⟨s.b,0,none⟩)] [pgI s d] (fun _:Unit=>.string ⟨(zc7 (zb2 s.C)).toArray⟩) (fun _=>True) (fun _=>[pgI s d]):=by
 intro w hw
 refine za2 [_] _ Tryz.func131 rfl rfl hw (.cons (fun _ h=>nomatch h) .nil) ?_
 simp only[zaa]
 refine zg8 (m':=pgL s d) (fun w h=>ze1 (m:=[]) h) ?_
 unfold pgL
 refine goA ?_
 refine zdy rfl rfl kQ rfl (fun w1 hw1=>zg6 w1) fun x hx=>?_
 obtain⟨pb,hpb⟩:∃pb,pb=x:=⟨x,rfl⟩
 subst hpb
 refine goA ?_
 refine zd2 13 _ (.map (some s.cb)) rfl rfl ?_
 refine zdy rfl rfl kQ rfl (fun w1 hw1=>zsq s.cb w1) fun x hx=>?_
 have hkl2:(toP s.C).length=s.C.length:=by simp[toP]
 have hke:zjv (toP s.C)=s.C.map (·.1):=by simp[zjv,toP,fZ]
 refine zay [0,7,1,2,3,4,5,6] rfl rfl ?_
 refine lCu (kyI x s.cb (toP s.C)) rfl (zki _ _ _) (fun w1 hw1 hh1 ha1=>zi3 x s.cb (toP s.C) oQ w1 hh1 ha1) fun⟨o,_⟩=>?_
 rw[hkl2,hke]
 dsimp only
 refine zch (fun w hw=>(zas (hw.item (own 3 1 o s.C.length (zeq (zkq (s.C.map (·.1))))) (.head _)).1)) fun⟨hsl,hcap⟩=>?_
 rw[hsl]
 refine goA ?_
 have hrl:(zb2 s.C).length=s.C.length:=by rw[zb2,aE,zhk,aE]
 have hro:=zmc hC
 have htk:∀k (hk:k<s.C.length),zc7 ((zb2 s.C).take (k+1))=zc7 ((zb2 s.C).take k)++beN 2 ((zb2 s.C)[k]'oQ).1++((zb2 s.C)[k]'oQ).2:=fun k hk=>by
  rw[cV,aB oQ]
  exact qeq _ _
 have htl:∀k,k≤s.C.length→(zc7 ((zb2 s.C).take k)).length=514*k:=fun k hk=>by
  rw[zj5 (n:=s.n) (fun p hp=>hro p (bY hp)),aM,hrl,dB hk]
 have hall:(zb2 s.C).take s.C.length=zb2 s.C:=bI oQ
 refine zc0 (α:=Nat×Option (Nat×Nat)) (fun y=>[(0,.pointer (some ⟨s.b,0,none⟩)),(3,.pointer (some ⟨pb,0,none⟩)),(15,.slice (slA o) s.C.length (slC o)),(16,.int .i64 s.C.length),(17,.int .i64 y.1)]) (fun y=>y.1≤s.C.length) (fun y=>pks pb y.2 (zc7 ((zb2 s.C).take y.1))++[pgC s d,lgI s.bl d s.g,zck .i64 s.kb (toP s.K),zck .i64 s.db (toB s.R),zck .i64 s.cb (toP s.C),own 3 1 o s.C.length (zeq (zkq (s.C.map (·.1))))]) (fun y=>s.C.length - y.1) (0,none) ⟨rfl,rfl,rfl,rfl,rfl,trivial⟩ (bA _) (fun w hw=>hw.pick [2,3,4,5,6,7,1,0] rfl rfl) fun⟨k,po⟩ hk=>?_
 simp only at hk⊢
 by_cases hkn:k<s.C.length
 ·have htk2:=htk k hkn
  have htl1:=htl k oQ
  generalize zc7 ((zb2 s.C).take k)=tx at htk2 htl1⊢
  have hin:=hro _ (aV (l:=zb2 s.C) (n:=k) oQ)
  have hsk:(zkq (s.C.map (·.1)))[k]? =some ((zb2 s.C)[k]'oQ).1:=by
   rw[aB (by rw[zhk,aE];exact hkn)]
   simp[zb2]
  have hlk:s.C.lookup ((zb2 s.C)[k]'oQ).1=some ((zb2 s.C)[k]'oQ).2:=by
   have h1:((zb2 s.C)[k]'oQ).1∈s.C.map (·.1):=zhl.1 (bH hsk)
   obtain⟨b,hb⟩:=zjw h1
   rw[hb]
   simp only[zb2,cS]at hb⊢
   rw[hb]
   rfl
  generalize (zb2 s.C)[k]'oQ=p at hin hsk hlk htk2
  obtain⟨i,bs⟩:=p
  simp only at hin hsk hlk htk2
  rcases o with _|⟨ob,oc⟩
  ·refine zhm (fun w hw=>(hw.item (own 3 1 none s.C.length (zeq (zkq (s.C.map (·.1))))) sQ).1.2) fun h=>?_
   exact absurd h oQ
  have hcell:∀{m:List Eng.Item} {w2:World} {F2:Nat→Prop} (w':World),Hp w2 F2 m w'→own 3 1 (some (ob,oc)) s.C.length (zeq (zkq (s.C.map (·.1))))∈m→w'.cell? ⟨ob,k,none⟩=some (.int .i64 (i:Int)):=fun w' hw' hm=>zby (hw'.item _ hm).1 k _ (by simp[zeq,hsk])
  simp only[slA,slC]
  have hbl:(zae bs).length=512:=by rw[zan,hin.2]
  refine goA ?_
  refine l_w rfl (za0 (v:=.int .i64 (i:Int)) rfl rfl (fun w' hw'=>by rw[aJ];exact hcell w' hw' sQ)) ?_
  refine goA ?_
  refine l_w rfl (zv5 (q:=.i64) (h:=i) (A:=toP s.C) (b:=s.cb) rfl rfl rfl rfl rfl (okI oQ) sQ) ?_
  rw[zic,hlk]
  simp only[bX,eE,pgV]
  refine goA ?_
  refine zam rfl rfl fun b7 hb7=>?_
  refine za1 rfl (zaf (cs':=(zae bs).toArray) rfl rfl rfl (by rw[aC,hbl];rfl) (zdd _) (by rw[aC,hbl];rfl)) fun _=>?_
  refine goA ?_
  refine zcx [1,2,0,3,4,5,6,7,8] rfl rfl ?_
  refine zap [2,3,4,5,6,7,8] 7 rfl rfl kQ ?_
  (repeat first|refine dAv [4] rfl rfl rfl ?_ |refine dno [4] rfl rfl rfl ?_ |refine dT [4] rfl rfl rfl rfl ?_ |refine dF [4] rfl rfl rfl rfl ?_)
  refine d_v [3] rfl rfl kQ (fun _ h=>goH h) rfl rfl (zg9 (n:=512) rfl rfl rfl rfl) ?_
  refine d_v [3] rfl rfl kQ (fun _ h=>goH h) rfl rfl (ztt (bs:=bs) rfl hin.2.symm rfl rfl (fun w' hw'=>.inr ⟨b7,0,rfl,zbf (hw'.get (b:=b7) (.head _))⟩)) ?_
  refine zat 3 ⟨kQ,dQ⟩ rfl rfl (zfb (pre:=pks pb po tx) rfl kQ rfl (by simp[zab,zac]) (fun w1 hw1 hh1 ha1=>zdr pb po tx 2 i (.inr (.inl rfl)) oQ oQ w1 hh1 ha1)) (fun _ _ h=>goH h) fun⟨o1,_⟩=>?_
  refine goE ?_
  have hlen2:(tx++beN 2 i).length=514*k+2:=by rw[aA,zal,htl1]
  refine zat 6 ⟨kQ,dQ⟩ rfl rfl (zfb (pre:=pks pb o1 (tx++beN 2 i)) rfl kQ rfl (by simp[zab,zac]) (fun w1 hw1 hh1 ha1=>zen pb o1 (tx++beN 2 i) ⟨bs.toArray⟩ (by rw[hlen2,bal,hin.2];omega) w1 hh1 ha1)) (fun _ _ h=>goH h) fun⟨o2,_⟩=>?_
  refine zdn kQ ?_
  refine goA ?_
  refine zaw (k+1,o2) ⟨rfl,rfl,rfl,rfl,rfl,trivial⟩ hkn (fun w hw=>?_) (by show s.C.length - (k+1)<s.C.length - k;omega)
  show Hp _ _ (pks pb o2 (zc7 ((zb2 s.C).take (k+1)))++_) w
  rw[htk2]
  exact hw.pick [0,1,3,4,5,6,7,8] rfl rfl
 ·obtain rfl:k=s.C.length:=oQ
  rw[hall]
  have htl1:=htl _ (aY _)
  rw[hall]at htl1
  generalize zc7 (zb2 s.C)=tx at htl1⊢
  refine goA ?_
  refine lCu (pks pb po tx) rfl (by simp[zab,zac]) (fun w1 hw1 hh1 ha1=>zdv pb po tx oQ w1 hh1 ha1) fun⟨o2,_⟩=>?_
  dsimp only
  refine zch (fun w hw=>(zas (hw.item (own 5 1 o2 tx.length (zae tx)) (.head _)).1)) fun⟨hsl2,_⟩=>?_
  rw[hsl2]
  refine goA ?_
  refine l_w rfl (ztt (bs:=tx) rfl rfl rfl rfl (fun w' hw'=>za8 (hw'.item (own 5 1 o2 tx.length (zae tx)) (.head _)).1)) ?_
  refine goA ?_
  exact zbr (m':=[pgI s d]) (fun w' hw'=>zdm (m:=[]) (hw'.pick [3,4,5,6,7] rfl rfl)) (zbd () rfl rfl rfl trivial (.refl _) (zbl _ _))
def zmv(A:PR)(R:PR):PR:=R.foldl (fun A p=>zeb A p.1 p.2) A
theorem qgh(A R:PR)(p:Nat×Bys):zmv A (R++[p])=zeb (zmv A R) p.1 p.2:=by simp[zmv]
theorem zto(p:Nat×Bys)(R:PR):zc7 (p::R)=beN 2 p.1++(p.2++zc7 R):=by simp[zc7]
theorem zxf(s:Pg)(d:Dk)(R:PR)(hn:s.n≤1024)(hR:R.Ok s.n)(hRl:R.length≤100000)(w:World)(h:zbq (pgI s d) w):
  Ct Tryz.prog 115 #[.pointer (some ⟨s.b,0,none⟩),.string ⟨(zc7 R).toArray⟩] w none' (fun b:Nat=>.tuple #[.map (some b),.bool true]) (fun _=>True) (fun b=>[zck .i64 b (toP (zmv [] R))]):=by
 refine zes [_,_] Tryz.func115 rfl rfl ?_
 have htl:=zj5 hR
 have hbal:=bal (zc7 R)
 simp only[zaa,Nat.reduceAdd]
 refine goA ?_
 refine za1 rfl (zs3 rfl rfl rfl rfl) fun⟨p1,hp1,hp2⟩=>?_
 dsimp only
 rw[hbal]
 refine goA ?_
 refine zdy rfl rfl kQ rfl (fun w1 hw1=>zih (some ⟨p1.1,0,none⟩) (zc7 R).length p1.2 (zc7 R) rfl oQ w1 (.inr ⟨p1.1,0,rfl,zib (hw1.item (zmk 5 (zc7 R) p1.1 p1.2) (.head _)).1⟩)) fun x hx=>?_
 obtain⟨b,oD⟩:=x
 simp only at hx⊢
 have hsD:(own 5 1 oD (zc7 R).length (zae (zc7 R))).Stable none':=zac _ _ _ _ _ _
 generalize own 5 1 oD (zc7 R).length (zae (zc7 R))=D at hx hsD
 refine goA ?_
 refine za1 rfl (zgu (q:=.i64) rfl) fun⟨mb,hmb⟩=>?_
 refine goA ?_
 refine zc0 (α:=Nat×(Option Addr×Nat)) (fun y=>[(0,.pointer (some ⟨s.b,0,none⟩)),(6,.pointer (some ⟨b,0,none⟩)),(7,.map (some mb))]) (fun y=>y.1≤R.length∧zjg D y.2.1 y.2.2 (zc7 (R.drop y.1))) (fun y=>[opI b y.2.1 y.2.2 (zc7 (R.drop y.1),false),D,zck .i64 mb (toP (zmv [] (R.take y.1)))]) (fun y=>R.length - y.1) (0,(slA oD,slC oD)) ⟨rfl,rfl,rfl,trivial⟩ ⟨bA _,hx⟩ (fun w hw=>hw.pick [1,2,0] rfl rfl) fun⟨k,y⟩ ⟨hk,hy⟩=>?_
 simp only at hk hy⊢
 have htlk:=zj5 (R:=R.drop k) (n:=s.n) (fun p hp=>hR p (cF hp))
 rw[aZ]at htlk
 by_cases hkn:k<R.length
 ·have hdr:R.drop k=R[k]::R.drop (k+1):=(dU ..).symm
  have hpk:=hR _ (aV hkn)
  have hik:zmv [] (R.take (k+1))=zeb (zmv [] (R.take k)) R[k].1 R[k].2:=by rw[dA hkn,qgh]
  rw[hdr,zto]at hy htlk⊢
  generalize R[k]=p at hpk hik hy htlk⊢
  obtain⟨i,bs⟩:=p
  simp only at hpk hik hy htlk⊢
  obtain⟨rest,hrest⟩:∃r,zc7 (R.drop (k+1))=r:=⟨_,rfl⟩
  rw[hrest]at hy htlk⊢
  obtain⟨hin,hbs⟩:=hpk
  have hbl:(zae bs).length=512:=by rw[zan,hbs]
  have e1:opN 2 (beN 2 i++(bs++rest),false)=(i,(bs++rest,false)):=zgc oQ _
  have e2:opT 512 (bs++rest,false)=(bs,(rest,false)):=by rw[←hbs];exact zqb bs rest
  refine goA ?_
  refine lPu rfl (fun w1 hw1=>zgt b y.1 y.2 _ w1 (zbq.of (hw1.item (opI b y.1 y.2 (beN 2 i++(bs++rest),false)) (.head _)) (zak _ _ _ _))) ?_
  simp only[htlk]
  refine goA ?_
  refine lCu [opI b y.1 y.2 (beN 2 i++(bs++rest),false),D] rfl (by simp[zak,hsD]) (fun w1 hw1 hh1 ha1=>zhh i (bs++rest,false) e1 hsD hy (.inr (.inl rfl)) (by simp only[htlk];omega) hh1 ha1) fun⟨y1,hy1⟩=>?_
  simp only at hy1
  have hl2:(bs++rest).length≤1000000000:=by
   rw[aA,zal]at htlk
   omega
  refine goA ?_
  refine lCu [opI b y1.1 y1.2 (bs++rest,false),D] rfl (by simp[zak,hsD]) (fun w1 hw1 hh1 ha1=>zp7 bs (rest,false) e2 hsD hy1 hl2 hh1 ha1) fun⟨y2,hy2⟩=>?_
  simp only at hy2
  refine goA ?_
  refine lPu rfl (fun w1 hw1=>zev b y2.1 y2.2 (rest,false) w1 (zbq.of (hw1.item (opI b y2.1 y2.2 (rest,false)) (.head _)) (zak _ _ _ _))) ?_
  simp only[bV,if_false]
  refine goA ?_
  refine l_w rfl (za0 (v:=.int .i64 (s.n:Int)) rfl rfl (fun w' hw'=>zkv (h.keep hw') 2 rfl)) ?_
  refine goA ?_
  refine za1 rfl (zs3 rfl rfl rfl rfl) fun⟨p2,_,_⟩=>?_
  dsimp only
  rw[bal,hbs]
  refine goA ?_
  refine l_w rfl (ztu rfl rfl dQ) ?_
  refine goA ?_
  refine l_w rfl (zgp (xs:=zae bs) (c:=(zae bs).toArray) rfl (by rw[hbl];rfl) (fun w' hw'=>zib (hw'.item (zmk 5 bs p2.1 p2.2) (.head _)).1) rfl) ?_
  refine zay [3,0,1,2] rfl rfl ?_
  refine za1 rfl (zir (h:=i) (v:=pgV bs) rfl rfl rfl rfl rfl rfl (okI oQ)) fun _=>?_
  rw[←zln,←hik]
  refine goA ?_
  exact zaw (k+1,y2) ⟨rfl,rfl,rfl,trivial⟩ ⟨hkn,by show zjg _ _ _ (zc7 (R.drop (k+1)));rw[hrest];exact hy2⟩ (fun w hw=>by show Hp _ _ [opI _ _ _ (zc7 (R.drop (k+1)),false),_,_] w;rw[hrest];exact hw.pick [2,3,0] rfl rfl) (by show R.length - (k+1)<R.length - k;omega)
 ·obtain rfl:k=R.length:=oQ
  have hd0:R.drop R.length=[]:=kT
  rw[hd0,gI]
  refine goA ?_
  refine lPu rfl (fun w1 hw1=>zgt b y.1 y.2 _ w1 (zbq.of (hw1.item (opI b y.1 y.2 (zc7 [],false)) (.head _)) (zak _ _ _ _))) ?_
  rw[show((zc7 [],false):Opn).1.length=0 from rfl]
  refine goA ?_
  exact zc1 mb rfl rfl rfl rfl trivial (.cons _ (.cons _ (.refl _))) (by simp[zax])
end Go.Proofs.YthafakdplhdfjaaGreatDoor
namespace Go.Proofs.YthafakdplhdfjaaGreatDoor
open Go.RowKit Go.Eng
def qpw{σ:Type}:List ((σ→Nat)×(σ→σ→Prop))→σ→Nat×σ→Prop
 | [],s,x=>x=(0,s)
 |t::r,s,x=>∃s',t.2 s s'∧(if t.1 s=0 then qpw r s' x else x=(t.1 s,s'))
def fvV(f:FuncId×List Value×List Value):Value:=.func (.func f.1) f.2.1.toArray f.2.2.toArray
abbrev fvI(qb qc:Nat)(fv:List (FuncId×List Value×List Value)):Eng.Item:=own 60 1 (some (qb,qc)) fv.length (fv.map fvV)
theorem zwk{σ:Type}(B:σ→List Eng.Item)(fv:List (FuncId×List Value×List Value))(st:List ((σ→Nat)×(σ→σ→Prop)))(hl:st.length=fv.length)(I:Nat→σ→Prop)(s0:σ)(h0:I 0 s0)
  (hB:∀s,∀it∈B s,it.Stable none') (hfl:fv.length≤1000)
  (hstep:∀k f t s,fv[k]? =some f→st[k]? =some t→I k s→za7 Tryz.prog f.1=true∧∀w,(∀it∈B s,zbq it w)→(B s).Pairwise Eng.Item.Apart→Ct Tryz.prog f.1 (f.2.1++f.2.2).toArray w (za4 (B s)) (fun _:σ=>.int .i64 (t.1 s:Nat)) (t.2 s) (fun s'=>B s'))
  (hI:∀k t s s',st[k]? =some t→I k s→t.2 s s'→t.1 s=0→I (k+1) s')
  (qb qc:Nat):
  Cw Tryz.prog 117 #[.slice (some ⟨qb,0,none⟩) fv.length qc] (B s0++[fvI qb qc fv]) (fun x:Nat×σ=>.int .i64 (x.1:Nat)) (qpw st s0) (fun x=>B x.2):=by
 intro w hw ha
 refine za2 [_] _ Tryz.func117 rfl rfl hw ha ?_
 simp only[zaa]
 refine goA ?_
 refine zc0 (α:=Nat×σ) (fun y=>[(6,.slice (some ⟨qb,0,none⟩) fv.length qc),(7,.int .i64 fv.length),(8,.int .i64 y.1)]) (fun y=>y.1≤fv.length∧I y.1 y.2∧∀x,qpw (st.drop y.1) y.2 x→qpw st s0 x) (fun y=>B y.2++[fvI qb qc fv]) (fun y=>fv.length - y.1) (0,s0) ⟨rfl,rfl,rfl,trivial⟩ ⟨bA _,h0,fun _ h=>h⟩ (fun w h=>h) fun⟨k,s⟩ ⟨hk,hIk,hR⟩=>?_
 simp only at hk hIk hR⊢
 by_cases hkn:k<fv.length
 ·have hf:fv[k]? =some fv[k]:=aB hkn
  have ht:st[k]? =some (st[k]'oQ):=aB oQ
  have hcell:∀{m:List Eng.Item} {w2:World} {F2:Nat→Prop} (w':World),Hp w2 F2 m w'→fvI qb qc fv∈m→w'.cell? ⟨qb,k,none⟩=some (fvV fv[k]):=fun w' hw' hm=>zby (hw'.item _ hm).1 k _ (by simp[hkn])
  have hdr:st.drop k=st[k]'oQ::st.drop (k+1):=(dU ..).symm
  rw[hdr]at hR
  generalize st[k]'oQ=t at ht hR
  generalize fv[k]=f at hf hcell
  obtain⟨hb,hc⟩:=hstep k f t s hf ht hIk
  have hI2:=hI k t s
  obtain⟨f,fs,cs⟩:=f
  simp only at hb hc
  have hV:fvV (f,fs,cs)= .func (.func f) fs.toArray cs.toArray:=rfl
  rw[hV]at hcell
  refine goA ?_
  refine l_w rfl (za0 rfl rfl (fun w' hw'=>by rw[aJ];exact hcell w' hw' sQ)) ?_
  refine goA ?_
  refine zeh rfl (zx1 (pre:=B s) (fs:=fs) (cs:=cs) (vs:=[]) rfl hb rfl rfl rfl (hB s) (fun w1 hw1 hh1 ha1=>hc w1 hh1 ha1)) fun⟨s',hs'⟩=>?_
  dsimp only
  refine goA ?_
  by_cases he:t.1 s=0
  ·have hne:((t.1 s:Int) != 0)=false:=by simp[he]
   rw[hne]
   refine goA ?_
   exact zaw (k+1,s') ⟨rfl,rfl,rfl,trivial⟩ ⟨hkn,hI2 s' ht hIk hs' he,fun x hx=>hR x ⟨s',hs',by rw[if_pos he];exact hx⟩⟩ (fun w hw=>hw) (by show fv.length - (k+1)<fv.length - k;omega)
  ·have hne:((t.1 s:Int) != 0)=true:=by simp[he]
   rw[hne]
   refine goA ?_
   exact zbd (t.1 s,s') rfl rfl rfl (hR _ ⟨s',hs',by rw[if_neg he]⟩) (fH _ _) (hB s')
 ·obtain rfl:k=fv.length:=oQ
  have hd0:st.drop fv.length=[]:=eG oQ
  rw[hd0]at hR
  refine goA ?_
  exact zbd (0,s) rfl rfl rfl (hR _ rfl) (fH _ _) (hB s)
end Go.Proofs.YthafakdplhdfjaaGreatDoor
