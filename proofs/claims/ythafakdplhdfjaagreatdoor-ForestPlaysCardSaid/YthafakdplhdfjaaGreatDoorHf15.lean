/- Parts: tree; forest; What stays as it is while nobody writes it; What cards share; law 10; A region that draws; law 11. No condition. -/
import Derived.Test.YthafakdplhdfjaaGreatDoorHf14
import Derived.Test.YthafakdplhdfjaaGreatDoorHf05
import Derived.Test.YthafakdplhdfjaaGreatDoorHf02
import Derived.Test.YthafakdplhdfjaaGreatDoorCards
import Derived.Test.YthafakdplhdfjaaGreatDoorTie
import Derived.WalkKit
import Derived.ProofKit
import Derived.OpenShut
import Derived.Below
import Derived.Carry
import Derived.SliceStrings
import Derived.ChangeMaps5
import Derived.Deep.DeepHandedRow
import Derived.Lay
import Derived.LaidMore
import Derived.LaidSub
import Derived.Lib.LaidU8
set_option maxRecDepth 100000
set_option maxHeartbeats 40000000
namespace Go.Eng
open Go.RowKit
section
variable{P:Program}{w0:World}{F:Nat→Prop}{m:List Item}{l:zav}{H:World→Prop}
variable{n:Nat}{fn:Func}
theorem qxg{R:Ending→World→Prop}{a1 a2 a3 a4:Tmp}{b1 b2 b3 b4:TypeId}{v u t s:Value}(hf:fn.results= #[.cell a1 b1,.cell a2 b2,.cell a3 b3,.cell a4 b4])(h1:zhu P l H (.cell a1 b1) v)(h2:zhu P l H (.cell a2 b2) u)(h3:zhu P l H (.cell a3 b3) t)(h4:zhu P l H (.cell a4 b4) s)(h:∀w,H w→R (.returned (.tuple #[v,u,t,s])) w):HX (bodyPost P fn R) .ret ⟨n,[],none⟩ l H:=by
 unfold HX
 intro a w st hw
 obtain⟨x1,y1,e1⟩:=zia h1 st hw
 obtain⟨x2,y2,e2⟩:=zia h2 st hw
 obtain⟨x3,y3,e3⟩:=zia h3 st hw
 obtain⟨x4,y4,e4⟩:=zia h4 st hw
 refine bodyPost_ret (v:=.tuple #[v,u,t,s]) ?_ st.defers (h w hw)
 simp[results,hf,asAddr,y1,y2,y3,y4,e1,e2,e3,e4]
theorem qw6{a1 a2 a3 a4:Tmp}{b1 b2 b3 b4:TypeId}{α:Type}{val:α→Value}{φ:α→Prop}{its:α→List Item}{u t v s:Value}(x:α)(hf:fn.results= #[.cell a1 b1,.cell a2 b2,.cell a3 b3,.cell a4 b4])(h1:zhu P l (Hp w0 F m) (.cell a1 b1) u)(h2:zhu P l (Hp w0 F m) (.cell a2 b2) t)(h3:zhu P l (Hp w0 F m) (.cell a3 b3) v)(h4:zhu P l (Hp w0 F m) (.cell a4 b4) s)(e: .tuple #[u,t,v,s]=val x)(hφ:φ x)(hs:(its x).Sublist m)(hst:∀it∈its x,it.Stable none'):HX (bodyPost P fn (zjn w0 F val φ its)) .ret ⟨n,[],none⟩ l (Hp w0 F m):=
 qxg hf h1 h2 h3 h4 fun w hw=>⟨x,by rw[e],hφ,hw.its hs hst⟩
end
end Go.Eng
namespace Go.Proofs.YthafakdplhdfjaaGreatDoor
open Go.RowKit Go.Eng Go.Eng.Bm Go.Eng.Tr
def qnd(s:Sh)(N:Nat)(g:Sg)(f:K)(root:Int)(xs:E):Prop:=(root=0∧xs=[])∨∃at_:Nat,root=(at_:Int)∧at_≠0∧qp4 s N g f 16 at_ xs
def frP(key:K)(also:Bool)(y:K×K):Bool:=decide (y.1≠key)||also
def frV(r:Option (K×K)):Value:=.tuple #[kV ((r.map (·.1)).getD []),kV ((r.map (·.2)).getD []),.bool r.isSome,.int .i64 0]
def frB(b6 b7 b8 b9 b4 b5:Nat)(key:K)(also:Bool)(r:Option (K×K)):List Eng.Item:=[pt b6 (.cells #[kV ((r.map (·.1)).getD [])] 9 (0,0)),pt b7 (.cells #[kV ((r.map (·.2)).getD [])] 9 (0,0)),pt b8 (.cells #[.bool r.isSome] 4 (0,0)),pt b9 (.cells #[.int .i64 0] 47 (0,0)),pt b4 (.cells #[kV key] 9 (0,0)),pt b5 (.cells #[.bool also] 4 (0,0))]
theorem qd9{α:Type}(A B C:List α):(A++(B++C)).Perm (B++((A++C)++[])):=by
 rw[bC,←aG,←aG]
 exact cW.append_right _
variable{c:Tc}{g:Sg}{s:Pg}{xs:E}
theorem from_ok'(h:Tok c g s)(root:Int)(key:K)(also:Bool)(hk:key.length≤1000000)(hl:qnd c.sh c.N g key root xs):
  Cv Tryz.prog 69 #[.pointer (some ⟨c.t,c.o,none⟩),kV key,.bool also] [tmI c root s] (fun _:Pg=>frV (xs.find? (frP key also))) (fun s'=>Tok c g s') (fun s'=>[tmI c root s']):=by
 intro w hw
 refine qfr [_,_,_] _ Tryz.func69 rfl rfl hw (.cons (fun _ h=>nomatch h) .nil) ?_
 simp only[zaa,Nat.reduceAdd]
 refine goA ?_
 refine zc9 rfl rfl rfl fun b4 hb4=>?_
 refine zc9 rfl rfl rfl fun b5 hb5=>?_
 refine zdg rfl rfl rfl fun b6 hb6=>?_
 refine zdg rfl rfl rfl fun b7 hb7=>?_
 refine zdg rfl rfl rfl fun b8 hb8=>?_
 refine zdg rfl rfl rfl fun b9 hb9=>?_
 refine goA ?_
 refine zu2 (xs:=[.tmp 9]) rfl rfl ?_
 refine goA ?_
 refine lPu rfl (fun w1 hw1=>zo3 h root w1 (zbq.of (hw1.item (tmI c root s) mm) (zad _))) ?_
 refine goA ?_
 refine l_w rfl (zfg rfl mm) ?_
 refine goA ?_
 rcases hl with ⟨rfl,rfl⟩ |⟨at_,rfl,h0,hA⟩
 ·refine goA ?_
  refine za1 rfl (zah (zfq _ _ _ _ _) (zai rfl rfl rfl rfl rfl rfl sQ)) fun _=>?_
  refine za1 rfl (zah (zfq _ _ _ _ _) (zai rfl rfl rfl rfl rfl rfl sQ)) fun _=>?_
  refine za1 rfl (zah (zfq _ _ _ _ _) (zai rfl rfl rfl rfl rfl rfl sQ)) fun _=>?_
  refine za1 rfl (zah (zfq _ _ _ _ _) (zai rfl rfl rfl rfl rfl rfl sQ)) fun _=>?_
  refine goA ?_
  refine qa7 kQ (fun w hw=>zhn _ w) (zri ?_)
  exact qw6 s rfl ⟨_,rfl,zb5 rfl mm⟩ ⟨_,rfl,zb5 rfl mm⟩ ⟨_,rfl,zb5 rfl mm⟩ ⟨_,rfl,zb5 rfl mm⟩ rfl h (.cons _ (.cons _ (.cons _ (.cons _ (.cons _ (.cons _ (.refl _))))))) (zag _ _ _)
 ·refine goA ?_
  refine zcx [3,2,1,0,5,4,6] rfl rfl ?_
  refine zap [0,1,2,3,4,5,6] 6 rfl rfl kQ ?_
  refine goE ?_
  refine goV rfl rfl (zfg rfl mm) ?_
  refine goE ?_
  refine zet ⟨kQ,kQ⟩ rfl rfl (qhd (xs:=[.tmp 19,.tmp 23,.const (.int .i64 16),.tmp 24]) rfl kQ rfl (fun w1 hw1=>zr9 c at_ 16 key w1)) fun⟨x,_⟩=>?_
  dsimp only
  refine goA ?_
  refine ztn (m':=frB b6 b7 b8 b9 b4 b5 key also none++((qjj x c at_ 16 key++[tmI c at_ s])++[])) (qd9 (qjj x c at_ 16 key) (frB b6 b7 b8 b9 b4 b5 key also none) [tmI c at_ s]) ?_
  refine qcw (frB b6 b7 b8 b9 b4 b5 key also) (fun k r=>r=none∧∀y∈k,frP key also y=false) (fun e r=>e= .ret∧∃y,r=some y∧xs.find? (frP key also)=some y) none rfl rfl kQ (qjk c at_ g key 16 at_ xs s x oQ h hA) (fun _=>rfl) dQ (fun r=>by simp[frB,zab]) (fun it hm=>by
   rcases aR.1 hm with hm|hm
   ·exact zk3 _ _ _ _ _ it hm
   ·exact zag _ _ _ it hm) ⟨rfl,fun _ h=>nomatch h⟩ ?_ ?_ ?_
  ·rintro ly rc k y r W hx ⟨rfl,hk1⟩
   simp only[zn8,gG,iD,frB]
   refine goA ?_
   refine qly ?_
   refine goA ?_
   refine zd2 28 _ (.string (kB y.1)) rfl rfl ?_
   refine zd2 29 _ (.string (kB key)) rfl rfl ?_
   refine goA ?_
   rw[show seq (kB y.1) (kB key)=decide (y.1=key)from qe8 y.1 key]
   cases hb:frP key also y with
   |false=>
    obtain⟨he,rfl⟩:y.1=key∧also=false:=by simpa[frP]using hb
    rw[decide_eq_true he]
    refine goA ?_
    exact ztw .normal none rfl none ⟨rfl,fun z hz=>by
     rcases aR.1 hz with hz|hz
     ·exact hk1 z hz
     ·rw[aN.1 hz];exact hb⟩ (.refl _) (by simp[frB,zab])
   |true=>
    have hfind:xs.find? (frP key also)=some y:=by
     obtain⟨r,hr⟩:=hx
     rw[←hr,aG,iG,eF.2 (fun z hz=>by rw[hk1 z hz];exact bK),Option.none_or]
     show(y::r).find? _=_
     rw[iC hb]
    by_cases he:y.1=key
    ·obtain rfl:also=true:=by simpa[frP,he]using hb
     rw[decide_eq_true he]
     refine goA ?_
     refine za1 rfl (zah (zcg _ _ _) (zai rfl rfl rfl rfl rfl rfl sQ)) fun _=>?_
     refine za1 rfl (zah (zdf _ _ _ _) (zai rfl rfl rfl rfl rfl rfl sQ)) fun _=>?_
     refine za1 rfl (zah (zfq _ _ _ _ _) (zai rfl rfl rfl rfl rfl rfl sQ)) fun _=>?_
     refine za1 rfl (zah (zji _ _ _ _ _ _) (zai rfl rfl rfl rfl rfl rfl sQ)) fun _=>?_
     refine goA ?_
     refine zgf [4,3,2,1,0,5,6] rfl rfl ?_
     exact ztw .ret (some .ret) rfl (some y) ⟨rfl,y,rfl,hfind⟩ (.refl _) (by simp[frB,zab])
    ·rw[decide_eq_false he]
     refine goA ?_
     refine za1 rfl (zah (zcg _ _ _) (zai rfl rfl rfl rfl rfl rfl sQ)) fun _=>?_
     refine za1 rfl (zah (zdf _ _ _ _) (zai rfl rfl rfl rfl rfl rfl sQ)) fun _=>?_
     refine za1 rfl (zah (zfq _ _ _ _ _) (zai rfl rfl rfl rfl rfl rfl sQ)) fun _=>?_
     refine za1 rfl (zah (zji _ _ _ _ _ _) (zai rfl rfl rfl rfl rfl rfl sQ)) fun _=>?_
     refine goA ?_
     refine zgf [4,3,2,1,0,5,6] rfl rfl ?_
     exact ztw .ret (some .ret) rfl (some y) ⟨rfl,y,rfl,hfind⟩ (.refl _) (by simp[frB,zab])
  ·rintro D k r z hz rfl ⟨rfl,hk1⟩
   simp only[frB,aF,aJ]
   refine goA ?_
   refine za1 rfl (zah (zcg _ _ _) (zai rfl rfl rfl rfl rfl rfl sQ)) fun _=>?_
   refine za1 rfl (zah (zdf _ _ _ _) (zai rfl rfl rfl rfl rfl rfl sQ)) fun _=>?_
   refine za1 rfl (zah (zfq _ _ _ _ _) (zai rfl rfl rfl rfl rfl rfl sQ)) fun _=>?_
   refine za1 rfl (zah (zji _ _ _ _ _ _) (zai rfl rfl rfl rfl rfl rfl sQ)) fun _=>?_
   refine goA ?_
   refine zgf [4,0,1,2,3,5,6,7] rfl rfl ?_
   refine qja (qa7 kQ (fun w hw=>zhn _ w) (zri ?_))
   have hn:k.find? (frP key also)=none:=eF.2 fun y hy=>by rw[hk1 y hy];exact bK
   rw[hn]
   exact qw6 z rfl ⟨_,rfl,zb5 rfl mm⟩ ⟨_,rfl,zb5 rfl mm⟩ ⟨_,rfl,zb5 rfl mm⟩ ⟨_,rfl,zb5 rfl mm⟩ rfl hz (.cons _ (.cons _ (.cons _ (.cons _ (.cons _ (.cons _ (.refl _))))))) (zag _ _ _)
  ·rintro D e r z hz ⟨rfl,y,rfl,hf⟩
   simp only[frB,aF,aJ]
   refine goA ?_
   refine qja (qa7 kQ (fun w hw=>zhn _ w) (zri ?_))
   rw[hf]
   exact qw6 z rfl ⟨_,rfl,zb5 rfl mm⟩ ⟨_,rfl,zb5 rfl mm⟩ ⟨_,rfl,zb5 rfl mm⟩ ⟨_,rfl,zb5 rfl mm⟩ rfl hz (.cons _ (.cons _ (.cons _ (.cons _ (.cons _ (.cons _ (.refl _))))))) (zag _ _ _)
theorem qnu(h:Tok c g s)(root:Int)(hl:qnd c.sh c.N g [] root xs){σ:Type}(D:σ→List Eng.Item)(I:E→σ→Prop)(J:σ→Prop)(s0:σ){fd:FuncId}{cs:List Value}(hb:za7 Tryz.prog fd=true)(hst:∀st,∀it∈D st,it.Stable none')(h0:I [] s0)
  (hcall:∀k y st,(k++[y])<+:xs→I k st→∀w,(∀it∈D st,zbq it w)→(D st).Pairwise Eng.Item.Apart→Ct Tryz.prog fd (kV y.1::kV y.2::cs).toArray w (za4 (D st)) (fun x:Bool×σ=>.bool x.1) (fun x=>(x.1=true∧I (k++[y]) x.2)∨(x.1=false∧J x.2)) (fun x=>D x.2)):
  Cw Tryz.prog 77 #[.pointer (some ⟨c.t,c.o,none⟩),.func (.func fd) #[] cs.toArray] (tmI c root s::D s0) (fun _:Pg×σ=>.int .i64 0) (fun x=>Tok c g x.1∧(I xs x.2∨J x.2)) (fun x=>tmI c root x.1::D x.2):=by
 intro w hw ha
 have hst2:∀s' st,∀it∈tmI c root s'::D st,it.Stable none':=by
  intro s' st it hm
  rcases hm with _|⟨_,hm⟩
  ·exact zad _
  ·exact hst st it hm
 refine qfr [_,_] _ Tryz.func77 rfl rfl hw ha ?_
 simp only[zaa,Nat.reduceAdd]
 refine goA ?_
 refine zc9 rfl rfl rfl fun b3 hb3=>?_
 refine zdg rfl rfl rfl fun b4 hb4=>?_
 refine goA ?_
 refine zu2 (xs:=[.tmp 4]) rfl rfl ?_
 refine goA ?_
 refine l_w rfl (zwf (v':=.bool true) (ov fun _ _ _ _ _=>rfl) rfl) ?_
 refine goA ?_
 refine lPu rfl (fun w1 hw1=>zin _ w1) ?_
 refine goA ?_
 refine lPu rfl (fun w1 hw1=>zo3 h root w1 (zbq.of (hw1.item (tmI c root s) mm) (zad _))) ?_
 refine goA ?_
 refine l_w rfl (zfg rfl mm) ?_
 refine goA ?_
 rcases hl with ⟨rfl,rfl⟩ |⟨at_,rfl,hn0,hA⟩
 ·refine goA ?_
  refine za1 rfl (zai rfl rfl rfl rfl rfl rfl sQ) fun _=>?_
  refine goA ?_
  refine qa7 kQ (fun w hw=>zhn _ w) (zri ?_)
  exact zbd (s,s0) rfl ⟨_,rfl,zb5 rfl mm⟩ rfl ⟨h,.inl h0⟩ (.cons _ (.cons _ (.refl _))) (hst2 _ _)
 ·refine goA ?_
  refine l_w rfl (zfg rfl mm) ?_
  refine goA ?_
  refine zdy rfl rfl kQ rfl (fun w1 hw1=>zr9 c at_ 16 [] w1) fun x hx=>?_
  refine goA ?_
  refine ztn (m':=([pt b3 (.cells #[.func (.func fd) #[] cs.toArray] 114 (0,0)),pt b4 (.cells #[.int .i64 0] 47 (0,0))]++D s0)++((qjj x c at_ 16 []++[tmI c at_ s])++[])) ?_ ?_
  ·exact(cU _ ((List.Perm.swap _ _ _).trans (.cons _ (.cons _ (fK _ _).symm)))).trans (qd9 (qjj x c at_ 16 []) (pt b3 (.cells #[.func (.func fd) #[] cs.toArray] 114 (0,0))::pt b4 (.cells #[.int .i64 0] 47 (0,0))::D s0) [tmI c at_ s])
  refine qcw (fun st=>[pt b3 (.cells #[.func (.func fd) #[] cs.toArray] 114 (0,0)),pt b4 (.cells #[.int .i64 0] 47 (0,0))]++D st) I (fun e st=>e= .exit 0∧J st) s0 rfl rfl kQ (qjk c at_ g [] 16 at_ xs s x oQ h hA) (fun _=>rfl) dQ (fun st it hm=>by
   rcases aR.1 hm with hm|hm
   ·have:∀it∈[pt b3 (.cells #[.func (.func fd) #[] cs.toArray] 114 (0,0)),pt b4 (.cells #[.int .i64 0] 47 (0,0))],it.Stable none':=by simp[zab]
    exact this it hm
   ·exact hst st it hm) (fun it hm=>by
   rcases aR.1 hm with hm|hm
   ·exact zk3 _ _ _ _ _ it hm
   ·exact zag _ _ _ it hm) h0 ?_ ?_ ?_
  ·rintro ly rc k y st W hx hk1
   simp only[zn8,gG,iD,aF,aJ]
   refine goA ?_
   refine qly ?_
   refine goA ?_
   refine zgb (cW (l₁:=[_,_,_]) (l₂:=D st)) ?_
   refine zeh rfl (zx1 (pre:=D st) (fs:=[]) (cs:=cs) (xs:=[.tmp 26,.tmp 27]) rfl hb rfl rfl rfl (hst st) (fun w1 hw1 hh1 ha1=>hcall k y st hx hk1 w1 hh1 ha1)) fun⟨⟨b,st1⟩,hR⟩=>?_
   simp only at hR⊢
   refine zgb (cW (l₁:=D st1) (l₂:=[_,_,_])) ?_
   have hstB:∀it∈[pt b3 (.cells #[.func (.func fd) #[] cs.toArray] 114 (0,0)),pt b4 (.cells #[.int .i64 0] 47 (0,0))]++D st1,it.Stable none':=fun it hm=>by
    rcases aR.1 hm with hm|hm
    ·have:∀it∈[pt b3 (.cells #[.func (.func fd) #[] cs.toArray] 114 (0,0)),pt b4 (.cells #[.int .i64 0] 47 (0,0))],it.Stable none':=by simp[zab]
     exact this it hm
    ·exact hst st1 it hm
   rcases hR with ⟨rfl,h8⟩ |⟨rfl,h8⟩
   ·refine goA ?_
    exact ztw .normal none rfl st1 h8 (.refl _) hstB
   ·refine goA ?_
    exact ztw (.exit 0) (some (.exit 0)) rfl st1 ⟨rfl,h8⟩ (.refl _) hstB
  ·rintro D' k st z hz rfl hk1
   simp only[aF,aJ,bC]
   refine zbr (fun w' hw'=>hw'.perm (.cons _ (.cons _ (.cons _ (fK _ _))))) ?_
   refine goA ?_
   refine za1 rfl (zah (zdf _ _ _ _) (zai rfl rfl rfl rfl rfl rfl sQ)) fun _=>?_
   refine goA ?_
   refine zbr (fun w' hw'=>hw'.perm (.swap _ _ _)) ?_
   refine qja (qa7 kQ (fun w hw=>zhn _ w) (zri ?_))
   exact zbd (z,st) rfl ⟨_,rfl,zb5 rfl mm⟩ rfl ⟨hz,.inl hk1⟩ (.cons _ (.cons _ (.refl _))) (hst2 _ _)
  ·rintro D' e st z hz ⟨rfl,hJ⟩
   simp only[aF,aJ,bC]
   refine ztn (.cons _ (.cons _ (.cons _ (fK _ _)))) ?_
   refine goA ?_
   refine za1 rfl (zah (zdf _ _ _ _) (zai rfl rfl rfl rfl rfl rfl sQ)) fun _=>?_
   refine goA ?_
   refine zbr (fun w' hw'=>hw'.perm (.swap _ _ _)) ?_
   refine qja (qa7 kQ (fun w hw=>zhn _ w) (zri ?_))
   exact zbd (z,st) rfl ⟨_,rfl,zb5 rfl mm⟩ rfl ⟨hz,.inr hJ⟩ (.cons _ (.cons _ (.refl _))) (hst2 _ _)
structure Fc where
 d:Dk
 b:Nat
 pb:Nat
 N:Nat
 n:Nat
 secs:Nat
 note:Bys
 V:List Bys
 B:Nat
def frT(pb:Nat):Nat→List Nat→List Value
 |_,[]=>[]
 |i,a::R=>.pointer (some ⟨pb,0,none⟩):: .int .i64 ((fSh i).kw:Int):: .int .i64 ((fSh i).vw:Int):: .int .i64 ((a:Nat):Int)::frT pb (i+1) R
theorem zhr(pb:Nat):∀(R:List Nat) (i:Nat),(frT pb i R).length=4*R.length
 | [],_=>rfl
 |a::R,i=>by
  show(frT pb (i+1) R).length+4=_
  rw[zhr pb R,aW]
  omega
theorem qme(pb:Nat):∀(R:List Nat) (i j a:Nat),R[j]? =some a→frT pb i R=frT pb i (R.take j)++([.pointer (some ⟨pb,0,none⟩),.int .i64 ((fSh (i+j)).kw:Int),.int .i64 ((fSh (i+j)).vw:Int),.int .i64 ((a:Nat):Int)]++frT pb (i+j+1) (R.drop (j+1)))
 | [],_,_,_,h=>by cases h
 |x::R,i,0,a,h=>by cases h;rfl
 |x::R,i,j+1,a,h=>by
  have ih:=qme pb R (i+1) j a h
  rw[List.take_succ_cons,iO]
  show _::_::_::_::frT pb (i+1) R=_::_::_::_::(frT pb (i+1) (R.take j)++_)
  rw[ih,show i+1+j=i+(j+1) by omega]
def frA(c:Fc)(R:List Nat)(busy:Bool)(err:Nat):List Value:=.pointer (some ⟨c.pb,0,none⟩)::(frT c.pb 0 R++[.bool busy,.int .i64 (err:Int)])
def frC(c:Fc)(R:List Nat)(busy:Bool)(err i:Nat):Tc:=⟨c.d,c.b,c.pb,fSh i,c.N,c.secs,c.note,c.V,c.B,⟨.pointer (some ⟨c.pb,0,none⟩)::frT c.pb 0 (R.take i),frT c.pb (i+1) (R.drop (i+1))++[.bool busy,.int .i64 (err:Int)],119,c.n⟩⟩
def foC(c:Fc)(R:List Nat)(busy:Bool)(err:Nat):Eng.Item:=pt c.b (.cells (frA c R busy err).toArray 119 (0,0))
variable{c:Fc}{R:List Nat}{busy:Bool}{err i:Nat}
theorem qj5{a:Nat}(h:R[i]? =some a):(frC c R busy err i).o=1+i*4:=by
 have hi:=(aC.1 h).1
 show(frT c.pb 0 (R.take i)).length+1=_
 rw[zhr,aM]
 omega
theorem qbp{a:Nat}(h:R[i]? =some a):foC c R busy err=trC (frC c R busy err i) (a:Nat):=by
 unfold foC trC frA
 rw[qme c.pb R 0 i a h,aH]
 simp only[frC,trA,aG,aF,aJ]
theorem qn3(c:Fc)(R:List Nat)(busy:Bool)(err i a:Nat):frC c (R.set i a) busy err i=frC c R busy err i:=by
 unfold frC
 rw[eP (bA _),dO (eN _)]
def foL(c:Fc)(R:List Nat)(busy:Bool)(err:Nat)(s:Pg):List Eng.Item:=[foC c R busy err,pgI s c.d,dkI c.d,tzI]
def foI(c:Fc)(R:List Nat)(busy:Bool)(err:Nat)(s:Pg):Eng.Item:=zef (foL c R busy err s)
theorem qdh(c:Fc)(R:List Nat)(busy:Bool)(err:Nat)(s:Pg):∀it∈foL c R busy err s,it.Stable none':=by
 intro it hm
 rcases hm with _|⟨_,hm⟩
 ·exact zab _ _ _
 ·exact zgv s c.d it hm
theorem zb3(c:Fc)(R:List Nat)(busy:Bool)(err:Nat)(s:Pg):∀it∈[foI c R busy err s],it.Stable none':=by
 intro it hm
 rcases hm with _|⟨_,hm⟩
 ·exact zad _
 ·cases hm
variable{w0:World}{F:Nat→Prop}{m:List Eng.Item}
theorem zk7{w:World}(h:Hp w0 F (foI c R busy err s::m) w):Hp w0 F (foL c R busy err s++m) w:=Hp.open1 h
theorem zhe{w:World}(h:Hp w0 F (foL c R busy err s++m) w):Hp w0 F (foI c R busy err s::m) w:=Hp.close1 (qdh c R busy err s) h
theorem zik{a:Nat}(h:R[i]? =some a):foI c R busy err s=tmI (frC c R busy err i) (a:Nat) s:=by
 unfold foI tmI foL tmL
 rw[qbp h]
 rfl
theorem qnx{a:Nat}(h:R[i]? =some a)(a':Nat):tmI (frC c R busy err i) (a':Nat) s=foI c (R.set i a') busy err s:=by
 have hi:=(aC.1 h).1
 rw[zik (i:=i) (a:=a') (dS hi),qn3]
theorem Tok.sw{c c':Tc}(h:Tok c g s)(e1:c'.d=c.d)(e2:c'.pb=c.pb)(e3:c'.N=c.N)(e4:c'.secs=c.secs)(e5:c'.note=c.note)(e6:c'.V=c.V)(e7:c'.B=c.B)(e8:c'.z.n=c.z.n)(hs:ShB c'.sh):Tok c' g s:=by
 obtain⟨h1,h2,h3,h4, -,h6,h7,h8,h9,h10⟩:=h
 refine⟨?_,?_,?_,?_,hs,?_,?_,?_,?_,?_⟩
 ·rw[e1,e8,e4,e5,e6,e7];exact h1
 ·rw[e2];exact h2
 ·rw[e6,e8];exact h3
 ·rw[e6,e8];exact h4
 ·rw[e3];exact h6
 ·rw[e3,e8];exact h7
 ·rw[e8];exact h8
 ·rw[e3];exact h9
 ·rw[e3,e8];exact h10
theorem qjz(h:i<8):ShB (fSh i):=⟨(zjq i h).1,(zjq i h).2.1,(zjq i h).2.2.1⟩
def Fok(c:Fc)(g:Sg)(s:Pg):Prop:=Tok (frC c [] false 0 0) g s
theorem Fok.tok(h:Fok c g s)(R:List Nat)(busy:Bool)(err:Nat)(hi:i<8):Tok (frC c R busy err i) g s:=Tok.sw h rfl rfl rfl rfl rfl rfl rfl rfl (qjz hi)
theorem Tok.fok(h:Tok (frC c R busy err i) g s):Fok c g s:=Tok.sw h rfl rfl rfl rfl rfl rfl rfl rfl (qjz (i:=0) dQ)
instance:Stab ctI:=⟨zcb _⟩
instance:Stab tzI:=⟨zgz _⟩
instance(d:Dk):Stab (dkI d):=⟨zad _⟩
instance(s:Pg)(d:Dk):Stab (pgI s d):=⟨zad _⟩
instance(c:Tc)(r:Int)(s:Pg):Stab (tmI c r s):=⟨zad _⟩
instance(c:Fc)(R:List Nat)(b:Bool)(e:Nat)(s:Pg):Stab (foI c R b e s):=⟨zad _⟩
variable{b:Bool}{e:Nat}
theorem qqs{w:World}{r:List Eng.Item}(hs:Fnd (foI c R b e s) m r)(h:Hp w0 F m w):Hp w0 F (tzI::r) w:=(zk7 (h.perm hs.perm)).sub (.cons _ (.cons _ (.cons _ (.refl _))))
variable{Q:Exit→Act→World→Prop}{N:Fm}{l:zav}
theorem qtx{r:List Eng.Item}{ex:Exit}(k:HX Q ex N l (Hp w0 F (tzI::r)))(hs:Fnd (foI c R b e s) m r:=by exact qt5):HX Q ex N l (Hp w0 F m):=zbr (fun _ h=>qqs hs h) k
theorem qs3{P:Program}{ops:Array Oper}{rest:List Oper}{r:List Eng.Item}(k:HL P ops Q N rest l (Hp w0 F (tzI::r)))(hs:Fnd (foI c R b e s) m r:=by exact qt5):HL P ops Q N rest l (Hp w0 F m):=zcy (fun _ h=>qqs hs h) k
end Go.Proofs.YthafakdplhdfjaaGreatDoor
namespace Go.Proofs.YthafakdplhdfjaaGreatDoor
open Go.ChangeShapes Go.ChangeMaps Go.WideShapes Go.ChangeAt Go.RowKit Go.Eng Go.Proofs.YthafakdplhdfjaaGreatDoor
variable{W:World}
theorem qv0{a:Addr}{v:Value}(h:W.cell? a=some v):a.spot=none:=by
 unfold World.cell? at h
 split at h
 ·split at h
  ·cases h
  ·rename_i hh
   simpa using hh
 ·cases h
section
variable{base:Nat}{sp:Nat→Bool}{held:Bool}{H:Type}{enc:TypeId×Value→H}{v:Value}{d:DataW H}{ps:List MemPlace}{r:Reach}{b0:Nat}
end
theorem qwk{a0:Option Addr}{len0 cap0:Nat}{H:Type}{enc:TypeId×Value→H}{x:DataW H×List MemPlace}{fuel:Nat}{T E:TypeId}{α:Type}(e0:α){vs:α→List Value}{k:Nat}(hk0:0<k)(sz:∀e,(vs e).length=k){Ok:α→Prop}(hT:Tryz.prog.underlying T=some (.slice E))(hE:Tryz.prog.cellsOf E=k)
  (hof:∀cs y n,DataW.trod enc Tryz.prog W 0 (fun _=>true) true n E cs=some y→∃e,cs=vs e∧Ok e)
  (hf:DataW.trod enc Tryz.prog W 0 (fun _=>true) true fuel T (Value.slice a0 len0 cap0).cells.toList=some x):∃L:List α,L.length=len0∧len0≤9223372036854775807∧Rd W a0 (zc6 vs L)∧∀e∈L,Ok e:=by
 rcases Go.Deep.open_slice hT hf with ⟨hcs,_⟩ |⟨a,len,cap,m,n,D,Pl,hcs,hb,hl,hm,hmm,hx,hel⟩
 ·simp[Value.cells]at hcs
  obtain⟨rfl,rfl,rfl⟩:=hcs
  exact⟨[],rfl,dQ,.inl rfl,fun _ h=>nomatch h⟩
 ·simp[Value.cells]at hcs
  obtain⟨rfl,rfl,rfl⟩:=hcs
  simp only[if_true]at hmm
  rw[hE]at hel
  have h1:∀i,i<len0→∃e:α,W.cells? 0 (a.add (i*k)) k=some (vs e)∧Ok e:=fun i hi=>by
   obtain⟨cs,c1,c2⟩:=hel i oQ
   obtain⟨e,rfl,he⟩:=hof _ _ _ c2
   exact⟨e,c1,he⟩
  obtain⟨f,hfe⟩:∃f:Nat→α,∀i,i<len0→W.cells? 0 (a.add (i*k)) k=some (vs (f i))∧Ok (f i):=by
   classical
   exact⟨fun i=>if h:i<len0 then Classical.choose (h1 i h)else e0,fun i hi=>by simp only[dif_pos hi];exact Classical.choose_spec (h1 i hi)⟩
  refine⟨(List.range len0).map f,by simp,by have hm':cap0≤9223372036854775807:=hm;have:=hl;omega,?_,fun e he=>by obtain⟨i,hi,rfl⟩:=aS.1 he;exact(hfe i (dL.1 hi)).2⟩
  rcases fE len0 with h0|h0
  ·subst h0;exact .inl rfl
  have hcell:∀i,i<len0→∀j v,(vs (f i))[j]? =some v→W.cell? ((a.add (i*k)).add j)=some v:=fun i hi j v hv=>by
   have hj:j<k:=by rw[←sz (f i)];exact(aC.1 hv).1
   rw[(World.cells?_some (hfe i hi).1).2.2 j hj,hv]
  have hsp:a.spot=none:=by
   obtain⟨v,hv⟩:∃v,(vs (f 0))[0]? =some v:=⟨_,aB (by rw[sz];exact hk0)⟩
   have:=hcell 0 h0 0 v hv
   simp only[lE]at this
   exact qv0 (by simpa[Addr.add]using this)
  obtain⟨ab,ao,asp⟩:=a
  simp only at hsp
  subst hsp
  refine .inr ⟨ab,ao,rfl,fun j u hu=>?_⟩
  have hj:j<len0*k:=by
   have:=(aC.1 hu).1
   rw[zdx sz]at this
   simpa using this
  have hdm:j=(j/k)*k+j%k:=by rw[kA];exact(Nat.div_add_mod j k).symm
  have hi:j/k<len0:=Nat.div_lt_of_lt_mul (by rwa[kA]at hj)
  rw[hdm,qck sz (by simpa using hi) (dY _ hk0)]at hu
  simp only[cS,List.getElem_range]at hu
  have:=hcell _ hi _ _ hu
  rw[zde,zde]at this
  rw[hdm,←eV]
  exact this
theorem qtk{n:String}{g t e:Nat}{sz:Nat}{k:IntKind}{zs:List Int}(hg:Tryz.prog.globalNamed n=some g)(hty:(Tryz.prog.globals[g]?).map (·.type)=some t)(ht:Tryz.prog.underlying t=some (.array sz e))(he:Tryz.prog.underlying e=some (.int k))(hce:Tryz.prog.cellsOf e=1)(hct:Tryz.prog.cellsOf t=sz)
  (hlt:g<Tryz.prog.globals.size) (hrow:(((begin Tryz.prog (fun _ _=>0) default).world.heap[g]?).bind Obj.row?).map (·.2)=some t) (hS:W.ShapedOpen Tryz.prog) (h:Lib.VarReads Tryz.prog W n (Lib.tabData k zs)):W.heap[g]? =some (.cells (zs.map fun z=>Value.int k z).toArray t (0,0)):=by
 obtain⟨g',t',cs,fuel,p,hg',hty',hv,hd⟩:=h
 obtain rfl:=cR (hg'.symm.trans hg)
 obtain rfl:=cR (hty'.symm.trans hty)
 have hcs:=Lib.cells_of_tab ht he hce hct hd
 obtain⟨⟨zero,t2⟩,hz,rfl⟩:=Option.map_eq_some_iff.1 hrow
 obtain⟨cs2,h2, -, -⟩:=hS.1 g' zero t2 hlt hz
 have hv2:W.var? Tryz.prog n=some cs2:=by
  unfold World.var?
  rw[hg']
  show(match W.heap[g']? with|some (.cells cs _ _)=>some cs|_=>none)=_
  rw[h2]
 obtain rfl:=cR (hv.symm.trans hv2)
 rw[h2]
 show some (Obj.cells cs t2 (0,0))=_
 rw[←hcs]
theorem qs2(hS:W.ShapedOpen Tryz.prog)(h:laidMetH Tryz.prog [("armarium/crc.halves",Rows.laid_armarium_crc_halves),("math/bits.deBruijn64tab",Rows.laid_math_bits_deBruijn64tab)] W):zo8 W∧qbc W:=by
 have h1:laidMet Tryz.prog [("armarium/crc.halves",Rows.laid_armarium_crc_halves),("math/bits.deBruijn64tab",Rows.laid_math_bits_deBruijn64tab)] W:=(laidMetH_iff.1 h).1
 have r1:=Lib.laidMet.reads h1 (n:= "armarium/crc.halves") (gF ..)
 have r2:=Lib.laidMet.reads h1 (n:= "math/bits.deBruijn64tab") (jP _ (gF ..))
 have e1:(Rows.laid_armarium_crc_halves:DataW Unit)=Lib.tabData .u32 (halves.map fun b=>(b.toNat:Int)):=by kernel_rfl
 have e2:(Rows.laid_math_bits_deBruijn64tab:DataW Unit)=Lib.tabData .u8 (Bm.tab64.map fun n:Nat=>(n:Int)):=by kernel_rfl
 rw[e1]at r1
 rw[e2]at r2
 have t1:=qtk (g:=1) (t:=316) kQ kQ Tryz.underlying316 Tryz.underlying46 kQ kQ (of_decide_eq_true kQ) kQ hS r1
 have t2:=qtk (g:=0) (t:=295) kQ kQ Tryz.underlying295 Tryz.underlying5 kQ kQ (of_decide_eq_true kQ) kQ hS r2
 rw[dJ]at t1 t2
 exact⟨⟨t1⟩,⟨t2⟩⟩
theorem qdc(h:zo8 W∧qbc W):∀it∈[ctI,tzI],zbq it W:=by
 intro it hm
 rcases hm with _|⟨_,_|⟨_,hm⟩⟩
 ·exact⟨h.1,zcb _,fun k hk=>by have hk:k=_:=hk;rw[hk];exact(bR.1 h.1.obj).1⟩
 ·exact⟨h.2,zgz _,fun k hk=>by have hk:k=_:=hk;rw[hk];exact(bR.1 h.2.obj).1⟩
 ·cases hm
theorem zzl:[ctI,tzI].Pairwise Eng.Item.Apart:=by
 refine bP.2 ⟨fun y hy k h1 h2=>?_,bP.2 ⟨fun _ h=>(nomatch h),.nil⟩⟩
 rcases hy with _|⟨_,hy⟩
 ·have h1:k=1:=h1
  have h2:k=0:=h2
  rw[h1]at h2
  exact absurd h2 dQ
 ·cases hy
theorem qut(hT:zo8 W∧qbc W){b o1 o2:Nat}{v1 v2:Value}(c1:W.cell? ⟨b,o1,none⟩=some v1)(c2:W.cell? ⟨b,o2,none⟩=some v2)(h1:∀n,v1≠ .int .u32 n)(h2:∀n,v2≠ .int .u8 n):¬za4 [ctI,tzI] b:=by
 rintro⟨it,hm,hf⟩
 rcases hm with _|⟨_,_|⟨_,hm⟩⟩
 ·have hf:b=_:=hf
  subst hf
  unfold World.cell? at c1
  simp only[hT.1.obj]at c1
  simp at c1
  obtain⟨n, -,e⟩:=c1
  exact h1 _ e.symm
 ·have hf:b=_:=hf
  subst hf
  unfold World.cell? at c2
  simp only[hT.2.obj]at c2
  simp at c2
  obtain⟨n, -,e⟩:=c2
  exact h2 _ e.symm
 ·cases hm
theorem qt3:ownKnob Tryz.prog.godebug=none:=by kernel_rfl
theorem qt2:laidOutB Tryz.prog=true:=by kernel_rfl
end Go.Proofs.YthafakdplhdfjaaGreatDoor
namespace Go.Proofs.YthafakdplhdfjaaGreatDoor
open Go.ChangeShapes Go.ChangeMaps Go.WideShapes Go.ChangeAt Go.RowKit Go.Eng Go.Proofs.YthafakdplhdfjaaGreatDoor
section
variable{W:World}{base:Nat}{sp:Nat→Bool}{held:Bool}{H:Type}{enc:TypeId×Value→H}{v:Value}{d:DataW H}{ps:List MemPlace}{r:Reach}{b0:Nat}
theorem qxb(hv:Value.okWide Tryz.prog W r b0 3 v)(h:DataW.Trod enc Tryz.prog W base sp held 3 v d ps):∃n:Int,v= .int .i64 n∧ -9223372036854775808≤n∧n<9223372036854775808:=by
 obtain⟨n,rfl, -, -,w⟩:=open_int Tryz.underlying3 hv h
 have w: -9223372036854775808≤n∧n≤9223372036854775807:=by simpa[Lit.wf,IntKind.min,IntKind.max,IntKind.bits,IntKind.signed]using w
 exact⟨n,rfl,w.1,oQ⟩
theorem qxd(hv:Value.okWide Tryz.prog W r b0 77 v)(h:DataW.Trod enc Tryz.prog W base sp held 77 v d ps):∃n:Nat,v= .int .u16 (n:Int)∧n<65536:=by
 obtain⟨n,rfl, -, -,w⟩:=open_int Tryz.underlying77 hv h
 have w:0≤n∧n≤65535:=by simpa[Lit.wf,IntKind.min,IntKind.max,IntKind.bits,IntKind.signed]using w
 exact⟨n.toNat,by rw[Int.toNat_of_nonneg w.1],oQ⟩
theorem qww(hv:Value.okWide Tryz.prog W r b0 4 v)(h:DataW.Trod enc Tryz.prog W base sp held 4 v d ps):∃c:Bool,v= .bool c:=by
 obtain⟨c,rfl, -⟩:=open_bool Tryz.underlying4 hv h
 exact⟨c,rfl⟩
end
end Go.Proofs.YthafakdplhdfjaaGreatDoor
namespace Go.Eng
open Go.RowKit
theorem qw8{P:Program}{w0:World}{m:List Item}{l:zav}{n:Nat}{fn:Func}{r q p:ResultVar}{u t v z:Value}(hf:fn.results= #[r,q,p])(h1:zhu P l (Hp w0 none' m) r u)(h2:zhu P l (Hp w0 none' m) q t)(h3:zhu P l (Hp w0 none' m) p v)(e:z= .tuple #[u,t,v]):HX (bodyPost P fn (zyb w0 z)) .ret ⟨n,[],none⟩ l (Hp w0 none' m):=
 qr9 hf h1 h2 h3 fun _ hw=>⟨by rw[e],hw.fr⟩
end Go.Eng
namespace Go.Proofs.YthafakdplhdfjaaGreatDoor
open Go.RowKit Go.Eng Go.Eng.Bm Go.Eng.Tr
abbrev Om:=Option (Nat×Nat)×Option (Nat×Nat)
def dmC(o:Om)(e:E):Array Value:= #[slV o.1 e.length,slV o.2 e.length]
def dmV(o:Om)(e:E):Value:=.agg (dmC o e)
def dmI(o:Om)(e:E):List Eng.Item:=[own 9 1 o.1 e.length (e.map fun y=>kV y.1),own 9 1 o.2 e.length (e.map fun y=>kV y.2)]
theorem zse(o:Om)(e:E):∀it∈dmI o e,it.Stable none':=by simp[dmI,zac]
def DmR(w:World)(o:Om)(e:E):Prop:=∀it∈dmI o e,zbq it w
variable{w:World}{o:Om}{e:E}
theorem DmR.k(h:DmR w o e):(own 9 1 o.1 e.length (e.map fun y=>kV y.1)).prop w:=(h _ (.head _)).1
theorem DmR.v(h:DmR w o e):(own 9 1 o.2 e.length (e.map fun y=>kV y.2)).prop w:=(h _ (.tail _ (.head _))).1
theorem DmR.keep{w w0:World}{m:List Eng.Item}{o:Om}{e:E}(h:DmR w0 o e)(hw:Hp w0 none' m w):DmR w o e:=fun it hm=>(h it hm).keep hw
variable{m:List Eng.Item}{i:Nat}{y:K×K}
theorem DmR.kat{w0:World}{b c:Nat}{o2:Option (Nat×Nat)}(h:DmR w0 (some (b,c),o2) e)(hw:Hp w0 none' m w)(hy:e[i]? =some y):w.cell? ⟨b,i,none⟩=some (kV y.1):=
 zby (h.keep hw).k _ _ (by rw[aO,hy];rfl)
theorem DmR.vat{w0:World}{b c:Nat}{o1:Option (Nat×Nat)}(h:DmR w0 (o1,some (b,c)) e)(hw:Hp w0 none' m w)(hy:e[i]? =some y):w.cell? ⟨b,i,none⟩=some (kV y.2):=
 zby (h.keep hw).v _ _ (by rw[aO,hy];rfl)
theorem qux{k:K}(h:e[i]? =some y)(hi:i≤lb (keys e) k):(kl y.1 k→i+1≤lb (keys e) k)∧(¬kl y.1 k→i=lb (keys e) k):=by
 induction e generalizing i with
 |nil=>simp at h
 |cons p r ih=>
  by_cases hp:kl p.1 k
  ·have hl:=zst (r:=r) hp
   cases i with
   |zero=>
    obtain rfl:p=y:=by simpa using h
    exact⟨fun _=>oQ,fun hn=>absurd hp hn⟩
   |succ i=>
    have:=ih (i:=i) (by simpa using h) oQ
    exact⟨fun h1=>by have:=this.1 h1;omega,fun h1=>by have:=this.2 h1;omega⟩
  ·have hl:=zss (r:=r) hp
   obtain rfl:i=0:=oQ
   obtain rfl:p=y:=by simpa using h
   exact⟨fun h1=>absurd h1 hp,fun _=>oQ⟩
theorem zlb(o:Om)(e:E)(key:K)(hb:e.length≤1000000)(w:World)(hr:DmR w o e):Pu Tryz.prog 70 #[dmV o e,kV key] w (.int .i64 (lb (keys e) key:Nat)):=by
 have hl:lb (keys e) key≤e.length:=by have:=qkn (keys e) key;rwa[keys,aD]at this
 refine zbn [_,_] Tryz.func70 rfl rfl ?_
 obtain⟨o1,o2⟩:=o
 unfold dmV dmC
 rw[(zas hr.k).1,(zas hr.v).1]
 simp only[zaa,Nat.reduceAdd]
 refine goA ?_
 refine zbp rfl rfl fun b2 hb2=>?_
 refine goA ?_
 refine zc0 (α:=Nat) (fun i=>[(1,.string (kB key)),(2,.pointer (some ⟨b2,0,none⟩)),(5,.int .i64 (i:Nat))]) (fun i=>i≤lb (keys e) key) (fun _=>[pt b2 (.cells #[.slice (slA o1) e.length (slC o1),.slice (slA o2) e.length (slC o2)] 37 (0,0))]) (fun i=>e.length - i) 0 ⟨rfl,rfl,rfl,trivial⟩ (aZ _) (fun w' hw'=>hw') fun i hi=>?_
 by_cases hlt:i<e.length
 ·obtain⟨y,hy⟩:∃y,e[i]? =some y:=⟨_,aB hlt⟩
  obtain⟨b,c,rfl⟩:=zdj hr.k oQ
  simp only[qtz,qt0]
  obtain⟨q1,q2⟩:=qux (k:=key) hy hi
  refine goA ?_
  refine l_w rfl (za0 (v:=.string (kB y.1)) rfl rfl (fun w' hw'=>hr.kat hw' (by rw[aH];exact hy))) ?_
  refine goA ?_
  rw[zjt,zjt,qgw]
  by_cases hk:kl y.1 key
  ·rw[decide_eq_true hk]
   refine goA ?_
   exact zaw (i+1) ⟨rfl,rfl,rfl,trivial⟩ (q1 hk) (fun w' hw'=>hw') oQ
  ·rw[decide_eq_false hk]
   refine goA ?_
   rw[q2 hk]
   exact zdk rfl rfl rfl
 ·refine goA ?_
  obtain rfl:i=lb (keys e) key:=oQ
  exact zdk rfl rfl rfl
theorem qf7(h:Es e)(k:K):(fd (keys e) k=false→zi6 e k=none)∧(fd (keys e) k=true→∃v,e[lb (keys e) k]? =some (k,v)∧zi6 e k=some v):=
 ⟨fun hf=>((zyf h).2 hf).1,fun hf=>let ⟨v,h1,h2,_⟩:=(zyf h).1 hf;⟨v,h1,h2⟩⟩
theorem qh6(o:Om)(e:E)(he:Es e)(key:K)(hb:e.length≤1000000)(w:World)(hr:DmR w o e):Pu Tryz.prog 35 #[dmV o e,kV key] w (.tuple #[kV ((zi6 e key).getD []),.bool (zi6 e key).isSome]):=by
 obtain⟨g1,g2⟩:=qf7 he key
 have hl:lb (keys e) key≤e.length:=by have:=qkn (keys e) key;rwa[keys,aD]at this
 refine zbn [_,_] Tryz.func35 rfl rfl ?_
 obtain⟨o1,o2⟩:=o
 unfold dmV dmC
 simp only[zaa,Nat.reduceAdd]
 refine goA ?_
 refine zbp rfl rfl fun b2 hb2=>?_
 refine goA ?_
 refine lPu rfl (fun w1 hw1=>zlb (o1,o2) e key hb w1 (hr.keep hw1)) ?_
 refine goA ?_
 rw[(zas hr.k).1,(zas hr.v).1]
 by_cases hlt:lb (keys e) key<e.length
 ·obtain⟨y,hy⟩:∃y,e[lb (keys e) key]? =some y:=⟨_,aB hlt⟩
  obtain⟨b,cc,rfl⟩:=zdj hr.k oQ
  obtain⟨b',cc',rfl⟩:=zdj hr.v oQ
  simp only[qtz,qt0]
  have hky:(keys e)[lb (keys e) key]? =some y.1:=(aO ..).trans (by rw[hy];rfl)
  refine goA ?_
  refine l_w rfl (za0 (v:=.string (kB y.1)) rfl rfl (fun w' hw'=>hr.kat hw' (by rw[aH];exact hy))) ?_
  refine goA ?_
  refine zd2 21 _ (.string (kB key)) rfl rfl ?_
  refine goA ?_
  rw[show seq (kB y.1) (kB key)=decide (y.1=key)from qe8 y.1 key]
  by_cases hk:y.1=key
  ·rw[decide_eq_true hk]
   obtain⟨v,h1,h2⟩:=g2 (zly.2 (by rw[hky,hk]))
   rw[hy]at h1
   cases h1
   refine goA ?_
   refine l_w rfl (za0 (v:=kV v) rfl rfl (fun w' hw'=>hr.vat (y:=(key,v)) hw' (by rw[aH];exact hy))) ?_
   refine goA ?_
   rw[h2]
   exact zie rfl rfl rfl rfl
  ·rw[decide_eq_false hk]
   rw[g1 (by cases hf:fd (keys e) key with|false=>rfl|true=>have:=zly.1 hf;rw[hky]at this;cases this;exact absurd rfl hk)]
   refine goA ?_
   exact zie rfl rfl rfl rfl
 ·rw[g1 (by cases hf:fd (keys e) key with|false=>rfl|true=>obtain⟨v,h1, -⟩:=g2 hf;exact absurd (aC.1 h1).1 hlt)]
  have he2:lb (keys e) key=e.length:=oQ
  rw[he2]
  refine goA ?_
  exact zie rfl rfl rfl rfl
theorem qu2(o:Om)(e:E)(key:K)(also:Bool)(hb:e.length≤1000000)(w:World)(hr:DmR w o e):Pu Tryz.prog 34 #[dmV o e,kV key,.bool also] w (.tuple #[kV (((zxc e key also).map (·.1)).getD []),kV (((zxc e key also).map (·.2)).getD []),.bool (zxc e key also).isSome]):=by
 refine zbn [_,_,_] Tryz.func34 rfl rfl ?_
 obtain⟨o1,o2⟩:=o
 unfold dmV dmC
 rw[(zas hr.k).1,(zas hr.v).1]
 simp only[zaa,Nat.reduceAdd]
 refine goA ?_
 refine zbp rfl rfl fun b3 hb3=>?_
 refine goA ?_
 refine zc0 (α:=Nat) (fun i=>[(1,.string (kB key)),(2,.bool also),(3,.pointer (some ⟨b3,0,none⟩)),(9,.int .i64 (i:Nat))]) (fun i=>i≤e.length∧zxc e key also=zxc (e.drop i) key also) (fun _=>[pt b3 (.cells #[.slice (slA o1) e.length (slC o1),.slice (slA o2) e.length (slC o2)] 37 (0,0))]) (fun i=>e.length - i) 0 ⟨rfl,rfl,rfl,rfl,trivial⟩ ⟨aZ _,rfl⟩ (fun w' hw'=>hw') fun i ⟨hi,hf⟩=>?_
 by_cases hlt:i<e.length
 ·obtain⟨y,hy⟩:∃y,e[i]? =some y:=⟨_,aB hlt⟩
  have hd:e.drop i=y::e.drop (i+1):=by rw[bX hlt,(aC.1 hy).2]
  rw[hd]at hf
  obtain⟨b,cc,rfl⟩:=zdj hr.k oQ
  obtain⟨b',cc',rfl⟩:=zdj hr.v oQ
  simp only[qtz,qt0]
  refine goA ?_
  refine l_w rfl (za0 (v:=.string (kB y.1)) rfl rfl (fun w' hw'=>hr.kat hw' (by rw[aH];exact hy))) ?_
  refine goA ?_
  rw[show seq (kB y.1) (kB key)=decide (y.1=key)from qe8 y.1 key,zjt,zjt,qgw]
  rcases zu1 y.1 key with hk|hk|hk
  ·have hskip:zxc (y::e.drop (i+1)) key also=zxc (e.drop (i+1)) key also:=by
    unfold zxc
    rw[jC (by simp[zhf hk,zi8 hk])]
   rw[decide_eq_true hk,Bool.true_or,jO]
   cases also with
   |false=>
    refine goA ?_
    exact zaw (i+1) ⟨rfl,rfl,rfl,rfl,trivial⟩ ⟨hlt,hf.trans hskip⟩ (fun w' hw'=>hw') oQ
   |true=>
    refine goA ?_
    refine l_w rfl (za0 (v:=.string (kB y.1)) rfl rfl (fun w' hw'=>hr.kat hw' (by rw[aH];exact hy))) ?_
    refine goA ?_
    rw[show seq (kB y.1) (kB key)=decide (y.1=key)from qe8 y.1 key,decide_eq_false (zi8 hk)]
    refine goA ?_
    exact zaw (i+1) ⟨rfl,rfl,rfl,rfl,trivial⟩ ⟨hlt,hf.trans hskip⟩ (fun w' hw'=>hw') oQ
  ·rw[decide_eq_false (by rw[hk];exact zh3 _),decide_eq_true hk,gS,jO]
   cases also with
   |false=>
    have hskip:zxc (y::e.drop (i+1)) key false=zxc (e.drop (i+1)) key false:=by
     unfold zxc
     rw[jC (by simp[hk,zh3])]
    refine goA ?_
    exact zaw (i+1) ⟨rfl,rfl,rfl,rfl,trivial⟩ ⟨hlt,hf.trans hskip⟩ (fun w' hw'=>hw') oQ
   |true=>
    have hfind:zxc (y::e.drop (i+1)) key true=some y:=by
     unfold zxc
     rw[iC (by simp[hk])]
    refine goA ?_
    refine l_w rfl (za0 (v:=.string (kB y.1)) rfl rfl (fun w' hw'=>hr.kat hw' (by rw[aH];exact hy))) ?_
    refine goA ?_
    rw[show seq (kB y.1) (kB key)=decide (y.1=key)from qe8 y.1 key,decide_eq_true hk]
    refine goA ?_
    refine zap [0] 13 rfl rfl kQ ?_
    refine goE ?_
    refine goV rfl rfl (za0 (v:=kV y.1) rfl rfl (fun w' hw'=>hr.kat hw' (by rw[aH];exact hy))) ?_
    refine goE ?_
    refine goV rfl rfl (za0 (v:=kV y.2) rfl rfl (fun w' hw'=>hr.vat (y:=y) hw' (by rw[aH];exact hy))) ?_
    refine goX ?_
    rw[hf.trans hfind]
    exact qw8 rfl rfl rfl rfl rfl
  ·have hfind:zxc (y::e.drop (i+1)) key also=some y:=by
    unfold zxc
    rw[iC (by simp[hk])]
   rw[decide_eq_false (zhf hk),decide_eq_false (Ne.symm (zi8 hk)),gS,kE]
   refine goA ?_
   refine zap [0] 13 rfl rfl kQ ?_
   refine goE ?_
   refine goV rfl rfl (za0 (v:=kV y.1) rfl rfl (fun w' hw'=>hr.kat hw' (by rw[aH];exact hy))) ?_
   refine goE ?_
   refine goV rfl rfl (za0 (v:=kV y.2) rfl rfl (fun w' hw'=>hr.vat (y:=y) hw' (by rw[aH];exact hy))) ?_
   refine goX ?_
   rw[hf.trans hfind]
   exact qw8 rfl rfl rfl rfl rfl
 ·rw[cX oQ]at hf
  rw[hf]
  refine goA ?_
  exact qw8 rfl rfl rfl rfl rfl
end Go.Proofs.YthafakdplhdfjaaGreatDoor
namespace Go.Eng
open Go.RowKit
section
variable{P:Program}{Q:Exit→Act→World→Prop}{S:World→Prop}{N:Fm}{l:zav}{ops:Array Oper}{w0:World}{F:Nat→Prop}{m:List Item}{t:Nat}{ty:TypeId}{pos:String}{after:Array Edge}
theorem qvl{T T' e:TypeId}{d y:Nat}{a:Option Addr}{k c b:Nat}{news:List Value}{g:Option (Nat×Bool)}(hy:get l y=some (.slice a k c))(hd:Nat.ble (d+1) N.n=true)(hT:zmi P T=some e)(hi:qgk P e=some (1,b,1))(hl:news.length=k)(h0:a=none→k=0)(h1:zb7 news=true)(hn:(0+k)*(b+1)≤140737488355328)
  (hnews:∀w,Hp w0 F (own e 1 none 0 []::m) w→Rd w a news):
  HO P ⟨some d,.call ⟨.builtin .append, #[.const (.slice none 0 0),.tmp y], #[T,T]⟩,T',pos,after,g⟩ Q N l (Hp w0 F (own e 1 none 0 []::m)) (α:=Option (Nat×Nat)) (fun o'=>(d,slV o' (0+k))::l) (fun o'=>Hp w0 F (own e 1 o' (0+k) ([]++news)::m)):=
 zxz (o:=none) (by simpa[zee,zez,zec,Op.operands,Call.operands,zex,hy]using hd) rfl (c:=c) (by simp[evO,hy]) hT hi hl h0 h1 hn hnews
def qvp(ops:Array Oper)(L:Array Bool)(t i1 i2:Nat):Bool:=
 let s:=fun(l:Array Bool) k=>l.setIfInBounds k true
 let r:=fun l=>Region.ready .any ops l
 (Nat.blt i1 t&&(Nat.blt i2 t&& !Nat.beq i1 i2))&&(r L==[i1,i2]&&(r (s L i1)==[i2]&&r (s L i2)==[i1]))
theorem quh(i1 i2:Nat){o1 o2:Oper}{n:Nat}{listed:Array Bool}{α1 α2:Type}{A:Item}{rest:List Item}{A':α1→Item}{X2:α2→Item}{d1 d2:Nat}{u1:α1→Value}{u2:α2→Value}
  (hq:qvp ops listed t i1 i2=true) (n1:nth ops.toList i1=some o1) (n2:nth ops.toList i2=some o2) (g1:o1.guard=none) (g2:o2.guard=none) (e1:get l d1=none) (e2:get l d2=none) (hne:Nat.beq d1 d2=false) (hS:∀w,Hp w0 F rest w→S w)
  (s1:∀l' X,(∀t u,get l t=some u→get l' t=some u)→HO P o1 (zom Q) N l' (Hp w0 F (A::(X++rest))) (fun a=>(d1,u1 a)::l') (fun a=>Hp w0 F (A' a::(X++rest))))
  (s2:∀l' m',(∀t u,get l t=some u→get l' t=some u)→HO P o2 (zom Q) N l' (Hp w0 F m') (fun b=>(d2,u2 b)::l') (fun b=>Hp w0 F (X2 b::m')))
  (k:∀a b,HD P ops Q S t N n ((listed.setIfInBounds i1 true).setIfInBounds i2 true) ((d2,u2 b)::(d1,u1 a)::l) (Hp w0 F (A' a::X2 b::rest))):HD P ops Q S t N (n+2) listed l (Hp w0 F (A::rest)):=by
 simp only[qvp,bH,beq_iff_eq,eZ]at hq
 obtain⟨⟨b1,b2,b3⟩,q1,q2,q3⟩:=hq
 have b1:=bU b1
 have b2:=bU b2
 have nb:∀{a b:Nat},Nat.beq a b=false→a≠b:=fun h e=>by rw[e,lA]at h;cases h
 have ext:∀{d:Nat} (v:Value),get l d=none→∀t u,get l t=some u→get ((d,v)::l) t=some u:=fun v hd t u h=>by
  rw[zb4,if_neg (fun e=>by rw[e,h]at hd;cases hd)]
  exact h
 have sub:∀{M:List Item},rest.Sublist M→∀w,Hp w0 F M w→S w:=fun hs w hw=>hS w (hw.sub hs)
 refine zt7 i1 i2 ⟨q1,b1,b2⟩ n1 n2 g1 g2 (s1 l [] fun _ _ h=>h) (s2 l _ fun _ _ h=>h) (fun a=>sub (.cons _ (.refl _))) (fun b=>sub (.cons _ (.cons _ (.refl _)))) (fun a=>?_) (fun b=>?_)
 ·refine zat i2 ⟨q2,b2⟩ n2 (by rw[g2];rfl) (s2 _ _ (ext _ e1)) (fun b=>sub (.cons _ (.cons _ (.refl _)))) fun b=>?_
  exact zi0 (.swap _ _ _) (k a b)
 ·refine zi0 (m':=A::([X2 b]++rest)) (.swap _ _ _) ?_
  refine zat i1 ⟨q3,b1⟩ n1 (by rw[g1];rfl) (s1 _ [X2 b] (ext _ e2)) (fun a=>sub (.cons _ (.cons _ (.refl _)))) fun a=>?_
  rw[dX _ _ (Ne.symm (nb b3))]
  have:=k a b
  unfold HD at this⊢
  refine fun inv a' w s hw=>this inv a' w ⟨s.size,s.defers,fun t v h=>s.slot t v ?_⟩ hw
  rw[zb4]at h⊢
  by_cases e:d2=t
  ·rw[if_pos e]at h
   rw[if_neg (fun e'=>nb hne (e'.trans e.symm)),zb4,if_pos e]
   exact h
  ·rw[if_neg e,zb4]at h
   by_cases e':d1=t
   ·rw[if_pos e']at h⊢
    exact h
   ·rw[if_neg e']at h⊢
    rw[zb4,if_neg e]
    exact h
end
end Go.Eng
namespace Go.Proofs.YthafakdplhdfjaaGreatDoor
open Go.RowKit Go.Eng Go.Eng.Bm Go.Eng.Tr
theorem zzx{w w0:World}{F:Nat→Prop}{m:List Eng.Item}{o:Om}{e:E}(hw:Hp w0 F m w)(h1:own 9 1 o.1 e.length (e.map fun y=>kV y.1)∈m)(h2:own 9 1 o.2 e.length (e.map fun y=>kV y.2)∈m):DmR w o e:=by
 intro it hm
 rcases hm with _|⟨_,_|⟨_,hm⟩⟩
 ·exact zbq.of (hw.item _ h1) (zac _ _ _ _ _ _)
 ·exact zbq.of (hw.item _ h2) (zac _ _ _ _ _ _)
 ·cases hm
theorem zle{e:TypeId}{o:Option (Nat×Nat)}{n:Nat}{xs:List Value}{w:World}(h:(own e 1 o n xs).prop w)(ha:slA o=none):n=0:=by
 cases o with
 |none=>exact h.2
 |some p=>cases ha
theorem zmu{a:Option Addr}{r:Bool}{k:Nat}(h:zwe a r k=none):a=none:=by
 unfold zwe at h
 split at h
 ·exact h
 ·cases a with
  |none=>rfl
  |some _=>cases h
theorem quk(l:E)(f:K×K→K):zb7 (l.map fun y=>kV (f y))=true:=zba.2 fun v hv=>by obtain⟨y, -,rfl⟩:=aS.1 hv;rfl
variable{l:List Value}
theorem qvw(h:zb7 l=true)(i:Nat):zb7 (l.take i)=true:=zba.2 fun v hv=>zba.1 h v (bY hv)
theorem qvv(h:zb7 l=true)(i:Nat):zb7 (l.drop i)=true:=zba.2 fun v hv=>zba.1 h v (cE hv)
theorem qqm(a b:Option (Nat×Nat))(n:Nat):zb7 [slV a n,slV b n]=true:=zba.2 fun v hv=>by
 rcases hv with _|⟨_,_|⟨_,hv⟩⟩
 ·exact zc3 _ _
 ·exact zc3 _ _
 ·cases hv
variable{e:E}{i:Nat}
theorem qwb(h:i<e.length):0+i+(e.length - (i+1))=(e.eraseIdx i).length:=by rw[List.length_eraseIdx,if_pos h];omega
theorem qwc(f:K×K→K)(h:i<e.length)(o:Option (Nat×Nat)):own 9 1 o (0+i+(e.length - (i+1))) ([]++(e.map fun y=>kV (f y)).take i++(e.map fun y=>kV (f y)).drop (i+1))=own 9 1 o (e.eraseIdx i).length ((e.eraseIdx i).map fun y=>kV (f y)):=by
 rw[qwb h,aJ,gV,cC,eM,eL]
theorem qwd(y:K×K)(h:i≤e.length):0+i+1+(e.length - i)=(ins e i y).length:=by rw[ins,aA,aW,aM,aX];omega
theorem qwe(f:K×K→K)(y:K×K)(h:i≤e.length)(o:Option (Nat×Nat)):own 9 1 o (0+i+1+(e.length - i)) ([]++(e.map fun y=>kV (f y)).take i++[kV (f y)]++(e.map fun y=>kV (f y)).drop i)=own 9 1 o (ins e i y).length ((ins e i y).map fun y=>kV (f y)):=by
 rw[qwd y h,aJ,ins,cC,bG,eM,eL,aG]
 rfl
end Go.Proofs.YthafakdplhdfjaaGreatDoor
namespace Go.Eng
open Go.RowKit
theorem qu4{P:Program}{l:zav}{H:World→Prop}{x y:Operand}{T U ty:TypeId}{a b:Nat}(hx:evO l x=some (.int .u8 (a:Int)))(hy:evO l y=some (.int .u8 (b:Int))):OV P (.binOp .add T x y U) ty l H (.int .u8 (((a+b)%256:Nat):Int)):=
 zwf (zf5 hx hy fun _=>rfl) (by rw[←lG,zlo])
end Go.Eng
namespace Go.Proofs.YthafakdplhdfjaaGreatDoor
open Go.RowKit Go.Eng Go.Eng.Bm Go.Eng.Tr
def bsN(f:Nat→Nat)(w:Nat):List Value:=(List.range w).map fun j=>.int .u8 ((f j:Nat):Int)
theorem zzk(f:Nat→Nat)(w i v:Nat):(bsN f w).set i (.int .u8 (v:Int))=bsN (fun j=>if j=i then v else f j) w:=by
 refine kU (by simp[bsN]) fun j h1 h2=>?_
 rw[gW]
 simp only[bsN,cS,List.getElem_range]
 by_cases e:i=j
 ·rw[if_pos e,if_pos e.symm]
 ·rw[if_neg e,if_neg (Ne.symm e)]
theorem zzj(f:Nat→Nat)(w:Nat):(bsN f w).length=w:=by simp[bsN]
def txN(n j:Nat):Nat:=(n%256+7*j%256)%256
def txF(n:Nat):Nat→Nat:=fun j=>if j=1 then n%256 else if j=0 then n/256%256 else txN n j
def zpf(n w:Nat):K:=(List.range w).map fun j=>UInt8.ofNat (txF n j)
theorem zgk(n w:Nat):(zpf n w).length=w:=by simp[zpf]
theorem zwv(n w:Nat):bsN (txF n) w=zae (zpf n w):=by
 unfold bsN zpf zae
 rw[dJ]
 refine cT fun j _=>?_
 have:txF n j<256:=by unfold txF txN;split;omega;split<;>omega
 show Value.int .u8 _= .int .u8 _
 congr 1
 rw[UInt8.toNat_ofNat',bD oQ]
end Go.Proofs.YthafakdplhdfjaaGreatDoor
namespace Go.Eng
open Go.RowKit
variable{P:Program}{Q:Exit→Act→World→Prop}{N:Fm}{l:zav}{ops:Array Oper}{rest:List Oper}{w0:World}{F:Nat→Prop}{m m' r:List Item}{ty:TypeId}{pos:String}{after:Array Edge}{g:Option (Nat×Bool)}{d:Nat}
variable{listed:Array Bool}{s:List Item}{z:Value}{cs:Array Value}
theorem dAl(j:Nat){n t:Nat}{T:TypeId}(k:∀b,w0.heap.size≤b→HD P ops Q (Hp w0 F s) t N n (listed.setIfInBounds j true) ((d,.pointer (some ⟨b,0,none⟩))::l) (Hp w0 F (pt b (.cells cs T (0,0))::m)))
  (hj0:nth ops.toList j=some ⟨some d,.alloc T,ty,pos,after,g⟩:=by rfl) (hz:(P.info? T).bind (·.zero)=some z:=by rfl) (hcs:z.cells=cs:=by rfl) (hs:Fnds s m m':=by exact qt4) (hr0:Region.ready .any ops listed=[j]:=by kernel_rfl) (hr1:j<t:=by decide) (hg:okG ops l g=true:=by rfl) (hok:zee N l (.alloc T) d=true:=by rfl):
  HD P ops Q (Hp w0 F s) t N (n+1) listed l (Hp w0 F m):=by
 subst hcs
 exact zat j ⟨hr0,hr1⟩ hj0 hg (zlg hok hz) (fun _ _ h=>hs.hp (h.sub (.cons _ (.refl _)))) fun b=>k b.1 b.2
variable{f:FuncId}{xs:List Operand}{tys:Array TypeId}{us:Array Value}{α:Type}{φ:α→Prop}{its:α→List Item}
theorem qwa(i j:Nat){n t d2:Nat}{vs:List Value}{pre r':List Item}{val:α→Value}{T ty2:TypeId}{pos2:String}{after2:Array Edge}
  (hc:Cw P f us pre val φ its) (k1:∀x,φ x→HD P ops Q (Hp w0 F s) t N n (listed.setIfInBounds i true) ((d,val x)::l) (Hp w0 F (apI (its x) r)))
  (k2:∀b,w0.heap.size≤b→HD P ops Q (Hp w0 F s) t N n (listed.setIfInBounds j true) ((d2,.pointer (some ⟨b,0,none⟩))::l) (Hp w0 F (pt b (.cells cs T (0,0))::m)))
  (hi0:nth ops.toList i=some ⟨some d,.call ⟨.value (.func f),xs.toArray,tys⟩,ty,pos,after,none⟩:=by rfl) (hj0:nth ops.toList j=some ⟨some d2,.alloc T,ty2,pos2,after2,none⟩:=by rfl) (hz:(P.info? T).bind (·.zero)=some z:=by rfl) (hcs:z.cells=cs:=by rfl)
  (hx:evs l xs=some vs:=by rfl) (hu:vs.toArray=us:=by rfl) (hf:Fnds pre m r:=by exact qt4) (hs:Fnds s r r':=by exact qt4) (hr0:Region.ready .any ops listed=[i,j]:=by kernel_rfl) (hij:i<t∧j<t:=by decide) [hst:StabL pre]
  (hok:zee N l (.call ⟨.value (.func f),xs.toArray,tys⟩) d=true:=by rfl) (hok3:zee N l (.alloc T) d2=true:=by rfl) (hb:za7 P f=true:=by kernel_rfl):HD P ops Q (Hp w0 F s) t N (n+1) listed l (Hp w0 F m):=by
 subst hcs
 have hp:=hf.perm
 rw[←zf9]at hp
 have hS:∀{M:List Item} w,Hp w0 F (M++r) w→Hp w0 F s w:=fun w h=>hs.hp (h.sub (dI _ _))
 refine zi0 hp (zt7 i j ⟨hr0,hij⟩ hi0 hj0 rfl rfl (zfb hok hb hx hst.st fun w _ hh ha=>by rw[hu];exact hc w hh ha) (zlg hok3 hz) (fun _ _ h=>hS _ h) (fun b w h=>hS (M:=pt b.1 (.cells z.cells T (0,0))::pre) w h) (fun x=>?_) (fun b=>?_))
 ·rw[zf9];exact k1 x.1 x.2
 ·exact zi0 (.cons _ hp.symm) (k2 b.1 b.2)
theorem dC0(i:Nat){n t:Nat}{vs:List Value}{val:α→Value}(hc:∀w,Hp w0 F m w→Ct P f us w none' val φ its)(k:∀x,φ x→HD P ops Q (Hp w0 F s) t N n (listed.setIfInBounds i true) ((d,val x)::l) (Hp w0 F (apI (its x) m)))
  (hi0:nth ops.toList i=some ⟨some d,.call ⟨.value (.func f),xs.toArray,tys⟩,ty,pos,after,g⟩:=by rfl) (hx:evs l xs=some vs:=by rfl) (hu:vs.toArray=us:=by rfl) (hs:Fnds s m m':=by exact qt4) (hr0:Region.ready .any ops listed=[i]:=by kernel_rfl) (hr1:i<t:=by decide)
  (hg:okG ops l g=true:=by rfl) (hok:zee N l (.call ⟨.value (.func f),xs.toArray,tys⟩) d=true:=by rfl) (hb:za7 P f=true:=by kernel_rfl):HD P ops Q (Hp w0 F s) t N (n+1) listed l (Hp w0 F m):=
 zat i ⟨hr0,hr1⟩ hi0 hg (qhd hok hb hx fun w hw=>by rw[hu];exact hc w hw) (fun _ _ h=>hs.hp (h.sub (dI _ _))) fun x=>by rw[zf9];exact k x.1 x.2
instance(q:IntKind)(b:Nat)(A:zcs):Stab (zck q b A):=⟨zax _ _ _ _⟩
end Go.Eng
namespace Go.Proofs.YthafakdplhdfjaaGreatDoor
open Go.RowKit Go.Eng Go.Eng.Bm Go.Eng.Tr
instance{L M:List Eng.Item}[h:StabL L][k:StabL M]:StabL (L++M):=⟨fun it hm=>(aR.1 hm).elim (h.st it) (k.st it)⟩
instance(o:Om)(e:E):StabL (dmI o e):=⟨zse o e⟩
theorem qup{o p:Om}{e:E}{key:K}(hp:zi6 e key=none→p=o){w0 w:World}{F:Nat→Prop}{m r:List Eng.Item}(hs:Fnds [own 9 1 p.1 (zfy e key).length ((zfy e key).map fun y=>kV y.1),own 9 1 p.2 (zfy e key).length ((zfy e key).map fun y=>kV y.2),zef (if (zi6 e key).isSome then dmI o e else[])] m r)(he:zi6 e key=none→zfy e key=e)(h:Hp w0 F m w):
  Hp w0 F (apI [own 9 1 o.1 e.length (e.map fun y=>kV y.1),own 9 1 o.2 e.length (e.map fun y=>kV y.2)] r) w:=by
 have h1:=h.perm hs.perm
 cases hg:zi6 e key with
 |none=>
  rw[he hg,hp hg]at h1
  exact h1.sub (.cons_cons _ (.cons_cons _ (.cons _ (.refl _))))
 |some v=>
  rw[hg]at h1
  have h2:=Hp.open1 (h1.perm ((List.Perm.cons _ (.swap _ _ _)).trans (.swap _ _ _)))
  exact h2.sub (.cons_cons _ (.cons_cons _ (.cons _ (.cons _ (.refl _)))))
theorem zsd(o:Om)(e:E)(he:Es e)(key:K)(hb:e.length≤1000000):
  Cw Tryz.prog 144 #[dmV o e,kV key] (dmI o e) (fun o':Om=>.tuple #[dmV o' (zfy e key),.bool (zi6 e key).isSome]) (fun o'=>zi6 e key=none→o'=o) (fun o'=>dmI o' (zfy e key)++[zef (if (zi6 e key).isSome then dmI o e else[])]):=by
 intro w hw ha
 obtain⟨r1,r2⟩:=zyf (k:=key) he
 have hl:lb (keys e) key≤e.length:=by have:=qkn (keys e) key;rwa[keys,aD]at this
 have hR:DmR w o e:=hw
 have k1:=zas hR.k
 have k2:=zas hR.v
 obtain⟨o1,o2⟩:=o
 have k1b:e.length≤slC o1:=k1.2
 have k2b:e.length≤slC o2:=k2.2
 refine za2 [_,_] _ Tryz.func144 rfl rfl hw ha ?_
 unfold dmV dmC dmI
 rw[k1.1,k2.1]
 simp only[zaa,Nat.reduceAdd]
 refine goA ?_
 refine zbp rfl rfl fun b2 hb2=>?_
 refine zam rfl rfl fun b4 hb4=>?_
 refine goA ?_
 refine zeh rfl (zfc rfl kQ rfl (fun w1 hw1=>by
  have:=qh6 (o1,o2) e he key hb w1 (zzx hw1 mm mm)
  unfold dmV dmC at this
  rwa[k1.1,k2.1]at this)) fun _=>?_
 refine goA ?_
 cases hf:fd (keys e) key with
 |false=>
  obtain⟨g1, -,g3⟩:=r2 hf
  rw[g1,g3]
  simp only[iW,bT,if_false,aF,aJ]
  refine goA ?_
  refine za1 rfl (zaf (cs':= #[.slice (slA o1) e.length (slC o1),.slice (slA o2) e.length (slC o2)]) rfl rfl rfl rfl rfl rfl) fun _=>?_
  refine goA ?_
  refine qi6 [] ?_
  exact xC2 (o1,o2) (fun _=>rfl) (e:=by rw[k1.1,k2.1])
 |true=>
  obtain⟨v,h1,g1, -,g3⟩:=r1 hf
  have hlt:=(aC.1 h1).1
  rw[g1,g3]
  simp only[gH,if_true,aF,aJ]
  refine goA ?_
  refine zeh rfl (zfc rfl kQ rfl (fun w1 hw1=>by
   have:=zlb (o1,o2) e key hb w1 (zzx hw1 mm mm)
   unfold dmV dmC at this
   rwa[k1.1,k2.1]at this)) fun _=>?_
  refine goA ?_
  refine zam rfl rfl fun b9 hb9=>?_
  refine goA ?_
  refine qms 9 1 ?_
  refine zap [1,2,3,4,5] 12 rfl rfl kQ ?_
  refine goE ?_
  refine zat 4 ⟨kQ,dQ⟩ rfl rfl (zxz (o:=none) (n:=0) (xs:=[]) (news:=(e.map fun y=>kV y.1).take (lb (keys e) key)) rfl rfl rfl rfl rfl (by rw[aM,aD];omega) (fun h=>by have:=zle hR.k h;omega) (qvw (quk e (fun y=>y.1)) _) oQ (fun w' hw'=>(za8 (hw'.item (own 9 1 o1 e.length (e.map fun y=>kV y.1)) mm).1).take _)) (fun _ _ h=>goH h) fun o3=>?_
  refine goE ?_
  refine zat 10 ⟨kQ,dQ⟩ rfl rfl (zxz (news:=(e.map fun y=>kV y.1).drop (lb (keys e) key+1)) rfl rfl rfl rfl rfl (by rw[aX,aD]) (fun h=>by have:=zle hR.k (zmu h);omega) (qvv (quk e (fun y=>y.1)) _) oQ (fun w' hw'=>zox (hw'.item (own 9 1 o1 e.length (e.map fun y=>kV y.1)) mm).1 _)) (fun _ _ h=>goH h) fun o4=>?_
  rw[qwc (fun y=>y.1) hlt]
  refine goE ?_
  refine zet ⟨kQ,kQ⟩ rfl rfl (zah (zcg _ _ _) (zai rfl rfl rfl rfl (zct _ _) (zc3 _ _) sQ)) fun _=>?_
  refine goA ?_
  refine qms 9 1 ?_
  refine zap [1,2,3,4,5,6] 12 rfl rfl kQ ?_
  refine goE ?_
  refine zat 4 ⟨kQ,dQ⟩ rfl rfl (zxz (o:=none) (n:=0) (xs:=[]) (news:=(e.map fun y=>kV y.2).take (lb (keys e) key)) rfl rfl rfl rfl rfl (by rw[aM,aD];omega) (fun h=>by have:=zle hR.v h;omega) (qvw (quk e (fun y=>y.2)) _) oQ (fun w' hw'=>(za8 (hw'.item (own 9 1 o2 e.length (e.map fun y=>kV y.2)) mm).1).take _)) (fun _ _ h=>goH h) fun o5=>?_
  refine goE ?_
  refine zat 10 ⟨kQ,dQ⟩ rfl rfl (zxz (news:=(e.map fun y=>kV y.2).drop (lb (keys e) key+1)) rfl rfl rfl rfl rfl (by rw[aX,aD]) (fun h=>by have:=zle hR.v (zmu h);omega) (qvv (quk e (fun y=>y.2)) _) oQ (fun w' hw'=>zox (hw'.item (own 9 1 o2 e.length (e.map fun y=>kV y.2)) mm).1 _)) (fun _ _ h=>goH h) fun o6=>?_
  rw[qwc (fun y=>y.2) hlt]
  refine goE ?_
  refine zet ⟨kQ,kQ⟩ rfl rfl (zah (zcg _ _ _) (zai rfl rfl rfl rfl (zct _ _) (zc3 _ _) sQ)) fun _=>?_
  refine goA ?_
  rw[qwb hlt]
  refine zd2 46 _ (.agg #[slV o4 (e.eraseIdx (lb (keys e) key)).length,slV o6 (e.eraseIdx (lb (keys e) key)).length]) rfl rfl ?_
  refine za1 rfl (zah (zfq _ _ _ _ _) (zaf (cs':= #[slV o4 (e.eraseIdx (lb (keys e) key)).length,slV o6 (e.eraseIdx (lb (keys e) key)).length]) rfl rfl rfl rfl (qqm _ _ _) rfl)) fun _=>?_
  refine goA ?_
  refine qi6 [own 9 1 o1 e.length (e.map fun y=>kV y.1),own 9 1 o2 e.length (e.map fun y=>kV y.2)] ?_
  exact xC2 (o4,o6) (fun h=>nomatch h)
theorem qj7(o:Om)(e:E)(he:Es e)(key val:K)(hb:e.length≤1000000):
  Cw Tryz.prog 145 #[dmV o e,kV key,kV val] (dmI o e) (fun o':Om=>dmV o' (zfx e key val)) (fun _=>True) (fun o'=>dmI o e++dmI o' (zfx e key val)):=by
 intro w hw ha
 have hR:DmR w o e:=hw
 have k1:=zas hR.k
 have k2:=zas hR.v
 have hlen:(zfy e key).length≤e.length:=gI _ _
 have hl:lb (keys (zfy e key)) key≤(zfy e key).length:=by have:=qkn (keys (zfy e key)) key;rwa[keys,aD]at this
 rw[qla he]
 obtain⟨o1,o2⟩:=o
 have hdel:=zsd (o1,o2) e he key hb
 unfold dmV dmC at hdel
 rw[k1.1,k2.1]at hdel
 refine za2 [_,_,_] _ Tryz.func145 rfl rfl hw ha ?_
 unfold dmV dmC
 rw[k1.1,k2.1]
 simp only[zaa,Nat.reduceAdd]
 refine goA ?_
 refine zbp rfl rfl fun b3 hb3=>?_
 refine zam rfl rfl fun b6 hb6=>?_
 refine goA ?_
 refine zgb (cW (l₁:=[_,_]) (l₂:=dmI (o1,o2) e)) ?_
 refine lCu (dmI (o1,o2) e) rfl (zse _ _) (fun w1 hw1 hh1 ha1=>hdel w1 hh1 ha1) fun⟨⟨p1,p2⟩,hp12⟩=>?_
 simp only at hp12⊢
 have hnone:zi6 e key=none→zfy e key=e:=fun h=>by
  obtain⟨r1,r2⟩:=zyf (k:=key) he
  cases hf:fd (keys e) key with
  |false=>exact(r2 hf).2.2
  |true=>obtain⟨v, -,g1, -⟩:=r1 hf;rw[h]at g1;cases g1
 obtain⟨X,hX⟩:∃X,zef (if (zi6 e key).isSome then dmI (o1,o2) e else[])=X:=⟨_,rfl⟩
 have hsX:X.Stable none':=hX▸zad _
 unfold dmI at hX⊢
 rw[hX]
 simp only[aF,aJ]
 refine zay [0,1,3,4,2] rfl rfl ?_
 refine goA ?_
 refine za1 rfl (zah (zfq _ _ _ _ _) (zaf (cs':= #[slV p1 (zfy e key).length,slV p2 (zfy e key).length]) rfl rfl rfl rfl (qqm _ _ _) rfl)) fun _=>?_
 refine goA ?_
 refine lPu rfl (fun w1 hw1=>zlb (p1,p2) (zfy e key) key oQ w1 (zzx hw1 mm mm)) ?_
 refine goA ?_
 refine zam rfl rfl fun b8 hb8=>?_
 refine goA ?_
 refine zhm (fun w hw=>And.intro (And.intro (zas (hw.item (own 9 1 p1 (zfy e key).length ((zfy e key).map fun y=>kV y.1)) mm).1) (zle (hw.item (own 9 1 p1 (zfy e key).length ((zfy e key).map fun y=>kV y.1)) mm).1)) (And.intro (zas (hw.item (own 9 1 p2 (zfy e key).length ((zfy e key).map fun y=>kV y.2)) mm).1) (zle (hw.item (own 9 1 p2 (zfy e key).length ((zfy e key).map fun y=>kV y.2)) mm).1))) fun⟨⟨⟨f1,f3⟩,f5⟩,⟨⟨f2,f4⟩,f6⟩⟩=>?_
 rw[f1,f2]
 refine qms 9 1 ?_
 refine zap [1,2,3,4,5,6] 14 rfl rfl kQ ?_
 refine goE ?_
 refine quh 4 6 kQ rfl rfl rfl rfl rfl rfl rfl (fun _ h=>h) (fun l' X hl'=>qvl (news:=((zfy e key).map fun y=>kV y.1).take (lb (keys (zfy e key)) key)) (hl' 21 _ rfl) rfl rfl rfl (by rw[aM,aD];omega) (fun h=>by have:=f5 h;omega) (qvw (quk _ (fun y=>y.1)) _) oQ (fun w' hw'=>(za8 (hw'.item (own 9 1 p1 (zfy e key).length ((zfy e key).map fun y=>kV y.1)) (.tail _ (aU _ (.tail _ (.tail _ (.head _)))))).1).take _)) (fun l' m' hl'=>zrw (v:=kV key) (hl' 23 _ rfl) rfl rfl rfl rfl) fun o3 ⟨q1,_⟩=>?_
 refine zat 7 ⟨kQ,dQ⟩ rfl rfl (zdh (news:=[kV key]) rfl rfl rfl rfl rfl rfl rfl rfl oQ (fun w' hw' j v hj=>by rw[zde,aH];exact zby (hw'.item (own 9 1 (some (q1,1)) 1 [kV key]) (.tail _ (.head _))).1 j v hj)) (fun _ _ h=>goH h) fun o4=>?_
 refine zat 12 ⟨kQ,dQ⟩ rfl rfl (zxz (news:=((zfy e key).map fun y=>kV y.1).drop (lb (keys (zfy e key)) key)) rfl rfl rfl rfl rfl (by rw[aX,aD]) (fun h=>by have:=f5 (zmu h);omega) (qvv (quk _ (fun y=>y.1)) _) oQ (fun w' hw'=>zox (hw'.item (own 9 1 p1 (zfy e key).length ((zfy e key).map fun y=>kV y.1)) mm).1 _)) (fun _ _ h=>goH h) fun o5=>?_
 rw[qwe (fun y=>y.1) (key,val) hl]
 refine goE ?_
 refine zet ⟨kQ,kQ⟩ rfl rfl (zah (zdf _ _ _ _) (zai rfl rfl rfl rfl (zct _ _) (zc3 _ _) sQ)) fun _=>?_
 refine goA ?_
 refine qms 9 1 ?_
 refine zap [1,2,3,4,5,6,7,8] 14 rfl rfl kQ ?_
 refine goE ?_
 refine quh 4 6 kQ rfl rfl rfl rfl rfl rfl rfl (fun _ h=>h) (fun l' X hl'=>qvl (news:=((zfy e key).map fun y=>kV y.2).take (lb (keys (zfy e key)) key)) (hl' 35 _ rfl) rfl rfl rfl (by rw[aM,aD];omega) (fun h=>by have:=f6 h;omega) (qvw (quk _ (fun y=>y.2)) _) oQ (fun w' hw'=>(za8 (hw'.item (own 9 1 p2 (zfy e key).length ((zfy e key).map fun y=>kV y.2)) (.tail _ (aU _ (.tail _ (.tail _ (.tail _ (.tail _ (.tail _ (.head _))))))))).1).take _)) (fun l' m' hl'=>zrw (v:=kV val) (hl' 37 _ rfl) rfl rfl rfl rfl) fun o6 ⟨q2,_⟩=>?_
 refine zat 7 ⟨kQ,dQ⟩ rfl rfl (zdh (news:=[kV val]) rfl rfl rfl rfl rfl rfl rfl rfl oQ (fun w' hw' j v hj=>by rw[zde,aH];exact zby (hw'.item (own 9 1 (some (q2,1)) 1 [kV val]) (.tail _ (.head _))).1 j v hj)) (fun _ _ h=>goH h) fun o7=>?_
 refine zat 12 ⟨kQ,dQ⟩ rfl rfl (zxz (news:=((zfy e key).map fun y=>kV y.2).drop (lb (keys (zfy e key)) key)) rfl rfl rfl rfl rfl (by rw[aX,aD]) (fun h=>by have:=f6 (zmu h);omega) (qvv (quk _ (fun y=>y.2)) _) oQ (fun w' hw'=>zox (hw'.item (own 9 1 p2 (zfy e key).length ((zfy e key).map fun y=>kV y.2)) mm).1 _)) (fun _ _ h=>goH h) fun o8=>?_
 rw[qwe (fun y=>y.2) (key,val) hl]
 refine goE ?_
 refine zet ⟨kQ,kQ⟩ rfl rfl (zah (zdf _ _ _ _) (zai rfl rfl rfl rfl (zct _ _) (zc3 _ _) sQ)) fun _=>?_
 refine goA ?_
 rw[qwd (key,val) hl]
 refine zd2 46 _ (.agg #[slV o5 (ins (zfy e key) (lb (keys (zfy e key)) key) (key,val)).length,slV o8 (ins (zfy e key) (lb (keys (zfy e key)) key) (key,val)).length]) rfl rfl ?_
 refine lSa ?_
 refine goA ?_
 refine zbr (fun w h=>qup (o:=(o1,o2)) (p:=(p1,p2)) hp12 (by unfold dmI;rw[hX];exact qt4) hnone h) ?_
 exact xC (o5,o8) trivial (hs:=by simp only[aF,aJ];exact qt4)
end Go.Proofs.YthafakdplhdfjaaGreatDoor
namespace Go.Eng
open Go.RowKit
def qqc(P:Program)(T:TypeId):Bool:=match P.underlying T with|some (.struct _) |some (.array _ _)=>true|_=>false
variable{P:Program}{l:zav}
theorem qlm{H:World→Prop}{ty:TypeId}{T e:TypeId}{x y:Operand}{cs:Array Value}{k:IntKind}{i n sz:Nat}(hx:evO l x=some (.agg cs))(hy:evO l y=some (.int k (i:Nat)))(hT:P.underlying T=some (.array n e))(he:zcd P e=some sz)(ho:qqc P e=true)(hi:i<n):OV P (.index T x y) ty l H (.agg (cs.extract (i*sz) (i*sz+sz))):=ov fun _ _ _ w _=>by
 obtain⟨q,hq,hqs⟩:=zbg he
 have hagg:(isAgg e).run P w= .ok true w:=by
  unfold qqc at ho
  cases hu:P.underlying e with
  |none=>simp[hu]at ho
  |some d=>
   unfold isAgg
   rw[Sem.run_bind,run_underlying hu w]
   cases d<;>simp_all
 simp[execOp,zar hx,zar hy,Instr.index,asIntOf,run_underlying hT w,hi,sizeOf,typeInfo,hq,hqs,part,hagg]
theorem qwu{w0:World}{F:Nat→Prop}{m:List Item}{n:Nat}{fn:Func}{a1 a2 a3 a4:Tmp}{α:Type}{val:α→Value}{φ:α→Prop}{its:α→List Item}{u t v s:Value}(x:α)(hf:fn.results= #[.tmp a1,.tmp a2,.tmp a3,.tmp a4])(h1:zhu P l (Hp w0 F m) (.tmp a1) u)(h2:zhu P l (Hp w0 F m) (.tmp a2) t)(h3:zhu P l (Hp w0 F m) (.tmp a3) v)(h4:zhu P l (Hp w0 F m) (.tmp a4) s)(e: .tuple #[u,t,v,s]=val x)(hφ:φ x)(hs:(its x).Sublist m)(hst:∀it∈its x,it.Stable none'):HX (bodyPost P fn (zjn w0 F val φ its)) .ret ⟨n,[],none⟩ l (Hp w0 F m):=by
 unfold HX
 intro a w st hw
 have e1:=zia h1 st hw
 have e2:=zia h2 st hw
 have e3:=zia h3 st hw
 have e4:=zia h4 st hw
 simp only[]at e1 e2 e3 e4
 refine bodyPost_ret (v:=.tuple #[u,t,v,s]) ?_ st.defers ⟨x,by rw[e],hφ,hw.its hs hst⟩
 simp[results,hf,e1,e2,e3,e4]
end Go.Eng
namespace Go.Proofs.YthafakdplhdfjaaGreatDoor
open Go.RowKit Go.Eng Go.Eng.Bm Go.Eng.Tr
variable{i:Nat}
theorem zxa(hi:i<8)(w:World):Pu Tryz.prog 28 #[.int .i64 (i:Nat)] w (shV (fSh i)):=by
 refine zbn [_] Tryz.func28 rfl rfl ?_
 simp only[zaa]
 refine goA ?_
 refine zam rfl rfl fun b2 hb2=>?_
 refine goA ?_
 refine l_w rfl (zks rfl rfl rfl rfl rfl) ?_
 refine goA ?_
 refine l_w rfl (qlm (i:=i) rfl rfl rfl rfl rfl hi) ?_
 refine zd2 20 _ (shV (fSh i)) rfl ?_ ?_
 ·match i,hi with
  |0,_|1,_|2,_|3,_|4,_|5,_|6,_|7,_=>rfl
 refine goA ?_
 refine za1 rfl (zaf (cs':= #[.int .i64 ((fSh i).kw:Nat),.int .i64 ((fSh i).vw:Nat)]) rfl rfl rfl rfl rfl rfl) fun _=>?_
 refine goA ?_
 exact zdk rfl ⟨_,rfl,zaq rfl (.head _)⟩ rfl
theorem zk9(hi:i<8)(b:Nat)(w:World):Pu Tryz.prog 67 #[.pointer (some ⟨b,0,none⟩),.int .i64 (i:Nat)] w (.tuple #[.pointer (some ⟨b,1+i*4,none⟩),.int .i64 0]):=by
 refine zbn [_,_] Tryz.func67 rfl rfl ?_
 simp only[zaa,Nat.reduceAdd]
 refine goA ?_
 exact zie rfl rfl rfl rfl
theorem qur{i:Int}(hi:i<0∨8≤i)(b:Nat)(w:World):Pu Tryz.prog 67 #[.pointer (some ⟨b,0,none⟩),.int .i64 i] w (.tuple #[.pointer none,.int .i64 2]):=by
 refine zbn [_,_] Tryz.func67 rfl rfl ?_
 simp only[zaa,Nat.reduceAdd]
 by_cases h0:i<0
 ·refine goA ?_
  exact zie rfl rfl rfl rfl
 ·have h8:8≤i:=oQ
  refine goA ?_
  exact zie rfl rfl rfl rfl
variable{c:Fc}{g:Sg}{s:Pg}{R:List Nat}{busy:Bool}{err:Nat}
theorem qve(h:Fok c g s){a:Nat}(hi:i<8)(ha:R[i]? =some a)(key:K)(hk:key.length=(fSh i).kw){v:Option K}(hl:quj (fSh i) c.N g key (a:Nat)= .ok v):
  Cv Tryz.prog 31 #[.pointer (some ⟨c.b,0,none⟩),.int .i64 (i:Nat),kV key] [foI c R busy err s] (fun _:Pg=>.tuple #[kV (v.getD []),.bool v.isSome,.int .i64 0]) (fun s'=>Fok c g s') (fun s'=>[foI c R busy err s']):=by
 intro w hw
 rw[zik ha]at hw⊢
 refine za2 [_,_,_] _ Tryz.func31 rfl rfl hw (.cons (fun _ h=>nomatch h) .nil) ?_
 simp only[zaa,Nat.reduceAdd]
 refine goA ?_
 refine lPu rfl (fun w1 hw1=>zk9 hi c.b w1) ?_
 refine goA ?_
 rw[←qj5 (c:=c) (busy:=busy) (err:=err) ha]
 refine lCu [tmI (frC c R busy err i) (a:Nat) s] rfl (zag _ _ s) (fun w1 hw1 hh1 ha1=>qw9 (h.tok R busy err hi) _ key hk hl w1 hh1) fun⟨s',hs'⟩=>?_
 have hs':Tok (frC c R busy err i) g s':=hs'
 simp only[aF,aJ]
 refine goA ?_
 rw[←zik (s:=s') ha]
 exact qa6 s' rfl rfl rfl rfl rfl hs'.fok (.refl _) (zb3 _ _ _ _ _)
variable{xs:E}
theorem quu(h:Fok c g s){a:Nat}(hi:i<8)(ha:R[i]? =some a)(key:K)(also:Bool)(hk:key.length≤1000000)(hl:qnd (fSh i) c.N g key (a:Nat) xs):
  Cv Tryz.prog 33 #[.pointer (some ⟨c.b,0,none⟩),.int .i64 (i:Nat),kV key,.bool also] [foI c R busy err s] (fun _:Pg=>frV (xs.find? (frP key also))) (fun s'=>Fok c g s') (fun s'=>[foI c R busy err s']):=by
 intro w hw
 rw[zik ha]at hw⊢
 refine za2 [_,_,_,_] _ Tryz.func33 rfl rfl hw (.cons (fun _ h=>nomatch h) .nil) ?_
 simp only[zaa,Nat.reduceAdd]
 refine goA ?_
 refine lPu rfl (fun w1 hw1=>zk9 hi c.b w1) ?_
 refine goA ?_
 rw[←qj5 (c:=c) (busy:=busy) (err:=err) ha]
 refine lCu [tmI (frC c R busy err i) (a:Nat) s] rfl (zag _ _ s) (fun w1 hw1 hh1 ha1=>from_ok' (h.tok R busy err hi) _ key also hk hl w1 hh1) fun⟨s',hs'⟩=>?_
 have hs':Tok (frC c R busy err i) g s':=hs'
 unfold frV
 simp only[aF,aJ]
 refine goA ?_
 rw[←zik (s:=s') ha]
 exact qwu s' rfl rfl rfl rfl rfl rfl hs'.fok (.refl _) (zb3 _ _ _ _ _)
theorem zl2(hl:R.length=8)(busy:Bool)(err:Nat):(frA c R busy err)[33]? =some (.bool busy)∧(frA c R busy err)[34]? =some (.int .i64 (err:Int)):=by
 have h:=zhr c.pb R 0
 rw[hl]at h
 unfold frA
 rw[fW,fW,cZ oQ,cZ oQ,h]
 exact⟨rfl,rfl⟩
theorem qf5(hl:R.length=8)(busy:Bool)(err:Nat)(b':Bool)(e':Nat):(frA c R busy err).set 33 (.bool b')=frA c R b' err∧(frA c R busy err).set 34 (.int .i64 (e':Int))=frA c R busy e':=by
 have h:=zhr c.pb R 0
 rw[hl]at h
 unfold frA
 rw[List.set_cons_succ,List.set_cons_succ,List.set_append_right _ _ oQ,List.set_append_right _ _ oQ,h]
 exact⟨rfl,rfl⟩
theorem qf3{w:World}(h:(foC c R busy err).prop w){j:Nat}{v:Value}(hv:(frA c R busy err)[j]? =some v):w.cell? ⟨c.b,j,none⟩=some v:=by
 have:=zbf h j v hv
 rwa[aH]at this
variable{l:zav}{w0:World}{F:Nat→Prop}{m:List Eng.Item}{x:Operand}
theorem qpg{T ty:TypeId}{j:Nat}{v:Value}(hx:evO l x=some (.pointer (some ⟨c.b,j,none⟩)))(hm:foI c R busy err s∈m)(hv:(frA c R busy err)[j]? =some v)(hT:zja Tryz.prog T=true):OV Tryz.prog (.load T x) ty l (Hp w0 F m) v:=
 za0 hx hT (fun _ hw'=>qf3 ((hw'.item _ hm).1.1 _ (.head _)).1 hv)
theorem qrw{T ty:TypeId}{j:Nat}{v:Value}(hx:evO l x=some (.pointer (some ⟨c.b,j,none⟩)))(hm:foC c R busy err∈m)(hv:(frA c R busy err)[j]? =some v)(hT:zja Tryz.prog T=true):OV Tryz.prog (.load T x) ty l (Hp w0 F m) v:=
 za0 hx hT (fun _ hw'=>qf3 (hw'.item _ hm).1 hv)
section
variable{Q:Exit→Act→World→Prop}{N:Fm}{T ty:TypeId}{y:Operand}{pos:String}{after:Array Edge}{g:Option (Nat×Bool)}
theorem qhe(hl:R.length=8){e':Nat}(hok:(zez (.store T x y)&&zec l (.store T x y))=true)(hx:evO l x=some (.pointer (some ⟨c.b,34,none⟩)))(hy:evO l y=some (.int .i64 (e':Int)))(hT:(Tryz.prog.info? T).map (·.size)=some 1):
  HO Tryz.prog ⟨none,.store T x y,ty,pos,after,g⟩ Q N l (Hp w0 F (foC c R busy err::m)) (α:=Unit) (fun _=>l) (fun _=>Hp w0 F (foC c R busy e'::m)):=by
 have h:=zai (P:=Tryz.prog) (Q:=Q) (N:=N) (w0:=w0) (F:=F) (m:=m) (ty:=ty) (pos:=pos) (after:=after) (g:=g) (cs:=(frA c R busy err).toArray) (E:=119) hok hx hy hT rfl rfl (by have:=zhr c.pb R 0;simp[frA];omega)
 rw[dE,(qf5 hl busy err busy e').2]at h
 exact h
theorem qb8(hl:R.length=8){b':Bool}(hok:(zez (.store T x y)&&zec l (.store T x y))=true)(hx:evO l x=some (.pointer (some ⟨c.b,33,none⟩)))(hy:evO l y=some (.bool b'))(hT:(Tryz.prog.info? T).map (·.size)=some 1):
  HO Tryz.prog ⟨none,.store T x y,ty,pos,after,g⟩ Q N l (Hp w0 F (foC c R busy err::m)) (α:=Unit) (fun _=>l) (fun _=>Hp w0 F (foC c R b' err::m)):=by
 have h:=zai (P:=Tryz.prog) (Q:=Q) (N:=N) (w0:=w0) (F:=F) (m:=m) (ty:=ty) (pos:=pos) (after:=after) (g:=g) (cs:=(frA c R busy err).toArray) (E:=119) hok hx hy hT rfl rfl (by have:=zhr c.pb R 0;simp[frA];omega)
 rw[dE,(qf5 hl busy err b' 0).1]at h
 exact h
end
variable{fd:FuncId}{cs:List Value}
theorem zkw(hl:R.length=8){a:Nat}(hi:i<8)(ha:R[i]? =some a){X:Type}(hb:za7 Tryz.prog fd=true)(D:List Eng.Item)(D':X→List Eng.Item)(hsD:∀it∈D,it.Stable none')(hsD':∀x,∀it∈D' x,it.Stable none')(ev:X→Nat)(φ:X→Prop)(rt:X→Nat)(st:X→Pg)
  (hdo:∀w1,(∀it∈tmI (frC c R true err i) (a:Nat) s::D,zbq it w1)→(tmI (frC c R true err i) (a:Nat) s::D).Pairwise Eng.Item.Apart→Ct Tryz.prog fd (.pointer (some ⟨c.b,(frC c R true err i).o,none⟩)::cs).toArray w1 (za4 (tmI (frC c R true err i) (a:Nat) s::D)) (fun x:X=>.int .i64 (ev x:Nat)) φ (fun x=>tmI (frC c R true err i) (rt x:Nat) (st x)::D' x)):
  Cw Tryz.prog 71 #[.pointer (some ⟨c.b,0,none⟩),.int .i64 (i:Nat),.func (.func fd) #[] cs.toArray] (foI c R true err s::D) (fun x:X=>.int .i64 (ev x:Nat)) φ (fun x=>foI c (R.set i (rt x)) true (if err=0∧ev x≠2 then ev x else err) (st x)::D' x):=by
 intro w hw hap
 refine za2 [_,_,_] _ Tryz.func71 rfl rfl hw hap ?_
 simp only[zaa,Nat.reduceAdd]
 refine goA ?_
 refine lPu rfl (fun w1 hw1=>zk9 hi c.b w1) ?_
 refine goA ?_
 refine l_w rfl (qpg (c:=c) (R:=R) (s:=s) rfl (.head _) (zl2 hl true err).1 rfl) ?_
 refine goA ?_
 rw[←qj5 (c:=c) (busy:=true) (err:=err) ha]
 have hst:∀it∈tmI (frC c R true err i) (a:Nat) s::D,it.Stable none':=fun it hm=>by
  rcases aL.1 hm with rfl|hm
  ·exact zad _
  ·exact hsD it hm
 refine zcy (m':=(tmI (frC c R true err i) (a:Nat) s::D)++[]) (fun w' hw'=>by rw[bC,←zik ha];exact hw') ?_
 refine zeh rfl (zx1 (pre:=tmI (frC c R true err i) (a:Nat) s::D) (fs:=[]) (cs:=cs) rfl hb rfl rfl rfl hst (fun w1 hw1 hh1 ha1=>hdo w1 hh1 ha1)) fun⟨x,hx⟩=>?_
 simp only[aF,bC]
 rw[qnx ha]
 have hl':(R.set i (rt x)).length=8:=by rw[bE];exact hl
 obtain⟨ex,hex⟩:∃e,ev x=e:=⟨_,rfl⟩
 rw[hex]
 have hfin:∀it∈foI c (R.set i (rt x)) true (if err=0∧ev x≠2 then ev x else err) (st x)::D' x,it.Stable none':=fun it hm=>by
  rcases aL.1 hm with rfl|hm
  ·exact zad _
  ·exact hsD' x it hm
 refine goA ?_
 refine l_w rfl (qpg (c:=c) (R:=R.set i (rt x)) (s:=st x) rfl (.head _) (zl2 hl' true err).2 rfl) ?_
 refine goA ?_
 by_cases h0:err=0
 ·subst h0
  by_cases h2:ex=2
  ·subst h2
   refine goA ?_
   rw[hex,if_neg (fun h=>h.2 rfl)]at hfin
   exact zbd x rfl rfl (by rw[hex]) hx (by rw[hex,if_neg (fun h=>h.2 rfl)];exact .refl _) (by rw[hex,if_neg (fun h=>h.2 rfl)];exact hfin)
  ·rw[hex,if_pos ⟨rfl,h2⟩]at hfin
   refine goA ?_
   refine zcy (fun w h=>zk7 h) ?_
   unfold foL
   simp only[aF,aJ]
   refine za1 rfl (qhe hl' rfl rfl rfl rfl) fun _=>?_
   refine goA ?_
   refine zbr (m':=foI c (R.set i (rt x)) true ex (st x)::D' x) (fun w hw=>zhe (m:=D' x) hw) ?_
   exact zbd x rfl rfl (by rw[hex]) hx (by rw[hex,if_pos (by simp[h2])];exact .refl _) (by rw[hex,if_pos (by simp[h2])];exact hfin)
 ·rw[if_neg (fun h=>h0 h.1)]at hfin
  refine goA ?_
  exact zbd x rfl rfl (by rw[hex]) hx (by rw[if_neg (fun h=>h0 h.1)];exact .refl _) (by rw[if_neg (fun h=>h0 h.1)];exact hfin)
variable{root':Int}
theorem zzt{c:Tc}{g':Sg}(h:Tok c g s)(root:Int)(key val:K)(hk:key.length=c.sh.kw)(hv:val.length=c.sh.vw)(hl:zoj c.sh c.N key val g root= .ok (root',g'))(b1 b2:Nat):
  Cw Tryz.prog 75 #[.pointer (some ⟨c.t,c.o,none⟩),.pointer (some ⟨b1,0,none⟩),.pointer (some ⟨b2,0,none⟩)] [tmI c root s,pt b1 (.cells #[kV key] 9 (0,0)),pt b2 (.cells #[kV val] 9 (0,0))] (fun _:Pg=>.int .i64 ((0:Nat):Int)) (fun s'=>Tok c g' s') (fun s'=>[tmI c root' s',pt b1 (.cells #[kV key] 9 (0,0)),pt b2 (.cells #[kV val] 9 (0,0))]):=by
 intro w hw ha
 refine za2 [_,_,_] _ Tryz.func75 rfl rfl hw ha ?_
 simp only[zaa,Nat.reduceAdd]
 refine goA ?_
 refine lCu [tmI c root s] rfl (zag _ _ s) (fun w1 hw1 hh1 ha1=>zta h root key val hk hv hl w1 hh1) fun⟨s',hs'⟩=>?_
 simp only[aF,aJ]
 refine goA ?_
 exact zbd s' rfl rfl rfl hs' (.refl _) (by simp[zab,tmI,zad])
theorem qdj{g':Sg}(h:Fok c g s)(hl:R.length=8){a a':Nat}(hi:i<8)(ha:R[i]? =some a)(key val:K)(hk:key.length=(fSh i).kw)(hv:val.length=(fSh i).vw)(hp:zoj (fSh i) c.N key val g (a:Nat)= .ok ((a':Nat),g')):
  Cv Tryz.prog 40 #[.pointer (some ⟨c.b,0,none⟩),.int .i64 (i:Nat),kV key,kV val] [foI c R true err s] (fun _:Pg=>.int .i64 0) (fun s'=>Fok c g' s') (fun s'=>[foI c (R.set i a') true err s']):=by
 intro w hw
 refine za2 [_,_,_,_] _ Tryz.func40 rfl rfl hw (.cons (fun _ h=>nomatch h) .nil) ?_
 simp only[zaa,Nat.reduceAdd]
 refine goA ?_
 refine zc9 rfl rfl rfl fun b6 hb6=>?_
 refine goA ?_
 refine zc9 rfl rfl rfl fun b7 hb7=>?_
 refine goA ?_
 refine l_w rfl (zhw rfl) ?_
 refine goA ?_
 refine zay [2,1,0] rfl rfl ?_
 refine lCu ([foI c R true err s,pt b6 (.cells #[kV key] 9 (0,0)),pt b7 (.cells #[kV val] 9 (0,0))]) rfl (by simp[zab,foI,zad]) (fun w1 hw1 hh1 ha1=>zkw hl hi ha (X:=Pg) (cs:=[.pointer (some ⟨b6,0,none⟩),.pointer (some ⟨b7,0,none⟩)]) kQ [pt b6 (.cells #[kV key] 9 (0,0)),pt b7 (.cells #[kV val] 9 (0,0))] (fun _=>[pt b6 (.cells #[kV key] 9 (0,0)),pt b7 (.cells #[kV val] 9 (0,0))]) (by simp[zab]) (by simp[zab]) (fun _=>0) (fun s'=>Tok (frC c R true err i) g' s') (fun _=>a') (fun s'=>s') (fun w2 hh2 ha2=>zzt (h.tok R true err hi) _ key val hk hv hp b6 b7 w2 hh2 ha2) w1 hh1 ha1) fun⟨s',hs'⟩=>?_
 simp only[aF,aJ]
 rw[show(if err=0∧0≠2 then 0 else err)=err by split<;>omega]
 refine goA ?_
 exact zbd s' rfl rfl rfl (Tok.fok hs') (.cons_cons _ (aK _)) (zb3 _ _ _ _ _)
variable{b:Bool}
theorem zzq{c:Tc}{g':Sg}(h:Tok c g s)(root:Int)(key:K)(hk:key.length=c.sh.kw)(hl:zrp c.sh c.N key g root= .ok ((root',b),g'))(b1 b2:Nat):
  Cw Tryz.prog 72 #[.pointer (some ⟨c.t,c.o,none⟩),.pointer (some ⟨b1,0,none⟩),.pointer (some ⟨b2,0,none⟩)] [tmI c root s,pt b1 (.cells #[kV key] 9 (0,0)),pt b2 (.cells #[.bool false] 4 (0,0))] (fun _:Pg=>.int .i64 ((0:Nat):Int)) (fun s'=>Tok c g' s') (fun s'=>[tmI c root' s',pt b1 (.cells #[kV key] 9 (0,0)),pt b2 (.cells #[.bool b] 4 (0,0))]):=by
 intro w hw ha
 refine za2 [_,_,_] _ Tryz.func72 rfl rfl hw ha ?_
 simp only[zaa,Nat.reduceAdd]
 refine goA ?_
 refine lCu [tmI c root s] rfl (zag _ _ s) (fun w1 hw1 hh1 ha1=>qfu h root key hk hl w1 hh1) fun⟨s',hs'⟩=>?_
 simp only[aF,aJ]
 refine goA ?_
 refine za1 rfl (zah (zdf _ _ _ _) (zai rfl rfl rfl rfl rfl rfl sQ)) fun _=>?_
 refine goA ?_
 refine zgf [1,2,0] rfl rfl ?_
 exact zbd s' rfl rfl rfl hs' (.refl _) (by simp[zab,tmI,zad])
theorem zui{g':Sg}(h:Fok c g s)(hl:R.length=8){a a':Nat}(hi:i<8)(ha:R[i]? =some a)(key:K)(hk:key.length=(fSh i).kw)(hp:zrp (fSh i) c.N key g (a:Nat)= .ok (((a':Nat),b),g')):
  Cv Tryz.prog 36 #[.pointer (some ⟨c.b,0,none⟩),.int .i64 (i:Nat),kV key] [foI c R true err s] (fun _:Pg=>.tuple #[.bool b,.int .i64 0]) (fun s'=>Fok c g' s') (fun s'=>[foI c (R.set i a') true err s']):=by
 intro w hw
 refine za2 [_,_,_] _ Tryz.func36 rfl rfl hw (.cons (fun _ h=>nomatch h) .nil) ?_
 simp only[zaa,Nat.reduceAdd]
 refine goA ?_
 refine zc9 rfl rfl rfl fun b5 hb5=>?_
 refine goA ?_
 refine zdg rfl rfl rfl fun b6 hb6=>?_
 refine goA ?_
 refine l_w rfl (zhw rfl) ?_
 refine goA ?_
 refine zay [2,1,0] rfl rfl ?_
 refine lCu ([foI c R true err s,pt b5 (.cells #[kV key] 9 (0,0)),pt b6 (.cells #[.bool false] 4 (0,0))]) rfl (by simp[zab,foI,zad]) (fun w1 hw1 hh1 ha1=>zkw hl hi ha (X:=Pg) (cs:=[.pointer (some ⟨b5,0,none⟩),.pointer (some ⟨b6,0,none⟩)]) kQ [pt b5 (.cells #[kV key] 9 (0,0)),pt b6 (.cells #[.bool false] 4 (0,0))] (fun _=>[pt b5 (.cells #[kV key] 9 (0,0)),pt b6 (.cells #[.bool b] 4 (0,0))]) (by simp[zab]) (by simp[zab]) (fun _=>0) (fun s'=>Tok (frC c R true err i) g' s') (fun _=>a') (fun s'=>s') (fun w2 hh2 ha2=>zzq (h.tok R true err hi) _ key hk hp b5 b6 w2 hh2 ha2) w1 hh1 ha1) fun⟨s',hs'⟩=>?_
 simp only[aF,aJ]
 rw[show(if err=0∧0≠2 then 0 else err)=err by split<;>omega]
 refine goA ?_
 refine za1 rfl (zah (zdf _ _ _ _) (zai rfl rfl rfl rfl rfl rfl sQ)) fun _=>?_
 refine goA ?_
 exact zc1 s' rfl ⟨_,rfl,zb5 rfl mm⟩ rfl rfl (Tok.fok hs') (.cons _ (.cons_cons _ (aK _))) (zb3 _ _ _ _ _)
theorem zzr(h:Fok c g s){a:Nat}(hi:i<8)(ha:R[i]? =some a)(hl:qnd (fSh i) c.N g [] (a:Nat) xs){σ:Type}(D:σ→List Eng.Item)(I:E→σ→Prop)(J:σ→Prop)(s0:σ)(hb:za7 Tryz.prog fd=true)(hst:∀st,∀it∈D st,it.Stable none')(h0:I [] s0)
  (hcall:∀k y st,(k++[y])<+:xs→I k st→∀w,(∀it∈D st,zbq it w)→(D st).Pairwise Eng.Item.Apart→Ct Tryz.prog fd (kV y.1::kV y.2::cs).toArray w (za4 (D st)) (fun x:Bool×σ=>.bool x.1) (fun x=>(x.1=true∧I (k++[y]) x.2)∨(x.1=false∧J x.2)) (fun x=>D x.2)):
  Cw Tryz.prog 41 #[.pointer (some ⟨c.b,0,none⟩),.int .i64 (i:Nat),.func (.func fd) #[] cs.toArray] (foI c R busy err s::D s0) (fun _:Pg×σ=>.int .i64 0) (fun x=>Fok c g x.1∧(I xs x.2∨J x.2)) (fun x=>foI c R busy err x.1::D x.2):=by
 intro w hw hap
 have hs:∀z st,∀it∈foI c R busy err z::D st,it.Stable none':=fun z st it hm=>by
  rcases aL.1 hm with rfl|hm
  ·exact zad _
  ·exact hst st it hm
 have hs0:∀it∈tmI (frC c R busy err i) (a:Nat) s::D s0,it.Stable none':=by rw[←zik ha];exact hs s s0
 refine za2 [_,_,_] _ Tryz.func41 rfl rfl hw hap ?_
 simp only[zaa,Nat.reduceAdd]
 refine goA ?_
 refine lPu rfl (fun w1 hw1=>zk9 hi c.b w1) ?_
 refine goA ?_
 rw[←qj5 (c:=c) (busy:=busy) (err:=err) ha]
 refine zcy (m':=(tmI (frC c R busy err i) (a:Nat) s::D s0)++[]) (fun w' hw'=>by rw[bC,←zik ha];exact hw') ?_
 refine lCu (tmI (frC c R busy err i) (a:Nat) s::D s0) rfl hs0 (fun w1 hw1 hh1 ha1=>qnu (h.tok R busy err hi) _ hl D I J s0 hb hst h0 hcall w1 hh1 ha1) fun⟨⟨s',st⟩,hx⟩=>?_
 have hx:Tok (frC c R busy err i) g s'∧(I xs st∨J st):=hx
 simp only[aF,bC]
 rw[←zik (s:=s') ha]
 refine goA ?_
 exact zbd (s',st) rfl rfl rfl ⟨hx.1.fok,hx.2⟩ (.refl _) (hs s' st)
theorem zpl(n wide:Nat)(hn:n<65536)(h1:1≤wide)(h2:wide≤1000)(w:World):Pu Tryz.prog 32 #[.int .u16 n,.int .i64 wide] w (kV (zpf n wide)):=by
 refine zbn [_,_] Tryz.func32 rfl rfl ?_
 simp only[zaa,Nat.reduceAdd]
 refine goA ?_
 refine za1 rfl (qon rfl rfl rfl rfl rfl oQ) fun⟨b1,hb1⟩=>?_
 refine goA ?_
 refine zc0 (α:=Nat) (fun i=>[(0,.int .u16 (n:Int)),(1,.int .i64 (wide:Int)),(5,.slice (some ⟨b1,0,none⟩) wide wide),(6,.int .i64 (i:Nat))]) (fun i=>i≤wide) (fun i=>[pt b1 (.cells (bsN (fun j=>if j<i then txN n j else 0) wide).toArray 5 (0,0))]) (fun i=>wide - i) 0 ⟨rfl,rfl,rfl,rfl,trivial⟩ (aZ _) (fun w' hw'=>by
   have e:zds (.int .u8 0) (wide*1)=bsN (fun j=>if j<0 then txN n j else 0) wide:=by
    rw[zds,bO]
    exact cT fun j _=>by rw[show(Value.int IntKind.u8 0).cells.size=1 from rfl,lK];rfl
   rw[←e];exact hw') fun i hi=>?_
 by_cases hlt:i<wide
 ·refine goA ?_
  refine l_w rfl (qs6 rfl rfl rfl) ?_
  refine goA ?_
  refine l_w rfl (qs6 rfl rfl rfl) ?_
  refine goA ?_
  refine l_w rfl (qu4 rfl rfl) ?_
  refine goA ?_
  refine za1 rfl (zai rfl rfl rfl rfl rfl rfl (by rw[aI,zzj];omega)) fun _=>?_
  rw[aH,dE,zzk]
  refine goA ?_
  exact zaw (i+1) ⟨rfl,rfl,rfl,rfl,trivial⟩ hlt (fun w' hw'=>by
   have e:(fun j=>if j=i then(n%256+7*i%256)%256 else if j<i then txN n j else 0)=fun j=>if j<i+1 then txN n j else 0:=by
    funext j
    by_cases h3:j=i
    ·subst h3;rw[if_pos rfl,if_pos oQ];rfl
    ·rw[if_neg h3]
     by_cases h4:j<i
     ·rw[if_pos h4,if_pos oQ]
     ·rw[if_neg h4,if_neg oQ]
   rw[←e];exact hw') oQ
 ·obtain rfl:i=wide:=oQ
  refine goA ?_
  refine za1 rfl (zai rfl rfl rfl rfl rfl rfl (by rw[aI,zzj];omega)) fun _=>?_
  rw[aH,dE,zzk]
  by_cases h2:1<i
  ·refine goA ?_
   refine l_w rfl (qs6 rfl rfl rfl) ?_
   refine goA ?_
   refine za1 rfl (zai rfl rfl rfl rfl rfl rfl (by rw[aI,zzj];omega)) fun _=>?_
   rw[aH,dE,zzk]
   have e:bsN (fun j=>if j=1 then n%256 else if j=0 then n/2^8 else if j<i then txN n j else 0) i=zae (zpf n i):=by
    rw[←zwv]
    refine cT fun j hj=>?_
    have:=dL.1 hj
    show Value.int .u8 ((if j=1 then n%256 else if j=0 then n/2^8 else if j<i then txN n j else 0:Nat):Int)= .int .u8 ((if j=1 then n%256 else if j=0 then n/256%256 else txN n j:Nat):Int)
    rw[if_pos this,show n/2^8=n/256 from rfl,bD (show n/256<256 by omega)]
   rw[e]
   refine goA ?_
   refine l_w rfl (ztt (bs:=zpf n i) rfl (zgk n i).symm rfl rfl (fun w' hw'=>.inr ⟨b1,0,rfl,zbf (hw'.get (b:=b1) (.head _))⟩)) ?_
   refine goA ?_
   exact zdk rfl rfl rfl
  ·obtain rfl:i=1:=oQ
   have e:bsN (fun j=>if j=0 then n/2^8 else if j<1 then txN n j else 0) 1=zae (zpf n 1):=by
    rw[←zwv]
    refine cT fun j hj=>?_
    obtain rfl:j=0:=by have:=dL.1 hj;omega
    show Value.int .u8 ((n/256:Nat):Int)= .int .u8 ((n/256%256:Nat):Int)
    rw[bD (show n/256<256 by omega)]
   rw[e]
   refine goA ?_
   refine l_w rfl (ztt (bs:=zpf n 1) rfl (zgk n 1).symm rfl rfl (fun w' hw'=>.inr ⟨b1,0,rfl,zbf (hw'.get (b:=b1) (.head _))⟩)) ?_
   refine goA ?_
   exact zdk rfl rfl rfl
theorem qt6(hi:i<8)(w:World):Pu Tryz.prog 29 #[.int .i64 (i:Nat)] w (.int .i64 ((fSh i).kw:Int)):=by
 refine zbn [_] Tryz.func29 rfl rfl ?_
 simp only[zaa]
 refine goA ?_
 refine l_w rfl (zks rfl rfl rfl rfl rfl) ?_
 refine goA ?_
 refine l_w rfl (qis (i:=i) (v:=.int .i64 ((fSh i).kw:Int)) rfl rfl rfl rfl rfl hi (by
  match i,hi with
  |0,_|1,_|2,_|3,_|4,_|5,_|6,_|7,_=>rfl)) ?_
 refine goA ?_
 exact zdk rfl rfl rfl
theorem quf(hi:i<8)(w:World):Pu Tryz.prog 30 #[.int .i64 (i:Nat)] w (.int .i64 ((fSh i).vw:Int)):=by
 refine zbn [_] Tryz.func30 rfl rfl ?_
 simp only[zaa]
 refine goA ?_
 refine l_w rfl (zks rfl rfl rfl rfl rfl) ?_
 refine goA ?_
 refine l_w rfl (qis (i:=i) (v:=.int .i64 ((fSh i).vw:Int)) rfl rfl rfl rfl rfl hi (by
  match i,hi with
  |0,_|1,_|2,_|3,_|4,_|5,_|6,_|7,_=>rfl)) ?_
 refine goA ?_
 exact zdk rfl rfl rfl
structure S11 where
 d:Nat
 t:Nat
 k:Nat
 v:Nat
def S11.vs(x:S11):List Value:=[.int .u8 x.d,.int .u8 x.t,.int .u16 x.k,.int .u16 x.v]
theorem S11.sz(x:S11):x.vs.length=4:=rfl
structure S11.Ok (x:S11):Prop where
 d:x.d<256
 t:x.t<256
 k:x.k<65536
 v:x.v<65536
abbrev S11.ti(x:S11):Nat:=x.t%8
abbrev S11.key(x:S11):K:=zpf x.k (fSh x.ti).kw
abbrev S11.val(x:S11):K:=zpf x.v (fSh x.ti).vw
theorem qvb(h:i<8):1≤(fSh i).kw∧(fSh i).kw≤1000∧1≤(fSh i).vw∧(fSh i).vw≤1000:=by
 match i,h with
 |0,_|1,_|2,_|3,_|4,_|5,_|6,_|7,_=>decide
theorem zj2(x:S11)(h:x.Ok)(w:World):Ct Tryz.prog 93 #[.agg x.vs.toArray] w none' (fun _:Unit=>kV x.key) (fun _=>True) (fun _=>[]):=by
 obtain⟨d,t,k,v⟩:=x
 obtain⟨h1,h2,h3,h4⟩:=h
 dsimp only at h1 h2 h3 h4
 have hi:t%8<8:=dY _ dQ
 obtain⟨w1,w2,w3,w4⟩:=qvb hi
 refine zes [_] Tryz.func93 rfl rfl ?_
 simp only[zaa]
 unfold S11.vs
 dsimp only
 refine goA ?_
 refine zbp rfl rfl fun b1 hb1=>?_
 refine goA ?_
 refine ziv [pt b1 _] 99 ?_
 refine goP ?_
 refine dPF 6 (fun w _=>qt6 hi w) ?_
 refine dPF 7 (fun w _=>zpl k _ h3 w1 w2 w) ?_
 refine goQ ?_
 exact xC () trivial
theorem ztx(x:S11)(h:x.Ok)(w:World):Ct Tryz.prog 96 #[.agg x.vs.toArray] w none' (fun _:Unit=>kV x.val) (fun _=>True) (fun _=>[]):=by
 obtain⟨d,t,k,v⟩:=x
 obtain⟨h1,h2,h3,h4⟩:=h
 dsimp only at h1 h2 h3 h4
 have hi:t%8<8:=dY _ dQ
 obtain⟨w1,w2,w3,w4⟩:=qvb hi
 refine zes [_] Tryz.func96 rfl rfl ?_
 simp only[zaa]
 unfold S11.vs
 dsimp only
 refine goA ?_
 refine zbp rfl rfl fun b1 hb1=>?_
 refine goA ?_
 refine ziv [pt b1 _] 99 ?_
 refine goP ?_
 refine dPF 6 (fun w _=>quf hi w) ?_
 refine dPF 7 (fun w _=>zpl v _ h4 w3 w4 w) ?_
 refine goQ ?_
 exact xC () trivial
end Go.Proofs.YthafakdplhdfjaaGreatDoor
