/- tree: From, Each. Own work; no condition. -/
/- law 10: the document's map. Own work; no condition. -/
/- law 10: the document's map: Delete, Put. Own work; no condition. -/
/- law 10: Shape, Text, Great. Own work; no condition. -/
/- law 10: a tree beside a map: what acts make of both, plain. Own work; no condition. -/
/- law 10: Begins, Does. Own work; no condition. -/
/- law 10: Does. Own work; no condition. -/
/- law 10: Same, wakes. Own work; no condition. -/
/- law 10: wakes; the play. Own work; no condition. -/
/- law 10: TreePlays. Own work; no condition. -/
/- law 10: TreeHolds: how many pages are used. Own work; no condition. -/
/- law 10: TreeHolds. Own work; no condition. -/
import Derived.Test.YtkkfifhaobjicaaGreatDoorHc13
import Derived.Test.YtkkfifhaobjicaaGreatDoorHc12
namespace Go.Eng
open Go.RowKit
section
variable {P : Program} {w0 : World} {F : Nat → Prop} {m : List Item} {l : zaq} {H : World → Prop}
theorem qqm {n : Nat} {fn : Func} {R : Ending → World → Prop} {a1 a2 a3 a4 : Tmp} {b1 b2 b3 b4 : TypeId} {v u t s : Value} (hf : fn.results = #[.cell a1 b1, .cell a2 b2, .cell a3 b3, .cell a4 b4]) (h1 : zfi P l H (.cell a1 b1) v) (h2 : zfi P l H (.cell a2 b2) u) (h3 : zfi P l H (.cell a3 b3) t) (h4 : zfi P l H (.cell a4 b4) s) (h : ∀ w, H w → R (.returned (.tuple #[v, u, t, s])) w) : HX (bodyPost P fn R) .ret ⟨n, [], none⟩ l H := by
 unfold HX
 intro a w st hw
 obtain ⟨x1, y1, e1⟩ := zea h1 st hw
 obtain ⟨x2, y2, e2⟩ := zea h2 st hw
 obtain ⟨x3, y3, e3⟩ := zea h3 st hw
 obtain ⟨x4, y4, e4⟩ := zea h4 st hw
 refine bodyPost_ret (v := .tuple #[v, u, t, s]) ?_ st.defers (h w hw)
 simp [results, hf, asAddr, y1, y2, y3, y4, e1, e2, e3, e4]
theorem qn1 {n : Nat} {fn : Func} {a1 a2 a3 a4 : Tmp} {b1 b2 b3 b4 : TypeId} {α : Type} {val : α → Value} {φ : α → Prop} {its : α → List Item} {u t v s : Value} (x : α) (hf : fn.results = #[.cell a1 b1, .cell a2 b2, .cell a3 b3, .cell a4 b4]) (h1 : zfi P l (Hp w0 F m) (.cell a1 b1) u) (h2 : zfi P l (Hp w0 F m) (.cell a2 b2) t) (h3 : zfi P l (Hp w0 F m) (.cell a3 b3) v) (h4 : zfi P l (Hp w0 F m) (.cell a4 b4) s) (e : .tuple #[u, t, v, s] = val x) (hφ : φ x) (hs : (its x).Sublist m) (hst : ∀ it ∈ its x, it.Stable none') : HX (bodyPost P fn (zk5 w0 F val φ its)) .ret ⟨n, [], none⟩ l (Hp w0 F m) :=
 qqm hf h1 h2 h3 h4 fun w hw => ⟨x, by rw [e], hφ, hw.its hs hst⟩
end
end Go.Eng
namespace Go.Proofs.YtkkfifhaobjicaaGreatDoor
open Go.RowKit Go.Eng Go.Eng.Bm Go.Eng.Tr
set_option maxRecDepth 100000
set_option maxHeartbeats 40000000
def qqy (s : Sh) (N : Nat) (g : Sg) (f : K) (root : Int) (xs : E) : Prop := (root = 0 ∧ xs = []) ∨ ∃ at_ : Nat, root = (at_ : Int) ∧ at_ ≠ 0 ∧ qod s N g f 16 at_ xs
def frP (key : K) (also : Bool) (y : K × K) : Bool := decide (y.1 ≠ key) || also
def frV (r : Option (K × K)) : Value := .tuple #[kV ((r.map (·.1)).getD []), kV ((r.map (·.2)).getD []), .bool r.isSome, .int .i64 0]
def frB (b6 b7 b8 b9 b4 b5 : Nat) (key : K) (also : Bool) (r : Option (K × K)) : List Eng.Item := [pt b6 (.cells #[kV ((r.map (·.1)).getD [])] 9 (0, 0)), pt b7 (.cells #[kV ((r.map (·.2)).getD [])] 9 (0, 0)), pt b8 (.cells #[.bool r.isSome] 4 (0, 0)), pt b9 (.cells #[.int .i64 0] 33 (0, 0)), pt b4 (.cells #[kV key] 9 (0, 0)), pt b5 (.cells #[.bool also] 4 (0, 0))]
theorem zr8 {α : Type} (A B C : List α) : (A ++ (B ++ C)).Perm (B ++ ((A ++ C) ++ [])) := by
 rw [bA, ← aH, ← aH]
 exact dW.append_right _
theorem from_ok' {c : Tc} {g : Sg} {s : Pg} (h : Tok c g s) (root : Int) (key : K) (also : Bool) (hk : key.length ≤ 1000000) {xs : E} (hl : qqy c.sh c.N g key root xs) (w : World) (hw : ∀ it ∈ [tmI c root s], za1 it w) :
  Ct Tryz.prog 25 #[.pointer (some ⟨c.t, 0, none⟩), kV key, .bool also] w (zan [tmI c root s]) (fun _ : Pg => frV (xs.find? (frP key also))) (fun s' => Tok c g s') (fun s' => [tmI c root s']) := by
 refine qev [_, _, _] _ Tryz.func25 rfl rfl hw (.cons (fun _ h => nomatch h) .nil) ?_
 simp only [zaa, Nat.reduceAdd]
 refine goA ?_
 refine zd3 rfl rfl rfl fun b4 hb4 => ?_
 refine zd3 rfl rfl rfl fun b5 hb5 => ?_
 refine zed rfl rfl rfl fun b6 hb6 => ?_
 refine zed rfl rfl rfl fun b7 hb7 => ?_
 refine zed rfl rfl rfl fun b8 hb8 => ?_
 refine zed rfl rfl rfl fun b9 hb9 => ?_
 refine goA ?_
 refine zml (xs := [.tmp 9]) rfl rfl ?_
 refine goA ?_
 refine lPu rfl (fun w1 hw1 => zjy h root w1 (za1.of (hw1.item (tmI c root s) mm) (zad _))) ?_
 refine goA ?_
 refine l_w rfl (zd0 rfl mm) ?_
 refine goA ?_
 rcases hl with ⟨rfl, rfl⟩ | ⟨at_, rfl, h0, hA⟩
 ·refine goA ?_
  refine zaz rfl (zai (zdl _ _ _ _ _) (zah rfl rfl rfl rfl rfl rfl sQ)) fun _ => ?_
  refine zaz rfl (zai (zdl _ _ _ _ _) (zah rfl rfl rfl rfl rfl rfl sQ)) fun _ => ?_
  refine zaz rfl (zai (zdl _ _ _ _ _) (zah rfl rfl rfl rfl rfl rfl sQ)) fun _ => ?_
  refine zaz rfl (zai (zdl _ _ _ _ _) (zah rfl rfl rfl rfl rfl rfl sQ)) fun _ => ?_
  refine goA ?_
  refine zm9 kQ (fun w hw => zdz _ w) (zjf ?_)
  exact qn1 s rfl ⟨_, rfl, za8 rfl mm⟩ ⟨_, rfl, za8 rfl mm⟩ ⟨_, rfl, za8 rfl mm⟩ ⟨_, rfl, za8 rfl mm⟩ rfl h (.cons _ (.cons _ (.cons _ (.cons _ (.cons _ (.cons _ (.refl _))))))) (zae _ _ _)
 ·refine goA ?_
  refine zde [3, 2, 1, 0, 5, 4, 6] rfl rfl ?_
  refine zao [0, 1, 2, 3, 4, 5, 6] 6 rfl rfl kQ ?_
  refine goE ?_
  refine goV rfl rfl (zd0 rfl mm) ?_
  refine goE ?_
  refine zdm ⟨kQ, kQ⟩ rfl rfl (qdy (xs := [.tmp 19, .tmp 23, .const (.int .i64 16), .tmp 24]) rfl kQ rfl (fun w1 hw1 => zl8 c at_ 16 key w1)) fun ⟨x, _⟩ => ?_
  dsimp only
  refine goA ?_
  refine zsp (m' := frB b6 b7 b8 b9 b4 b5 key also none ++ ((qea x c at_ 16 key ++ [tmI c at_ s]) ++ [])) (zr8 (qea x c at_ 16 key) (frB b6 b7 b8 b9 b4 b5 key also none) [tmI c at_ s]) ?_
  refine zuk (frB b6 b7 b8 b9 b4 b5 key also) (fun k r => r = none ∧ ∀ y ∈ k, frP key also y = false) (fun e r => e = .ret ∧ ∃ y, r = some y ∧ xs.find? (frP key also) = some y) none rfl rfl kQ (zz0 c at_ g key 16 at_ xs s x oQ h hA) (fun _ => rfl) dQ (fun r => by simp [frB, zac]) (fun it hm => by
   rcases aS.1 hm with hm | hm
   ·exact zhw _ _ _ _ _ it hm
   ·exact zae _ _ _ it hm) ⟨rfl, fun _ h => nomatch h⟩ ?_ ?_ ?_
  ·rintro ly rc k y r W hx ⟨rfl, hk1⟩
   simp only [znk, gJ, iD, frB]
   refine goA ?_
   refine qkf ?_
   refine goA ?_
   refine zcr 28 _ (.string (kB y.1)) rfl rfl ?_
   refine zcr 29 _ (.string (kB key)) rfl rfl ?_
   refine goA ?_
   rw [show seq (kB y.1) (kB key) = decide (y.1 = key) from zkr y.1 key]
   cases hb : frP key also y with
   | false =>
    obtain ⟨he, rfl⟩ : y.1 = key ∧ also = false := by simpa [frP] using hb
    rw [decide_eq_true he]
    refine goA ?_
    exact znv .normal none rfl none ⟨rfl, fun z hz => by
     rcases aS.1 hz with hz | hz
     ·exact hk1 z hz
     ·rw [aL.1 hz]; exact hb⟩ (.refl _) (by simp [frB, zac])
   | true =>
    have hfind : xs.find? (frP key also) = some y := by
     obtain ⟨r, hr⟩ := hx
     rw [← hr, aH, gS, dP.2 (fun z hz => by rw [hk1 z hz]; exact bF), Option.none_or]
     show (y :: r).find? _ = _
     rw [gI hb]
    by_cases he : y.1 = key
    ·obtain rfl : also = true := by simpa [frP, he] using hb
     rw [decide_eq_true he]
     refine goA ?_
     refine zaz rfl (zai (zce _ _ _) (zah rfl rfl rfl rfl rfl rfl sQ)) fun _ => ?_
     refine zaz rfl (zai (zda _ _ _ _) (zah rfl rfl rfl rfl rfl rfl sQ)) fun _ => ?_
     refine zaz rfl (zai (zdl _ _ _ _ _) (zah rfl rfl rfl rfl rfl rfl sQ)) fun _ => ?_
     refine zaz rfl (zai (zg1 _ _ _ _ _ _) (zah rfl rfl rfl rfl rfl rfl sQ)) fun _ => ?_
     refine goA ?_
     refine zec [4, 3, 2, 1, 0, 5, 6] rfl rfl ?_
     exact znv .ret (some .ret) rfl (some y) ⟨rfl, y, rfl, hfind⟩ (.refl _) (by simp [frB, zac])
    ·rw [decide_eq_false he]
     refine goA ?_
     refine zaz rfl (zai (zce _ _ _) (zah rfl rfl rfl rfl rfl rfl sQ)) fun _ => ?_
     refine zaz rfl (zai (zda _ _ _ _) (zah rfl rfl rfl rfl rfl rfl sQ)) fun _ => ?_
     refine zaz rfl (zai (zdl _ _ _ _ _) (zah rfl rfl rfl rfl rfl rfl sQ)) fun _ => ?_
     refine zaz rfl (zai (zg1 _ _ _ _ _ _) (zah rfl rfl rfl rfl rfl rfl sQ)) fun _ => ?_
     refine goA ?_
     refine zec [4, 3, 2, 1, 0, 5, 6] rfl rfl ?_
     exact znv .ret (some .ret) rfl (some y) ⟨rfl, y, rfl, hfind⟩ (.refl _) (by simp [frB, zac])
  ·rintro D k r z hz rfl ⟨rfl, hk1⟩
   simp only [frB, aE, aI]
   refine goA ?_
   refine zaz rfl (zai (zce _ _ _) (zah rfl rfl rfl rfl rfl rfl sQ)) fun _ => ?_
   refine zaz rfl (zai (zda _ _ _ _) (zah rfl rfl rfl rfl rfl rfl sQ)) fun _ => ?_
   refine zaz rfl (zai (zdl _ _ _ _ _) (zah rfl rfl rfl rfl rfl rfl sQ)) fun _ => ?_
   refine zaz rfl (zai (zg1 _ _ _ _ _ _) (zah rfl rfl rfl rfl rfl rfl sQ)) fun _ => ?_
   refine goA ?_
   refine zec [4, 0, 1, 2, 3, 5, 6, 7] rfl rfl ?_
   refine zuv (zm9 kQ (fun w hw => zdz _ w) (zjf ?_))
   have hn : k.find? (frP key also) = none := dP.2 fun y hy => by rw [hk1 y hy]; exact bF
   rw [hn]
   exact qn1 z rfl ⟨_, rfl, za8 rfl mm⟩ ⟨_, rfl, za8 rfl mm⟩ ⟨_, rfl, za8 rfl mm⟩ ⟨_, rfl, za8 rfl mm⟩ rfl hz (.cons _ (.cons _ (.cons _ (.cons _ (.cons _ (.cons _ (.refl _))))))) (zae _ _ _)
  ·rintro D e r z hz ⟨rfl, y, rfl, hf⟩
   simp only [frB, aE, aI]
   refine goA ?_
   refine zuv (zm9 kQ (fun w hw => zdz _ w) (zjf ?_))
   rw [hf]
   exact qn1 z rfl ⟨_, rfl, za8 rfl mm⟩ ⟨_, rfl, za8 rfl mm⟩ ⟨_, rfl, za8 rfl mm⟩ ⟨_, rfl, za8 rfl mm⟩ rfl hz (.cons _ (.cons _ (.cons _ (.cons _ (.cons _ (.cons _ (.refl _))))))) (zae _ _ _)
theorem ql6 {c : Tc} {g : Sg} {s : Pg} (h : Tok c g s) (root : Int) {xs : E} (hl : qqy c.sh c.N g [] root xs) {σ : Type} (D : σ → List Eng.Item) (I : E → σ → Prop) (J : σ → Prop) (s0 : σ) {fd : FuncId} {cs : List Value} (hb : zbu Tryz.prog fd = true) (hst : ∀ st, ∀ it ∈ D st, it.Stable none') (h0 : I [] s0)
  (hcall : ∀ k y st, (k ++ [y]) <+: xs → I k st → ∀ w, (∀ it ∈ D st, za1 it w) → (D st).Pairwise Eng.Item.Apart → Ct Tryz.prog fd (kV y.1 :: kV y.2 :: cs).toArray w (zan (D st)) (fun x : Bool × σ => .bool x.1) (fun x => (x.1 = true ∧ I (k ++ [y]) x.2) ∨ (x.1 = false ∧ J x.2)) (fun x => D x.2))
  (w : World) (hw : ∀ it ∈ tmI c root s :: D s0, za1 it w) (ha : (tmI c root s :: D s0).Pairwise Eng.Item.Apart) :
  Ct Tryz.prog 28 #[.pointer (some ⟨c.t, 0, none⟩), .func (.func fd) #[] cs.toArray] w (zan (tmI c root s :: D s0)) (fun _ : Pg × σ => .int .i64 0) (fun x => Tok c g x.1 ∧ (I xs x.2 ∨ J x.2)) (fun x => tmI c root x.1 :: D x.2) := by
 have hst2 : ∀ s' st, ∀ it ∈ tmI c root s' :: D st, it.Stable none' := by
  intro s' st it hm
  rcases hm with _ | ⟨_, hm⟩
  ·exact zad _
  ·exact hst st it hm
 refine qev [_, _] _ Tryz.func28 rfl rfl hw ha ?_
 simp only [zaa, Nat.reduceAdd]
 refine goA ?_
 refine zd3 rfl rfl rfl fun b3 hb3 => ?_
 refine zed rfl rfl rfl fun b4 hb4 => ?_
 refine goA ?_
 refine zml (xs := [.tmp 4]) rfl rfl ?_
 refine goA ?_
 refine l_w rfl (zsv (v' := .bool true) (ov fun _ _ _ _ _ => rfl) rfl) ?_
 refine goA ?_
 refine lPu rfl (fun w1 hw1 => zej _ w1) ?_
 refine goA ?_
 refine lPu rfl (fun w1 hw1 => zjy h root w1 (za1.of (hw1.item (tmI c root s) mm) (zad _))) ?_
 refine goA ?_
 refine l_w rfl (zd0 rfl mm) ?_
 refine goA ?_
 rcases hl with ⟨rfl, rfl⟩ | ⟨at_, rfl, hn0, hA⟩
 ·refine goA ?_
  refine zaz rfl (zah rfl rfl rfl rfl rfl rfl sQ) fun _ => ?_
  refine goA ?_
  refine zm9 kQ (fun w hw => zdz _ w) (zjf ?_)
  exact zbs (s, s0) rfl ⟨_, rfl, za8 rfl mm⟩ rfl ⟨h, .inl h0⟩ (.cons _ (.cons _ (.refl _))) (hst2 _ _)
 ·refine goA ?_
  refine l_w rfl (zd0 rfl mm) ?_
  refine goA ?_
  refine ze7 rfl rfl kQ rfl (fun w1 hw1 => zl8 c at_ 16 [] w1) fun x hx => ?_
  refine goA ?_
  refine zsp (m' := ([pt b3 (.cells #[.func (.func fd) #[] cs.toArray] 78 (0, 0)), pt b4 (.cells #[.int .i64 0] 33 (0, 0))] ++ D s0) ++ ((qea x c at_ 16 [] ++ [tmI c at_ s]) ++ [])) ?_ ?_
  ·exact (cV _ ((List.Perm.swap _ _ _).trans (.cons _ (.cons _ (gW _ _).symm)))).trans (zr8 (qea x c at_ 16 []) (pt b3 (.cells #[.func (.func fd) #[] cs.toArray] 78 (0, 0)) :: pt b4 (.cells #[.int .i64 0] 33 (0, 0)) :: D s0) [tmI c at_ s])
  refine zuk (fun st => [pt b3 (.cells #[.func (.func fd) #[] cs.toArray] 78 (0, 0)), pt b4 (.cells #[.int .i64 0] 33 (0, 0))] ++ D st) I (fun e st => e = .exit 0 ∧ J st) s0 rfl rfl kQ (zz0 c at_ g [] 16 at_ xs s x oQ h hA) (fun _ => rfl) dQ (fun st it hm => by
   rcases aS.1 hm with hm | hm
   ·have : ∀ it ∈ [pt b3 (.cells #[.func (.func fd) #[] cs.toArray] 78 (0, 0)), pt b4 (.cells #[.int .i64 0] 33 (0, 0))], it.Stable none' := by simp [zac]
    exact this it hm
   ·exact hst st it hm) (fun it hm => by
   rcases aS.1 hm with hm | hm
   ·exact zhw _ _ _ _ _ it hm
   ·exact zae _ _ _ it hm) h0 ?_ ?_ ?_
  ·rintro ly rc k y st W hx hk1
   simp only [znk, gJ, iD, aE, aI]
   refine goA ?_
   refine qkf ?_
   refine goA ?_
   refine zj8 (dW (l₁ := [_, _, _]) (l₂ := D st)) ?_
   refine zgt rfl (qjk (pre := D st) (fs := []) (cs := cs) (xs := [.tmp 26, .tmp 27]) rfl hb rfl rfl rfl (hst st) (fun w1 hw1 hh1 ha1 => hcall k y st hx hk1 w1 hh1 ha1)) fun ⟨⟨b, st1⟩, hR⟩ => ?_
   simp only at hR ⊢
   refine zj8 (dW (l₁ := D st1) (l₂ := [_, _, _])) ?_
   have hstB : ∀ it ∈ [pt b3 (.cells #[.func (.func fd) #[] cs.toArray] 78 (0, 0)), pt b4 (.cells #[.int .i64 0] 33 (0, 0))] ++ D st1, it.Stable none' := fun it hm => by
    rcases aS.1 hm with hm | hm
    ·have : ∀ it ∈ [pt b3 (.cells #[.func (.func fd) #[] cs.toArray] 78 (0, 0)), pt b4 (.cells #[.int .i64 0] 33 (0, 0))], it.Stable none' := by simp [zac]
     exact this it hm
    ·exact hst st1 it hm
   rcases hR with ⟨rfl, h8⟩ | ⟨rfl, h8⟩
   ·refine goA ?_
    exact znv .normal none rfl st1 h8 (.refl _) hstB
   ·refine goA ?_
    exact znv (.exit 0) (some (.exit 0)) rfl st1 ⟨rfl, h8⟩ (.refl _) hstB
  ·rintro D' k st z hz rfl hk1
   simp only [aE, aI, bA]
   refine zb3 (fun w' hw' => hw'.perm (.cons _ (.cons _ (.cons _ (gW _ _))))) ?_
   refine goA ?_
   refine zaz rfl (zai (zda _ _ _ _) (zah rfl rfl rfl rfl rfl rfl sQ)) fun _ => ?_
   refine goA ?_
   refine zb3 (fun w' hw' => hw'.perm (.swap _ _ _)) ?_
   refine zuv (zm9 kQ (fun w hw => zdz _ w) (zjf ?_))
   exact zbs (z, st) rfl ⟨_, rfl, za8 rfl mm⟩ rfl ⟨hz, .inl hk1⟩ (.cons _ (.cons _ (.refl _))) (hst2 _ _)
  ·rintro D' e st z hz ⟨rfl, hJ⟩
   simp only [aE, aI, bA]
   refine zsp (.cons _ (.cons _ (.cons _ (gW _ _)))) ?_
   refine goA ?_
   refine zaz rfl (zai (zda _ _ _ _) (zah rfl rfl rfl rfl rfl rfl sQ)) fun _ => ?_
   refine goA ?_
   refine zb3 (fun w' hw' => hw'.perm (.swap _ _ _)) ?_
   refine zuv (zm9 kQ (fun w hw => zdz _ w) (zjf ?_))
   exact zbs (z, st) rfl ⟨_, rfl, za8 rfl mm⟩ rfl ⟨hz, .inr hJ⟩ (.cons _ (.cons _ (.refl _))) (hst2 _ _)
end Go.Proofs.YtkkfifhaobjicaaGreatDoor
namespace Go.Eng
open Go.RowKit
theorem qn4 {P : Program} {w0 : World} {m : List Item} {l : zaq} {n : Nat} {fn : Func} {r q p : ResultVar} {u t v z : Value} (hf : fn.results = #[r, q, p]) (h1 : zfi P l (Hp w0 none' m) r u) (h2 : zfi P l (Hp w0 none' m) q t) (h3 : zfi P l (Hp w0 none' m) p v) (e : z = .tuple #[u, t, v]) : HX (bodyPost P fn (zr9 w0 z)) .ret ⟨n, [], none⟩ l (Hp w0 none' m) :=
 qlm hf h1 h2 h3 fun _ hw => ⟨by rw [e], hw.fr⟩
end Go.Eng
namespace Go.Proofs.YtkkfifhaobjicaaGreatDoor
open Go.RowKit Go.Eng Go.Eng.Bm Go.Eng.Tr
set_option maxRecDepth 100000
set_option maxHeartbeats 40000000
abbrev Om := Option (Nat × Nat) × Option (Nat × Nat)
def dmC (o : Om) (e : E) : Array Value := #[slV o.1 e.length, slV o.2 e.length]
def dmV (o : Om) (e : E) : Value := .agg (dmC o e)
def dmI (o : Om) (e : E) : List Eng.Item := [own 9 1 o.1 e.length (e.map fun y => kV y.1), own 9 1 o.2 e.length (e.map fun y => kV y.2)]
theorem zff (o : Om) (e : E) : ∀ it ∈ dmI o e, it.Stable none' := by simp [dmI, zab]
def DmR (w : World) (o : Om) (e : E) : Prop := ∀ it ∈ dmI o e, za1 it w
theorem DmR.k {w : World} {o : Om} {e : E} (h : DmR w o e) : (own 9 1 o.1 e.length (e.map fun y => kV y.1)).prop w := (h _ (.head _)).1
theorem DmR.v {w : World} {o : Om} {e : E} (h : DmR w o e) : (own 9 1 o.2 e.length (e.map fun y => kV y.2)).prop w := (h _ (.tail _ (.head _))).1
theorem DmR.keep {w w0 : World} {m : List Eng.Item} {o : Om} {e : E} (h : DmR w0 o e) (hw : Hp w0 none' m w) : DmR w o e := fun it hm => (h it hm).keep hw
theorem DmR.kat {w w0 : World} {m : List Eng.Item} {b c : Nat} {o2 : Option (Nat × Nat)} {e : E} (h : DmR w0 (some (b, c), o2) e) (hw : Hp w0 none' m w) {i : Nat} {y : K × K} (hy : e[i]? = some y) : w.cell? ⟨b, i, none⟩ = some (kV y.1) :=
 zbm (h.keep hw).k _ _ (by rw [aN, hy]; rfl)
theorem DmR.vat {w w0 : World} {m : List Eng.Item} {b c : Nat} {o1 : Option (Nat × Nat)} {e : E} (h : DmR w0 (o1, some (b, c)) e) (hw : Hp w0 none' m w) {i : Nat} {y : K × K} (hy : e[i]? = some y) : w.cell? ⟨b, i, none⟩ = some (kV y.2) :=
 zbm (h.keep hw).v _ _ (by rw [aN, hy]; rfl)
theorem qml {e : E} {k : K} {i : Nat} {y : K × K} (h : e[i]? = some y) (hi : i ≤ lb (keys e) k) : (kl y.1 k → i + 1 ≤ lb (keys e) k) ∧ (¬ kl y.1 k → i = lb (keys e) k) := by
 induction e generalizing i with
 | nil => simp at h
 | cons p r ih =>
  by_cases hp : kl p.1 k
  ·have hl := zmn (r := r) hp
   cases i with
   | zero =>
    obtain rfl : p = y := by simpa using h
    exact ⟨fun _ => oQ, fun hn => absurd hp hn⟩
   | succ i =>
    have := ih (i := i) (by simpa using h) oQ
    exact ⟨fun h1 => by have := this.1 h1; omega, fun h1 => by have := this.2 h1; omega⟩
  ·have hl := zmm (r := r) hp
   obtain rfl : i = 0 := oQ
   obtain rfl : p = y := by simpa using h
   exact ⟨fun h1 => absurd h1 hp, fun _ => oQ⟩
theorem zi3 (o : Om) (e : E) (key : K) (hb : e.length ≤ 1000000) (w : World) (hr : DmR w o e) : Pu Tryz.prog 48 #[dmV o e, kV key] w (.int .i64 (lb (keys e) key : Nat)) := by
 have hl : lb (keys e) key ≤ e.length := by have := zvy (keys e) key; rwa [keys, aG] at this
 refine zbh [_, _] Tryz.func48 rfl rfl ?_
 obtain ⟨o1, o2⟩ := o
 unfold dmV dmC
 rw [(zas hr.k).1, (zas hr.v).1]
 simp only [zaa, Nat.reduceAdd]
 refine goA ?_
 refine zbt rfl rfl fun b2 hb2 => ?_
 refine goA ?_
 refine zcp (α := Nat) (fun i => [(1, .string (kB key)), (2, .pointer (some ⟨b2, 0, none⟩)), (5, .int .i64 (i : Nat))]) (fun i => i ≤ lb (keys e) key) (fun _ => [pt b2 (.cells #[.slice (slA o1) e.length (slC o1), .slice (slA o2) e.length (slC o2)] 39 (0, 0))]) (fun i => e.length - i) 0 ⟨rfl, rfl, rfl, trivial⟩ (aV _) (fun w' hw' => hw') fun i hi => ?_
 by_cases hlt : i < e.length
 ·obtain ⟨y, hy⟩ : ∃ y, e[i]? = some y := ⟨_, aB hlt⟩
  obtain ⟨b, c, rfl⟩ := zbn hr.k oQ
  simp only [zfq, zfr]
  obtain ⟨q1, q2⟩ := qml (k := key) hy hi
  refine goA ?_
  refine l_w rfl (zay (v := .string (kB y.1)) rfl rfl (fun w' hw' => hr.kat hw' (by rw [aF]; exact hy))) ?_
  refine goA ?_
  rw [zex, zex, zrx]
  by_cases hk : kl y.1 key
  ·rw [decide_eq_true hk]
   refine goA ?_
   exact zav (i + 1) ⟨rfl, rfl, rfl, trivial⟩ (q1 hk) (fun w' hw' => hw') oQ
  ·rw [decide_eq_false hk]
   refine goA ?_
   rw [q2 hk]
   exact zcz rfl rfl rfl
 ·refine goA ?_
  obtain rfl : i = lb (keys e) key := oQ
  exact zcz rfl rfl rfl
theorem qmc {e : E} (h : Es e) (k : K) : (fd (keys e) k = false → zld e k = none) ∧ (fd (keys e) k = true → ∃ v, e[lb (keys e) k]? = some (k, v) ∧ zld e k = some v) :=
 ⟨fun hf => ((znm h).2 hf).1, fun hf => let ⟨v, h1, h2, _⟩ := (znm h).1 hf; ⟨v, h1, h2⟩⟩
theorem zrq (o : Om) (e : E) (he : Es e) (key : K) (hb : e.length ≤ 1000000) (w : World) (hr : DmR w o e) : Pu Tryz.prog 24 #[dmV o e, kV key] w (.tuple #[kV ((zld e key).getD []), .bool (zld e key).isSome]) := by
 obtain ⟨g1, g2⟩ := qmc he key
 have hl : lb (keys e) key ≤ e.length := by have := zvy (keys e) key; rwa [keys, aG] at this
 refine zbh [_, _] Tryz.func24 rfl rfl ?_
 obtain ⟨o1, o2⟩ := o
 unfold dmV dmC
 simp only [zaa, Nat.reduceAdd]
 refine goA ?_
 refine zbt rfl rfl fun b2 hb2 => ?_
 refine goA ?_
 refine lPu rfl (fun w1 hw1 => zi3 (o1, o2) e key hb w1 (hr.keep hw1)) ?_
 refine goA ?_
 rw [(zas hr.k).1, (zas hr.v).1]
 by_cases hlt : lb (keys e) key < e.length
 ·obtain ⟨y, hy⟩ : ∃ y, e[lb (keys e) key]? = some y := ⟨_, aB hlt⟩
  obtain ⟨b, cc, rfl⟩ := zbn hr.k oQ
  obtain ⟨b', cc', rfl⟩ := zbn hr.v oQ
  simp only [zfq, zfr]
  have hky : (keys e)[lb (keys e) key]? = some y.1 := (aN ..).trans (by rw [hy]; rfl)
  refine goA ?_
  refine l_w rfl (zay (v := .string (kB y.1)) rfl rfl (fun w' hw' => hr.kat hw' (by rw [aF]; exact hy))) ?_
  refine goA ?_
  refine zcr 21 _ (.string (kB key)) rfl rfl ?_
  refine goA ?_
  rw [show seq (kB y.1) (kB key) = decide (y.1 = key) from zkr y.1 key]
  by_cases hk : y.1 = key
  ·rw [decide_eq_true hk]
   obtain ⟨v, h1, h2⟩ := g2 (ziw.2 (by rw [hky, hk]))
   rw [hy] at h1
   cases h1
   refine goA ?_
   refine l_w rfl (zay (v := kV v) rfl rfl (fun w' hw' => hr.vat (y := (key, v)) hw' (by rw [aF]; exact hy))) ?_
   refine goA ?_
   rw [h2]
   exact zhm rfl rfl rfl rfl
  ·rw [decide_eq_false hk]
   rw [g1 (by cases hf : fd (keys e) key with | false => rfl | true => have := ziw.1 hf; rw [hky] at this; cases this; exact absurd rfl hk)]
   refine goA ?_
   exact zhm rfl rfl rfl rfl
 ·rw [g1 (by cases hf : fd (keys e) key with | false => rfl | true => obtain ⟨v, h1, -⟩ := g2 hf; exact absurd (aM.1 h1).1 hlt)]
  have he2 : lb (keys e) key = e.length := oQ
  rw [he2]
  refine goA ?_
  exact zhm rfl rfl rfl rfl
theorem zx6 (o : Om) (e : E) (key : K) (also : Bool) (hb : e.length ≤ 1000000) (w : World) (hr : DmR w o e) : Pu Tryz.prog 26 #[dmV o e, kV key, .bool also] w (.tuple #[kV (((zim e key also).map (·.1)).getD []), kV (((zim e key also).map (·.2)).getD []), .bool (zim e key also).isSome]) := by
 refine zbh [_, _, _] Tryz.func26 rfl rfl ?_
 obtain ⟨o1, o2⟩ := o
 unfold dmV dmC
 rw [(zas hr.k).1, (zas hr.v).1]
 simp only [zaa, Nat.reduceAdd]
 refine goA ?_
 refine zbt rfl rfl fun b3 hb3 => ?_
 refine goA ?_
 refine zcp (α := Nat) (fun i => [(1, .string (kB key)), (2, .bool also), (3, .pointer (some ⟨b3, 0, none⟩)), (9, .int .i64 (i : Nat))]) (fun i => i ≤ e.length ∧ zim e key also = zim (e.drop i) key also) (fun _ => [pt b3 (.cells #[.slice (slA o1) e.length (slC o1), .slice (slA o2) e.length (slC o2)] 39 (0, 0))]) (fun i => e.length - i) 0 ⟨rfl, rfl, rfl, rfl, trivial⟩ ⟨aV _, rfl⟩ (fun w' hw' => hw') fun i ⟨hi, hf⟩ => ?_
 by_cases hlt : i < e.length
 ·obtain ⟨y, hy⟩ : ∃ y, e[i]? = some y := ⟨_, aB hlt⟩
  have hd : e.drop i = y :: e.drop (i + 1) := by rw [bY hlt, (aM.1 hy).2]
  rw [hd] at hf
  obtain ⟨b, cc, rfl⟩ := zbn hr.k oQ
  obtain ⟨b', cc', rfl⟩ := zbn hr.v oQ
  simp only [zfq, zfr]
  refine goA ?_
  refine l_w rfl (zay (v := .string (kB y.1)) rfl rfl (fun w' hw' => hr.kat hw' (by rw [aF]; exact hy))) ?_
  refine goA ?_
  rw [show seq (kB y.1) (kB key) = decide (y.1 = key) from zkr y.1 key, zex, zex, zrx]
  rcases zlg y.1 key with hk | hk | hk
  ·have hskip : zim (y :: e.drop (i + 1)) key also = zim (e.drop (i + 1)) key also := by
    unfold zim
    rw [iJ (by simp [zey hk, zht hk])]
   rw [decide_eq_true hk, kI, iX]
   cases also with
   | false =>
    refine goA ?_
    exact zav (i + 1) ⟨rfl, rfl, rfl, rfl, trivial⟩ ⟨hlt, hf.trans hskip⟩ (fun w' hw' => hw') oQ
   | true =>
    refine goA ?_
    refine l_w rfl (zay (v := .string (kB y.1)) rfl rfl (fun w' hw' => hr.kat hw' (by rw [aF]; exact hy))) ?_
    refine goA ?_
    rw [show seq (kB y.1) (kB key) = decide (y.1 = key) from zkr y.1 key, decide_eq_false (zht hk)]
    refine goA ?_
    exact zav (i + 1) ⟨rfl, rfl, rfl, rfl, trivial⟩ ⟨hlt, hf.trans hskip⟩ (fun w' hw' => hw') oQ
  ·rw [decide_eq_false (by rw [hk]; exact zdw _), decide_eq_true hk, fP, iX]
   cases also with
   | false =>
    have hskip : zim (y :: e.drop (i + 1)) key false = zim (e.drop (i + 1)) key false := by
     unfold zim
     rw [iJ (by simp [hk, zdw])]
    refine goA ?_
    exact zav (i + 1) ⟨rfl, rfl, rfl, rfl, trivial⟩ ⟨hlt, hf.trans hskip⟩ (fun w' hw' => hw') oQ
   | true =>
    have hfind : zim (y :: e.drop (i + 1)) key true = some y := by
     unfold zim
     rw [gI (by simp [hk])]
    refine goA ?_
    refine l_w rfl (zay (v := .string (kB y.1)) rfl rfl (fun w' hw' => hr.kat hw' (by rw [aF]; exact hy))) ?_
    refine goA ?_
    rw [show seq (kB y.1) (kB key) = decide (y.1 = key) from zkr y.1 key, decide_eq_true hk]
    refine goA ?_
    refine zao [0] 13 rfl rfl kQ ?_
    refine goE ?_
    refine goV rfl rfl (zay (v := kV y.1) rfl rfl (fun w' hw' => hr.kat hw' (by rw [aF]; exact hy))) ?_
    refine goE ?_
    refine goV rfl rfl (zay (v := kV y.2) rfl rfl (fun w' hw' => hr.vat (y := y) hw' (by rw [aF]; exact hy))) ?_
    refine goX ?_
    rw [hf.trans hfind]
    exact qn4 rfl rfl rfl rfl rfl
  ·have hfind : zim (y :: e.drop (i + 1)) key also = some y := by
    unfold zim
    rw [gI (by simp [hk])]
   rw [decide_eq_false (zey hk), decide_eq_false (Ne.symm (zht hk)), fP, jN]
   refine goA ?_
   refine zao [0] 13 rfl rfl kQ ?_
   refine goE ?_
   refine goV rfl rfl (zay (v := kV y.1) rfl rfl (fun w' hw' => hr.kat hw' (by rw [aF]; exact hy))) ?_
   refine goE ?_
   refine goV rfl rfl (zay (v := kV y.2) rfl rfl (fun w' hw' => hr.vat (y := y) hw' (by rw [aF]; exact hy))) ?_
   refine goX ?_
   rw [hf.trans hfind]
   exact qn4 rfl rfl rfl rfl rfl
 ·rw [cP oQ] at hf
  rw [hf]
  refine goA ?_
  exact qn4 rfl rfl rfl rfl rfl
end Go.Proofs.YtkkfifhaobjicaaGreatDoor
namespace Go.Eng
open Go.RowKit
section
variable {P : Program} {Q : Exit → Act → World → Prop} {S : World → Prop} {N : Fm} {l : zaq} {ops : Array Oper} {w0 : World} {F : Nat → Prop} {m : List Item} {t : Nat} {ty : TypeId} {pos : String} {after : Array Edge}
theorem qpj {T T' e : TypeId} {d y : Nat} {a : Option Addr} {k c b : Nat} {news : List Value} {g : Option (Nat × Bool)} (hy : get l y = some (.slice a k c)) (hd : Nat.ble (d + 1) N.n = true) (hT : zks P T = some e) (hi : qch P e = some (1, b, 1)) (hl : news.length = k) (h0 : a = none → k = 0) (h1 : zbx news = true) (hn : (0 + k) * (b + 1) ≤ 140737488355328)
  (hnews : ∀ w, Hp w0 F (own e 1 none 0 [] :: m) w → Rd w a news) :
  HO P ⟨some d, .call ⟨.builtin .append, #[.const (.slice none 0 0), .tmp y], #[T, T]⟩, T', pos, after, g⟩ Q N l (Hp w0 F (own e 1 none 0 [] :: m)) (α := Option (Nat × Nat)) (fun o' => (d, slV o' (0 + k)) :: l) (fun o' => Hp w0 F (own e 1 o' (0 + k) ([] ++ news) :: m)) :=
 ze0 (o := none) (by simpa [ze5, zhi, zes, Op.operands, Call.operands, zep, hy] using hd) rfl (c := c) (by simp [evO, hy]) hT hi hl h0 h1 hn hnews
def qpo (ops : Array Oper) (L : Array Bool) (t i1 i2 : Nat) : Bool :=
 let s := fun (l : Array Bool) k => l.setIfInBounds k true
 let r := fun l => Region.ready .any ops l
 (Nat.blt i1 t && (Nat.blt i2 t && !Nat.beq i1 i2)) && (r L == [i1, i2] && (r (s L i1) == [i2] && r (s L i2) == [i1]))
theorem qkv (i1 i2 : Nat) {o1 o2 : Oper} {n : Nat} {listed : Array Bool} {α1 α2 : Type} {A : Item} {rest : List Item} {A' : α1 → Item} {X2 : α2 → Item} {d1 d2 : Nat} {u1 : α1 → Value} {u2 : α2 → Value}
  (hq : qpo ops listed t i1 i2 = true) (n1 : nth ops.toList i1 = some o1) (n2 : nth ops.toList i2 = some o2) (g1 : o1.guard = none) (g2 : o2.guard = none) (e1 : get l d1 = none) (e2 : get l d2 = none) (hne : Nat.beq d1 d2 = false) (hS : ∀ w, Hp w0 F rest w → S w)
  (s1 : ∀ l' X, (∀ t u, get l t = some u → get l' t = some u) → HO P o1 (znz Q) N l' (Hp w0 F (A :: (X ++ rest))) (fun a => (d1, u1 a) :: l') (fun a => Hp w0 F (A' a :: (X ++ rest))))
  (s2 : ∀ l' m', (∀ t u, get l t = some u → get l' t = some u) → HO P o2 (znz Q) N l' (Hp w0 F m') (fun b => (d2, u2 b) :: l') (fun b => Hp w0 F (X2 b :: m')))
  (k : ∀ a b, HD P ops Q S t N n ((listed.setIfInBounds i1 true).setIfInBounds i2 true) ((d2, u2 b) :: (d1, u1 a) :: l) (Hp w0 F (A' a :: X2 b :: rest))) : HD P ops Q S t N (n + 2) listed l (Hp w0 F (A :: rest)) := by
 simp only [qpo, bH, beq_iff_eq, eN] at hq
 obtain ⟨⟨b1, b2, b3⟩, q1, q2, q3⟩ := hq
 have b1 := bN b1
 have b2 := bN b2
 have nb : ∀ {a b : Nat}, Nat.beq a b = false → a ≠ b := fun h e => by rw [e, kJ] at h; cases h
 have ext : ∀ {d : Nat} (v : Value), get l d = none → ∀ t u, get l t = some u → get ((d, v) :: l) t = some u := fun v hd t u h => by
  rw [zbf, if_neg (fun e => by rw [e, h] at hd; cases hd)]
  exact h
 have sub : ∀ {M : List Item}, rest.Sublist M → ∀ w, Hp w0 F M w → S w := fun hs w hw => hS w (hw.sub hs)
 refine zs6 i1 i2 ⟨q1, b1, b2⟩ n1 n2 g1 g2 (s1 l [] fun _ _ h => h) (s2 l _ fun _ _ h => h) (fun a => sub (.cons _ (.refl _))) (fun b => sub (.cons _ (.cons _ (.refl _)))) (fun a => ?_) (fun b => ?_)
 ·refine zaw i2 ⟨q2, b2⟩ n2 (by rw [g2]; rfl) (s2 _ _ (ext _ e1)) (fun b => sub (.cons _ (.cons _ (.refl _)))) fun b => ?_
  exact zih (.swap _ _ _) (k a b)
 ·refine zih (m' := A :: ([X2 b] ++ rest)) (.swap _ _ _) ?_
  refine zaw i1 ⟨q3, b1⟩ n1 (by rw [g1]; rfl) (s1 _ [X2 b] (ext _ e2)) (fun a => sub (.cons _ (.cons _ (.refl _)))) fun a => ?_
  rw [dI _ _ (Ne.symm (nb b3))]
  have := k a b
  unfold HD at this ⊢
  refine fun inv a' w s hw => this inv a' w ⟨s.size, s.defers, fun t v h => s.slot t v ?_⟩ hw
  rw [zbf] at h ⊢
  by_cases e : d2 = t
  ·rw [if_pos e] at h
   rw [if_neg (fun e' => nb hne (e'.trans e.symm)), zbf, if_pos e]
   exact h
  ·rw [if_neg e, zbf] at h
   by_cases e' : d1 = t
   ·rw [if_pos e'] at h ⊢
    exact h
   ·rw [if_neg e'] at h ⊢
    rw [zbf, if_neg e]
    exact h
end
end Go.Eng
namespace Go.Proofs.YtkkfifhaobjicaaGreatDoor
open Go.RowKit Go.Eng Go.Eng.Bm Go.Eng.Tr
set_option maxRecDepth 100000
set_option maxHeartbeats 40000000
theorem zow {w w0 : World} {F : Nat → Prop} {m : List Eng.Item} {o : Om} {e : E} (hw : Hp w0 F m w) (h1 : own 9 1 o.1 e.length (e.map fun y => kV y.1) ∈ m) (h2 : own 9 1 o.2 e.length (e.map fun y => kV y.2) ∈ m) : DmR w o e := by
 intro it hm
 rcases hm with _ | ⟨_, _ | ⟨_, hm⟩⟩
 ·exact za1.of (hw.item _ h1) (zab _ _ _ _ _ _)
 ·exact za1.of (hw.item _ h2) (zab _ _ _ _ _ _)
 ·cases hm
theorem zjw {e : TypeId} {o : Option (Nat × Nat)} {n : Nat} {xs : List Value} {w : World} (h : (own e 1 o n xs).prop w) (ha : slA o = none) : n = 0 := by
 cases o with
 | none => exact h.2
 | some p => cases ha
theorem zlt {a : Option Addr} {r : Bool} {k : Nat} (h : zrc a r k = none) : a = none := by
 unfold zrc at h
 split at h
 ·exact h
 ·cases a with
  | none => rfl
  | some _ => cases h
theorem qk4 (l : E) (f : K × K → K) : zbx (l.map fun y => kV (f y)) = true := za5.2 fun v hv => by obtain ⟨y, -, rfl⟩ := aT.1 hv; rfl
theorem qqt {l : List Value} (h : zbx l = true) (i : Nat) : zbx (l.take i) = true := za5.2 fun v hv => za5.1 h v (bX hv)
theorem qqs {l : List Value} (h : zbx l = true) (i : Nat) : zbx (l.drop i) = true := za5.2 fun v hv => za5.1 h v (bZ hv)
theorem zja (a b : Option (Nat × Nat)) (n : Nat) : zbx [slV a n, slV b n] = true := za5.2 fun v hv => by
 rcases hv with _ | ⟨_, _ | ⟨_, hv⟩⟩
 ·exact zdj _ _
 ·exact zdj _ _
 ·cases hv
theorem qr6 {e : E} {i : Nat} (h : i < e.length) : 0 + i + (e.length - (i + 1)) = (e.eraseIdx i).length := by rw [List.length_eraseIdx, if_pos h]; omega
theorem qr7 {e : E} (f : K × K → K) {i : Nat} (h : i < e.length) (o : Option (Nat × Nat)) : own 9 1 o (0 + i + (e.length - (i + 1))) ([] ++ (e.map fun y => kV (f y)).take i ++ (e.map fun y => kV (f y)).drop (i + 1)) = own 9 1 o (e.eraseIdx i).length ((e.eraseIdx i).map fun y => kV (f y)) := by
 rw [qr6 h, aI, gB, cD, eF, dU]
theorem zma (o : Om) (e : E) (he : Es e) (key : K) (hb : e.length ≤ 1000000) (w : World) (hw : ∀ it ∈ dmI o e, za1 it w) (ha : (dmI o e).Pairwise Eng.Item.Apart) :
  Ct Tryz.prog 20 #[dmV o e, kV key] w (zan (dmI o e)) (fun o' : Om => .tuple #[dmV o' (zc1 e key), .bool (zld e key).isSome]) (fun _ => True) (fun o' => dmI o' (zc1 e key)) := by
 obtain ⟨r1, r2⟩ := znm (k := key) he
 have hl : lb (keys e) key ≤ e.length := by have := zvy (keys e) key; rwa [keys, aG] at this
 have hR : DmR w o e := hw
 have k1 := zas hR.k
 have k2 := zas hR.v
 obtain ⟨o1, o2⟩ := o
 have k1b : e.length ≤ slC o1 := k1.2
 have k2b : e.length ≤ slC o2 := k2.2
 refine zbb [_, _] _ Tryz.func20 rfl rfl hw ha ?_
 unfold dmV dmC dmI
 rw [k1.1, k2.1]
 simp only [zaa, Nat.reduceAdd]
 refine goA ?_
 refine zbt rfl rfl fun b2 hb2 => ?_
 refine zal rfl rfl fun b4 hb4 => ?_
 refine goA ?_
 refine zgt rfl (zfb rfl kQ rfl (fun w1 hw1 => by
  have := zrq (o1, o2) e he key hb w1 (zow hw1 mm mm)
  unfold dmV dmC at this
  rwa [k1.1, k2.1] at this)) fun _ => ?_
 refine goA ?_
 cases hf : fd (keys e) key with
 | false =>
  obtain ⟨g1, -, g3⟩ := r2 hf
  rw [g1, g3]
  refine goA ?_
  refine zaz rfl (zag (cs' := #[.slice (slA o1) e.length (slC o1), .slice (slA o2) e.length (slC o2)]) rfl rfl rfl rfl rfl rfl) fun _ => ?_
  refine goA ?_
  exact zdq (o1, o2) rfl ⟨_, rfl, zar rfl mm⟩ rfl (by rw [k1.1, k2.1]; rfl) trivial (.cons _ (.cons _ (.refl _))) (zff (o1, o2) e)
 | true =>
  obtain ⟨v, h1, g1, -, g3⟩ := r1 hf
  have hlt := (aM.1 h1).1
  rw [g1, g3]
  refine goA ?_
  refine zgt rfl (zfb rfl kQ rfl (fun w1 hw1 => by
   have := zi3 (o1, o2) e key hb w1 (zow hw1 mm mm)
   unfold dmV dmC at this
   rwa [k1.1, k2.1] at this)) fun _ => ?_
  refine goA ?_
  refine zal rfl rfl fun b9 hb9 => ?_
  refine goA ?_
  refine zso 9 1 ?_
  refine zao [1, 2, 3, 4, 5] 12 rfl rfl kQ ?_
  refine goE ?_
  refine zaw 4 ⟨kQ, dQ⟩ rfl rfl (ze0 (o := none) (n := 0) (xs := []) (news := (e.map fun y => kV y.1).take (lb (keys e) key)) rfl rfl rfl rfl rfl (by rw [aO, aG]; omega) (fun h => by have := zjw hR.k h; omega) (qqt (qk4 e (fun y => y.1)) _) oQ (fun w' hw' => (zbl (hw'.item (own 9 1 o1 e.length (e.map fun y => kV y.1)) mm).1).take _)) (fun _ _ h => goH h) fun o3 => ?_
  refine goE ?_
  refine zaw 10 ⟨kQ, dQ⟩ rfl rfl (ze0 (news := (e.map fun y => kV y.1).drop (lb (keys e) key + 1)) rfl rfl rfl rfl rfl (by rw [aU, aG]) (fun h => by have := zjw hR.k (zlt h); omega) (qqs (qk4 e (fun y => y.1)) _) oQ (fun w' hw' => zg6 (hw'.item (own 9 1 o1 e.length (e.map fun y => kV y.1)) mm).1 _)) (fun _ _ h => goH h) fun o4 => ?_
  rw [qr7 (fun y => y.1) hlt]
  refine goE ?_
  refine zdm ⟨kQ, kQ⟩ rfl rfl (zai (zce _ _ _) (zah rfl rfl rfl rfl (zc5 _ _) (zdj _ _) sQ)) fun _ => ?_
  refine goA ?_
  refine zso 9 1 ?_
  refine zao [1, 2, 3, 4, 5, 6] 12 rfl rfl kQ ?_
  refine goE ?_
  refine zaw 4 ⟨kQ, dQ⟩ rfl rfl (ze0 (o := none) (n := 0) (xs := []) (news := (e.map fun y => kV y.2).take (lb (keys e) key)) rfl rfl rfl rfl rfl (by rw [aO, aG]; omega) (fun h => by have := zjw hR.v h; omega) (qqt (qk4 e (fun y => y.2)) _) oQ (fun w' hw' => (zbl (hw'.item (own 9 1 o2 e.length (e.map fun y => kV y.2)) mm).1).take _)) (fun _ _ h => goH h) fun o5 => ?_
  refine goE ?_
  refine zaw 10 ⟨kQ, dQ⟩ rfl rfl (ze0 (news := (e.map fun y => kV y.2).drop (lb (keys e) key + 1)) rfl rfl rfl rfl rfl (by rw [aU, aG]) (fun h => by have := zjw hR.v (zlt h); omega) (qqs (qk4 e (fun y => y.2)) _) oQ (fun w' hw' => zg6 (hw'.item (own 9 1 o2 e.length (e.map fun y => kV y.2)) mm).1 _)) (fun _ _ h => goH h) fun o6 => ?_
  rw [qr7 (fun y => y.2) hlt]
  refine goE ?_
  refine zdm ⟨kQ, kQ⟩ rfl rfl (zai (zce _ _ _) (zah rfl rfl rfl rfl (zc5 _ _) (zdj _ _) sQ)) fun _ => ?_
  refine goA ?_
  rw [qr6 hlt]
  refine zcr 46 _ (.agg #[slV o4 (e.eraseIdx (lb (keys e) key)).length, slV o6 (e.eraseIdx (lb (keys e) key)).length]) rfl rfl ?_
  refine zaz rfl (zai (zdl _ _ _ _ _) (zag (cs' := #[slV o4 (e.eraseIdx (lb (keys e) key)).length, slV o6 (e.eraseIdx (lb (keys e) key)).length]) rfl rfl rfl rfl (zja _ _ _) rfl)) fun _ => ?_
  refine goA ?_
  refine zec [3, 2, 0] rfl rfl ?_
  exact zdq (o4, o6) rfl ⟨_, rfl, zar rfl mm⟩ rfl rfl trivial (.cons_cons _ (.cons_cons _ (.cons _ (.refl _)))) (zff (o4, o6) _)
theorem qr8 {e : E} {i : Nat} (y : K × K) (h : i ≤ e.length) : 0 + i + 1 + (e.length - i) = (ins e i y).length := by rw [ins, aA, aZ, aO, aU]; omega
theorem qr9 {e : E} (f : K × K → K) {i : Nat} (y : K × K) (h : i ≤ e.length) (o : Option (Nat × Nat)) : own 9 1 o (0 + i + 1 + (e.length - i)) ([] ++ (e.map fun y => kV (f y)).take i ++ [kV (f y)] ++ (e.map fun y => kV (f y)).drop i) = own 9 1 o (ins e i y).length ((ins e i y).map fun y => kV (f y)) := by
 rw [qr8 y h, aI, ins, cD, bD, eF, dU, aH]
 rfl
theorem qdc (o : Om) (e : E) (he : Es e) (key val : K) (hb : e.length ≤ 1000000) (w : World) (hw : ∀ it ∈ dmI o e, za1 it w) (ha : (dmI o e).Pairwise Eng.Item.Apart) :
  Ct Tryz.prog 27 #[dmV o e, kV key, kV val] w (zan (dmI o e)) (fun o' : Om => dmV o' (zfp e key val)) (fun _ => True) (fun o' => dmI o' (zfp e key val)) := by
 have hR : DmR w o e := hw
 have k1 := zas hR.k
 have k2 := zas hR.v
 have hlen : (zc1 e key).length ≤ e.length := fT _ _
 have hl : lb (keys (zc1 e key)) key ≤ (zc1 e key).length := by have := zvy (keys (zc1 e key)) key; rwa [keys, aG] at this
 rw [qjv he]
 obtain ⟨o1, o2⟩ := o
 have hdel := zma (o1, o2) e he key hb
 unfold dmV dmC at hdel
 rw [k1.1, k2.1] at hdel
 refine zbb [_, _, _] _ Tryz.func27 rfl rfl hw ha ?_
 unfold dmV dmC
 rw [k1.1, k2.1]
 simp only [zaa, Nat.reduceAdd]
 refine goA ?_
 refine zbt rfl rfl fun b3 hb3 => ?_
 refine zal rfl rfl fun b6 hb6 => ?_
 refine goA ?_
 refine zj8 (dW (l₁ := [_, _]) (l₂ := dmI (o1, o2) e)) ?_
 refine lCu (dmI (o1, o2) e) rfl (zff _ _) (fun w1 hw1 hh1 ha1 => hdel w1 hh1 ha1) fun ⟨⟨p1, p2⟩, _⟩ => ?_
 simp only
 unfold dmI
 simp only [aE, aI]
 refine goA ?_
 refine zaz rfl (zai (zdl _ _ _ _ _) (zag (cs' := #[slV p1 (zc1 e key).length, slV p2 (zc1 e key).length]) rfl rfl rfl rfl (zja _ _ _) rfl)) fun _ => ?_
 refine goA ?_
 refine lPu rfl (fun w1 hw1 => zi3 (p1, p2) (zc1 e key) key oQ w1 (zow hw1 mm mm)) ?_
 refine goA ?_
 refine zal rfl rfl fun b8 hb8 => ?_
 refine goA ?_
 refine zfd (fun w hw => And.intro (And.intro (zas (hw.item (own 9 1 p1 (zc1 e key).length ((zc1 e key).map fun y => kV y.1)) mm).1) (zjw (hw.item (own 9 1 p1 (zc1 e key).length ((zc1 e key).map fun y => kV y.1)) mm).1)) (And.intro (zas (hw.item (own 9 1 p2 (zc1 e key).length ((zc1 e key).map fun y => kV y.2)) mm).1) (zjw (hw.item (own 9 1 p2 (zc1 e key).length ((zc1 e key).map fun y => kV y.2)) mm).1))) fun ⟨⟨⟨f1, f3⟩, f5⟩, ⟨⟨f2, f4⟩, f6⟩⟩ => ?_
 rw [f1, f2]
 refine zso 9 1 ?_
 refine zao [1, 2, 3, 4, 5] 14 rfl rfl kQ ?_
 refine goE ?_
 refine qkv 4 6 kQ rfl rfl rfl rfl rfl rfl rfl (fun _ h => h) (fun l' X hl' => qpj (news := ((zc1 e key).map fun y => kV y.1).take (lb (keys (zc1 e key)) key)) (hl' 21 _ rfl) rfl rfl rfl (by rw [aO, aG]; omega) (fun h => by have := f5 h; omega) (qqt (qk4 _ (fun y => y.1)) _) oQ (fun w' hw' => (zbl (hw'.item (own 9 1 p1 (zc1 e key).length ((zc1 e key).map fun y => kV y.1)) (.tail _ (aP _ (.tail _ (.tail _ (.head _)))))).1).take _)) (fun l' m' hl' => zn1 (v := kV key) (hl' 23 _ rfl) rfl rfl rfl rfl) fun o3 ⟨q1, _⟩ => ?_
 refine zaw 7 ⟨kQ, dQ⟩ rfl rfl (zdh (news := [kV key]) rfl rfl rfl rfl rfl rfl rfl rfl oQ (fun w' hw' j v hj => by rw [zc9, aF]; exact zbm (hw'.item (own 9 1 (some (q1, 1)) 1 [kV key]) (.tail _ (.head _))).1 j v hj)) (fun _ _ h => goH h) fun o4 => ?_
 refine zaw 12 ⟨kQ, dQ⟩ rfl rfl (ze0 (news := ((zc1 e key).map fun y => kV y.1).drop (lb (keys (zc1 e key)) key)) rfl rfl rfl rfl rfl (by rw [aU, aG]) (fun h => by have := f5 (zlt h); omega) (qqs (qk4 _ (fun y => y.1)) _) oQ (fun w' hw' => zg6 (hw'.item (own 9 1 p1 (zc1 e key).length ((zc1 e key).map fun y => kV y.1)) mm).1 _)) (fun _ _ h => goH h) fun o5 => ?_
 rw [qr9 (fun y => y.1) (key, val) hl]
 refine goE ?_
 refine zdm ⟨kQ, kQ⟩ rfl rfl (zai (zda _ _ _ _) (zah rfl rfl rfl rfl (zc5 _ _) (zdj _ _) sQ)) fun _ => ?_
 refine goA ?_
 refine zso 9 1 ?_
 refine zao [1, 2, 3, 4, 5, 6, 7] 14 rfl rfl kQ ?_
 refine goE ?_
 refine qkv 4 6 kQ rfl rfl rfl rfl rfl rfl rfl (fun _ h => h) (fun l' X hl' => qpj (news := ((zc1 e key).map fun y => kV y.2).take (lb (keys (zc1 e key)) key)) (hl' 35 _ rfl) rfl rfl rfl (by rw [aO, aG]; omega) (fun h => by have := f6 h; omega) (qqt (qk4 _ (fun y => y.2)) _) oQ (fun w' hw' => (zbl (hw'.item (own 9 1 p2 (zc1 e key).length ((zc1 e key).map fun y => kV y.2)) (.tail _ (aP _ (.tail _ (.tail _ (.tail _ (.tail _ (.tail _ (.head _))))))))).1).take _)) (fun l' m' hl' => zn1 (v := kV val) (hl' 37 _ rfl) rfl rfl rfl rfl) fun o6 ⟨q2, _⟩ => ?_
 refine zaw 7 ⟨kQ, dQ⟩ rfl rfl (zdh (news := [kV val]) rfl rfl rfl rfl rfl rfl rfl rfl oQ (fun w' hw' j v hj => by rw [zc9, aF]; exact zbm (hw'.item (own 9 1 (some (q2, 1)) 1 [kV val]) (.tail _ (.head _))).1 j v hj)) (fun _ _ h => goH h) fun o7 => ?_
 refine zaw 12 ⟨kQ, dQ⟩ rfl rfl (ze0 (news := ((zc1 e key).map fun y => kV y.2).drop (lb (keys (zc1 e key)) key)) rfl rfl rfl rfl rfl (by rw [aU, aG]) (fun h => by have := f6 (zlt h); omega) (qqs (qk4 _ (fun y => y.2)) _) oQ (fun w' hw' => zg6 (hw'.item (own 9 1 p2 (zc1 e key).length ((zc1 e key).map fun y => kV y.2)) mm).1 _)) (fun _ _ h => goH h) fun o8 => ?_
 rw [qr9 (fun y => y.2) (key, val) hl]
 refine goE ?_
 refine zdm ⟨kQ, kQ⟩ rfl rfl (zai (zda _ _ _ _) (zah rfl rfl rfl rfl (zc5 _ _) (zdj _ _) sQ)) fun _ => ?_
 refine goA ?_
 rw [qr8 (key, val) hl]
 refine zcr 46 _ (.agg #[slV o5 (ins (zc1 e key) (lb (keys (zc1 e key)) key) (key, val)).length, slV o8 (ins (zc1 e key) (lb (keys (zc1 e key)) key) (key, val)).length]) rfl rfl ?_
 refine za0 [8, 0, 1, 3] rfl rfl ?_
 refine zaz rfl (zag (cs' := #[slV o5 (ins (zc1 e key) (lb (keys (zc1 e key)) key) (key, val)).length, slV o8 (ins (zc1 e key) (lb (keys (zc1 e key)) key) (key, val)).length]) rfl rfl rfl rfl (zja _ _ _) rfl) fun _ => ?_
 refine goA ?_
 refine zec [3, 2, 0] rfl rfl ?_
 exact zbs (o5, o8) rfl ⟨_, rfl, zar rfl mm⟩ rfl trivial (.cons_cons _ (.cons_cons _ (.cons _ (.refl _)))) (zff (o5, o8) _)
end Go.Proofs.YtkkfifhaobjicaaGreatDoor
namespace Go.Eng
open Go.RowKit
theorem qnh {P : Program} {l : zaq} {H : World → Prop} {x y : Operand} {T U ty : TypeId} {a b : Nat} (hx : evO l x = some (.int .u8 (a : Int))) (hy : evO l y = some (.int .u8 (b : Int))) : OV P (.binOp .add T x y U) ty l H (.int .u8 (((a + b) % 256 : Nat) : Int)) :=
 zsv (zfm hx hy fun _ => rfl) (by rw [← jD, zic])
end Go.Eng
namespace Go.Proofs.YtkkfifhaobjicaaGreatDoor
open Go.RowKit Go.Eng Go.Eng.Bm Go.Eng.Tr
set_option maxRecDepth 100000
set_option maxHeartbeats 40000000
def qpx : List Sh := [⟨33, 4⟩, ⟨32, 6⟩, ⟨64, 64⟩, ⟨2, 5⟩, ⟨17, 33⟩]
def zax (n : Nat) : Sh := qpx.getD (n % 5) ⟨33, 4⟩
theorem zfl (n : Nat) : (n % 5 = 0 ∧ zax n = ⟨33, 4⟩) ∨ (n % 5 = 1 ∧ zax n = ⟨32, 6⟩) ∨ (n % 5 = 2 ∧ zax n = ⟨64, 64⟩) ∨ (n % 5 = 3 ∧ zax n = ⟨2, 5⟩) ∨ (n % 5 = 4 ∧ zax n = ⟨17, 33⟩) := by
 have h : n % 5 < 5 := eM _ dQ
 unfold zax
 generalize n % 5 = r at h ⊢
 rcases r with _ | _ | _ | _ | _ | r
 ·exact .inl ⟨rfl, rfl⟩
 ·exact .inr (.inl ⟨rfl, rfl⟩)
 ·exact .inr (.inr (.inl ⟨rfl, rfl⟩))
 ·exact .inr (.inr (.inr (.inl ⟨rfl, rfl⟩)))
 ·exact .inr (.inr (.inr (.inr ⟨rfl, rfl⟩)))
 ·omega
def bsN (f : Nat → Nat) (w : Nat) : List Value := (List.range w).map fun j => .int .u8 ((f j : Nat) : Int)
theorem zxs (f : Nat → Nat) (w i v : Nat) : (bsN f w).set i (.int .u8 (v : Int)) = bsN (fun j => if j = i then v else f j) w := by
 refine kE (by simp [bsN]) fun j h1 h2 => ?_
 rw [gE]
 simp only [bsN, cW, List.getElem_range]
 by_cases e : i = j
 ·rw [if_pos e, if_pos e.symm]
 ·rw [if_neg e, if_neg (Ne.symm e)]
theorem zxr (f : Nat → Nat) (w : Nat) : (bsN f w).length = w := by simp [bsN]
def txN (n j : Nat) : Nat := (n % 256 + 7 * j % 256) % 256
def txF (n : Nat) : Nat → Nat := fun j => if j = 1 then n % 256 else if j = 0 then n / 256 % 256 else txN n j
def zi9 (n w : Nat) : K := (List.range w).map fun j => UInt8.ofNat (txF n j)
theorem zqg (n w : Nat) : (zi9 n w).length = w := by simp [zi9]
theorem qem (n w : Nat) : bsN (txF n) w = zaf (zi9 n w) := by
 unfold bsN zi9 zaf
 rw [dR]
 refine dD fun j _ => ?_
 have : txF n j < 256 := by unfold txF txN; split; omega; split <;> omega
 show Value.int .u8 _ = .int .u8 _
 congr 1
 rw [UInt8.toNat_ofNat', aY oQ]
theorem zqh (n wide : Nat) (hn : n < 65536) (h1 : 2 ≤ wide) (h2 : wide ≤ 1000) (w : World) : Pu Tryz.prog 23 #[.int .u16 n, .int .i64 wide] w (kV (zi9 n wide)) := by
 refine zbh [_, _] Tryz.func23 rfl rfl ?_
 simp only [zaa, Nat.reduceAdd]
 refine goA ?_
 refine zaz rfl (zy0 rfl rfl rfl rfl rfl oQ) fun ⟨b1, hb1⟩ => ?_
 refine goA ?_
 refine zcp (α := Nat) (fun i => [(0, .int .u16 (n : Int)), (1, .int .i64 (wide : Int)), (5, .slice (some ⟨b1, 0, none⟩) wide wide), (6, .int .i64 (i : Nat))]) (fun i => i ≤ wide) (fun i => [pt b1 (.cells (bsN (fun j => if j < i then txN n j else 0) wide).toArray 5 (0, 0))]) (fun i => wide - i) 0 ⟨rfl, rfl, rfl, rfl, trivial⟩ (aV _) (fun w' hw' => by
   have e : zcw (.int .u8 0) (wide * 1) = bsN (fun j => if j < 0 then txN n j else 0) wide := by
    rw [zcw, bK]
    exact dD fun j _ => by rw [show (Value.int IntKind.u8 0).cells.size = 1 from rfl, jY]; rfl
   rw [← e]; exact hw') fun i hi => ?_
 by_cases hlt : i < wide
 ·refine goA ?_
  refine l_w rfl (qkb rfl rfl rfl) ?_
  refine goA ?_
  refine l_w rfl (qkb rfl rfl rfl) ?_
  refine goA ?_
  refine l_w rfl (qnh rfl rfl) ?_
  refine goA ?_
  refine zaz rfl (zah rfl rfl rfl rfl rfl rfl (by rw [bR, zxr]; omega)) fun _ => ?_
  rw [aF, fR, zxs]
  refine goA ?_
  exact zav (i + 1) ⟨rfl, rfl, rfl, rfl, trivial⟩ hlt (fun w' hw' => by
   have e : (fun j => if j = i then (n % 256 + 7 * i % 256) % 256 else if j < i then txN n j else 0) = fun j => if j < i + 1 then txN n j else 0 := by
    funext j
    by_cases h3 : j = i
    ·subst h3; rw [if_pos rfl, if_pos oQ]; rfl
    ·rw [if_neg h3]
     by_cases h4 : j < i
     ·rw [if_pos h4, if_pos oQ]
     ·rw [if_neg h4, if_neg oQ]
   rw [← e]; exact hw') oQ
 ·obtain rfl : i = wide := oQ
  refine goA ?_
  refine zaz rfl (zah rfl rfl rfl rfl rfl rfl (by rw [bR, zxr]; omega)) fun _ => ?_
  rw [aF, fR, zxs]
  refine goA ?_
  refine l_w rfl (qkb rfl rfl rfl) ?_
  refine goA ?_
  refine zaz rfl (zah rfl rfl rfl rfl rfl rfl (by rw [bR, zxr]; omega)) fun _ => ?_
  rw [aF, fR, zxs]
  have e : bsN (fun j => if j = 1 then n % 256 else if j = 0 then n / 2 ^ 8 else if j < i then txN n j else 0) i = zaf (zi9 n i) := by
   rw [← qem]
   refine dD fun j hj => ?_
   have := dN.1 hj
   show Value.int .u8 ((if j = 1 then n % 256 else if j = 0 then n / 2 ^ 8 else if j < i then txN n j else 0 : Nat) : Int) = .int .u8 ((if j = 1 then n % 256 else if j = 0 then n / 256 % 256 else txN n j : Nat) : Int)
   rw [if_pos this, show n / 2 ^ 8 = n / 256 from rfl, aY (show n / 256 < 256 by omega)]
  rw [e]
  refine goA ?_
  refine l_w rfl (zsw (bs := zi9 n i) rfl (zqg n i).symm rfl rfl (fun w' hw' => .inr ⟨b1, 0, rfl, za7 (hw'.get (b := b1) (.head _))⟩)) ?_
  refine goA ?_
  exact zcz rfl rfl rfl
def qpw : List Value := [.int .i64 33, .int .i64 4, .int .i64 32, .int .i64 6, .int .i64 64, .int .i64 64, .int .i64 2, .int .i64 5, .int .i64 17, .int .i64 33]
theorem qj0 (n j : Nat) (v : Value) (h : ([.int .i64 ((zax n).kw : Int), .int .i64 ((zax n).vw : Int)] : List Value)[j]? = some v) : qpw[n % 5 * 2 + j]? = some v := by
 match j, h with
 | 0, h => rcases zfl n with ⟨e1, e2⟩ | ⟨e1, e2⟩ | ⟨e1, e2⟩ | ⟨e1, e2⟩ | ⟨e1, e2⟩ <;> (rw [e2] at h; rw [e1]; exact h)
 | 1, h => rcases zfl n with ⟨e1, e2⟩ | ⟨e1, e2⟩ | ⟨e1, e2⟩ | ⟨e1, e2⟩ | ⟨e1, e2⟩ <;> (rw [e2] at h; rw [e1]; exact h)
 | _ + 2, h => simp at h
theorem zp4 (n : Nat) (hn : n < 256) (w : World) : Pu Tryz.prog 21 #[.int .u8 n] w (shV (zax n)) := by
 refine zbh [_] Tryz.func21 rfl rfl ?_
 simp only [zaa]
 refine goA ?_
 refine zal rfl rfl fun b2 hb2 => ?_
 refine goA ?_
 refine zcr 4 _ (.agg #[.int .i64 33, .int .i64 4]) rfl rfl ?_
 refine zcr 5 _ (.agg #[.int .i64 32, .int .i64 6]) rfl rfl ?_
 refine zcr 6 _ (.agg #[.int .i64 64, .int .i64 64]) rfl rfl ?_
 refine zcr 7 _ (.agg #[.int .i64 2, .int .i64 5]) rfl rfl ?_
 refine zcr 8 _ (.agg #[.int .i64 17, .int .i64 33]) rfl rfl ?_
 refine zaz rfl (zba (L := [(0, 2, .agg #[.int .i64 33, .int .i64 4]), (2, 2, .agg #[.int .i64 32, .int .i64 6]), (4, 2, .agg #[.int .i64 64, .int .i64 64]), (6, 2, .agg #[.int .i64 2, .int .i64 5]), (8, 2, .agg #[.int .i64 17, .int .i64 33])]) rfl rfl rfl rfl rfl rfl) fun ⟨bq, hbq⟩ => ?_
 refine goA ?_
 rw [show zen (zcw (.agg #[.int .i64 0, .int .i64 0]) (5 * 2)) [(0, 2, .agg #[.int .i64 33, .int .i64 4]), (2, 2, .agg #[.int .i64 32, .int .i64 6]), (4, 2, .agg #[.int .i64 64, .int .i64 64]), (6, 2, .agg #[.int .i64 2, .int .i64 5]), (8, 2, .agg #[.int .i64 17, .int .i64 33])] = qpw from rfl]
 refine l_w rfl (zft (xs := [.int .i64 ((zax n).kw : Int), .int .i64 ((zax n).vw : Int)]) rfl rfl (fun w' hw' j v hv => zbm (hw'.item _ (.head _)).1 _ v (by rw [aF]; exact qj0 n j v hv)) rfl) ?_
 refine goA ?_
 refine zaz rfl (zai (zce _ _ _) (zag (cs' := #[.int .i64 ((zax n).kw : Int), .int .i64 ((zax n).vw : Int)]) rfl rfl rfl rfl rfl rfl)) fun _ => ?_
 refine goA ?_
 exact zcz rfl ⟨_, rfl, zar rfl mm⟩ rfl
theorem qa5 (n : Nat) : ShB (zax n) := by
 rcases zfl n with ⟨-, e⟩ | ⟨-, e⟩ | ⟨-, e⟩ | ⟨-, e⟩ | ⟨-, e⟩ <;> (rw [e]; exact ⟨dQ, dQ, dQ⟩)
theorem zdd (n : Nat) : zuw (zax n) := by
 rcases zfl n with ⟨-, e⟩ | ⟨-, e⟩ | ⟨-, e⟩ | ⟨-, e⟩ | ⟨-, e⟩ <;> (rw [e]; constructor <;> decide)
theorem zx9 (n : Nat) (hn : n < 256) (a : Option Addr) (k c : Nat) (w : World) : Pu Tryz.prog 6 #[.int .u8 n, .slice a k c] w (.bool (decide (400 < k) || (decide (60 < k) && decide ((zax n).cap < 6)))) := by
 refine zbh [_, _] Tryz.func6 rfl rfl ?_
 simp only [zaa, Nat.reduceAdd]
 by_cases h4 : 400 < k
 ·refine goA ?_
  exact zcz rfl rfl (by rw [decide_eq_true h4, kI])
 ·by_cases h6 : 60 < k
  ·refine goA ?_
   refine lPu rfl (fun w1 hw1 => zp4 n hn w1) ?_
   refine goA ?_
   refine lPu rfl (fun w1 hw1 => zgp (qa5 n) w1) ?_
   refine goA ?_
   exact zcz rfl rfl (by rw [decide_eq_false h4, fP, decide_eq_true h6, fG]; exact congrArg Value.bool (by rw [dA, decide_eq_true_iff, decide_eq_true_iff]; omega))
  ·refine goA ?_
   exact zcz rfl rfl (by rw [decide_eq_false h4, fP, decide_eq_false h6, dL])
end Go.Proofs.YtkkfifhaobjicaaGreatDoor
namespace Go.Eng.Tr
theorem qp7 (s : Sh) (h4 : 4 ≤ s.fan / 2) (h0 : 1 ≤ s.cap / 2) : ∀ {h : Nat} (t : T h), Below s t → (1 ≤ h → 2 ≤ sz t) → 2 ^ h ≤ lv t
 | 0, _, _, _ => aX _
 | h + 1, (p, ks, kids), hB, hz => by
  have hB : ∀ x ∈ kids, mx s h / 2 ≤ sz x ∧ sz x ≤ mx s h ∧ Below s x := hB
  have hz : 2 ≤ kids.length := hz (dX _)
  show 2 ^ (h + 1) ≤ (kids.map lv).sum
  have := zqa kids (fun _ => 0) lv (2 ^ h) fun x hx => by
   have := qp7 s h4 h0 x (hB x hx).2.2 (fun h1 => by
    have := (hB x hx).1
    cases h with
    | zero => omega
    | succ h => have e : mx s (h + 1) = s.fan := rfl; omega)
   omega
  have h5 : 2 ^ h * 2 ≤ 2 ^ h * kids.length := fB _ hz
  rw [gL]
  omega
end Go.Eng.Tr
namespace Go.Proofs.YtkkfifhaobjicaaGreatDoor
open Go.RowKit Go.Eng Go.Eng.Bm Go.Eng.Tr
set_option maxRecDepth 100000
theorem qeq (n : Nat) : ((zax n).cap / 2 = 6 ∨ (zax n).cap / 2 = 36 ∨ (zax n).cap / 2 = 5) ∨ ((zax n).cap < 6 ∧ (zax n).cap / 2 = 1) := by
 rcases zfl n with ⟨-, e⟩ | ⟨-, e⟩ | ⟨-, e⟩ | ⟨-, e⟩ | ⟨-, e⟩ <;> (rw [e]; decide)
theorem zza {n k : Nat} (hl : k ≤ 400) (h6 : (zax n).cap < 6 → k ≤ 60) (r : Rt) (hr : zxi (zax n) r) (he : (za2 r).length ≤ k) : (zj4 r).length + zgr r + 3 < 128 ∧ zgr r < 16 := by
 match r, hr, he with
 | none, _, _ => exact ⟨dQ, dQ⟩
 | some ⟨h, t⟩, hr, he =>
  have hr : TOk (zax n) t := hr
  have he : (ents t).length ≤ k := he
  have hs := zdd n
  have f1 := qab (zax n) hs.h4 t hr.below hr.two
  show (pgs t).length + h + 3 < 128 ∧ h < 16
  cases h with
  | zero =>
   obtain ⟨p, es⟩ := t
   exact ⟨by show 1 + 0 + 3 < 128; decide, dQ⟩
  | succ h =>
   have f3 := znc (zax n) t hr.below (fun h => oQ)
   have f2 := qp7 (zax n) hs.h4 (by have := hs.cap; omega) t hr.below hr.two
   have hlv : lv t ≤ 80 := by
    rcases qeq n with (e | e | e) | ⟨e1, e⟩
    ·rw [e] at f3; omega
    ·rw [e] at f3; omega
    ·rw [e] at f3; omega
    ·have := h6 e1; rw [e] at f3; omega
   have hh : h + 1 ≤ 6 := by
    refine fV fun hn => ?_
    have := cZ (n := 2) dQ (show 7 ≤ h + 1 by omega)
    omega
   exact ⟨oQ, oQ⟩
structure zky (c : Tc) (n : Nat) (r : Rt) (g : Sg) (s : Pg) : Prop where
 tok : Tok c g s
 rt : zxi (zax n) r
 rep : qh6 g.W r
 acc : Acc 128 g.S (zj4 r)
 es : Es (za2 r)
 cN : c.N = 128
 sh : c.sh = zax n
theorem zky.store {c : Tc} {n : Nat} {r : Rt} {g : Sg} {s s' : Pg} (h : zky c n r g s) (h' : Tok c g s') : zky c n r g s' := ⟨h', h.rt, h.rep, h.acc, h.es, h.cN, h.sh⟩
theorem zh8 : ∀ {e : E} {k v : K}, (zfp e k v).length ≤ e.length + 1
 | [], _, _ => aX _
 | p :: r, k, v => by
  show (if k = p.1 then (k, v) :: r else if kl k p.1 then (k, v) :: p :: r else p :: zfp r k v).length ≤ _
  have := zh8 (e := r) (k := k) (v := v)
  split
  ·simp
  ·split <;> simp; exact this
theorem zky.put {c : Tc} {n k0 : Nat} {r : Rt} {g : Sg} {s : Pg} (h : zky c n r g s) (hl : k0 ≤ 400) (h6 : (zax n).cap < 6 → k0 ≤ 60) (he : (za2 r).length ≤ k0) (k v : K) (hk : k.length = (zax n).kw) (hv : v.length = (zax n).vw) :
  ∃ r' g', zrb c.sh c.N k v g (zfj r : Nat) = .ok ((zfj r' : Nat), g') ∧ za2 r' = zfp (za2 r) k v ∧ ∀ s', Tok c g' s' → zky c n r' g' s' := by
 obtain ⟨q1, q2⟩ := zza hl h6 r h.rt he
 have hacc : Acc 128 g.S (zj4 r ++ []) := by rw [bA]; exact h.acc
 have hroom : (zj4 r ++ []).length + zgr r + 3 < 128 := by rw [bA]; exact q1
 obtain ⟨g', a1, a2, a3, -⟩ := qju (zdd n) (N := 128) dQ k v hk hv r g [] h.rt h.rep hacc hroom q2
 obtain ⟨b1, b2, b3⟩ := qmy (zdd n) 128 k v hk hv r g.S [] h.rt hacc hroom
 rw [bA, ← a3] at b3
 exact ⟨_, g', by rw [h.cN, h.sh]; exact a1, b2, fun s' h' => ⟨h', b1, a2, b3, by rw [b2]; exact zua h.es, h.cN, h.sh⟩⟩
theorem ztl {e : E} {k : K} : (zld e k).isSome = true ↔ k ∈ keys e := by
 unfold zld keys
 rw [iO, List.find?_isSome]
 simp
theorem zky.del {c : Tc} {n k0 : Nat} {r : Rt} {g : Sg} {s : Pg} (h : zky c n r g s) (hl : k0 ≤ 400) (h6 : (zax n).cap < 6 → k0 ≤ 60) (he : (za2 r).length ≤ k0) (k : K) :
  ∃ r' g', zvb c.sh c.N k g (zfj r : Nat) = .ok (((zfj r' : Nat), (zld (za2 r) k).isSome), g') ∧ za2 r' = zc1 (za2 r) k ∧ ∀ s', Tok c g' s' → zky c n r' g' s' := by
 obtain ⟨-, q2⟩ := zza hl h6 r h.rt he
 have hacc : Acc 128 g.S (zj4 r ++ []) := by rw [bA]; exact h.acc
 obtain ⟨g', a1, a2, a3, -⟩ := qik (zdd n) (N := 128) dQ dQ k r g [] h.rt h.rep hacc q2
 obtain ⟨b1, b0, b2, b3⟩ := ql3 (zdd n) 128 dQ k r g.S [] h.rt hacc
 rw [bA, ← a3] at b3
 have hb : (zxf (zax n) 128 k g.S r).2.1 = (zld (za2 r) k).isSome := by rw [dA, b0, ztl]
 rw [hb] at a1
 exact ⟨_, g', by rw [h.cN, h.sh]; exact a1, b2, fun s' h' => ⟨h', b1, a2, b3, by rw [b2]; exact zxy h.es, h.cN, h.sh⟩⟩
theorem zky.low {c : Tc} {n : Nat} {r : Rt} {g : Sg} {s : Pg} (h : zky c n r g s) : ∀ x ∈ zj4 r, 1 ≤ x ∧ x < 128 := h.acc.low
theorem zky.get {c : Tc} {n k0 : Nat} {r : Rt} {g : Sg} {s : Pg} (h : zky c n r g s) (hl : k0 ≤ 400) (h6 : (zax n).cap < 6 → k0 ≤ 60) (he : (za2 r).length ≤ k0) (k : K) : zx7 c.sh c.N g k (zfj r : Nat) = .ok (zld (za2 r) k) := by
 rw [h.cN, h.sh]
 exact qit (zdd n) dQ k r g h.rt h.rep h.low (zza hl h6 r h.rt he).2
theorem zky.check {c : Tc} {n k0 : Nat} {r : Rt} {g : Sg} {s : Pg} (h : zky c n r g s) (hl : k0 ≤ 400) (h6 : (zax n).cap < 6 → k0 ≤ 60) (he : (za2 r).length ≤ k0) : zl9 c.sh c.N g (zfj r : Nat) = .ok ((za2 r).length, (zj4 r).length) := by
 rw [h.cN, h.sh]
 exact qb7 (zdd n) dQ r g h.rt h.rep h.low (zza hl h6 r h.rt he).2
theorem zky.all {c : Tc} {n k0 : Nat} {r : Rt} {g : Sg} {s : Pg} (h : zky c n r g s) (hl : k0 ≤ 400) (h6 : (zax n).cap < 6 → k0 ≤ 60) (he : (za2 r).length ≤ k0) (f : K) : qqy c.sh c.N g f (zfj r : Nat) (geE (za2 r) f) := by
 have q2 := (zza hl h6 r h.rt he).2
 have hs := zdd n
 have hlow := h.low
 have hrep := h.rep
 have hr := h.rt
 rw [h.cN, h.sh]
 match r, hr, hrep, hlow, q2 with
 | none, _, _, _, _ => exact .inl ⟨rfl, rfl⟩
 | some ⟨hh, t⟩, hr, hrep, hlow, q2 =>
  have hr : TOk (zax n) t := hr
  have hlow : ∀ x ∈ pgs t, 1 ≤ x ∧ x < 128 := hlow
  refine .inr ⟨pg t, rfl, ?_, ?_⟩
  ·have := (hlow (pg t) (zby t)).1
   omega
  ·show qod (zax n) 128 g f 16 (pg t) (geE (ents t) f)
   rw [← qec t f hr.ord]
   exact qko hs.kw dQ t hr.ord hr.wd hr.below hr.le hr.two (fun h' => by show 2 ≤ (zax n).fan / 2; have := hs.h4; omega) hrep hlow 16 q2
end Go.Proofs.YtkkfifhaobjicaaGreatDoor
namespace Go.Proofs.YtkkfifhaobjicaaGreatDoor
open Go.RowKit Go.Eng Go.Eng.Bm Go.Eng.Tr
set_option maxRecDepth 100000
set_option maxHeartbeats 40000000
abbrev stC (c : Tc) (xb : Nat) (o : Om) (e : E) : Eng.Item := pt xb (.cells #[.pointer (some ⟨c.pb, 0, none⟩), .pointer (some ⟨c.t, 0, none⟩), slV o.1 e.length, slV o.2 e.length] 41 (0, 0))
def tsL (c : Tc) (xb : Nat) (r : Rt) (s : Pg) (o : Om) : List Eng.Item := [stC c xb o (za2 r), tmI c (zfj r : Nat) s, own 9 1 o.1 (za2 r).length ((za2 r).map fun y => kV y.1), own 9 1 o.2 (za2 r).length ((za2 r).map fun y => kV y.2)]
theorem zd2 (c : Tc) (xb : Nat) (r : Rt) (s : Pg) (o : Om) : ∀ it ∈ tsL c xb r s o, it.Stable none' := by
 intro it hm
 rcases hm with _ | ⟨_, _ | ⟨_, _ | ⟨_, _ | ⟨_, hm⟩⟩⟩⟩
 ·exact zac _ _ _
 ·exact zad _
 ·exact zab _ _ _ _ _ _
 ·exact zab _ _ _ _ _ _
 ·cases hm
structure Ty where
 c : Tc
 xb : Nat
 s : Pg
 o : Om
theorem zrm : ∀ it ∈ [ctI], it.Stable none' := by
 intro it hm
 rcases hm with _ | ⟨_, hm⟩
 ·exact zc0 _
 ·cases hm
theorem qds (c : Tc) (xb : Nat) (r : Rt) (s : Pg) (o : Om) : ∀ it ∈ tsL c xb r s o ++ [ctI], it.Stable none' := fun it hm => by
 rcases aS.1 hm with hm | hm
 ·exact zd2 c xb r s o it hm
 ·exact zrm it hm
theorem qhk {s : Pg} {d : Dk} {V : List Bys} {C : PR} (n bt : Nat) (hst : StX s d.D 128 96 zt0 V C 2) (hV : V = V0 128) (hC : C = []) : zky ⟨d, bt, s.b, zax n, 128, 96, zt0, V, 2⟩ n none ⟨fun i => zf0 V s.C i, upd noU 0 true⟩ s := by
 have hsC : s.C = [] := bM (by rw [← hst.many, hC]; rfl)
 have hview : zf0 V s.C 0 = bm0 128 := by rw [hsC, hV]; show (V0 128).getD 0 [] = _; rw [aC, qh8 dQ]; rfl
 refine ⟨⟨hst.self', rfl, fun _ _ _ => rfl, ?_, qa5 n, show 1 ≤ 128 by decide, show 128 ≤ 1024 by decide⟩, trivial, trivial, ⟨fI, fun i hi => ?_, fun x hx => nomatch hx⟩, List.Pairwise.nil, rfl, rfl⟩
 ·show qd3 128 (zf0 V s.C 0) _
  rw [hview]
  exact qkr 128 dQ
 ·show upd noU 0 true i = true ↔ i = 0 ∨ i ∈ []
  unfold upd noU
  by_cases h : i = 0
  ·simp [h]
  ·simp [h]
theorem zlz (n : Nat) (hn : n < 256) (w : World) (hw : ∀ it ∈ [ctI, tzI], za1 it w) (ha : [ctI, tzI].Pairwise Eng.Item.Apart) :
  Ct Tryz.prog 8 #[.int .u8 n] w (zan [ctI, tzI]) (fun y : Ty => .tuple #[.pointer (some ⟨y.xb, 0, none⟩), .bool true]) (fun y => ∃ g, zky y.c n none g y.s) (fun y => tsL y.c y.xb none y.s y.o ++ [ctI]) := by
 refine zbb [_] _ Tryz.func8 rfl rfl hw ha ?_
 simp only [zaa]
 refine goA ?_
 refine lCu [ctI] rfl zrm (fun w1 hw1 hh1 ha1 => zu1 96 dQ dQ w1 hh1) fun ⟨x, hx⟩ => ?_
 obtain ⟨⟨hst, ar, -, -, -⟩, hleft, hV, hC⟩ := hx
 obtain ⟨xb, s, d, pv, cv, pm, V, C, A⟩ := x
 dsimp only at hst ar hleft hV hC ⊢
 unfold lwC
 simp only [aE, aI]
 refine goA ?_
 refine zde [0, 1, 2, 3, 5] rfl rfl ?_
 refine zao [0, 1, 2, 3, 4] 16 rfl rfl kQ ?_
 refine goE ?_
 refine dPu 9 rfl rfl (fun w1 hw1 => zp4 n hn w1) ?_
 refine goE ?_
 refine zaw 11 ⟨kQ, dQ⟩ rfl rfl (qc0 rfl rfl) (fun _ _ h => goH h) fun ⟨bt, _⟩ => ?_
 refine goE ?_
 refine zaw 13 ⟨kQ, dQ⟩ rfl rfl (qc0 rfl rfl) (fun _ _ h => goH h) fun ⟨bs, _⟩ => ?_
 refine goX ?_
 have hT := qhk n bt hst hV hC
 refine zb3 (m' := tsL ⟨d, bt, s.b, zax n, 128, 96, zt0, V, 2⟩ bs none s (none, none) ++ [ctI]) (fun w' hw' => ?_) ?_
 ·have h1 : Hp w (zan [ctI, tzI]) (tmL ⟨d, bt, s.b, zax n, 128, 96, zt0, V, 2⟩ 0 s ++ [stC ⟨d, bt, s.b, zax n, 128, 96, zt0, V, 2⟩ bs (none, none) [], ctI]) w' := hw'.pick [1, 3, 4, 6, 0, 5] rfl rfl
  have h2 := zyb 9 1 (zyb 9 1 (zfs h1))
  exact h2.pick [3, 2, 0, 1, 4] rfl rfl
 ·exact zdq ⟨⟨d, bt, s.b, zax n, 128, 96, zt0, V, 2⟩, bs, s, (none, none)⟩ rfl rfl rfl rfl ⟨_, hT⟩ (.refl _) (qds _ _ _ _ _)
end Go.Proofs.YtkkfifhaobjicaaGreatDoor
namespace Go.Proofs.YtkkfifhaobjicaaGreatDoor
open Go.RowKit Go.Eng Go.Eng.Bm Go.Eng.Tr
set_option maxRecDepth 100000
set_option maxHeartbeats 40000000
def qqp (d : Nat) (k v : K) (e : E) : E := if d = 0 then zc1 e k else if d = 1 ∨ d = 2 then e else zfp e k v
theorem qnd (c : Tc) (root : Int) (s : Pg) : [tmI c root s].Pairwise Eng.Item.Apart := .cons (fun _ h => nomatch h) .nil
theorem qm3 (n : Nat) : 2 ≤ (zax n).kw ∧ (zax n).kw ≤ 1000 ∧ 2 ≤ (zax n).vw ∧ (zax n).vw ≤ 1000 := by
 rcases zfl n with ⟨-, e⟩ | ⟨-, e⟩ | ⟨-, e⟩ | ⟨-, e⟩ | ⟨-, e⟩ <;> (rw [e]; decide)
theorem zqo {l : zaq} {w0 : World} {F : Nat → Prop} {m : List Eng.Item} {ty : TypeId} {x : Operand} {c : Tc} {xb : Nat} {o : Om} {e : E} (hx : evO l x = some (.pointer (some ⟨xb, 2, none⟩))) (hm : stC c xb o e ∈ m) : OV Tryz.prog (.load 39 x) ty l (Hp w0 F m) (dmV o e) :=
 zft (xs := [slV o.1 e.length, slV o.2 e.length]) hx rfl (fun _ hw j v hv => by
  have := za7 (cs := [.pointer (some ⟨c.pb, 0, none⟩), .pointer (some ⟨c.t, 0, none⟩), slV o.1 e.length, slV o.2 e.length]) (hw.item _ hm).1 (2 + j) v (by rw [gA]; exact hv)
  rwa [aF] at this) rfl
theorem zqe (n : Nat) {k0 : Nat} {c : Tc} (xb : Nat) {r : Rt} {g : Sg} {s : Pg} (o : Om) (h : zky c n r g s) (hl : k0 ≤ 400) (h6 : (zax n).cap < 6 → k0 ≤ 60) (he : (za2 r).length ≤ k0) (d k v : Nat) (hk : k < 65536) (hv : v < 65536) (w : World) (hw : ∀ it ∈ tsL c xb r s o, za1 it w) (ha : (tsL c xb r s o).Pairwise Eng.Item.Apart) :
  Ct Tryz.prog 9 #[.pointer (some ⟨xb, 0, none⟩), .agg #[.int .u8 d, .int .u16 k, .int .u16 v]] w (zan (tsL c xb r s o)) (fun _ : Rt × Pg × Om => .bool true) (fun y => (∃ g', zky c n y.1 g' y.2.1) ∧ za2 y.1 = qqp d (zi9 k (zax n).kw) (zi9 v (zax n).vw) (za2 r)) (fun y => tsL c xb y.1 y.2.1 y.2.2) := by
 obtain ⟨z1, z2, z3, z4⟩ := qm3 n
 have hsh := h.sh
 refine zbb [_, _] _ Tryz.func9 rfl rfl hw ha ?_
 unfold tsL
 simp only [zaa, Nat.reduceAdd]
 refine goA ?_
 refine zbt rfl rfl fun b3 hb3 => ?_
 refine goA ?_
 refine zao [0, 1, 2, 3, 4] 24 rfl rfl kQ ?_
 refine goE ?_
 refine goV rfl rfl (zkw rfl mm rfl) ?_
 refine goE ?_
 refine goV rfl rfl (zkw rfl mm rfl) ?_
 refine goE ?_
 rw [hsh]
 refine dPu 10 rfl rfl (fun w1 hw1 => zqh k _ hk z1 z2 w1) ?_
 refine goE ?_
 refine dPu 21 rfl rfl (fun w1 hw1 => zqh v _ hv z3 z4 w1) ?_
 refine goE ?_
 refine zei kQ ?_
 obtain ⟨key, hkey⟩ : ∃ x, zi9 k (zax n).kw = x := ⟨_, rfl⟩
 obtain ⟨val, hval⟩ : ∃ x, zi9 v (zax n).vw = x := ⟨_, rfl⟩
 have hkl : key.length = (zax n).kw := by rw [← hkey]; exact zqg _ _
 have hvl : val.length = (zax n).vw := by rw [← hval]; exact zqg _ _
 have hb : (za2 r).length ≤ 1000000 := oQ
 rw [hkey, hval]
 refine goA ?_
 by_cases h0 : d = 0
 ·subst h0
  obtain ⟨r', g', e1, e2, e3⟩ := h.del hl h6 he key
  refine goA ?_
  refine za0 [2, 0, 1, 3, 4] rfl rfl ?_
  refine lCu [tmI c (zfj r : Nat) s] rfl (zae c _ s) (fun w1 hw1 hh1 ha1 => zvc h.tok _ key (by rw [hsh]; exact hkl) e1 w1 hh1) fun ⟨s', hs'⟩ => ?_
  have hs' : Tok c g' s' := hs'
  simp only [aE, aI]
  refine goA ?_
  refine l_w rfl (zqo rfl mm) ?_
  refine goA ?_
  refine za0 [3, 4, 0, 1, 2] rfl rfl ?_
  refine lCu (dmI o (za2 r)) rfl (zff o _) (fun w1 hw1 hh1 ha1 => zma o (za2 r) h.es key hb w1 hh1 ha1) fun ⟨o', _⟩ => ?_
  simp only
  unfold dmI
  simp only [aE, aI]
  rw [← e2]
  refine goA ?_
  refine zal rfl rfl fun b9 hb9 => ?_
  refine zaz rfl (zag (cs' := dmC o' (za2 r')) rfl rfl rfl rfl (zja _ _ _) rfl) fun _ => ?_
  refine goA ?_
  refine zaz rfl (zai (zg2 _ _ _ _ _ _ _) (zgv (cs := [.pointer (some ⟨c.pb, 0, none⟩), .pointer (some ⟨c.t, 0, none⟩), slV o.1 (za2 r).length, slV o.2 (za2 r).length]) (V := [slV o'.1 (za2 r').length, slV o'.2 (za2 r').length]) rfl rfl rfl rfl rfl (zja _ _ _) (show (2 + 2 : Nat) ≤ 4 from dQ))) fun _ => ?_
  refine goA ?_
  refine zec [0, 4, 2, 3] rfl rfl ?_
  exact zbs (r', s', o') rfl rfl rfl ⟨⟨g', e3 s' hs'⟩, e2⟩ (.refl _) (zd2 c xb r' s' o')
 ·by_cases h1 : d = 1
  ·subst h1
   refine goA ?_
   refine za0 [2, 0, 1, 3, 4] rfl rfl ?_
   refine lCu [tmI c (zfj r : Nat) s] rfl (zae c _ s) (fun w1 hw1 hh1 ha1 => qo1 h.tok _ key (by rw [hsh]; exact hkl) (h.get hl h6 he key) w1 hh1) fun ⟨s', hs'⟩ => ?_
   have hs' : Tok c g s' := hs'
   simp only [aE, aI]
   refine goA ?_
   refine l_w rfl (zqo rfl mm) ?_
   refine goA ?_
   refine lPu rfl (fun w1 hw1 => zrq o (za2 r) h.es key hb w1 (zow hw1 mm mm)) ?_
   refine goA ?_
   refine zec [2, 0, 3, 4] rfl rfl ?_
   exact zbs (r, s', o) rfl rfl rfl ⟨⟨g, h.store hs'⟩, rfl⟩ (.refl _) (zd2 c xb r s' o)
  ·by_cases h2 : d = 2
   ·subst h2
    obtain ⟨also, hal⟩ : ∃ b, (((v % 2 : Nat) : Int) == 1) = b := ⟨_, rfl⟩
    have hfr : (geE (za2 r) key).find? (frP key also) = zim (za2 r) key also := ql8 (za2 r) key also
    refine goA ?_
    refine zde [2, 0, 1, 3, 4] rfl rfl ?_
    refine zao [1, 2, 3, 4] 19 rfl rfl kQ ?_
    refine goE ?_
    rw [hal]
    refine zaw 9 ⟨kQ, dQ⟩ rfl rfl (zg5 (pre := [tmI c (zfj r : Nat) s]) rfl kQ rfl (zae c _ s) (fun w1 hw1 hh1 ha1 => from_ok' h.tok _ key also (by rw [hkl]; omega) (h.all hl h6 he key) w1 hh1)) (fun _ _ h => goH h) fun ⟨s', hs'⟩ => ?_
    have hs' : Tok c g s' := hs'
    rw [hfr]
    unfold frV
    simp only [aE, aI]
    refine goX ?_
    refine zao [0, 1, 2, 3, 4] 17 rfl rfl kQ ?_
    refine goE ?_
    refine goV rfl rfl (zqo rfl mm) ?_
    refine goE ?_
    rw [hal]
    refine dPu 9 rfl rfl (fun w1 hw1 => zx6 o (za2 r) key also hb w1 (zow hw1 mm mm)) ?_
    refine goX ?_
    refine zec [2, 0, 3, 4] rfl rfl ?_
    exact zbs (r, s', o) rfl rfl rfl ⟨⟨g, h.store hs'⟩, rfl⟩ (.refl _) (zd2 c xb r s' o)
   ·obtain ⟨r', g', e1, e2, e3⟩ := h.put hl h6 he key val hkl hvl
    refine goA ?_
    refine l_w rfl (zqo rfl mm) ?_
    refine goA ?_
    refine za0 [3, 4, 0, 1, 2] rfl rfl ?_
    refine lCu (dmI o (za2 r)) rfl (zff o _) (fun w1 hw1 hh1 ha1 => qdc o (za2 r) h.es key val hb w1 hh1 ha1) fun ⟨o', _⟩ => ?_
    simp only
    unfold dmI
    simp only [aE, aI]
    rw [← e2]
    refine goA ?_
    refine zaz rfl (zai (zdl _ _ _ _ _) (zgv (cs := [.pointer (some ⟨c.pb, 0, none⟩), .pointer (some ⟨c.t, 0, none⟩), slV o.1 (za2 r).length, slV o.2 (za2 r).length]) (V := [slV o'.1 (za2 r').length, slV o'.2 (za2 r').length]) rfl rfl rfl rfl rfl (zja _ _ _) (show (2 + 2 : Nat) ≤ 4 from dQ))) fun _ => ?_
    refine goA ?_
    refine za0 [4, 0, 1, 2] rfl rfl ?_
    refine lCu [tmI c (zfj r : Nat) s] rfl (zae c _ s) (fun w1 hw1 hh1 ha1 => zsc h.tok _ key val (by rw [hsh]; exact hkl) (by rw [hsh]; exact hvl) e1 w1 hh1) fun ⟨s', hs'⟩ => ?_
    have hs' : Tok c g' s' := hs'
    simp only [aE, aI]
    refine goA ?_
    refine zec [1, 0, 2, 3] rfl rfl ?_
    exact zbs (r', s', o') rfl rfl rfl ⟨⟨g', e3 s' hs'⟩, by rw [e2]; unfold qqp; rw [if_neg h0, if_neg oQ]⟩ (.refl _) (zd2 c xb r' s' o')
def smL (c : Tc) (xb b4 b3 b1 : Nat) (o : Om) (e : E) (i : Nat) : List Eng.Item := [pt b4 (.cells #[.bool true] 4 (0, 0)), pt b3 (.cells #[.int .i64 (i : Nat)] 3 (0, 0)), pt b1 (.cells #[.pointer (some ⟨xb, 0, none⟩)] 25 (0, 0)), stC c xb o e, own 9 1 o.1 e.length (e.map fun y => kV y.1), own 9 1 o.2 e.length (e.map fun y => kV y.2)]
theorem zm3 (c : Tc) (xb b4 b3 b1 : Nat) (o : Om) (e : E) (i : Nat) : ∀ it ∈ smL c xb b4 b3 b1 o e i, it.Stable none' := by simp [smL, zac, zab]
theorem zzc (c : Tc) (xb b4 b3 b1 : Nat) (o : Om) (e : E) (hb : e.length ≤ 1000000) (i : Nat) (y : K × K) (hy : e[i]? = some y) (w : World) (hw : ∀ it ∈ smL c xb b4 b3 b1 o e i, za1 it w) (ha : (smL c xb b4 b3 b1 o e i).Pairwise Eng.Item.Apart) :
  Ct Tryz.prog 29 #[kV y.1, kV y.2, .pointer (some ⟨b4, 0, none⟩), .pointer (some ⟨b3, 0, none⟩), .pointer (some ⟨b1, 0, none⟩)] w (zan (smL c xb b4 b3 b1 o e i)) (fun x : Bool × Nat => .bool x.1) (fun x => x = (true, i + 1)) (fun x => smL c xb b4 b3 b1 o e x.2) := by
 obtain ⟨hlt, -⟩ := aM.1 hy
 refine zbb [.string (kB y.1), .string (kB y.2), _, _, _] _ Tryz.func29 rfl rfl hw ha ?_
 unfold smL
 simp only [zaa, Nat.reduceAdd]
 refine zfd (fun w hw => And.intro (zbn (hw.item (own 9 1 o.1 e.length (e.map fun y => kV y.1)) mm).1 oQ) (zbn (hw.item (own 9 1 o.2 e.length (e.map fun y => kV y.2)) mm).1 oQ)) fun ⟨⟨kb, kc, e1⟩, ⟨vb, vc, e2⟩⟩ => ?_
 obtain ⟨o1, o2⟩ := o
 simp only at e1 e2
 subst e1
 subst e2
 unfold stC
 simp only [qrp]
 refine goA ?_
 refine zao [0, 1, 2, 3, 4, 5] 35 rfl rfl kQ ?_
 refine goE ?_
 refine goV rfl rfl (zjc (v := .string (kB y.1)) rfl rfl (.tail _ (.tail _ (.tail _ (.tail _ (.head _))))) (by rw [aN, aF, hy]; rfl)) ?_
 refine goE ?_
 refine goV rfl rfl (zjc (v := .string (kB y.2)) rfl rfl (.tail _ (.tail _ (.tail _ (.tail _ (.tail _ (.head _)))))) (by rw [aN, aF, hy]; rfl)) ?_
 refine goE ?_
 rw [show seq (kB y.2) (kB y.2) = true by simp [seq]]
 refine zdm ⟨kQ, kQ⟩ rfl rfl (zah rfl rfl rfl rfl rfl rfl sQ) fun _ => ?_
 refine goA ?_
 refine zaz rfl (zai (zce _ _ _) (zah rfl rfl rfl rfl rfl rfl sQ)) fun _ => ?_
 refine goA ?_
 refine zec [1, 0, 2, 3, 4, 5] rfl rfl ?_
 exact zbs (true, i + 1) rfl rfl rfl rfl (.refl _) (zm3 c xb b4 b3 b1 (some (kb, kc), some (vb, vc)) e (i + 1))
theorem qmb (e : E) : geE e [] = e := by
 unfold geE
 exact cX.2 fun q _ => by
  have : ¬ kl q.1 [] := fun h => by obtain ⟨a, b⟩ := q; cases a <;> cases h
  simpa using this
theorem zzm (n : Nat) {k0 : Nat} {c : Tc} (xb : Nat) {r : Rt} {g : Sg} {s : Pg} (o : Om) (h : zky c n r g s) (hl : k0 ≤ 400) (h6 : (zax n).cap < 6 → k0 ≤ 60) (he : (za2 r).length ≤ k0) (w : World) (hw : ∀ it ∈ tsL c xb r s o, za1 it w) (ha : (tsL c xb r s o).Pairwise Eng.Item.Apart) :
  Ct Tryz.prog 10 #[.pointer (some ⟨xb, 0, none⟩)] w (zan (tsL c xb r s o)) (fun _ : Pg => .bool true) (fun s' => zky c n r g s') (fun s' => tsL c xb r s' o) := by
 have hb : (za2 r).length ≤ 1000000 := oQ
 refine zbb [_] _ Tryz.func10 rfl rfl hw ha ?_
 unfold tsL
 simp only [zaa]
 refine goA ?_
 refine zd3 rfl rfl rfl fun b1 hb1 => ?_
 refine goA ?_
 refine zed rfl rfl rfl fun b3 hb3 => ?_
 refine goA ?_
 refine zaz rfl (zah rfl rfl rfl rfl rfl rfl sQ) fun _ => ?_
 refine goA ?_
 refine zed rfl rfl rfl fun b4 hb4 => ?_
 refine goA ?_
 refine zaz rfl (zah rfl rfl rfl rfl rfl rfl sQ) fun _ => ?_
 refine goA ?_
 refine l_w rfl (zn5 rfl) ?_
 refine goA ?_
 have hA := h.all hl h6 he []
 rw [qmb] at hA
 refine za0 [4, 0, 1, 2, 3, 5, 6] rfl rfl ?_
 refine zgt rfl (zg5 (pre := tmI c (zfj r : Nat) s :: smL c xb b4 b3 b1 o (za2 r) 0) rfl kQ rfl (fun it hm => by
  rcases hm with _ | ⟨_, hm⟩
  ·exact zad _
  ·exact zm3 _ _ _ _ _ _ _ _ it hm) (fun w1 hw1 hh1 ha1 => ql6 h.tok _ hA (fun i => smL c xb b4 b3 b1 o (za2 r) i) (fun k i => i = k.length) (fun _ => False) 0 (fd := 29) (cs := [.pointer (some ⟨b4, 0, none⟩), .pointer (some ⟨b3, 0, none⟩), .pointer (some ⟨b1, 0, none⟩)]) kQ (fun i => zm3 _ _ _ _ _ _ _ i) rfl (fun k y st hp hI w2 hw2 ha2 => by
   subst hI
   obtain ⟨t, ht⟩ := hp
   exact (zzc c xb b4 b3 b1 o (za2 r) hb k.length y (by rw [← ht]; simp) w2 hw2 ha2).map fun x hx => ⟨x, rfl, .inl (by rw [hx]; exact ⟨rfl, by simp⟩), rfl⟩) w1 hh1 ha1)) fun ⟨⟨s', i⟩, hs', hi⟩ => ?_
 have hs' : Tok c g s' := hs'
 obtain rfl : i = (za2 r).length := hi.resolve_right fun h => h
 simp only
 unfold smL
 simp only [aE, aI]
 refine goA ?_
 refine zfd (fun w hw => (zas (hw.item (own 9 1 o.1 (za2 r).length ((za2 r).map fun y => kV y.1)) mm).1).1) fun f1 => ?_
 unfold stC
 rw [f1]
 refine zao [0, 1, 2, 3, 4, 5, 6] 16 rfl rfl kQ ?_
 refine goX ?_
 refine zec [4, 0, 5, 6] rfl rfl ?_
 exact zbs s' rfl rfl sQ (h.store hs') (.refl _) (by have := zd2 c xb r s' o; unfold tsL stC at this; rw [f1] at this; exact this)
theorem qc6 {h : Nat} (t : T (h + 1)) (h2 : 2 ≤ sz t) : 3 ≤ (pgs t).length := by
 obtain ⟨p, ks, kids⟩ := t
 have h2 : 2 ≤ kids.length := h2
 show 3 ≤ (p :: kids.flatMap pgs).length
 rw [aZ, zlc]
 have := zqa kids (fun _ => 0) (fun x => (pgs x).length) 1 fun x _ => fN (zby x)
 omega
theorem qp8 {r : Rt} (hr : zxi (zax 0) r) (he : (za2 r).length = 14) : (zj4 r).length = 3 := by
 have hf := (zwe (zdd 0) r hr).1
 rw [he] at hf
 match r, hr, he, hf with
 | none, _, he, _ => cases he
 | some ⟨0, t⟩, hr, he, _ =>
  have h1 : (t.2 : E).length ≤ 13 := TOk.le hr
  have h2 : (t.2 : E).length = 14 := he
  omega
 | some ⟨h + 1, t⟩, hr, he, hf =>
  have h1 := qc6 t (TOk.two hr (dX _))
  have hf : 3 * (pgs t).length ≤ 4 * (14 / 6) + 1 + (if (pgs t).length = 1 then 3 else 0) := hf
  rw [if_neg oQ] at hf
  show (pgs t).length = 3
  omega
def qoc : Nat → E
 | 0 => []
 | i + 1 => zfp (qoc i) (zi9 i 33) (zi9 1 4)
theorem qbw : ∀ i, (qoc i).length ≤ i
 | 0 => aX _
 | i + 1 => by have := qbw i; have := zh8 (e := qoc i) (k := zi9 i 33) (v := zi9 1 4); unfold qoc; omega
theorem qny : (qoc 14).length = 14 := by decide +kernel
theorem qho {w w0 : World} {F : Nat → Prop} {c : Tc} {xb : Nat} {r : Rt} {s : Pg} {o : Om} (h : Hp w0 F (tsL c xb r s o ++ [ctI]) w) : Hp w0 F [ctI, tzI] w := by
 unfold tsL at h
 simp only [aE, aI] at h
 have h1 := zhk (h.pick [1, 0, 2, 3, 4] rfl rfl)
 exact h1.pick [7, 3] rfl rfl
theorem zgg : ∀ it ∈ [ctI, tzI], it.Stable none' := by
 intro it hm
 rcases hm with _ | ⟨_, _ | ⟨_, hm⟩⟩
 ·exact zc0 _
 ·exact zjz _
 ·cases hm
theorem znr (w : World) (hw : ∀ it ∈ [ctI, tzI], za1 it w) (ha : [ctI, tzI].Pairwise Eng.Item.Apart) :
  Ct Tryz.prog 7 #[] w (zan [ctI, tzI]) (fun _ : Unit => .bool true) (fun _ => True) (fun _ => [ctI, tzI]) := by
 refine zbb [] _ Tryz.func7 rfl rfl hw ha ?_
 simp only [zaa]
 refine goA ?_
 refine zgt rfl (zg5 (pre := [ctI, tzI]) rfl kQ rfl (fun it hm => by
  rcases hm with _ | ⟨_, _ | ⟨_, hm⟩⟩
  ·exact zc0 _
  ·exact zjz _
  ·cases hm) (fun w1 hw1 hh1 ha1 => zlz 0 dQ w1 hh1 ha1)) fun ⟨⟨c, xb, s, o⟩, g, h⟩ => ?_
 have h : zky c 0 none g s := h
 simp only
 refine goA ?_
 refine zcp (α := Nat × Rt × Pg × Om) (fun y => [(1, .pointer (some ⟨xb, 0, none⟩)), (3, .int .i64 (y.1 : Nat))]) (fun y => y.1 ≤ 14 ∧ (∃ g, zky c 0 y.2.1 g y.2.2.1) ∧ za2 y.2.1 = qoc y.1) (fun y => tsL c xb y.2.1 y.2.2.1 y.2.2.2 ++ [ctI]) (fun y => 14 - y.1) (0, none, s, o) ⟨rfl, rfl, trivial⟩ ⟨aV _, ⟨g, h⟩, rfl⟩ (fun w' hw' => by rw [bA] at hw'; exact hw') fun ⟨i, r, s, o⟩ ⟨hi, ⟨g, h⟩, he⟩ => ?_
 simp only at hi h he ⊢
 have hle : (za2 r).length ≤ 14 := by rw [he]; exact cL (qbw i) hi
 by_cases hlt : i < 14
 ·refine goA ?_
  refine zcr 20 _ (.agg #[.int .u8 ((3 : Nat) : Int), .int .u16 (i : Nat), .int .u16 ((1 : Nat) : Int)]) rfl rfl ?_
  refine lCu (tsL c xb r s o) rfl (zd2 c xb r s o) (fun w1 hw1 hh1 ha1 => zqe 0 (k0 := 14) xb o h dQ (fun _ => dQ) hle 3 i 1 oQ dQ w1 hh1 ha1) fun ⟨⟨r', s', o'⟩, hg', he'⟩ => ?_
  simp only at hg' he' ⊢
  refine goA ?_
  exact zav (i + 1, r', s', o') ⟨rfl, rfl, trivial⟩ ⟨hlt, hg', by rw [he', he]; rfl⟩ (fun w' hw' => hw') (by simp only; omega)
 ·obtain rfl : i = 14 := oQ
  have hl14 : (za2 r).length = 14 := by rw [he]; exact qny
  have hck := h.check (k0 := 14) dQ (fun _ => dQ) hle
  rw [hl14, qp8 h.rt hl14] at hck
  unfold tsL
  simp only [aE, aI]
  refine goA ?_
  refine za0 [1, 0, 2, 3, 4] rfl rfl ?_
  refine lCu [tmI c (zfj r : Nat) s] rfl (zae c _ s) (fun w1 hw1 hh1 ha1 => zz6 h.tok _ hck dQ dQ w1 hh1) fun ⟨s', hs'⟩ => ?_
  have hs' : Tok c g s' := hs'
  simp only [aE, aI]
  refine goA ?_
  refine za0 [1, 0, 2, 3, 4] rfl rfl ?_
  refine lCu (tsL c xb r s' o) rfl (zd2 c xb r s' o) (fun w1 hw1 hh1 ha1 => zzm 0 (k0 := 14) xb o (h.store hs') dQ (fun _ => dQ) hle w1 hh1 ha1) fun ⟨s'', hs''⟩ => ?_
  simp only
  refine goA ?_
  exact zb3 (fun w' hw' => qho hw') (zbs () rfl rfl rfl trivial (.refl _) zgg)
structure A10 where
 d : Nat
 k : Nat
 v : Nat
def A10.vs (x : A10) : List Value := [.int .u8 x.d, .int .u16 x.k, .int .u16 x.v]
theorem A10.sz (x : A10) : x.vs.length = 3 := rfl
structure A10.Ok (x : A10) : Prop where
 d : x.d < 256
 k : x.k < 65536
 v : x.v < 65536
theorem qd7 {w : World} {L : List A10} {a : Option Addr} (h : Rd w a (zc4 A10.vs L)) {i : Nat} (hi : i < L.length) : ∃ b off, a = some ⟨b, off, none⟩ ∧ w.rangeAt b (off + i * 3) (L[i]'hi).vs := by
 obtain ⟨b, off, rfl, hrow⟩ := h.at_ (by intro h; have := congrArg List.length h; rw [znn A10.sz] at this; simp at this; omega)
 exact ⟨b, off, rfl, Rd.row A10.sz hrow hi⟩
theorem qib (d : Nat) (k v : K) (e : E) : (qqp d k v e).length ≤ e.length + 1 := by
 unfold qqp
 split
 ·have : (zc1 e k).length ≤ e.length := fT _ _
  omega
 ·split
  ·omega
  ·exact zh8
theorem qe8 {n k : Nat} (h : (decide (400 < k) || (decide (60 < k) && decide ((zax n).cap < 6))) = false) : k ≤ 400 ∧ ((zax n).cap < 6 → k ≤ 60) := by
 simp only [Bool.or_eq_false_iff, Bool.and_eq_false_iff, decide_eq_false_iff_not] at h
 omega
end Go.Proofs.YtkkfifhaobjicaaGreatDoor
namespace Go.Proofs.YtkkfifhaobjicaaGreatDoor
open Go.RowKit Go.Eng Go.Eng.Bm Go.Eng.Tr
set_option maxRecDepth 100000
theorem zrk (S : Nat → Bool) : ∀ n, cnt S n = ((List.range n).filter S).length
 | 0 => rfl
 | n + 1 => by
  rw [cnt, zrk S n, List.range_succ, gH, aA]
  cases h : S n <;> simp [h]
theorem ql1 {n : Nat} (hn : 0 < n) {S : Nat → Bool} {L : List Nat} (h : Acc n S L) : cnt S n = 1 + L.length := by
 rw [zrk]
 have n1 : ((List.range n).filter S).Nodup := dB jH List.nodup_range
 have n2 : (0 :: L).Nodup := cS.2 ⟨fun h0 => by have := (h.low 0 h0).1; omega, h.nodup⟩
 have e : ∀ x, x ∈ (List.range n).filter S ↔ x ∈ 0 :: L := fun x => by
  rw [eG, dN, aJ]
  refine ⟨fun ⟨h1, h2⟩ => (h.is x h1).1 h2, fun h1 => ?_⟩
  have hx : x < n := by
   rcases h1 with rfl | h1
   ·exact hn
   ·exact (h.low x h1).2
  exact ⟨hx, (h.is x hx).2 h1⟩
 have l1 := zli n1 fun x hx => (e x).1 hx
 have l2 := zli n2 fun x hx => (e x).2 hx
 rw [aZ] at l1 l2
 omega
theorem zky.used {c : Tc} {n : Nat} {r : Rt} {g : Sg} {s : Pg} (h : zky c n r g s) : cnt g.S 1024 = 1 + (zj4 r).length := by
 have hS := h.tok.S
 rw [h.cN] at hS
 rw [show (1024 : Nat) = 128 + 896 from rfl, zu8 hS.2.1, ql1 dQ h.acc]
theorem zr6 {n : Nat} {r : Rt} (hr : zxi (zax n) r) : (zj4 r).length = 0 ↔ (za2 r).length = 0 := by
 match r, hr with
 | none, _ => exact ⟨fun _ => rfl, fun _ => rfl⟩
 | some ⟨h, t⟩, hr =>
  have hr : TOk (zax n) t := hr
  have h1 : 0 < (pgs t).length := fN (zby t)
  have h2 : 0 < (ents t).length := by
   cases h with
   | zero => exact hr.one
   | succ h =>
    have f3 := znc (zax n) t hr.below (fun h => oQ)
    have f2 := qrs (zax n) (zdd n).h4 t hr.below hr.two
    have hc : 1 ≤ (zax n).cap / 2 := by have := (zdd n).cap; omega
    have : 1 * 1 ≤ (zax n).cap / 2 * lv t := Nat.mul_le_mul hc oQ
    omega
  show (pgs t).length = 0 ↔ (ents t).length = 0
  omega
theorem qgm {n : Nat} {r : Rt} (hr : zxi (zax n) r) (h1 : 1 < (zj4 r).length) : (zj4 r).length ≤ 1 + (za2 r).length / ((zax n).cap / 2) + (za2 r).length / ((zax n).cap / 2) / 2 ∧ 2 * ((zax n).cap / 2) ≤ (za2 r).length := by
 obtain ⟨f1, -, f3⟩ := zwe (zdd n) r hr
 rw [if_neg oQ] at f1
 exact ⟨oQ, f3 h1⟩
theorem qg0 {r : Rt} (he : (zj4 r).length = 0) : zfj r = 0 := by
 match r, he with
 | none, _ => rfl
 | some ⟨_, t⟩, he => exact absurd (fN (zby t)) (by have he : (pgs t).length = 0 := he; omega)
theorem qbi {c : Tc} {g : Sg} {s : Pg} (h : Tok c g s) (root : Int) (w : World) (hw : ∀ it ∈ [tmI c root s], za1 it w) :
  Ct Tryz.prog 18 #[.pointer (some ⟨c.pb, 0, none⟩)] w (zan [tmI c root s]) (fun _ : Pg => .int .i64 (cnt g.S 1024 : Nat)) (fun s' => Tok c g s') (fun s' => [tmI c root s']) := by
 have h' := h.page (i := 0) (by have := h.N1; omega)
 obtain ⟨d, t, pb, sh, N, secs, note, V, B⟩ := c
 obtain rfl := h.b
 have h0 : Hp w (zan [tmI ⟨d, t, s.b, sh, N, secs, note, V, B⟩ root s]) [tmI ⟨d, t, s.b, sh, N, secs, note, V, B⟩ root s] w := .begin hw (qnd _ _ _) _ fun _ h => h
 have h1 := (zhk (m := []) h0).pick (m' := [pgI s d, dkI d, trC ⟨d, t, s.b, sh, N, secs, note, V, B⟩ root, tzI]) [1, 2, 0, 3] rfl rfl
 have hc := zt8 s d h.ok h.lives h.wait h.st.dead h.st.ok (by rw [h.st.hn]; exact h.N1) g.S h.hS (by rw [h.st.hn]; exact h.S.2.1) h.S.2.2 w (fun it hm => by
  rcases hm with _ | ⟨_, _ | ⟨_, hm⟩⟩
  ·exact za1.of (h1.item (pgI s d) (.head _)) (zc2 s d _ (.head _))
  ·exact za1.of (h1.item (dkI d) (.tail _ (.head _))) (zjr s d _ (.tail _ (.head _)))
  ·cases hm) (bP.1 (show ([pgI s d, dkI d] ++ [trC ⟨d, t, s.b, sh, N, secs, note, V, B⟩ root, tzI]).Pairwise Eng.Item.Apart from h1.apart)).1
 have h2 := hc.calls
 unfold Ct
 refine h2.mono ?_
 rintro e w' ⟨x, he, hx, hi⟩
 have h3 : Hp w _ ([pgI (zcn s d.D 0) d, dkI d] ++ [trC ⟨d, t, s.b, sh, N, secs, note, V, B⟩ root, tzI]) w' := Hp.call (m := [pgI s d, dkI d]) h1 hi fun k _ ⟨it, hm, hk⟩ => ⟨it, hm, hk⟩
 have hb := qgl s d.D 0
 refine ⟨zcn s d.D 0, he, h', Hp.its (m := [tmI ⟨d, t, s.b, sh, N, secs, note, V, B⟩ root (zcn s d.D 0)]) (zfs (m := []) (h3.pick [2, 0, 1, 3] rfl rfl)) (.refl _) (zae _ _ _)⟩
end Go.Proofs.YtkkfifhaobjicaaGreatDoor
namespace Go.Proofs.YtkkfifhaobjicaaGreatDoor
open Go.RowKit Go.Eng Go.Eng.Bm Go.Eng.Tr
set_option maxRecDepth 100000
set_option maxHeartbeats 40000000
theorem qe2 {s : Sh} : ∀ {h : Nat} (t : T h), Wd s t → ∀ x ∈ ents t, x.1.length = s.kw
 | 0, _, hW, x, hx => (hW x hx).1
 | _ + 1, (_, _, kids), hW, x, hx => by
  obtain ⟨y, hy, hxy⟩ := cB.1 (show x ∈ kids.flatMap ents from hx)
  exact qe2 y (hW.2 y hy) x hxy
theorem qim {n : Nat} {r : Rt} (hr : zxi (zax n) r) : ∀ x ∈ za2 r, x.1.length = (zax n).kw := by
 match r, hr with
 | none, _ => exact fun x hx => nomatch hx
 | some ⟨_, t⟩, hr => exact qe2 t (show TOk (zax n) t from hr).wd
theorem zw1 (n : Nat) (hn : n < 256) (L : List A10) (hok : ∀ x ∈ L, x.Ok) (a : Option Addr) (c : Nat) (w : World) (hr : Rd w a (zc4 A10.vs L)) (hap : ∀ b off, a = some ⟨b, off, none⟩ → L ≠ [] → ¬ zan [ctI, tzI] b) (hw : ∀ it ∈ [ctI, tzI], za1 it w) (ha : [ctI, tzI].Pairwise Eng.Item.Apart) :
  Ct Tryz.prog 5 #[.int .u8 (n : Int), .slice a L.length c] w (zan [ctI, tzI]) (fun _ : Unit => .bool true) (fun _ => True) (fun _ => [ctI, tzI]) := by
 refine zbb [_, _] _ Tryz.func5 rfl rfl hw ha ?_
 simp only [zaa, Nat.reduceAdd]
 refine goA ?_
 refine lPu rfl (fun w1 hw1 => zx9 n hn a L.length c w1) ?_
 refine goA ?_
 cases hgr : (decide (400 < L.length) || (decide (60 < L.length) && decide ((zax n).cap < 6))) with
 | true =>
  refine goA ?_
  refine lCu [ctI, tzI] rfl zgg (fun w1 hw1 hh1 ha1 => znr w1 hh1 ha1) fun ⟨_, _⟩ => ?_
  refine goA ?_
  exact zbs () rfl rfl rfl trivial (.refl _) zgg
 | false =>
  obtain ⟨hl, h6⟩ := qe8 hgr
  refine goA ?_
  refine lCu [ctI, tzI] rfl zgg (fun w1 hw1 hh1 ha1 => zlz n hn w1 hh1 ha1) fun ⟨⟨cc, xb, s, o⟩, g, h⟩ => ?_
  have h : zky cc n none g s := h
  simp only
  refine goA ?_
  refine zcp (α := Nat × Rt × Pg × Om) (fun y => [(1, .slice a L.length c), (5, .pointer (some ⟨xb, 0, none⟩)), (7, .int .i64 (y.1 : Nat))]) (fun y => y.1 ≤ L.length ∧ (∃ g, zky cc n y.2.1 g y.2.2.1) ∧ (za2 y.2.1).length ≤ y.1) (fun y => tsL cc xb y.2.1 y.2.2.1 y.2.2.2 ++ [ctI]) (fun y => L.length - y.1) (0, none, s, o) ⟨rfl, rfl, rfl, trivial⟩ ⟨aV _, ⟨g, h⟩, aX _⟩ (fun w' hw' => by rw [bA] at hw'; exact hw') fun ⟨i, r, s, o⟩ ⟨hi, ⟨g, h⟩, he⟩ => ?_
  simp only at hi h he ⊢
  by_cases hil : i < L.length
  ·obtain ⟨b, off, rfl, hri⟩ := qd7 hr hil
   have hF := hap b off rfl (fun h => by subst h; exact absurd hil (fC _))
   obtain ⟨o1, o2, o3⟩ := hok _ (aR hil)
   generalize L[i] = t at hri o1 o2 o3
   refine goA ?_
   refine l_w rfl (zft (xs := t.vs) (c := #[.int .u8 t.d, .int .u16 t.k, .int .u16 t.v]) rfl rfl (fun w' hw' => zbe hri hF hw') rfl) ?_
   refine lCu (tsL cc xb r s o) rfl (zd2 cc xb r s o) (fun w1 hw1 hh1 ha1 => zqe n (k0 := L.length) xb o h hl h6 oQ t.d t.k t.v o2 o3 w1 hh1 ha1) fun ⟨⟨r', s', o'⟩, ⟨g', h'⟩, he'⟩ => ?_
   simp only at h' he' ⊢
   have hel : (za2 r').length ≤ i + 1 := by have := qib t.d (zi9 t.k (zax n).kw) (zi9 t.v (zax n).vw) (za2 r); rw [he']; omega
   have hck := h'.check (k0 := L.length) hl h6 oQ
   unfold tsL
   simp only [aE, aI]
   refine goA ?_
   refine za0 [1, 0, 2, 3, 4] rfl rfl ?_
   refine lCu [tmI cc (zfj r' : Nat) s'] rfl (zae cc _ s') (fun w1 hw1 hh1 ha1 => zz6 h'.tok _ hck oQ (by have := (zza hl h6 r' h'.rt oQ).1; omega) w1 hh1) fun ⟨s2, hs2⟩ => ?_
   have hs2 : Tok cc g' s2 := hs2
   simp only [aE, aI]
   refine zd4 (fun w hw => (zas (hw.item (own 9 1 o'.1 (za2 r').length ((za2 r').map fun y => kV y.1)) mm).1).1) fun f1 => ?_
   unfold stC
   rw [f1]
   refine goA ?_
   refine lCu [tmI cc (zfj r' : Nat) s2] rfl (zae cc _ s2) (fun w1 hw1 hh1 ha1 => qbi hs2 _ w1 hh1) fun ⟨s3, hs3⟩ => ?_
   have hs3 : Tok cc g' s3 := hs3
   simp only [aE, aI]
   rw [h'.used]
   have hpz := zr6 h'.rt
   have hpf := (zza hl h6 r' h'.rt oQ).1
   refine goA ?_
   rw [show ((((zj4 r').length : Nat) : Int) == 0) = ((((za2 r').length : Nat) : Int) == 0) by rw [dA, beq_iff_eq, beq_iff_eq]; omega]
   generalize ((((za2 r').length : Nat) : Int) == 0) = bb
   refine zcr 74 _ (.bool bb) rfl rfl ?_
   refine l_w rfl (zsv (v' := .bool false) (zfm rfl rfl fun _ => rfl) (by cases bb <;> rfl)) ?_
   refine goA ?_
   refine l_w rfl (zw4 rfl mm) ?_
   refine goA ?_
   refine lPu rfl (fun w1 hw1 => zgp h'.tok.sh w1) ?_
   have hcb : cc.sh.cap ≤ 508 := dK _ _
   refine goA ?_
   have hcc : 1 ≤ cc.sh.cap / 2 := by rw [h'.sh]; have := (zdd n).cap; omega
   have hq : (za2 r').length / (cc.sh.cap / 2) ≤ 400 := cL (dK _ _) oQ
   by_cases hp1 : 1 < (zj4 r').length
   ·obtain ⟨g1, g2⟩ := qgm h'.rt hp1
    rw [← h'.sh] at g1 g2
    refine zao [0, 1, 2, 3, 4] 21 rfl rfl kQ ?_
    refine goX ?_
    exact zav (i + 1, r', s3, o') ⟨rfl, rfl, rfl, trivial⟩ ⟨hil, ⟨g', h'.store hs3⟩, hel⟩ (fun w' hw' => by simp only; rw [f1]; exact hw'.pick [1, 0, 2, 3, 4] rfl rfl) (by simp only; omega)
   ·refine zao [0, 1, 2, 3, 4] 21 rfl rfl kQ ?_
    refine goX ?_
    exact zav (i + 1, r', s3, o') ⟨rfl, rfl, rfl, trivial⟩ ⟨hil, ⟨g', h'.store hs3⟩, hel⟩ (fun w' hw' => by simp only; rw [f1]; exact hw'.pick [1, 0, 2, 3, 4] rfl rfl) (by simp only; omega)
  ·refine goA ?_
   refine zcp (α := Rt × Pg × Om) (fun _ => [(5, .pointer (some ⟨xb, 0, none⟩))]) (fun y => (∃ g, zky cc n y.1 g y.2.1) ∧ (za2 y.1).length ≤ L.length) (fun y => tsL cc xb y.1 y.2.1 y.2.2 ++ [ctI]) (fun y => (za2 y.1).length) (r, s, o) ⟨rfl, trivial⟩ ⟨⟨g, h⟩, by simp only; omega⟩ (fun w' hw' => hw') fun ⟨r, s, o⟩ ⟨⟨g, h⟩, he⟩ => ?_
   simp only at h he ⊢
   obtain ⟨o1, o2⟩ := o
   refine zfd (fun w hw => (zas (hw.item (own 9 1 o1 (za2 r).length ((za2 r).map fun y => kV y.1)) (.tail _ (.tail _ (.head _)))).1).1) fun f1 => ?_
   unfold tsL stC
   simp only [aE, aI]
   rw [f1]
   by_cases h0 : 0 < (za2 r).length
   ·obtain ⟨y, hy⟩ : ∃ y, (za2 r)[(za2 r).length / 2]? = some y := ⟨_, aB oQ⟩
    have hkl := qim h.rt y (cH hy)
    have hkm : y.1 ∈ keys (za2 r) := aT.2 ⟨y, cH hy, rfl⟩
    have hdl := zs7 h.es hkm
    have hgm : (zld (za2 r) y.1).isSome = true := ztl.2 hkm
    obtain ⟨r', g', e1, e2, e3⟩ := h.del (k0 := L.length) hl h6 oQ y.1
    rw [hgm] at e1
    refine zfd (fun w hw => zbn (hw.item (own 9 1 o1 (za2 r).length ((za2 r).map fun y => kV y.1)) (.tail _ (.tail _ (.head _)))).1 h0) fun ⟨b, c2, eo⟩ => ?_
    subst eo
    simp only [zfq, zfr]
    refine goA ?_
    refine zi6 kQ ?_
    refine goE ?_
    refine goV rfl rfl (zay (v := kV y.1) rfl rfl (fun w' hw' => zbm (hw'.item (own 9 1 (some (b, c2)) (za2 r).length ((za2 r).map fun y => kV y.1)) mm).1 _ _ (by rw [aN, aF, hy]; rfl))) ?_
    refine goX ?_
    refine za0 [1, 0, 2, 3, 4] rfl rfl ?_
    refine lCu [tmI cc (zfj r : Nat) s] rfl (zae cc _ s) (fun w1 hw1 hh1 ha1 => zvc h.tok _ y.1 (by rw [h.sh]; exact hkl) e1 w1 hh1) fun ⟨s', hs'⟩ => ?_
    have hs' : Tok cc g' s' := hs'
    simp only [aE, aI]
    refine goA ?_
    rw [← (show slV (some (b, c2)) (za2 r).length = .slice (some ⟨b, 0, none⟩) (za2 r).length c2 from f1)]
    refine l_w rfl (zqo (c := cc) (o := (some (b, c2), o2)) (e := za2 r) rfl mm) ?_
    refine goA ?_
    refine za0 [2, 3, 0, 1, 4] rfl rfl ?_
    refine lCu (dmI (some (b, c2), o2) (za2 r)) rfl (zff _ _) (fun w1 hw1 hh1 ha1 => zma (some (b, c2), o2) (za2 r) h.es y.1 oQ w1 hh1 ha1) fun ⟨o', _⟩ => ?_
    simp only
    unfold dmI
    simp only [aE, aI]
    rw [← e2]
    refine goA ?_
    refine zal rfl rfl fun b9 hb9 => ?_
    refine zaz rfl (zag (cs' := dmC o' (za2 r')) rfl rfl rfl rfl (zja _ _ _) rfl) fun _ => ?_
    refine goA ?_
    refine zaz rfl (zai (zg1 _ _ _ _ _ _) (zgv (cs := [.pointer (some ⟨cc.pb, 0, none⟩), .pointer (some ⟨cc.t, 0, none⟩), slV (some (b, c2)) (za2 r).length, slV o2 (za2 r).length]) (V := [slV o'.1 (za2 r').length, slV o'.2 (za2 r').length]) rfl rfl rfl rfl rfl (zja _ _ _) (show (2 + 2 : Nat) ≤ 4 from dQ))) fun _ => ?_
    refine goA ?_
    refine zec [0, 4, 2, 3, 5] rfl rfl ?_
    exact zav (r', s', o') ⟨rfl, trivial⟩ ⟨⟨g', e3 s' hs'⟩, by simp only; rw [e2]; omega⟩ (fun w' hw' => hw') (by simp only; rw [e2]; omega)
   ·have he0 : (za2 r).length = 0 := oQ
    have hp0 := (zr6 h.rt).2 he0
    have hr0 := qg0 hp0
    refine goA ?_
    refine l_w rfl (zkw (c := cc) (root := (zfj r : Nat)) (s := s) (j := 3) rfl mm rfl) ?_
    rw [hr0]
    refine goA ?_
    refine za0 [1, 0, 2, 3, 4] rfl rfl ?_
    refine lCu [tmI cc (0 : Nat) s] rfl (zae cc _ s) (fun w1 hw1 hh1 ha1 => qbi h.tok _ w1 hh1) fun ⟨s3, hs3⟩ => ?_
    simp only [aE, aI]
    rw [h.used, hp0]
    refine goA ?_
    refine zez (fun w' hw' => qho (c := cc) (xb := xb) (r := r) (s := s3) (o := (o1, o2)) (by unfold tsL stC; rw [f1, hr0]; exact hw'.pick [1, 0, 2, 3, 4] rfl rfl)) ?_
    refine lCu [ctI, tzI] rfl zgg (fun w1 hw1 hh1 ha1 => znr w1 hh1 ha1) fun ⟨_, _⟩ => ?_
    refine goA ?_
    exact zbs () rfl rfl rfl trivial (.refl _) zgg
end Go.Proofs.YtkkfifhaobjicaaGreatDoor
