/- package pages: Open. -/
/- The plain law of the log: the sheets that lie in their places, by their numbers. -/
/- The plain law of the store: what Open reads back, whatever took the power. -/
/- The plain law of the log: a trim, a qeu, whatever takes the power in their midst. -/
/- The plain law of the log: the writes of a trim and of a qeu, done, or cut off. -/
/- The plain law of the store: what a store in memory and its disk agree on; Open. -/
/- The plain law of the store: a qeu, done or cut off. -/
/- The plain law of the store: Commit; what a disk has that is off. -/
/- The plain law of the store: what is done in memory. -/
/- The plain law of the store: a disk that is new, and its format. -/
/- The document's pages (armariumref08): zero, Page, Has, Need, Abort; Full of armariumlaw04. -/
/- The document's pages (armariumref08): Page, with. -/
/- The document's pages (armariumref08): Has, set. -/
/- The document's pages (armariumref08): Put, Alloc, Free, Abort, Commit, New. -/
import Derived.Test.YtkkfifhaobjicaaGreatDoorHc09
import Derived.Test.YtkkfifhaobjicaaGreatDoorHc08
namespace Go.Proofs.YtkkfifhaobjicaaGreatDoor
open Go.RowKit Go.Eng Go.Eng.Bm
set_option maxRecDepth 100000
set_option maxHeartbeats 40000000
def wsO (secs : Nat) (TS : List PR) : List (Nat × Bys) := TS.flatMap fun R => wsP secs (zme [] R)
def opF (D : Dsk) (g : Lg) (TS : List PR) : Nat × Dsk × Lg :=
 if (zb5 D (wsO g.h.secs TS)).1 = 0 then ftF (zb5 D (wsO g.h.secs TS)).2 g else ((zb5 D (wsO g.h.secs TS)).1, (zb5 D (wsO g.h.secs TS)).2, g)
theorem qbz : ∀ (l l' : List (Nat × Bys)) (D : Dsk), zb5 D (l ++ l') = if (zb5 D l).1 = 0 then zb5 (zb5 D l).2 l' else zb5 D l
 | [], l', D => by rw [aI]; rfl
 | q :: l, l', D => by
  rw [aE, zb5, zb5]
  by_cases h : (zbz D q.1 q.2).1 = 0
  ·rw [if_pos h, if_pos h, qbz l]
  ·rw [if_neg h, if_neg h, if_neg h]
theorem qfi {n : Nat} : ∀ {R A : PR}, A.Ok n → R.Ok n → (zme A R).Ok n
 | [], _, hA, _ => hA
 | p :: R, A, hA, hR => qfi (A := zeu A p.1 p.2) (PR.Ok.ins hA (hR p (.head _)).1 (hR p (.head _)).2) fun q hq => hR q (.tail _ hq)
theorem qiv {β : Type} (B : List (Nat × β)) (h : Nat) (s : β) : (zeu B h s).length ≤ B.length + 1 := by
 unfold zeu
 split
 ·rw [aG]; omega
 ·rw [aA]; exact aX _
theorem zyh : ∀ (R A : PR), (zme A R).length ≤ A.length + R.length
 | [], _ => aX _
 | p :: R, A => by
  have h1 := zyh R (zeu A p.1 p.2)
  have h2 := qiv A p.1 p.2
  show (zme (zeu A p.1 p.2) R).length ≤ _
  rw [aZ]
  omega
theorem qrb {D : Dsk} {g : Lg} (hD : D.Ok) (h : (ftF D g).1 = 0) : (ftF D g).2.1.Ok ∧ (ftF D g).2.1.dead = false ∧ (ftF D g).2.1.wait = [] ∧ (ftF D g).2.1.on.length = D.on.length ∧ (ftF D g).2.2 = { g with h := zbr g, at_ := za4 g.at_, used := 0, dead := false } := by
 unfold ftF at h ⊢
 by_cases e1 : (zb6 D).1 = 0
 ·rw [if_pos e1] at h ⊢
  simp only at h ⊢
  have h1 := zix hD
  obtain ⟨h2, h3⟩ := zmc e1
  generalize (zb6 D).2 = D1 at h h1 h2 h3 ⊢
  unfold zku
  rw [if_pos h, h]
  unfold zbw at h ⊢
  by_cases e2 : (zbz D1 (za4 g.at_) (hdP (zbr g))).1 = 0
  ·rw [if_pos e2] at h ⊢
   obtain ⟨w1, -, -, w4, -⟩ := zl5 h1 _ _ e2
   obtain ⟨f1, f2⟩ := zmc h
   exact ⟨zix w1, f1, (zmb h).2, by rw [f2, w4, h3], rfl⟩
  ·rw [if_neg e2] at h
   exact absurd h e2
 ·rw [if_neg e1] at h
  exact absurd h e1
abbrev qhg (TS : List PR) : List Value := zf7 (TS.map zd1)
structure Opd (s : Pg) (D : Dsk) (g : Lg) (n : Nat) (note : Bys) : Prop where
 hg : s.g = g
 hn : s.n = n
 hnote : s.note = note
 hK : s.K = [(0, zcf D (2 + g.h.secs))]
 hR : s.R = []
 hC : s.C = []
 hdead : s.dead = false
theorem qhx {secs n : Nat} : ∀ {TS : List PR}, (∀ R ∈ TS, R.Ok n ∧ R.length ≤ 1024) → (wsO secs TS).length ≤ 1024 * TS.length
 | [], _ => aV _
 | R :: TS, h => by
  have h1 := qhx (secs := secs) (TS := TS) fun R hR => h R (.tail _ hR)
  have h2 := zyh R []
  have h3 := (h R (.head _)).2
  have h4 : (wsP secs (zme [] R)).length = (zme [] R).length := by rw [wsP, aG, zdy, aG, zof, aG]
  unfold wsO at h1 ⊢
  rw [aW, aA, aZ, h4]
  simp at h2
  omega
theorem zuu (secs : Nat) (TS : List PR) (R : PR) : wsO secs (TS ++ [R]) = wsO secs TS ++ wsP secs (zme [] R) := by simp [wsO]
theorem zwh (d : Dk) (ok : d.D.Ok) (hlive : d.D.dead = false) (hkl : d.D.keep.length ≤ 1000000) (hwl : d.D.wait.length ≤ 10000) (h2 : 2 ≤ d.D.on.length) (h : Hd) (c : Nat) (hc : c = 0 ∨ c = 1) (hlk : zdb d.D 2 = (h, (c : Int))) (ho : h.Ok) (hs1 : 1 ≤ h.secs) (hs2 : h.secs ≤ 512)
  (hne : ∀ p ∈ zbi d.D h.secs h.secs, p.2.text.length ≤ 497 ∧ p.2.text ≠ []) (n : Nat) (note : Bys) (hnote : h.note = beN 2 n ++ note) (hn1 : 64 ≤ n) (hn2 : n ≤ 1024) (hno : note.length ≤ 40) (hroom : 2 + h.secs + n ≤ d.D.on.length)
  (TS : List PR) (hTS : zt2 d.D h = TS.map zd1) (hTO : ∀ R ∈ TS, R.Ok n ∧ R.length ≤ 1024) (hTl : TS.length ≤ 512) (S : Nat → Bool) (hU : (opF d.D (zcm d.D h c) TS).1 = 0 → zcf (opF d.D (zcm d.D h c) TS).2.1 (2 + h.secs) = bmB n S ∧ znw n S ∧ S 0 = true) (w : World) (hw : ∀ it ∈ [dkI d, ctI], za1 it w) (ha : [dkI d, ctI].Pairwise Eng.Item.Apart) :
  Ct Tryz.prog 51 #[.pointer (some ⟨d.b, 0, none⟩)] w (zan [dkI d, ctI]) (fun x : Dk × Pg => .tuple #[.pointer (if (opF d.D (zcm d.D h c) TS).1 = 0 then some ⟨x.2.b, 0, none⟩ else none), .int .i64 ((opF d.D (zcm d.D h c) TS).1 : Nat)])
   (fun x => zj6 d (opF d.D (zcm d.D h c) TS).2.1 x.1 ∧ ((opF d.D (zcm d.D h c) TS).1 = 0 → Opd x.2 (opF d.D (zcm d.D h c) TS).2.1 (opF d.D (zcm d.D h c) TS).2.2 n note))
   (fun x => if (opF d.D (zcm d.D h c) TS).1 = 0 then [pgI x.2 x.1, dkI x.1, ctI] else [dkI x.1, ctI]) := by
 refine zbb [_] _ Tryz.func51 rfl rfl hw ha ?_
 have hsecs := ho.secs
 simp only [zaa]
 refine goA ?_
 refine zgt rfl (zg5 (pre := [dkI d, ctI]) (m := []) rfl kQ rfl (zb0 d) (fun w1 hw1 hh1 ha1 => zzt d ok hlive oQ h2 h c hlk ho.first hs1 oQ hne w1 hh1 ha1)) fun ⟨⟨bl, so⟩, _⟩ => ?_
 rw [hTS]
 dsimp only
 refine goA ?_
 refine zaz rfl (zgi (q := .i64) rfl) fun ⟨kb, hkb⟩ => ?_
 refine zaz rfl (zgi (q := .i64) rfl) fun ⟨db, hdb⟩ => ?_
 refine zaz rfl (zgi (q := .i64) rfl) fun ⟨cb, hcb⟩ => ?_
 refine goA ?_
 obtain ⟨g0, hg0⟩ : ∃ g0, zcm d.D h c = g0 := ⟨_, rfl⟩
 have hgh : g0.h = h := by rw [← hg0]; rfl
 have hgat : g0.at_ = c := by rw [← hg0]; rfl
 have hgdd : g0.dead = false := by rw [← hg0]; rfl
 have hgnx : g0.next < 18446744073709551616 := by rw [← hg0]; exact qam ho.first
 rw [hg0] at hU ⊢
 refine zcr 31 _ (.agg (pgA ⟨0, bl, kb, db, cb, g0, 0, [], [], [], [], false⟩ d)) rfl rfl ?_
 refine zbt rfl rfl fun b hb => ?_
 refine zez (m' := pgL ⟨b, bl, kb, db, cb, g0, 0, [], [], [], [], false⟩ d ++ [own 9 1 so TS.length (qhg TS), dkI d, ctI]) (fun w' hw' => by rw [aG] at hw'; exact hw'.pick [0, 4, 3, 2, 1, 5, 6, 7] rfl rfl) ?_
 unfold pgL
 dsimp only
 rw [aG]
 refine goA ?_
 refine lPu rfl (fun w1 hw1 => zv0 bl d g0 w1 (za1.of (hw1.item (lgI bl d g0) sQ) (zac _ _ _))) ?_
 rw [hgh, hnote]
 have htxl : (beN 2 n ++ note).length ≤ 42 := by rw [aA, zam]; omega
 have e1 : opN 2 (beN 2 n ++ note, false) = (n, (note, false)) := zik oQ _
 have e2 : opT note.length (note, false) = (note, ([], false)) := by have := zpl note []; rw [bA] at this; exact this
 obtain ⟨tx, htx⟩ : ∃ tx, beN 2 n ++ note = tx := ⟨_, rfl⟩
 rw [htx] at htxl e1 ⊢
 refine zaz rfl (qas rfl rfl rfl rfl) fun ⟨p1, _, _⟩ => ?_
 dsimp only
 rw [bal]
 refine goA ?_
 refine ze7 rfl rfl kQ rfl (fun w1 hw1 => zk1 (some ⟨p1.1, 0, none⟩) tx.length p1.2 tx rfl oQ w1 (.inr ⟨p1.1, 0, rfl, zlw (hw1.item (zp9 5 tx p1.1 p1.2) (.head _)).1⟩)) fun x hx => ?_
 obtain ⟨ob, oD⟩ := x
 simp only at hx ⊢
 have hsD : (own 5 1 oD tx.length (zaf tx)).Stable none' := zab _ _ _ _ _ _
 generalize own 5 1 oD tx.length (zaf tx) = D at hx hsD
 refine goA ?_
 refine lCu [opI ob (slA oD) (slC oD) (tx, false), D] rfl (by simp [zak, hsD]) (fun w1 hw1 hh1 ha1 => zij n (note, false) e1 hsD hx (.inr (.inl rfl)) (by simp only; omega) hh1 ha1) fun ⟨y1, hy1⟩ => ?_
 simp only at hy1
 dsimp only
 refine goA ?_
 refine zaz rfl (zai (zdl _ _ _ _ _) (zah rfl rfl rfl rfl rfl rfl (show (2 : Nat) < 8 from dQ))) fun _ => ?_
 refine zez (m' := [opI ob y1.1 y1.2 (note, false), D, pgC ⟨b, bl, kb, db, cb, g0, n, [], [], [], [], false⟩ d, lgI bl d g0, zd8 .i64 kb (toP []), zd8 .i64 db (toB []), zd8 .i64 cb (toP []), own 9 1 so TS.length (qhg TS), dkI d, ctI]) (fun w' hw' => hw'.pick [1, 2, 0, 4, 5, 6, 7, 8, 9, 10] rfl rfl) ?_
 refine goA ?_
 refine lPu rfl (fun w1 hw1 => zgh ob y1.1 y1.2 (note, false) w1 (za1.of (hw1.item (opI ob y1.1 y1.2 (note, false)) (.head _)) (zak _ _ _ _))) ?_
 refine lCu [opI ob y1.1 y1.2 (note, false), D] rfl (by simp [zak, hsD]) (fun w1 hw1 hh1 ha1 => zpf note ([], false) e2 hsD hy1 (by simp only; omega) hh1 ha1) fun ⟨y2, hy2⟩ => ?_
 dsimp only
 refine goA ?_
 refine zaz rfl (zai (zda _ _ _ _) (zah rfl rfl rfl rfl rfl rfl (show (3 : Nat) < 8 from dQ))) fun _ => ?_
 refine zez (m' := [opI ob y2.1 y2.2 ([], false), pgC ⟨b, bl, kb, db, cb, g0, n, note, [], [], [], false⟩ d, lgI bl d g0, zd8 .i64 kb (toP []), zd8 .i64 db (toB []), zd8 .i64 cb (toP []), own 9 1 so TS.length (qhg TS), dkI d, ctI]) (fun w' hw' => hw'.pick [1, 0, 3, 4, 5, 6, 7, 8, 9] rfl rfl) ?_
 refine goA ?_
 refine lPu rfl (fun w1 hw1 => qez ob y2.1 y2.2 ([], false) w1 (za1.of (hw1.item (opI ob y2.1 y2.2 ([], false)) (.head _)) (zak _ _ _ _))) ?_
 rw [if_pos rfl]
 obtain ⟨s0, hs0⟩ : ∃ s0 : Pg, s0 = ⟨b, bl, kb, db, cb, g0, n, note, [], [], [], false⟩ := ⟨_, rfl⟩
 refine zez (m' := [pgI s0 d, dkI d, ctI, own 9 1 so TS.length (qhg TS)]) (fun w' hw' => by rw [hs0]; exact zgc (s := ⟨b, bl, kb, db, cb, g0, n, note, [], [], [], false⟩) (m := [dkI d, ctI, own 9 1 so TS.length (qhg TS)]) (hw'.pick [1, 2, 3, 4, 5, 7, 8, 6] rfl rfl)) ?_
 have hsb : s0.b = b := by rw [hs0]
 have hsn : s0.n = n := by rw [hs0]
 have hsg : s0.g = g0 := by rw [hs0]
 have hsnote : s0.note = note := by rw [hs0]
 have hpg : ∀ {m : List Eng.Item} {w1 : World}, Hp w (zan [dkI d, ctI]) (pgI s0 d :: m) w1 → za1 (pgI s0 d) w1 := fun hw1 => za1.of (hw1.item (pgI s0 d) (.head _)) (zco s0 d)
 rw [← hsb]
 refine goA ?_
 refine l_w rfl (zay (v := .int .i64 (n : Int)) rfl rfl (fun w' hw' => zq8 (hpg hw') 2 (by rw [← hsn]; rfl))) ?_
 refine goA ?_
 refine l_w rfl (zay (v := .int .i64 (n : Int)) rfl rfl (fun w' hw' => zq8 (hpg hw') 2 (by rw [← hsn]; rfl))) ?_
 refine goA ?_
 refine lPu rfl (fun w1 hw1 => zq9 s0 d oQ (by rw [hsg, hgh]; exact hsecs) w1 (hpg hw1)) ?_
 rw [hsg, hgh, hsn]
 refine goA ?_
 refine lPu rfl (fun w1 hw1 => zhp d w1 (za1.of (hw1.item (dkI d) sQ) (zad _))) ?_
 refine goA ?_
 refine l_w rfl (zay (v := .string ⟨note.toArray⟩) rfl rfl (fun w' hw' => zq8 (hpg hw') 3 (by rw [← hsnote]; rfl))) ?_
 have hbn := bal note
 refine goA ?_
 refine zd4 (fun w hw => (zas (hw.item (own 9 1 so TS.length (qhg TS)) sQ).1)) fun ⟨hsl, _⟩ => ?_
 rw [hsl]
 refine goA ?_
 have hpre : ∀ k, k ≤ TS.length → (wsO h.secs (TS.take k)).length ≤ 1024 * 512 := fun k hk => by
  have := qhx (secs := h.secs) (TS := TS.take k) fun R hR => hTO R (bX hR)
  rw [aO] at this
  omega
 have hstp : ∀ k (hk : k < TS.length), wsO h.secs (TS.take (k + 1)) = wsO h.secs (TS.take k) ++ wsP h.secs (zme [] TS[k]) := fun k hk => by
  rw [cT hk, zuu]
 have hbad : ∀ k (hk : k < TS.length), (zb5 d.D (wsO h.secs (TS.take (k + 1)))).1 ≠ 0 → zb5 d.D (wsO h.secs TS) = zb5 d.D (wsO h.secs (TS.take (k + 1))) := fun k hk he => by
  have h1 : wsO h.secs TS = wsO h.secs (TS.take (k + 1)) ++ wsO h.secs (TS.drop (k + 1)) := by
   unfold wsO
   rw [← bB, bE]
  rw [h1]
  exact zoi _ _ d.D he
 have hall : wsO h.secs (TS.take TS.length) = wsO h.secs TS := by rw [gZ]
 have hopF : opF d.D g0 TS = if (zb5 d.D (wsO h.secs TS)).1 = 0 then ftF (zb5 d.D (wsO h.secs TS)).2 g0 else ((zb5 d.D (wsO h.secs TS)).1, (zb5 d.D (wsO h.secs TS)).2, g0) := by rw [opF, hgh]
 refine zcp (α := Nat × Dk) (fun y => [(0, .pointer (some ⟨d.b, 0, none⟩)), (4, .pointer (some ⟨bl, 0, none⟩)), (7, .pointer (some ⟨s0.b, 0, none⟩)), (82, .slice (slA so) TS.length (slC so)), (83, .int .i64 TS.length), (84, .int .i64 y.1)]) (fun y => y.1 ≤ TS.length ∧ (zb5 d.D (wsO h.secs (TS.take y.1))).1 = 0 ∧ zj6 d (zb5 d.D (wsO h.secs (TS.take y.1))).2 y.2) (fun y => [pgI s0 y.2, dkI y.2, ctI, own 9 1 so TS.length (qhg TS)]) (fun y => TS.length - y.1) (0, d) ⟨rfl, rfl, rfl, rfl, rfl, rfl, trivial⟩ ⟨aV _, rfl, rfl, rfl, rfl⟩ (fun w hw => hw) fun ⟨k, d1⟩ ⟨hk, h0, hd1⟩ => ?_
 simp only at hk h0 hd1 ⊢
 by_cases hkn : k < TS.length
 ·have hst := hstp k hkn
  have hbad2 := hbad k hkn
  have hpk := hpre k oQ
  have hpk2 := hpre (k + 1) hkn
  have hRO := hTO TS[k] (aR hkn)
  have hstr : (qhg TS)[k]? = some (.string ⟨(zd1 TS[k]).toArray⟩) := by simp [qhg, zf7, hkn]
  generalize TS[k] = R at hst hRO hstr
  obtain ⟨hkk1, hkk2⟩ := zjd (wsO h.secs (TS.take k)) d.D ok h0
  have hokd := zje (wsO h.secs (TS.take k)) d.D ok
  have hwr : zb5 d.D (wsO h.secs (TS.take (k + 1))) = zb5 (zb5 d.D (wsO h.secs (TS.take k))).2 (wsP h.secs (zme [] R)) := by rw [hst, qbz, if_pos h0]
  generalize zb5 d.D (wsO h.secs (TS.take k)) = r at *
  obtain ⟨hd1a, hd1b, hd1c⟩ := hd1
  rw [← hd1c] at hkk1 hkk2 hokd hwr
  have hil := zyh R []
  have hio := qfi (n := n) (A := []) (fun _ h => nomatch h) hRO.1
  rcases so with _ | ⟨sob, soc⟩
  ·refine zfd (fun w hw => (hw.item (own 9 1 none TS.length (qhg TS)) sQ).1.2) fun h => ?_
   exact absurd h oQ
  have hcell : ∀ {m : List Eng.Item} {w2 : World} {F2 : Nat → Prop} (w' : World), Hp w2 F2 m w' → own 9 1 (some (sob, soc)) TS.length (qhg TS) ∈ m → w'.cell? ⟨sob, k, none⟩ = some (.string ⟨(zd1 R).toArray⟩) := fun w' hw' hm => zbm (hw'.item _ hm).1 k _ hstr
  simp only [slA, slC]
  refine goA ?_
  refine l_w rfl (zay (v := .string ⟨(zd1 R).toArray⟩) rfl rfl (fun w' hw' => by rw [aF]; exact hcell w' hw' sQ)) ?_
  refine goA ?_
  refine ze7 rfl rfl kQ rfl (fun w1 hw1 => zvq s0 d1 R oQ (by rw [hsn]; exact hRO.1) oQ w1 (za1.of (hw1.item (pgI s0 d1) sQ) (zco _ _))) fun x hx => ?_
  refine goA ?_
  refine za0 [2, 1, 0, 3, 4] rfl rfl ?_
  refine zgt rfl (zg5 (pre := [dkI d1, pgI s0 d1, zd8 .i64 x (toP (zme [] R))]) rfl kQ rfl (zkx _ _ _ _) (val := fun _ : Dk => .int .i64 ((zb5 d.D (wsO h.secs (TS.take (k + 1)))).1 : Nat)) (φ := zj6 d1 (zb5 d.D (wsO h.secs (TS.take (k + 1)))).2) (its := fun d' => [dkI d', pgI s0 d', zd8 .i64 x (toP (zme [] R))]) (fun w1 hw1 hh1 ha1 => by
   have hq := zus s0 d1 x (zme [] R) hokd (by rw [hkk1]; exact hkl) (by rw [hkk2]; simp at hil; omega) oQ (by rw [hsg, hgh]; exact hsecs) (by rw [hsn]; exact hio) w1 hh1 ha1
   rw [hsg, hgh, ← hwr] at hq
   exact hq)) fun ⟨d2, hd2⟩ => ?_
  dsimp only
  have hok2 : zj6 d (zb5 d.D (wsO h.secs (TS.take (k + 1)))).2 d2 := ⟨hd2.1.trans hd1a, hd2.2.1.trans hd1b, hd2.2.2⟩
  refine goA ?_
  by_cases he : (zb5 d.D (wsO h.secs (TS.take (k + 1)))).1 = 0
  ·have hne : (((zb5 d.D (wsO h.secs (TS.take (k + 1)))).1 : Int) != 0) = false := by simp [he]
   rw [hne]
   refine goA ?_
   exact zav (k + 1, d2) ⟨rfl, rfl, rfl, rfl, rfl, rfl, trivial⟩ ⟨hkn, he, hok2⟩ (fun w hw => hw.pick [1, 0, 3, 4] rfl rfl) (by show TS.length - (k + 1) < TS.length - k; omega)
  ·have hne : (((zb5 d.D (wsO h.secs (TS.take (k + 1)))).1 : Int) != 0) = true := by simp [he]
   have hop : opF d.D g0 TS = ((zb5 d.D (wsO h.secs (TS.take (k + 1)))).1, (zb5 d.D (wsO h.secs (TS.take (k + 1)))).2, g0) := by rw [hopF, hbad2 he, if_neg he]
   rw [hne]
   simp only [hop, if_neg he]
   refine goA ?_
   exact zdq (d2, s0) rfl rfl rfl rfl ⟨hok2, fun h => absurd h he⟩ (.cons_cons _ (.cons _ (.cons _ (.cons_cons _ (aD _))))) (zb0 d2)
 ·obtain rfl : k = TS.length := oQ
  rw [hall] at h0 hd1
  rw [if_pos h0] at hopF
  have hpl := hpre TS.length (aX _)
  rw [hall] at hpl
  obtain ⟨hkk1, hkk2⟩ := zjd (wsO h.secs TS) d.D ok h0
  have hokd := zje (wsO h.secs TS) d.D ok
  have hlen1 := zut (wsO h.secs TS) d.D ok h0
  generalize zb5 d.D (wsO h.secs TS) = r at *
  obtain ⟨hd1a, hd1b, hd1c⟩ := hd1
  rw [← hd1c] at hkk1 hkk2 hokd hlen1 hopF
  have hsbl : s0.bl = bl := by rw [hs0]
  have hs0C : s0.C = [] ∧ s0.K = [] ∧ s0.R = [] ∧ s0.dead = false := by rw [hs0]; exact ⟨rfl, rfl, rfl, rfl⟩
  rw [hopF] at hU
  simp only [hopF]
  rw [← hd1a, ← hsbl]
  refine goA ?_
  refine l_w rfl (qqc (vs := [.pointer (some ⟨d1.b, 0, none⟩)]) rfl) ?_
  refine goA ?_
  refine l_w rfl (qqc (vs := [.pointer (some ⟨s0.bl, 0, none⟩)]) rfl) ?_
  refine zaz rfl (zba rfl rfl rfl rfl rfl rfl) fun ⟨bq, hbq⟩ => ?_
  refine zez (m' := [pgI s0 d1, dkI d1, ctI, fvI bq 2 (ftV s0 d1)]) (fun w' hw' => hw'.pick [1, 2, 3, 0] rfl rfl) ?_
  refine zgt rfl (zg5 (pre := [pgI s0 d1, dkI d1, ctI, fvI bq 2 (ftV s0 d1)]) (m := []) rfl kQ rfl (by
   intro it hm
   rcases hm with _ | ⟨_, _ | ⟨_, _ | ⟨_, _ | ⟨_, hm⟩⟩⟩⟩
   ·exact zco _ _
   ·exact zad _
   ·exact zc0 _
   ·exact zab _ _ _ _ _ _
   ·exact nomatch hm) (val := fun _ : Dk => .int .i64 ((ftF d1.D g0).1 : Nat)) (φ := zj6 d1 (ftF d1.D g0).2.1) (its := fun d' => [pgI { s0 with g := (ftF d1.D g0).2.2 } d', dkI d', ctI]) (fun w1 hw1 hh1 ha1 => by
   have hq := qiq s0 d1 bq hokd (by rw [hkk1]; exact hkl) (by rw [hkk2]; omega) (by rw [hsg, hgh]; exact ho) (by rw [hsg]; exact hgnx) (by rw [hsg, hgat]; exact hc) (by rw [hsg]; exact hgdd) w1 hh1 ha1
   rw [hsg] at hq
   exact hq)) fun ⟨d3, hd3⟩ => ?_
  have hok3 : zj6 d (ftF d1.D g0).2.1 d3 := ⟨hd3.1.trans hd1a, hd3.2.1.trans hd1b, hd3.2.2⟩
  have hfo := qrb (g := g0) hokd
  dsimp only
  refine goA ?_
  by_cases he : (ftF d1.D g0).1 = 0
  ·have hne : (((ftF d1.D g0).1 : Int) != 0) = false := by simp [he]
   obtain ⟨f1, f2, f3, f4, f5⟩ := hfo he
   obtain ⟨hu1, hu2, hu3⟩ := hU he
   rw [hne]
   simp only [if_pos he]
   rw [he]
   generalize ftF d1.D g0 = r3 at *
   obtain ⟨e3, D3, g3⟩ := r3
   simp only at f1 f2 f3 f4 f5 hu1 hok3 ⊢
   obtain ⟨s1, hs1⟩ : ∃ s1 : Pg, s1 = { s0 with g := g3 } := ⟨_, rfl⟩
   refine zlx (m' := [pgI s1 d3, dkI d3, ctI]) (fun w' hw' => by rw [hs1]; exact hw') ?_
   have hb1 : s1.b = s0.b := by rw [hs1]
   have hC1 : s1.C = [] := by rw [hs1]; exact hs0C.1
   have hK1 : s1.K = [] := by rw [hs1]; exact hs0C.2.1
   have hR1 : s1.R = [] := by rw [hs1]; exact hs0C.2.2.1
   have hde1 : s1.dead = false := by rw [hs1]; exact hs0C.2.2.2
   have hn1' : s1.n = n := by rw [hs1]; exact hsn
   have hno1 : s1.note = note := by rw [hs1]; exact hsnote
   have hg1 : s1.g = g3 := by rw [hs1]
   have hsc1 : s1.g.h.secs = h.secs := by rw [hg1, f5]; show g0.h.secs = h.secs; rw [hgh]
   have hD3 := hok3.2.2
   have hpb : pageB s1 d3.D 0 = bmB s1.n S := by
    unfold pageB
    rw [hC1, hK1, hsc1, hD3, hn1']
    exact hu1
   have hps : zcn s1 d3.D 0 = { s1 with K := [(0, zcf D3 (2 + g3.h.secs))] } := by
    unfold zcn
    rw [hC1, hK1, hg1, hD3]
    rfl
   rw [← hb1]
   refine goA ?_
   refine lCu [pgI s1 d3, dkI d3] rfl (zdc s1 d3) (fun w1 hw1 hh1 ha1 => zg7 s1 d3 (by rw [hD3]; exact f1) (by rw [hD3]; exact f2) (by rw [hD3, f3]; decide) hde1 ⟨oQ, by rw [hsc1]; exact hsecs, by rw [hsc1, hD3, f4, hlen1]; omega, (by rw [hC1]; exact fun _ h => (nomatch h)), (by rw [hK1]; exact fun _ h => (nomatch h))⟩ oQ S hpb (by rw [hn1']; exact hu2) hu3 w1 hh1 ha1) fun ⟨_, _⟩ => ?_
   rw [hps]
   refine goA ?_
   refine zal rfl rfl fun b15 hb15 => ?_
   refine zaz rfl (zag (cs' := zhn s1.n S) rfl rfl rfl (by rw [za3]; rfl) (zef _ _) (by rw [za3]; rfl)) fun _ => ?_
   refine goA ?_
   exact zdq (d3, { s1 with K := [(0, zcf D3 (2 + g3.h.secs))] }) rfl rfl rfl rfl ⟨hok3, fun _ => ⟨hg1, hn1', hno1, rfl, hR1, hC1, hde1⟩⟩ (.cons _ (.refl _)) (zr7 _ _)
  ·have hne : (((ftF d1.D g0).1 : Int) != 0) = true := by simp [he]
   rw [hne]
   simp only [if_neg he]
   refine goA ?_
   exact zdq (d3, s0) rfl rfl rfl rfl ⟨hok3, fun h => absurd h he⟩ (.cons _ (.refl _)) (zb0 d3)
end Go.Proofs.YtkkfifhaobjicaaGreatDoor
namespace Go.Proofs.YtkkfifhaobjicaaGreatDoor
open Go.Eng
set_option maxRecDepth 100000
def zd7 (D : Dsk) (n i : Nat) : Bool := zir (zcf D (2 + i)) && decide (zbg (zgd (zcf D (2 + i))).seq n = 2 + i)
theorem zyi (B : zeh) (h : Nat) (s : Sht) (k : Nat) : (qfj B h s).lookup k = if k = h then some s else B.lookup k := by
 unfold qfj
 split
 ·rename_i hs
  have : ∀ L : zeh, (L.map fun p => if p.1 = h then (h, s) else p).lookup k = if k = h then (L.lookup k).map (fun _ => s) else L.lookup k := by
   intro L
   induction L with
   | nil => simp
   | cons p L ih =>
    obtain ⟨q, x⟩ := p
    rw [bD]
    by_cases hq : q = h
    ·subst hq
     rw [if_pos rfl, cF, cF]
     by_cases hk : k = q
     ·subst hk; simp
     ·have : (k == q) = false := by simpa using hk
      rw [this]
      simp only [if_neg hk] at ih ⊢
      exact ih
    ·rw [if_neg hq, cF, cF, ih]
     by_cases hk : k = q
     ·subst hk
      simp [hq]
     ·have : (k == q) = false := by simpa using hk
      rw [this]
  rw [this]
  by_cases hk : k = h
  ·subst hk
   rw [if_pos rfl, if_pos rfl]
   cases hb : B.lookup k with
   | none => rw [hb] at hs; cases hs
   | some x => rfl
  ·rw [if_neg hk, if_neg hk]
 ·rename_i hs
  have hs' : B.lookup h = none := by
   cases hb : B.lookup h with
   | none => rfl
   | some x => rw [hb] at hs; exact absurd rfl hs
  by_cases hk : k = h
  ·subst hk
   rw [if_pos rfl, iC, hs']
   simp
  ·rw [if_neg hk, iC]
   have : ([(h, s)] : zeh).lookup k = none := by
    rw [cF, show (k == h) = false by simpa using hk]; rfl
   rw [this]
   cases B.lookup k <;> rfl
theorem zfh (D : Dsk) (n : Nat) (q : Nat) : ∀ i, (zbi D n i).lookup q = if q % n < i ∧ zd7 D n (q % n) = true ∧ (zgd (zcf D (zbg q n))).seq = q then some (zgd (zcf D (zbg q n))) else none
 | 0 => by
  rw [if_neg oQ]
  rfl
 | i + 1 => by
  have ih := zfh D n q i
  rw [zbi]
  by_cases hs : zd7 D n i = true
  ·have hs' := hs
   unfold zd7 at hs'
   rw [hs', if_pos rfl, zyi, ih]
   simp only [bH, decide_eq_true_eq] at hs'
   have hp := hs'.2
   by_cases hq : q = (zgd (zcf D (2 + i))).seq
   ·have hqi : q % n = i := by rw [← hq] at hp; unfold zbg at hp; omega
    rw [if_pos hq, if_pos]
    ·unfold zbg; rw [hqi]
    ·refine ⟨oQ, by rw [hqi]; exact hs, ?_⟩
     unfold zbg; rw [hqi]; exact hq.symm
   ·rw [if_neg hq]
    by_cases hqi : q % n = i
    ·rw [if_neg oQ, if_neg]
     rintro ⟨_, _, h3⟩
     unfold zbg at h3
     rw [hqi] at h3
     exact hq h3.symm
    ·by_cases hc : q % n < i ∧ zd7 D n (q % n) = true ∧ (zgd (zcf D (zbg q n))).seq = q
     ·rw [if_pos hc, if_pos ⟨oQ, hc.2⟩]
     ·rw [if_neg hc, if_neg (fun h => hc ⟨oQ, h.2⟩)]
  ·have hs' : (zir (zcf D (2 + i)) && decide (zbg (zgd (zcf D (2 + i))).seq n = 2 + i)) = false := by
    rw [← Bool.not_eq_true]; exact hs
   rw [hs', if_neg dQ, ih]
   by_cases hqi : q % n = i
   ·rw [if_neg oQ, if_neg (by rw [hqi]; exact fun h => hs h.2.1)]
   ·by_cases hc : q % n < i ∧ zd7 D n (q % n) = true ∧ (zgd (zcf D (zbg q n))).seq = q
    ·rw [if_pos hc, if_pos ⟨oQ, hc.2⟩]
    ·rw [if_neg hc, if_neg (fun h => hc ⟨oQ, h.2⟩)]
theorem qiz {B : zeh} {h : Nat} {s : Sht} {p : Nat × Sht} (hp : p ∈ qfj B h s) : p = (h, s) ∨ p ∈ B := by
 unfold qfj at hp
 split at hp
 ·obtain ⟨q, hq, rfl⟩ := aT.1 hp
  split
  ·exact .inl rfl
  ·exact .inr hq
 ·rcases aS.1 hp with hp | hp
  ·exact .inr hp
  ·exact .inl (aL.1 hp)
theorem zuc (D : Dsk) (n : Nat) : ∀ i, ∀ p ∈ zbi D n i, ∃ j, j < i ∧ zd7 D n j = true ∧ p = ((zgd (zcf D (2 + j))).seq, zgd (zcf D (2 + j)))
 | 0, _, h => nomatch h
 | i + 1, p, h => by
  rw [zbi] at h
  by_cases hs : zd7 D n i = true
  ·have hs' := hs
   unfold zd7 at hs'
   rw [hs', if_pos rfl] at h
   rcases qiz h with rfl | h
   ·exact ⟨i, oQ, hs, rfl⟩
   ·obtain ⟨j, h1, h2⟩ := zuc D n i p h
    exact ⟨j, oQ, h2⟩
  ·have hs' : (zir (zcf D (2 + i)) && decide (zbg (zgd (zcf D (2 + i))).seq n = 2 + i)) = false := by
    rw [← Bool.not_eq_true]; exact hs
   rw [hs', if_neg dQ] at h
   obtain ⟨j, h1, h2⟩ := zuc D n i p h
   exact ⟨j, oQ, h2⟩
theorem zsh {D : Dsk} (hw : D.wait = []) {n : Nat} (hn : 0 < n) {s : Sht} (hq : s.seq < 18446744073709551616) (ht : s.text.length ≤ 497) (h : D.on[zbg s.seq n]? = some (zn3 s)) : (zbi D n n).lookup s.seq = some s := by
 obtain ⟨h1, h2⟩ := qk9 hq ht
 have hc : zcf D (zbg s.seq n) = zn3 s := by rw [zfn hw, aC, h]; rfl
 have hm := eM s.seq hn
 rw [zfh, hc, h2, if_pos]
 refine ⟨hm, ?_, rfl⟩
 unfold zd7
 rw [show 2 + s.seq % n = zbg s.seq n from rfl, hc, h1, h2]
 simp
theorem qgy {D : Dsk} {n q : Nat} (h : zd7 D n (q % n) = true → (zgd (zcf D (zbg q n))).seq ≠ q) : (zbi D n n).lookup q = none := by
 rw [zfh, if_neg]
 rintro ⟨_, h2, h3⟩
 exact h h2 h3
theorem zv4 {D : Dsk} {n first lo hi : Nat} (hf : first ≤ hi) (hhi : hi < 18446744073709551616) (hl : lo ≤ first ∨ ∃ s, (zbi D n n).lookup (lo - 1) = some s) (hb : ∀ i, i < n → zd7 D n i = true → (zgd (zcf D (2 + i))).seq < hi) :
  lo ≤ ze8 (zgw D n n) first ∧ first ≤ ze8 (zgw D n n) first ∧ ze8 (zgw D n n) first ≤ hi ∧ ∀ i, i < n → zd7 D n i = true → (zgd (zcf D (2 + i))).seq < ze8 (zgw D n n) first := by
 have hrows : ∀ p ∈ zgw D n n, p.1 < hi := by
  intro p hp
  rw [← zog] at hp
  obtain ⟨q, hq, rfl⟩ := aT.1 hp
  obtain ⟨j, h1, h2, rfl⟩ := zuc D n n q hq
  exact hb j h1 h2
 have hle := (zh3 (zgw D n n) first (ze8 (zgw D n n) first)).1 (aX _)
 have hrow : ∀ q s, (zbi D n n).lookup q = some s → q < ze8 (zgw D n n) first := by
  intro q s hs
  have hm : (q, Value.agg (zsl s)) ∈ zgw D n n := by
   rw [← zog]
   exact aT.2 ⟨(q, s), zh2 hs, rfl⟩
  have h1 := hle.2 _ hm
  have h2 := hrows _ hm
  simp only at h1 h2
  rw [zpe oQ] at h1
  omega
 refine ⟨?_, hle.1, (zh3 _ _ _).2 ⟨hf, fun p hp => ?_⟩, fun i hi2 hs => ?_⟩
 ·rcases hl with h | ⟨s, hs⟩
  ·omega
  ·have := hrow _ s hs
   omega
 ·have := hrows p hp
  rw [zpe oQ]
  omega
 ·have hs2 := hs
  unfold zd7 at hs2
  simp only [bH, decide_eq_true_eq] at hs2
  have hp := hs2.2
  generalize hqq : (zgd (zcf D (2 + i))).seq = q at hp ⊢
  have hqi : q % n = i := by unfold zbg at hp; omega
  refine hrow q (zgd (zcf D (2 + i))) ?_
  rw [zfh, hp, if_pos ⟨oQ, by rw [hqi]; exact hs, hqq⟩]
end Go.Proofs.YtkkfifhaobjicaaGreatDoor
namespace Go.Proofs.YtkkfifhaobjicaaGreatDoor
open Go.Eng
set_option maxRecDepth 100000
theorem zjv (f : Nat → Bys) : ∀ (ws : List (Nat × Bys)) (on : List Bys) (j : Nat), j < on.length → (∀ p ∈ ws, p.2 = f p.1) → (zeb on ws)[j]? = if j ∈ ws.map (·.1) then some (f j) else on[j]?
 | [], _, _, _, _ => by simp [zeb]
 | p :: l, on, j, hj, h => by
  rw [zeb, zjv f l (on.set p.1 p.2) j (by rw [bO]; exact hj) fun q hq => h q (.tail _ hq)]
  by_cases h1 : j ∈ l.map (·.1)
  ·rw [if_pos h1, if_pos (by rw [bD]; exact .tail _ h1)]
  ·rw [if_neg h1]
   by_cases h2 : p.1 = j
   ·rw [if_pos (by rw [bD, h2]; exact .head _), ← h2, fM (by rw [h2]; exact hj), h p (.head _)]
   ·rw [fY h2, if_neg (by rw [bD, aJ]; rintro (h3 | h3); exact h2 h3.symm; exact h1 h3)]
def zh1 (TS : List PR) (i : Nat) : Option Bys := TS.foldl (fun acc R => ((zme [] R).lookup i).or acc) none
theorem zjo (TS : List PR) (R : PR) (i : Nat) : zh1 (TS ++ [R]) i = ((zme [] R).lookup i).or (zh1 TS i) := by simp [zh1]
theorem zpx {A : PR} {p : Nat × Bys} (h : p ∈ zdy A) : A.lookup p.1 = some p.2 := by
 obtain ⟨i, hi, rfl⟩ := aT.1 h
 obtain ⟨b, hb⟩ := zlf (zjx.1 hi)
 simp only [hb, eW]
theorem zm0 {A : PR} {i : Nat} : i ∈ (zdy A).map (·.1) ↔ (A.lookup i).isSome = true := by
 rw [zcc, zdy, dR]
 have : ((fun x : Nat × Bys => x.1) ∘ fun i => (i, (A.lookup i).getD [])) = id := rfl
 rw [this, List.map_id]
 exact zjx
theorem qql {secs : Nat} {A : PR} {on : List Bys} {i : Nat} (hi : 2 + secs + i < on.length) : (zeb on (wsP secs A))[2 + secs + i]? = (A.lookup i).or on[2 + secs + i]? := by
 rw [zjv (fun j => (A.lookup (j - (2 + secs))).getD []) _ _ _ hi fun p hp => by
  obtain ⟨q, hq, rfl⟩ := aT.1 hp
  show q.2 = (A.lookup (2 + secs + q.1 - (2 + secs))).getD []
  rw [show 2 + secs + q.1 - (2 + secs) = q.1 by omega, zpx hq]
  rfl]
 have hk : (2 + secs + i ∈ (wsP secs A).map (·.1)) ↔ (A.lookup i).isSome = true := by
  rw [← zm0, wsP, dR]
  constructor
  ·intro h
   obtain ⟨q, hq, he⟩ := aT.1 h
   have he : 2 + secs + q.1 = 2 + secs + i := he
   exact aT.2 ⟨q, hq, oQ⟩
  ·intro h
   obtain ⟨q, hq, he⟩ := aT.1 h
   exact aT.2 ⟨q, hq, by show 2 + secs + q.1 = _; rw [he]⟩
 rw [show 2 + secs + i - (2 + secs) = i by omega]
 cases hl : A.lookup i with
 | none => rw [if_neg (fun h => by have := hk.1 h; rw [hl] at this; cases this)]; rfl
 | some b => rw [if_pos (hk.2 (by rw [hl]; rfl))]; rfl
theorem zlr : ∀ (a b : List (Nat × Bys)) (on : List Bys), zeb on (a ++ b) = zeb (zeb on a) b
 | [], _, _ => rfl
 | p :: a, b, on => zlr a b _
theorem qqk {secs : Nat} {on : List Bys} {i : Nat} (hi : 2 + secs + i < on.length) (TS : List PR) : (zeb on (wsO secs TS))[2 + secs + i]? = (zh1 TS i).or on[2 + secs + i]? := by
 induction TS using qm4 with
 | h0 => rfl
 | hs TS R ih =>
  rw [zuu, zlr, qql (by rw [zgl]; exact hi), ih, zjo, Option.or_assoc]
theorem zzv {secs : Nat} : ∀ {TS : List PR} {p : Nat × Bys}, p ∈ wsO secs TS → ∃ i, p.1 = 2 + secs + i ∧ (zh1 TS i).isSome = true ∧ ∃ R ∈ TS, (zme [] R).lookup i = some p.2 := fun {TS} => by
 induction TS using qm4 with
 | h0 => intro p h; cases h
 | hs TS R ih =>
  intro p h
  rw [zuu] at h
  rcases aS.1 h with h | h
  ·obtain ⟨i, h1, h2, R', h3, h4⟩ := ih h
   refine ⟨i, h1, ?_, R', aK _ h3, h4⟩
   rw [zjo]
   cases (zme [] R).lookup i with
   | none => exact h2
   | some b => rfl
  ·obtain ⟨q, hq, rfl⟩ := aT.1 h
   have := zpx hq
   refine ⟨q.1, rfl, ?_, R, aP _ (.head _), this⟩
   rw [zjo, this]
   rfl
/-! ### What the log's sectors tell: they and nothing else -/
theorem zsg {D D' : Dsk} {n : Nat} : ∀ (i : Nat), (∀ j, j < i → zcf D (2 + j) = zcf D' (2 + j)) → zbi D n i = zbi D' n i
 | 0, _ => rfl
 | i + 1, h => by
  rw [zbi, zbi, h i oQ, zsg i fun j hj => h j oQ]
theorem qja {D : Dsk} {h : Hd} {c : Nat} (hc : c = 0 ∨ c = 1) (h1 : zq2 (zcf D c) = true) (h2 : hdT (zcf D c) = h) (h3 : zq2 (zcf D (1 - c)) = true → (hdT (zcf D (1 - c))).gen < h.gen) : zdb D 2 = (h, (c : Int)) := by
 unfold zdb zdb zdb
 rcases hc with rfl | rfl
 ·have e1 : zio (zcf D 0) (0 : Nat) (zyv, -1) = (h, 0) := by
   unfold zio
   rw [h1, h2]
   rfl
  rw [show ((0 : Nat) : Int) = 0 from rfl] at *
  unfold zio at e1 ⊢
  rw [e1]
  by_cases h4 : zq2 (zcf D 1) = true
  ·have : (hdT (zcf D 1)).gen < h.gen := h3 h4
   rw [h4]
   simp
   omega
  ·simp [h4]
 ·have h3' : zq2 (zcf D 0) = true → (hdT (zcf D 0)).gen < h.gen := h3
  by_cases h4 : zq2 (zcf D 0) = true
  ·have := h3' h4
   unfold zio
   simp [h4, h1, h2, this]
  ·unfold zio
   simp [h4, h1, h2]
structure zxe (D : Dsk) (h : Hd) (c : Nat) (tx : List Bys) (hi : Nat) : Prop where
 c01 : c = 0 ∨ c = 1
 hok : h.Ok
 secs : 1 ≤ h.secs
 head : D.on[c]? = some (hdP h)
 other : zq2 (D.on.getD (1 - c) []) = true → (hdT (D.on.getD (1 - c) [])).gen < h.gen
 sheets : ∀ i, i < h.secs → zd7 D h.secs i = true → (zgd (zcf D (2 + i))).seq < hi ∧ (zgd (zcf D (2 + i))).text ≠ []
 read : zt2 D h = tx
 first : h.first ≤ hi
structure zuy (D : Dsk) (g : Lg) (tx : List Bys) : Prop where
 c01 : g.at_ = 0 ∨ g.at_ = 1
 hok : g.h.Ok
 secs : 1 ≤ g.h.secs
 head : D.on[g.at_]? = some (hdP g.h)
 other : zq2 (D.on.getD (1 - g.at_) []) = true → (hdT (D.on.getD (1 - g.at_) [])).gen < g.h.gen
 sheets : ∀ i, i < g.h.secs → zd7 D g.h.secs i = true → (zgd (zcf D (2 + i))).seq < g.next ∧ (zgd (zcf D (2 + i))).text ≠ []
 has : zxd (zbi D g.h.secs g.h.secs) g.h.first tx
 next : g.next = zkz g.h.first tx
 used : g.h.first + g.used = g.next
 usedle : g.used ≤ g.h.secs
 dead : g.dead = false
theorem Dsk.cur {D : Dsk} (h : D.wait = []) {i : Nat} {s : Bys} (hs : D.on[i]? = some s) : zcf D i = s := by
 rw [zfn h, aC, hs]; rfl
theorem zxe.look {D : Dsk} {h : Hd} {c : Nat} {tx : List Bys} {hi : Nat} (hw : D.wait = []) (L : zxe D h c tx hi) : zdb D 2 = (h, (c : Int)) := by
 obtain ⟨h1, h2⟩ := qo3 L.hok
 have hc := Dsk.cur hw L.head
 refine qja L.c01 (by rw [hc]; exact h1) (by rw [hc]; exact h2) fun h3 => ?_
 rw [zfn hw] at h3 ⊢
 exact L.other h3
theorem zuh {D : Dsk} {n q : Nat} (hn : 0 < n) (h : ∀ i, i < n → zd7 D n i = true → (zgd (zcf D (2 + i))).seq < q) (k : Nat) (hk : q ≤ k) : (zbi D n n).lookup k = none := by
 refine qgy fun hs he => ?_
 have := h (k % n) (eM _ hn) hs
 rw [show 2 + k % n = zbg k n from rfl, he] at this
 omega
theorem zuy.rec' {D : Dsk} {g : Lg} {tx : List Bys} (L : zuy D g tx) (hn : g.next < 18446744073709551616) : zxe D g.h g.at_ tx g.next where
 c01 := L.c01
 hok := L.hok
 secs := L.secs
 head := L.head
 other := L.other
 sheets := L.sheets
 read := by
  refine zm7 (by rw [← L.next]; exact hn) L.has (zwu ?_)
  rw [← L.next]
  exact zuh L.secs (fun i hi hs => (L.sheets i hi hs).1) _ (aX _)
 first := by rw [L.next]; exact zox _ _
def zhg (D D' : Dsk) (n : Nat) : Prop := ∀ i, i < n → zcf D (2 + i) = zcf D' (2 + i)
theorem zhg.read {D D' : Dsk} {n : Nat} (h : zhg D D' n) : zbi D n n = zbi D' n n := zsg n h
theorem zhg.at_ {D D' : Dsk} {n i : Nat} (h : zhg D D' n) (hi : i < n) : zd7 D n i = zd7 D' n i := by unfold zd7; rw [h i hi]
theorem zxe.ext {D D' : Dsk} {h : Hd} {c : Nat} {tx : List Bys} {hi : Nat} (L : zxe D h c tx hi) (h2 : ∀ i, i < 2 → D.on[i]? = D'.on[i]?) (hs : zhg D D' h.secs) : zxe D' h c tx hi where
 c01 := L.c01
 hok := L.hok
 secs := L.secs
 head := by rw [← h2 c (by have := L.c01; omega)]; exact L.head
 other := by
  have e : D'.on.getD (1 - c) [] = D.on.getD (1 - c) [] := by rw [aC, aC, h2 (1 - c) oQ]
  rw [e]; exact L.other
 sheets := fun i hi h3 => by
  rw [← hs i hi]
  exact L.sheets i hi (by rw [hs.at_ hi]; exact h3)
 read := by
  have := L.read
  unfold zt2 at this ⊢
  rw [← hs.read]; exact this
 first := L.first
theorem zuy.ext {D D' : Dsk} {g : Lg} {tx : List Bys} (L : zuy D g tx) (h2 : ∀ i, i < 2 → D.on[i]? = D'.on[i]?) (hs : zhg D D' g.h.secs) : zuy D' g tx where
 c01 := L.c01
 hok := L.hok
 secs := L.secs
 head := by rw [← h2 _ (by have := L.c01; omega)]; exact L.head
 other := by
  have e : D'.on.getD (1 - g.at_) [] = D.on.getD (1 - g.at_) [] := by rw [aC, aC, h2 (1 - g.at_) oQ]
  rw [e]; exact L.other
 sheets := fun i hi h3 => by
  rw [← hs i hi]
  exact L.sheets i hi (by rw [hs.at_ hi]; exact h3)
 has := by rw [← hs.read]; exact L.has
 next := L.next
 used := L.used
 usedle := L.usedle
 dead := L.dead
theorem qgg {c : Nat} (h : c = 0 ∨ c = 1) : za4 (c : Int) = 1 - c ∧ (1 - c = 0 ∨ 1 - c = 1) ∧ 1 - (1 - c) = c ∧ 1 - c ≠ c := by
 rcases h with rfl | rfl
 ·exact ⟨rfl, .inr rfl, rfl, dQ⟩
 ·exact ⟨rfl, .inl rfl, rfl, dQ⟩
theorem qbh {D D' : Dsk} {g : Lg} {tx : List Bys} {hi : Nat} (hw : D.wait = []) (hw' : D'.wait = []) (L : zxe D g.h g.at_ tx hi) (hg1 : g.h.gen + 1 < 18446744073709551616) (hq : g.next < 18446744073709551616) (hsq : ∀ i, i < g.h.secs → zd7 D g.h.secs i = true → (zgd (zcf D (2 + i))).seq < g.next)
  (hnew : D'.on[1 - g.at_]? = some (hdP (zbr g))) (hold : D'.on[g.at_]? = D.on[g.at_]?) (hs : zhg D D' g.h.secs) :
  zuy D' { g with h := zbr g, at_ := za4 g.at_, used := 0, dead := false } [] := by
 obtain ⟨o1, o2, o3, o4⟩ := qgg L.c01
 have hgen : (zbr g).gen = g.h.gen + 1 := aY hg1
 obtain ⟨k1, k2⟩ := qo3 L.hok
 refine ⟨by rw [o1]; exact o2, ⟨eM _ dQ, hq, L.hok.secs, L.hok.note⟩, L.secs, by rw [o1]; exact hnew, ?_, fun i hi h3 => ?_, trivial, rfl, rfl, aV _, rfl⟩
 ·show zq2 (D'.on.getD (1 - za4 g.at_) []) = true → _
  rw [o1, o3]
  intro _
  rw [aC, hold, L.head]
  show (hdT (hdP g.h)).gen < (zbr g).gen
  rw [k2, hgen]
  exact eU _
 ·have h3' : zd7 D g.h.secs i = true := by rw [hs.at_ hi]; exact h3
  show (zgd (zcf D' (2 + i))).seq < g.next ∧ _
  rw [← hs i hi]
  exact ⟨hsq i hi h3', (L.sheets i hi h3').2⟩
structure qof (D D' : Dsk) : Prop where
 left : D.left ≠ none
 dead : D'.dead = true
 wait : D'.wait = []
 left' : D'.left = none
 keep : D'.keep = []
structure zk0 (D D' : Dsk) : Prop where
 rest : D'.Rest
 keep : D'.keep = D.keep
 left : D.left = none → D'.left = none
theorem qn7 {D : Dsk} (hr : D.Rest) {ws : List (Nat × Bys)} (hw : qh5 D ws) : ((zcu D ws).1 = 0 ∧ zk0 D (zcu D ws).2 ∧ (zcu D ws).2.on = zeb D.on ws) ∨ ((zcu D ws).1 = 4 ∧ qof D (zcu D ws).2 ∧ Mix D.on ws (zcu D ws).2.on) := by
 rcases qeg hr hw with ⟨a, b, c, d, e⟩ | ⟨a, b, c, d, e, f, g⟩
 ·exact .inl ⟨a, ⟨b, d, e⟩, c⟩
 ·exact .inr ⟨b, ⟨a, c, d, e, f⟩, g⟩
theorem zp2 {D D' : Dsk} {n : Nat} (hw : D.wait = []) (hw' : D'.wait = []) (h : ∀ i, i < n → D'.on[2 + i]? = D.on[2 + i]?) : zhg D D' n := fun i hi => by
 rw [zfn hw, zfn hw', aC, aC, h i hi]
theorem qbg {D : Dsk} {g : Lg} {tx : List Bys} {hi : Nat} (hr : D.Rest) (hlen : 2 + g.h.secs ≤ D.on.length) (L : zxe D g.h g.at_ tx hi) (hg1 : g.h.gen + 1 < 18446744073709551616) (hq : g.next < 18446744073709551616) (hsq : ∀ i, i < g.h.secs → zd7 D g.h.secs i = true → (zgd (zcf D (2 + i))).seq < g.next) :
  ((zcu D [(za4 g.at_, hdP (zbr g))]).1 = 0 ∧ zk0 D (zcu D [(za4 g.at_, hdP (zbr g))]).2 ∧ zuy (zcu D [(za4 g.at_, hdP (zbr g))]).2 { g with h := zbr g, at_ := za4 g.at_, used := 0, dead := false } [] ∧ (∀ i, 2 ≤ i → (zcu D [(za4 g.at_, hdP (zbr g))]).2.on[i]? = D.on[i]?) ∧ (zcu D [(za4 g.at_, hdP (zbr g))]).2.on.length = D.on.length) ∨
  ((zcu D [(za4 g.at_, hdP (zbr g))]).1 = 4 ∧ qof D (zcu D [(za4 g.at_, hdP (zbr g))]).2 ∧ (zxe (zcu D [(za4 g.at_, hdP (zbr g))]).2 g.h g.at_ tx hi ∨ zxe (zcu D [(za4 g.at_, hdP (zbr g))]).2 (zbr g) (1 - g.at_) [] g.next) ∧ (∀ i, 2 ≤ i → (zcu D [(za4 g.at_, hdP (zbr g))]).2.on[i]? = D.on[i]?) ∧ (zcu D [(za4 g.at_, hdP (zbr g))]).2.on.length = D.on.length) := by
 obtain ⟨o1, o2, o3, o4⟩ := qgg L.c01
 have hws : qh5 D [(za4 g.at_, hdP (zbr g))] := fun p hp => by
  rw [aL] at hp
  subst hp
  exact ⟨by show za4 g.at_ < _; rw [o1]; omega, ztp L.hok.note⟩
 rw [o1] at hws ⊢
 rcases qn7 hr hws with ⟨e, hl, hon⟩ | ⟨e, hd, hm⟩
 ·left
  generalize zcu D [(1 - g.at_, hdP (zbr g))] = r at e hl hon ⊢
  have hon : r.2.on = D.on.set (1 - g.at_) (hdP (zbr g)) := hon
  have h2 : ∀ i, 2 ≤ i → r.2.on[i]? = D.on[i]? := fun i hi => by rw [hon, fY oQ]
  have hT := qbh (D' := r.2) hr.wait hl.rest.wait L hg1 hq hsq (by rw [hon, fM oQ]) (by rw [hon, fY o4]) (zp2 hr.wait hl.rest.wait fun i _ => h2 (2 + i) oQ)
  rw [o1] at hT
  exact ⟨e, hl, hT, h2, by rw [hon, bO]⟩
 ·right
  generalize zcu D [(1 - g.at_, hdP (zbr g))] = r at e hd hm ⊢
  have hlen' := hm.1
  have h1 : ∀ i, i ≠ 1 - g.at_ → r.2.on[i]? = D.on[i]? := fun i hi => by
   by_cases hil : i < D.on.length
   ·rcases hm.2 i hil with h | ⟨s, hs, -⟩
    ·exact h
    ·rw [aL] at hs
     cases hs
     exact absurd rfl hi
   ·rw [cR oQ, cR oQ]
  have h2 : ∀ i, 2 ≤ i → r.2.on[i]? = D.on[i]? := fun i hi => h1 i oQ
  have hs := zp2 (n := g.h.secs) hr.wait hd.wait fun i _ => h2 (2 + i) oQ
  refine ⟨e, hd, ?_, h2, hlen'⟩
  rcases hm.2 (1 - g.at_) oQ with h | ⟨s, hs', h⟩
  ·refine .inl (L.ext (fun i hi => ?_) hs)
   by_cases hi2 : i = 1 - g.at_
   ·rw [hi2, h]
   ·rw [h1 i hi2]
  ·rw [aL] at hs'
   cases hs'
   have hT := qbh (D' := r.2) hr.wait hd.wait L hg1 hq hsq h (h1 _ (Ne.symm o4)) hs
   rw [o1] at hT
   exact .inr (hT.rec' hq)
/-! ### A commit's sheets -/
theorem zln {a b n : Nat} (h1 : a < b) (h2 : b - a < n) : zbg a n ≠ zbg b n := by
 intro h
 unfold zbg at h
 have h3 : (b - a) % n = 0 := by
  have h4 : b % n = a % n := oQ
  exact Nat.sub_mod_eq_zero_of_mod_eq h4
 rw [aY h2] at h3
 omega
theorem zxd.mono {B B' : zeh} : ∀ {ts : List Bys} {q : Nat}, zxd B q ts → (∀ k, q ≤ k → k < zkz q ts → B'.lookup k = B.lookup k) → zxd B' q ts
 | [], _, _, _ => trivial
 | t :: ts, q, h, he => by
  have h1 := zox ts (q + za9 t.length)
  refine ⟨fun j hj => ?_, zxd.mono h.2 fun k hk1 hk2 => he k oQ hk2⟩
  rw [he (q + j) oQ (by rw [zkz]; omega)]
  exact h.1 j hj
theorem zv3 {D D' : Dsk} {n k : Nat} (h : zcf D (zbg k n) = zcf D' (zbg k n)) : (zbi D' n n).lookup k = (zbi D n n).lookup k := by
 rw [zfh, zfh]
 unfold zd7
 have h' : zcf D (2 + k % n) = zcf D' (2 + k % n) := h
 rw [h', show zbg k n = 2 + k % n from rfl, h']
theorem zqx {g : Lg} {t : Bys} {p : Nat × Bys} (h : p ∈ wsC g t) : ∃ j, j < za9 t.length ∧ p = (zbg (g.next + j) g.h.secs, zn3 (pcS g.next t j)) := by
 unfold wsC qrk at h
 rw [dR] at h
 obtain ⟨j, hj, rfl⟩ := aT.1 h
 exact ⟨j, dN.1 hj, rfl⟩
theorem qlj {g : Lg} {t : Bys} {j : Nat} (hj : j < za9 t.length) : (zbg (g.next + j) g.h.secs, zn3 (pcS g.next t j)) ∈ wsC g t := by
 unfold wsC qrk
 rw [dR]
 exact aT.2 ⟨j, dN.2 hj, rfl⟩
structure Mid (D D' : Dsk) (g : Lg) (tx : List Bys) (t : Bys) : Prop where
 low : ∀ i, i < 2 → D'.on[i]? = D.on[i]?
 high : ∀ i, 2 + g.h.secs ≤ i → D'.on[i]? = D.on[i]?
 sheets : ∀ i, i < g.h.secs → zd7 D' g.h.secs i = true → (zgd (zcf D' (2 + i))).seq < g.next + za9 t.length ∧ (zgd (zcf D' (2 + i))).text ≠ []
 has : zxd (zbi D' g.h.secs g.h.secs) g.h.first tx
 piece : ∀ j, j < za9 t.length → (zbi D' g.h.secs g.h.secs).lookup (g.next + j) = some (pcS g.next t j) ∨ (zbi D' g.h.secs g.h.secs).lookup (g.next + j) = none
theorem qk3 {D D' : Dsk} {g : Lg} {tx : List Bys} {t : Bys} (hw : D.wait = []) (hw' : D'.wait = []) (L : zuy D g tx) (hlen : 2 + g.h.secs ≤ D.on.length) (ht : t ≠ []) (hroom : g.used + za9 t.length ≤ g.h.secs) (hnx : g.next + za9 t.length < 18446744073709551616) (hm : Mix D.on (wsC g t) D'.on) : Mid D D' g tx t := by
 have hs0 := L.secs
 have hpl : ∀ j, zbg (g.next + j) g.h.secs < 2 + g.h.secs ∧ 2 ≤ zbg (g.next + j) g.h.secs := fun j => by
  have := eM (g.next + j) hs0
  unfold zbg
  omega
 have hout : ∀ i, (∀ j, j < za9 t.length → i ≠ zbg (g.next + j) g.h.secs) → D'.on[i]? = D.on[i]? := fun i hi => by
  by_cases hil : i < D.on.length
  ·rcases hm.2 i hil with h | ⟨s, hs, -⟩
   ·exact h
   ·obtain ⟨j, hj, he⟩ := zqx hs
    exact absurd (congrArg Prod.fst he) (hi j hj)
  ·rw [cR (by have := hm.1; omega), cR oQ]
 have hcur : ∀ i, D'.on[i]? = D.on[i]? → zcf D i = zcf D' i := fun i h => by
  rw [zfn hw, zfn hw', aC, aC, h]
 refine ⟨fun i hi => hout i fun j hj => ?_, fun i hi => hout i fun j hj => ?_, fun i hi h3 => ?_, L.has.mono fun k hk1 hk2 => ?_, fun j hj => ?_⟩
 ·have := (hpl j).2; omega
 ·have := (hpl j).1; omega
 ·rcases hm.2 (2 + i) oQ with h | ⟨s, hs, h⟩
  ·have hc := hcur _ h
   have h3' : zd7 D g.h.secs i = true := by unfold zd7 at h3 ⊢; rw [hc]; exact h3
   have := L.sheets i hi h3'
   rw [← hc]
   exact ⟨bG this.1 (iW _ _), this.2⟩
  ·obtain ⟨j, hj, he⟩ := zqx hs
   have hs2 : s = zn3 (pcS g.next t j) := congrArg Prod.snd he
   have hc : zcf D' (2 + i) = zn3 (pcS g.next t j) := by rw [Dsk.cur hw' h, hs2]
   have hso := qk9 (s := pcS g.next t j) (by show g.next + j < _; omega) (zt6 _ _ _)
   rw [hc, hso.2]
   exact ⟨by show g.next + j < _; omega, qpp ht hj⟩
 ·refine zv3 (hcur _ (hout _ fun j hj => ?_))
  have hu := L.used
  have hx := L.next
  exact zln oQ oQ
 ·rcases hm.2 (zbg (g.next + j) g.h.secs) (by have := (hpl j).1; omega) with h | ⟨s, hs, h⟩
  ·right
   rw [zv3 (hcur _ h)]
   exact zuh hs0 (fun i hi hs => (L.sheets i hi hs).1) _ (iW _ _)
  ·left
   obtain ⟨j', hj', he⟩ := zqx hs
   have hp : zbg (g.next + j) g.h.secs = zbg (g.next + j') g.h.secs := congrArg Prod.fst he
   have hjj : j = j' := by
    rcases jX j j' with hlt | h | hlt
    ·exact absurd hp (zln oQ oQ)
    ·exact h
    ·exact absurd hp.symm (zln oQ oQ)
   subst hjj
   have hs2 : s = zn3 (pcS g.next t j) := congrArg Prod.snd he
   rw [hs2] at h
   exact zsh (s := pcS g.next t j) hw' hs0 (by show g.next + j < _; omega) (zt6 _ _ _) h
theorem Mid.back {D D' : Dsk} {g : Lg} {tx : List Bys} {t : Bys} (L : zuy D g tx) (hnx : g.next + za9 t.length < 18446744073709551616) (M : Mid D D' g tx t) : zxe D' g.h g.at_ tx (g.next + za9 t.length) ∨ zxe D' g.h g.at_ (tx ++ [t]) (g.next + za9 t.length) := by
 have hhead : D'.on[g.at_]? = some (hdP g.h) := by rw [M.low _ (by have := L.c01; omega)]; exact L.head
 have hother : zq2 (D'.on.getD (1 - g.at_) []) = true → (hdT (D'.on.getD (1 - g.at_) [])).gen < g.h.gen := by
  have e : D'.on.getD (1 - g.at_) [] = D.on.getD (1 - g.at_) [] := by rw [aC, aC, M.low (1 - g.at_) oQ]
  rw [e]; exact L.other
 have hfi : g.h.first ≤ g.next + za9 t.length := by have := L.used; omega
 by_cases hall : ∀ j, j < za9 t.length → (zbi D' g.h.secs g.h.secs).lookup (g.next + j) = some (pcS g.next t j)
 ·right
  refine ⟨L.c01, L.hok, L.secs, hhead, hother, M.sheets, ?_, hfi⟩
  have hend : zkz g.h.first (tx ++ [t]) = g.next + za9 t.length := by rw [ztb, ← L.next]
  refine zm7 (by rw [hend]; exact hnx) (M.has.app (by rw [← L.next]; exact hall)) (zwu ?_)
  rw [hend]
  exact zuh L.secs (fun i hi hs => (M.sheets i hi hs).1) _ (aX _)
 ·left
  refine ⟨L.c01, L.hok, L.secs, hhead, hother, M.sheets, ?_, hfi⟩
  have hex : ∃ k, k < za9 t.length ∧ (zbi D' g.h.secs g.h.secs).lookup (g.next + k) = none ∧ ∀ j, j < k → (zbi D' g.h.secs g.h.secs).lookup (g.next + j) = some (pcS g.next t j) := by
   have : ∀ m, m ≤ za9 t.length → (∀ j, j < m → (zbi D' g.h.secs g.h.secs).lookup (g.next + j) = some (pcS g.next t j)) ∨ ∃ k, k < m ∧ (zbi D' g.h.secs g.h.secs).lookup (g.next + k) = none ∧ ∀ j, j < k → (zbi D' g.h.secs g.h.secs).lookup (g.next + j) = some (pcS g.next t j) := by
    intro m
    induction m with
    | zero => exact fun _ => .inl fun j hj => absurd hj (fC _)
    | succ m ih =>
     intro hm
     rcases ih oQ with h | ⟨k, h1, h2, h3⟩
     ·rcases M.piece m hm with h4 | h4
      ·exact .inl fun j hj => by
        rcases Nat.lt_succ_iff_lt_or_eq.1 hj with h5 | rfl
        ·exact h j h5
        ·exact h4
      ·exact .inr ⟨m, eU _, h4, h⟩
     ·exact .inr ⟨k, oQ, h2, h3⟩
   rcases this _ (aX _) with h | h
   ·exact absurd h hall
   ·exact h
  obtain ⟨k, hk1, hk2, hk3⟩ := hex
  refine zm7 (by rw [← L.next]; omega) M.has ?_
  rw [← L.next]
  exact qhe hnx hk1 hk3 hk2
theorem Mid.done {D D' : Dsk} {g : Lg} {tx : List Bys} {t : Bys} (L : zuy D g tx) (hroom : g.used + za9 t.length ≤ g.h.secs) (M : Mid D D' g tx t) (hall : ∀ j, j < za9 t.length → (zbi D' g.h.secs g.h.secs).lookup (g.next + j) = some (pcS g.next t j)) :
  zuy D' { g with next := g.next + za9 t.length, used := g.used + za9 t.length, dead := false } (tx ++ [t]) where
 c01 := L.c01
 hok := L.hok
 secs := L.secs
 head := by show D'.on[g.at_]? = some (hdP g.h); rw [M.low g.at_ (by have := L.c01; omega)]; exact L.head
 other := by
  have e : D'.on.getD (1 - g.at_) [] = D.on.getD (1 - g.at_) [] := by rw [aC, aC, M.low (1 - g.at_) oQ]
  show zq2 (D'.on.getD (1 - g.at_) []) = true → _
  rw [e]; exact L.other
 sheets := M.sheets
 has := M.has.app (by rw [← L.next]; exact hall)
 next := by
  show g.next + _ = zkz g.h.first (tx ++ [t])
  rw [ztb, ← L.next]
 used := by
  show g.h.first + (g.used + _) = g.next + _
  have := L.used; omega
 usedle := hroom
 dead := rfl
theorem qb8 {D : Dsk} {g : Lg} {tx : List Bys} {t : Bys} (hr : D.Rest) (L : zuy D g tx) (hlen : 2 + g.h.secs ≤ D.on.length) (ht : t ≠ []) (hroom : g.used + za9 t.length ≤ g.h.secs) (hnx : g.next + za9 t.length < 18446744073709551616) :
  ((zcu D (wsC g t)).1 = 0 ∧ zk0 D (zcu D (wsC g t)).2 ∧ zuy (zcu D (wsC g t)).2 { g with next := g.next + za9 t.length, used := g.used + za9 t.length, dead := false } (tx ++ [t]) ∧ (∀ i, 2 + g.h.secs ≤ i → (zcu D (wsC g t)).2.on[i]? = D.on[i]?) ∧ (zcu D (wsC g t)).2.on.length = D.on.length) ∨
  ((zcu D (wsC g t)).1 = 4 ∧ qof D (zcu D (wsC g t)).2 ∧ (zxe (zcu D (wsC g t)).2 g.h g.at_ tx (g.next + za9 t.length) ∨ zxe (zcu D (wsC g t)).2 g.h g.at_ (tx ++ [t]) (g.next + za9 t.length)) ∧ (∀ i, 2 + g.h.secs ≤ i → (zcu D (wsC g t)).2.on[i]? = D.on[i]?) ∧ (zcu D (wsC g t)).2.on.length = D.on.length) := by
 have hs0 := L.secs
 have hws : qh5 D (wsC g t) := fun p hp => by
  obtain ⟨j, hj, rfl⟩ := zqx hp
  refine ⟨?_, qa7 (zt6 _ _ _)⟩
  have := eM (g.next + j) hs0
  show zbg (g.next + j) g.h.secs < _
  unfold zbg
  omega
 rcases qn7 hr hws with ⟨e, hl, hon⟩ | ⟨e, hd, hm⟩
 ·left
  generalize zcu D (wsC g t) = r at e hl hon ⊢
  have hm : Mix D.on (wsC g t) r.2.on := by rw [hon]; exact Mix.all _ _
  have M := qk3 hr.wait hl.rest.wait L hlen ht hroom hnx hm
  refine ⟨e, hl, M.done L hroom fun j hj => ?_, M.high, hm.1⟩
  have hpl : zbg (g.next + j) g.h.secs < D.on.length := (hws _ (qlj hj)).1
  refine zsh (s := pcS g.next t j) hl.rest.wait hs0 (by show g.next + j < _; omega) (zt6 _ _ _) ?_
  show r.2.on[zbg (g.next + j) g.h.secs]? = _
  -- the writes' places are apart, so the last one at a place is the only one
  have hlast : ∀ (ws : List (Nat × Bys)) (on : List Bys) (a : Nat) (s : Bys), a < on.length → (a, s) ∈ ws → (∀ p ∈ ws, p.1 = a → p.2 = s) → (zeb on ws)[a]? = some s := by
   intro ws
   induction ws with
   | nil => intro on a s _ h; cases h
   | cons p l ih =>
    intro on a s ha hin hall
    rw [zeb]
    by_cases hin2 : (a, s) ∈ l
    ·exact ih _ a s (by rw [bO]; exact ha) hin2 fun q hq => hall q (.tail _ hq)
    ·rcases aJ.1 hin with rfl | h
     ·rw [zfk fun q hq he => hin2 (by have := hall q (.tail _ hq) he; rw [← he, ← this]; exact hq)]
      exact fM ha
     ·exact absurd h hin2
  rw [hon]
  refine hlast _ _ _ _ hpl (qlj hj) fun p hp he => ?_
  obtain ⟨j', hj', rfl⟩ := zqx hp
  have hjj : j' = j := by
   have he : zbg (g.next + j') g.h.secs = zbg (g.next + j) g.h.secs := he
   rcases jX j' j with hlt | h | hlt
   ·exact absurd he (zln oQ oQ)
   ·exact h
   ·exact absurd he.symm (zln oQ oQ)
  rw [hjj]
 ·right
  generalize zcu D (wsC g t) = r at e hd hm ⊢
  have M := qk3 hr.wait hd.wait L hlen ht hroom hnx hm
  exact ⟨e, hd, M.back L hnx, M.high, hm.1⟩
structure qsg (TS : List PR) (n : Nat) : Prop where
 each : ∀ R ∈ TS, R.Ok n ∧ R ≠ [] ∧ R.length ≤ 1024
 many : TS.length ≤ 512
structure zxh (D : Dsk) (n secs : Nat) (note : Bys) (V : List Bys) (B : Nat) (h : Hd) (c : Nat) (TS : List PR) : Prop where
 log : zxe D h c (TS.map zd1) B
 hs : h.secs = secs
 hnote : h.note = beN 2 n ++ note
 gen : h.gen ≤ B
 ts : qsg TS n
 rep : ∀ i, i < n → (zh1 TS i).or D.on[2 + secs + i]? = V[i]?
structure Siz (D : Dsk) (n secs : Nat) (note : Bys) (V : List Bys) : Prop where
 n1 : 64 ≤ n
 n2 : n ≤ 1024
 s1 : 1 ≤ secs
 s2 : secs ≤ 512
 note : note.length ≤ 40
 room : 2 + secs + n ≤ D.on.length
 Vl : V.length = n
 Vs : ∀ p ∈ V, p.length = 512
 ok : D.Ok
structure StI (s : Pg) (D : Dsk) (n secs : Nat) (note : Bys) (V : List Bys) (B : Nat) (TS : List PR) : Prop where
 siz : Siz D n secs note V
 rest : D.Rest
 hn : s.n = n
 hnote : s.note = note
 hsecs : s.g.h.secs = secs
 hhnote : s.g.h.note = beN 2 n ++ note
 log : zuy D s.g (TS.map zd1)
 ts : ∀ R ∈ TS, R.Ok n ∧ R ≠ [] ∧ R.length ≤ 1024
 dead : s.dead = false
 Kok : s.K.Ok n
 Kv : ∀ i b, s.K.lookup i = some b → V[i]? = some b
 Rk : ∀ i ∈ s.R, (s.K.lookup i).isSome = true ∧ (zh1 TS i).isSome = true ∧ i < n
 Rn : s.R.Nodup
 pages : ∀ i, i < n → i ∉ s.R → D.on[2 + secs + i]? = V[i]?
 rep : ∀ i b, zh1 TS i = some b → V[i]? = some b
 Cok : s.C.Ok n
 Cn : (s.C.map (·.1)).Nodup
 gen : s.g.h.gen ≤ B
 next : s.g.next ≤ B
theorem Siz.ext {D D' : Dsk} {n secs : Nat} {note : Bys} {V : List Bys} (h : Siz D n secs note V) (ho : D'.Ok) (hl : D'.on.length = D.on.length) : Siz D' n secs note V :=
 ⟨h.n1, h.n2, h.s1, h.s2, h.note, by rw [hl]; exact h.room, h.Vl, h.Vs, ho⟩
theorem qj5 {R : PR} (h : R ≠ []) : zd1 R ≠ [] := by
 cases R with
 | nil => exact absurd rfl h
 | cons p R =>
  intro he
  have := congrArg List.length he
  rw [zsq, aA, zam] at this
  simp at this
theorem zuy.many {D : Dsk} {g : Lg} {tx : List Bys} (L : zuy D g tx) : tx.length ≤ g.used := by
 have h1 := zz8 tx g.h.first
 have h2 := L.next
 have h3 := L.used
 omega
theorem StI.rec' {s : Pg} {D : Dsk} {n secs : Nat} {note : Bys} {V : List Bys} {B : Nat} {TS : List PR} (h : StI s D n secs note V B TS) (hB : B < 9223372036854775808) : zxh D n secs note V B s.g.h s.g.at_ TS where
 log := by
  have := h.log.rec' (by have := h.next; omega)
  exact ⟨this.c01, this.hok, this.secs, this.head, this.other, fun i hi hs => ⟨bG (this.sheets i hi hs).1 h.next, (this.sheets i hi hs).2⟩, this.read, cL this.first h.next⟩
 hs := h.hsecs
 hnote := h.hhnote
 gen := h.gen
 ts := ⟨h.ts, by have h1 := h.log.many; have h2 := h.log.usedle; have h3 := h.siz.s2; rw [aG] at h1; rw [h.hsecs] at h2; omega⟩
 rep := fun i hi => by
  cases hl : zh1 TS i with
  | some b => exact (h.rep i b hl).symm
  | none =>
   have : i ∉ s.R := fun hr => by have := (h.Rk i hr).2.1; rw [hl] at this; cases this
   rw [← h.pages i hi this]; rfl
theorem qmt (D : Dsk) (g : Lg) (TS : List PR) : opF D g TS = if (zcu D (wsO g.h.secs TS)).1 = 0 then ((zcu (zcu D (wsO g.h.secs TS)).2 [(za4 g.at_, hdP (zbr g))]).1, (zcu (zcu D (wsO g.h.secs TS)).2 [(za4 g.at_, hdP (zbr g))]).2, { zku g (zcu D (wsO g.h.secs TS)).2 with dead := decide ((zcu (zcu D (wsO g.h.secs TS)).2 [(za4 g.at_, hdP (zbr g))]).1 = 4) }) else ((zcu D (wsO g.h.secs TS)).1, (zcu D (wsO g.h.secs TS)).2, g) := by
 rw [← zgx]
 unfold opF ftF zcu
 by_cases h : (zb5 D (wsO g.h.secs TS)).1 = 0
 ·rw [if_pos h, if_pos h]
 ·rw [if_neg h, if_neg h, if_neg h]
theorem qdj {b : Bys} (h : zir b = true) : (zgd b).text.length ≤ 497 := by
 unfold zgd
 rw [h, if_pos rfl]
 unfold zir at h
 simp only [bH, decide_eq_true_eq] at h
 exact h.2.1
theorem zxh.pages {D D' : Dsk} {n secs : Nat} {note : Bys} {V : List Bys} {B : Nat} {h : Hd} {c : Nat} {TS : List PR} (R : zxh D n secs note V B h c TS) (hw : D.wait = []) (hw' : D'.wait = []) (hlow : ∀ i, i < 2 + secs → D'.on[i]? = D.on[i]?) (hp : ∀ i, i < n → zh1 TS i = none → D'.on[2 + secs + i]? = D.on[2 + secs + i]?) : zxh D' n secs note V B h c TS where
 log := R.log.ext (fun i hi => (hlow i oQ).symm) (zp2 hw hw' fun i hi => hlow (2 + i) (by have := R.hs; omega))
 hs := R.hs
 hnote := R.hnote
 gen := R.gen
 ts := R.ts
 rep := fun i hi => by
  rw [← R.rep i hi]
  cases hl : zh1 TS i with
  | some b => rfl
  | none => rw [hp i hi hl]
theorem zty {on on' : List Bys} {ws : List (Nat × Bys)} (hm : Mix on ws on') {i : Nat} (h : ∀ p ∈ ws, p.1 ≠ i) : on'[i]? = on[i]? := by
 by_cases hi : i < on.length
 ·rcases hm.2 i hi with h1 | ⟨s, hs, -⟩
  ·exact h1
  ·exact absurd rfl (h _ hs)
 ·rw [cR (by have := hm.1; omega), cR oQ]
theorem zk3 {D : Dsk} (h : D.Ok) (ws : List (Nat × Bys)) : (zcu D ws).2.Ok := by
 unfold zcu
 split
 ·exact zix (zje _ _ h)
 ·exact zje _ _ h
theorem qgf {D : Dsk} {n secs : Nat} {note : Bys} {V : List Bys} {B : Nat} {h : Hd} {c : Nat} {TS : List PR} (z : Siz D n secs note V) (hr : D.Rest) (hB : B + 1 < 9223372036854775808) (R : zxh D n secs note V B h c TS) :
  ((opF D (zcm D h c) TS).1 = 0 ∧ zk0 D (opF D (zcm D h c) TS).2.1 ∧ (∀ s, Opd s (opF D (zcm D h c) TS).2.1 (opF D (zcm D h c) TS).2.2 n note → StI s (opF D (zcm D h c) TS).2.1 n secs note V (B + 1) []) ∧ some (zcf (opF D (zcm D h c) TS).2.1 (2 + h.secs)) = V[0]?) ∨
  ((opF D (zcm D h c) TS).1 = 4 ∧ qof D (opF D (zcm D h c) TS).2.1 ∧ Siz (opF D (zcm D h c) TS).2.1 n secs note V ∧ ∃ h' c' TS', zxh (opF D (zcm D h c) TS).2.1 n secs note V (B + 1) h' c' TS') := by
 have hgs : (zcm D h c).h = h := rfl
 have hsecs := R.hs
 have hroom := z.room
 have hTO : ∀ Q ∈ TS, Q.Ok n := fun Q hQ => (R.ts.each Q hQ).1
 have hws : qh5 D (wsO secs TS) := fun p hp => by
  obtain ⟨i, h1, -, Q, hQ, hl⟩ := zzv hp
  have := qfi (n := n) (A := []) (fun _ h => nomatch h) (hTO Q hQ) _ (zcj hl)
  exact ⟨by rw [h1]; have := this.1; simp only at this; omega, this.2⟩
 have hout : ∀ i, i < 2 + secs → ∀ p ∈ wsO secs TS, p.1 ≠ i := fun i hi p hp => by
  obtain ⟨j, h1, -⟩ := zzv hp
  omega
 have hun : ∀ i, zh1 TS i = none → ∀ p ∈ wsO secs TS, p.1 ≠ 2 + secs + i := fun i hi p hp => by
  obtain ⟨j, h1, h2, -⟩ := zzv hp
  intro he
  have : j = i := oQ
  rw [this, hi] at h2
  cases h2
 have hnx := zv4 (D := D) (n := h.secs) (first := h.first) (lo := 0) (hi := B) R.log.first oQ (.inl (aV _)) fun i hi hs => (R.log.sheets i hi hs).1
 rw [qmt, show (zcm D h c).h.secs = secs from hsecs]
 rcases qn7 hr hws with ⟨e, hl, hon⟩ | ⟨e, hd, hm⟩
 ·rw [if_pos e]
  have hok1 := zk3 z.ok (wsO secs TS)
  generalize zcu D (wsO secs TS) = r at e hl hon hok1 ⊢
  have hlow : ∀ i, i < 2 + secs → r.2.on[i]? = D.on[i]? := fun i hi => by rw [hon]; exact zfk (hout i hi)
  have hlen : r.2.on.length = D.on.length := by rw [hon, zgl]
  have hpg : ∀ i, i < n → r.2.on[2 + secs + i]? = V[i]? := fun i hi => by
   rw [hon, qqk oQ, R.rep i hi]
  have hsame : zhg D r.2 h.secs := zp2 hr.wait hl.rest.wait fun i hi => hlow (2 + i) oQ
  have L1 : zxe r.2 (zcm D h c).h (zcm D h c).at_ (TS.map zd1) B := R.log.ext (fun i hi => (hlow i oQ).symm) hsame
  have hgn : (zcm D h c).h.gen + 1 < 18446744073709551616 := by have := R.gen; show h.gen + 1 < _; omega
  have hq : (zcm D h c).next < 18446744073709551616 := by have := hnx.2.2.1; show ze8 _ _ < _; omega
  have hsq : ∀ i, i < (zcm D h c).h.secs → zd7 r.2 (zcm D h c).h.secs i = true → (zgd (zcf r.2 (2 + i))).seq < (zcm D h c).next := fun i hi hs => by
   have hi' : i < h.secs := hi
   rw [← hsame i hi']
   exact hnx.2.2.2 i hi' (by rw [hsame.at_ hi']; exact hs)
  have hroom1 : 2 + (zcm D h c).h.secs ≤ r.2.on.length := by show 2 + h.secs ≤ _; omega
  have hok2 := zk3 hok1 [(za4 (zcm D h c).at_, hdP (zbr (zcm D h c)))]
  rcases qbg hl.rest hroom1 L1 hgn hq hsq with ⟨e2, hl2, L2, h2, hlen2⟩ | ⟨e2, hd2, L2, h2, hlen2⟩
  ·left
   have htg : ({ zku (zcm D h c) r.2 with dead := decide ((zcu r.2 [(za4 (zcm D h c).at_, hdP (zbr (zcm D h c)))]).1 = 4) } : Lg) = { zcm D h c with h := zbr (zcm D h c), at_ := za4 (zcm D h c).at_, used := 0, dead := false } := by
    unfold zku
    rw [zgx, if_pos e2, e2]
    rfl
   rw [htg]
   generalize zcu r.2 [(za4 (zcm D h c).at_, hdP (zbr (zcm D h c)))] = r2 at e2 hl2 L2 h2 hlen2 hok2 ⊢
   have hpg2 : ∀ i, i < n → r2.2.on[2 + secs + i]? = V[i]? := fun i hi => by rw [h2 _ oQ, hpg i hi]
   refine ⟨e2, ⟨hl2.rest, hl2.keep.trans hl.keep, fun h => hl2.left (hl.left h)⟩, fun s O => ?_, ?_⟩
   ·have hs0 : 0 < n := by have := z.n1; omega
    refine ⟨z.ext hok2 (by rw [hlen2, hlen]), hl2.rest, O.hn, O.hnote, by rw [O.hg]; exact hsecs, by rw [O.hg]; exact R.hnote, by rw [O.hg]; exact L2, (fun _ hh => (nomatch hh)), O.hdead, ?_, fun i b hb => ?_, by rw [O.hR]; exact fun _ hh => (nomatch hh), by rw [O.hR]; exact fI, fun i hi _ => hpg2 i hi, fun i b hb => (by cases hb), by rw [O.hC]; exact fun _ hh => (nomatch hh), by rw [O.hC]; exact fI, by rw [O.hg]; show (zbr (zcm D h c)).gen ≤ _; rw [show (zbr (zcm D h c)).gen = h.gen + 1 from aY hgn]; have := R.gen; omega, by rw [O.hg]; have := hnx.2.2.1; show ze8 _ _ ≤ _; omega⟩
    ·rw [O.hK]
     intro p hp
     rw [aL] at hp
     subst hp
     exact ⟨hs0, zs5 hok2 (by show 2 + h.secs < _; omega)⟩
    ·rw [O.hK] at hb
     have hi0 : i = 0 ∧ zcf r2.2 (2 + h.secs) = b := by
      rw [cF] at hb
      by_cases hi : i = 0
      ·subst hi
       simp at hb
       exact ⟨rfl, hb⟩
      ·rw [show (i == 0) = false by simpa using hi] at hb
       cases hb
     rw [hi0.1, ← hpg2 0 hs0, ← hi0.2, zfn hl2.rest.wait, aC, hsecs, fH]
     rw [aB oQ]
     rfl
   ·rw [← hpg2 0 (by have := z.n1; omega), zfn hl2.rest.wait, aC, hsecs, fH, aB (by have := z.n1; omega)]
    rfl
  ·right
   generalize zcu r.2 [(za4 (zcm D h c).at_, hdP (zbr (zcm D h c)))] = r2 at e2 hd2 L2 h2 hlen2 hok2 ⊢
   have hpg2 : ∀ i, i < n → r2.2.on[2 + secs + i]? = V[i]? := fun i hi => by rw [h2 _ oQ, hpg i hi]
   refine ⟨e2, ⟨fun h => hd2.left (hl.left h), hd2.dead, hd2.wait, hd2.left', hd2.keep⟩, z.ext hok2 (by rw [hlen2, hlen]), ?_⟩
   rcases L2 with L2 | L2
   ·refine ⟨h, c, TS, ⟨⟨L2.c01, L2.hok, L2.secs, L2.head, L2.other, fun i hi hs => ⟨bG (L2.sheets i hi hs).1 oQ, (L2.sheets i hi hs).2⟩, L2.read, cL L2.first oQ⟩, hsecs, R.hnote, by have := R.gen; omega, R.ts, fun i hi => ?_⟩⟩
    rw [hpg2 i hi]
    cases hlt : zh1 TS i with
    | none => rfl
    | some b =>
     have := R.rep i hi
     rw [hlt] at this
     exact this
   ·refine ⟨_, _, [], ⟨⟨L2.c01, L2.hok, L2.secs, L2.head, L2.other, fun i hi hs => ⟨bG (L2.sheets i hi hs).1 (by have := hnx.2.2.1; show ze8 _ _ ≤ _; omega), (L2.sheets i hi hs).2⟩, L2.read, cL L2.first (by have := hnx.2.2.1; show ze8 _ _ ≤ _; omega)⟩, hsecs, R.hnote, by rw [show (zbr (zcm D h c)).gen = h.gen + 1 from aY hgn]; have := R.gen; omega, ⟨(fun _ hh => (nomatch hh)), dQ⟩, fun i hi => ?_⟩⟩
    rw [hpg2 i hi]; rfl
 ·right
  rw [if_neg (by rw [e]; decide)]
  have hok1 := zk3 z.ok (wsO secs TS)
  generalize zcu D (wsO secs TS) = r at e hd hm hok1 ⊢
  refine ⟨e, hd, z.ext hok1 hm.1, h, c, TS, ?_⟩
  have R2 := R.pages (D' := r.2) hr.wait hd.wait (fun i hi => zty hm (hout i hi)) (fun i hi hlt => zty hm (hun i hlt))
  exact ⟨⟨R2.log.c01, R2.log.hok, R2.log.secs, R2.log.head, R2.log.other, fun i hi hs => ⟨bG (R2.log.sheets i hi hs).1 oQ, (R2.log.sheets i hi hs).2⟩, R2.log.read, cL R2.log.first oQ⟩, R2.hs, R2.hnote, by have := R2.gen; omega, R2.ts, R2.rep⟩
def zhj (V : List Bys) (C : PR) : List Bys := (List.range V.length).map fun i => (C.lookup i).getD (V.getD i [])
theorem qgi (V : List Bys) (C : PR) : (zhj V C).length = V.length := by simp [zhj]
theorem qav {V : List Bys} {C : PR} {i : Nat} (h : i < V.length) : (zhj V C)[i]? = (C.lookup i).or V[i]? := by
 have e : (zhj V C)[i]? = some ((C.lookup i).getD (V.getD i [])) := by
  unfold zhj
  rw [aN, dV h]
  rfl
 rw [e, aC, aB h]
 cases C.lookup i <;> rfl
theorem qfh {f : Nat → Option Bys} : ∀ (R A : PR) (i : Nat), (∀ p ∈ R, f p.1 = some p.2) → (zme A R).lookup i = if i ∈ R.map (·.1) then f i else A.lookup i
 | [], A, i, _ => by simp [zme]
 | p :: R, A, i, h => by
  show (zme (zeu A p.1 p.2) R).lookup i = _
  rw [qfh R _ i fun q hq => h q (.tail _ hq), zc7]
  by_cases h1 : i ∈ R.map (·.1)
  ·rw [if_pos h1, if_pos (by rw [bD]; exact .tail _ h1)]
  ·rw [if_neg h1]
   by_cases h2 : i = p.1
   ·rw [if_pos h2, if_pos (by rw [bD, h2]; exact .head _), h2, h p (.head _)]
   ·rw [if_neg h2, if_neg (by rw [bD, aJ]; rintro (h3 | h3); exact h2 h3; exact h1 h3)]
theorem qiu (C : PR) (i : Nat) : (zme [] (zdy C)).lookup i = C.lookup i := by
 rw [qfh (f := fun i => C.lookup i) _ _ _ fun p hp => zpx hp]
 by_cases h : (C.lookup i).isSome = true
 ·rw [if_pos (zm0.2 h)]
 ·rw [if_neg (fun hc => h (zm0.1 hc))]
  cases hl : C.lookup i with
  | none => rfl
  | some b => rw [hl] at h; exact absurd rfl h
theorem zpw (C : PR) : (zdy C).length = C.length := by rw [zdy, aG, zof, aG]
theorem qfr {C : PR} {n : Nat} (hC : C.Ok n) (hn : (C.map (·.1)).Nodup) : C.length ≤ n := by
 have := zlj (L := List.range n) hn fun x hx => by
  obtain ⟨p, hp, rfl⟩ := aT.1 hx
  exact dN.2 (hC p hp).1
 rwa [aG, fZ] at this
def zl7 (D D' : Dsk) (n secs : Nat) (note : Bys) (V : List Bys) (B : Nat) : Prop := qof D D' ∧ Siz D' n secs note V ∧ ∃ h c TS, zxh D' n secs note V B h c TS
theorem zxh.more {D : Dsk} {n secs : Nat} {note : Bys} {V : List Bys} {B B' : Nat} {h : Hd} {c : Nat} {TS : List PR} (R : zxh D n secs note V B h c TS) (hB : B ≤ B') : zxh D n secs note V B' h c TS :=
 ⟨⟨R.log.c01, R.log.hok, R.log.secs, R.log.head, R.log.other, fun i hi hs => ⟨bG (R.log.sheets i hi hs).1 hB, (R.log.sheets i hi hs).2⟩, R.log.read, cL R.log.first hB⟩, R.hs, R.hnote, cL R.gen hB, R.ts, R.rep⟩
theorem Siz.over {D : Dsk} {n secs : Nat} {note : Bys} {V : List Bys} {C : PR} (z : Siz D n secs note V) (hC : C.Ok n) : Siz D n secs note (zhj V C) := by
 refine ⟨z.n1, z.n2, z.s1, z.s2, z.note, z.room, by rw [qgi, z.Vl], fun p hp => ?_, z.ok⟩
 obtain ⟨i, hi, rfl⟩ := aT.1 hp
 have hi := dN.1 hi
 cases hl : C.lookup i with
 | some b => exact (hC _ (zcj hl)).2
 | none =>
  show (V.getD i []).length = 512
  rw [aC, aB hi]
  exact z.Vs _ (aR hi)
theorem qjp {s : Pg} {D : Dsk} {n secs : Nat} {note : Bys} {V : List Bys} {B : Nat} {TS : List PR} (h : StI s D n secs note V B TS) (hB : B + 1 < 9223372036854775808) :
  ((zpm s D).1 = 0 ∧ zk0 D (zpm s D).2.1 ∧ StI { qjo s D with dead := s.dead || decide ((zpm s D).1 = 4) } (zpm s D).2.1 n secs note V (B + 1) []) ∨ ((zpm s D).1 = 4 ∧ zl7 D (zpm s D).2.1 n secs note V (B + 1)) := by
 have z := h.siz
 have hroom := z.room
 have hk : ∀ i ∈ s.R, ∃ b, s.K.lookup i = some b ∧ V[i]? = some b := fun i hi => by
  obtain ⟨b, hb⟩ := cG.1 (h.Rk i hi).1
  exact ⟨b, hb, h.Kv i b hb⟩
 have hmem : ∀ p ∈ wsD s, ∃ i ∈ s.R, p.1 = 2 + secs + i ∧ s.K.lookup i = some p.2 := fun p hp => by
  obtain ⟨q, hq, rfl⟩ := aT.1 hp
  obtain ⟨i, hi, rfl⟩ := aT.1 hq
  have hi := zjx.1 hi
  obtain ⟨b, hb, -⟩ := hk i hi
  refine ⟨i, hi, by show 2 + s.g.h.secs + i = _; rw [h.hsecs], ?_⟩
  simp only [hb, eW]
 have hin : ∀ i ∈ s.R, 2 + secs + i ∈ (wsD s).map (·.1) := fun i hi => by
  refine aT.2 ⟨(2 + secs + i, (s.K.lookup i).getD []), ?_, rfl⟩
  rw [← h.hsecs]
  exact aT.2 ⟨(i, (s.K.lookup i).getD []), aT.2 ⟨i, zjx.2 hi, rfl⟩, rfl⟩
 have hws : qh5 D (wsD s) := fun p hp => by
  obtain ⟨i, hi, h1, h2⟩ := hmem p hp
  have := h.Kok _ (zcj h2)
  have h3 := (h.Rk i hi).2.2
  exact ⟨oQ, this.2⟩
 have hout : ∀ i, i < 2 + secs → ∀ p ∈ wsD s, p.1 ≠ i := fun i hi p hp => by
  obtain ⟨j, -, h1, -⟩ := hmem p hp
  omega
 have hun : ∀ i, i ∉ s.R → ∀ p ∈ wsD s, p.1 ≠ 2 + secs + i := fun i hi p hp he => by
  obtain ⟨j, hj, h1, -⟩ := hmem p hp
  have : j = i := oQ
  exact hi (this ▸ hj)
 have R0 := h.rec' oQ
 unfold qjo zpm
 rcases qn7 h.rest hws with ⟨e, hl, hon⟩ | ⟨e, hd, hm⟩
 ·have hok1 := zk3 z.ok (wsD s)
  simp only [if_pos e]
  generalize zcu D (wsD s) = r at e hl hon hok1 ⊢
  have hlow : ∀ i, i < 2 + secs → r.2.on[i]? = D.on[i]? := fun i hi => by rw [hon]; exact zfk (hout i hi)
  have hlen : r.2.on.length = D.on.length := by rw [hon, zgl]
  have hpg : ∀ i, i < n → r.2.on[2 + secs + i]? = V[i]? := fun i hi => by
   by_cases hiR : i ∈ s.R
   ·obtain ⟨b, hb, hv⟩ := hk i hiR
    rw [hon, zjv (fun j => (s.K.lookup (j - (2 + secs))).getD []) _ _ _ oQ fun p hp => by
     obtain ⟨j, -, h1, h2⟩ := hmem p hp
     show p.2 = (s.K.lookup (p.1 - (2 + secs))).getD []
     rw [h1, show 2 + secs + j - (2 + secs) = j by omega, h2]
     rfl]
    rw [if_pos (hin i hiR), show 2 + secs + i - (2 + secs) = i by omega, hb, hv]
    rfl
   ·rw [hon, zfk (hun i hiR)]
    exact h.pages i hi hiR
  have hsame : zhg D r.2 s.g.h.secs := zp2 h.rest.wait hl.rest.wait fun i hi => hlow (2 + i) (by have := h.hsecs; omega)
  have L1 : zuy r.2 s.g (TS.map zd1) := h.log.ext (fun i hi => (hlow i oQ).symm) hsame
  have hnx : s.g.next < 18446744073709551616 := by have := h.next; omega
  have hgn : s.g.h.gen + 1 < 18446744073709551616 := by have := h.gen; omega
  have hok2 := zk3 hok1 [(za4 s.g.at_, hdP (zbr s.g))]
  rw [zgx]
  rcases qbg hl.rest (by rw [h.hsecs, hlen]; omega) (L1.rec' hnx) hgn hnx (fun i hi hs => (L1.sheets i hi hs).1) with ⟨e2, hl2, L2, h2, hlen2⟩ | ⟨e2, hd2, L2, h2, hlen2⟩
  ·left
   have htg : ({ zku s.g r.2 with dead := decide ((zcu r.2 [(za4 s.g.at_, hdP (zbr s.g))]).1 = 4) } : Lg) = { s.g with h := zbr s.g, at_ := za4 s.g.at_, used := 0, dead := false } := by
    unfold zku
    rw [zgx, if_pos e2, e2]
    rfl
   rw [htg]
   generalize zcu r.2 [(za4 s.g.at_, hdP (zbr s.g))] = r2 at e2 hl2 L2 h2 hlen2 hok2 ⊢
   rw [if_pos e2, e2]
   refine ⟨rfl, ⟨hl2.rest, hl2.keep.trans hl.keep, fun h => hl2.left (hl.left h)⟩, ?_⟩
   refine ⟨z.ext hok2 (by rw [hlen2, hlen]), hl2.rest, h.hn, h.hnote, h.hsecs, h.hhnote, L2, (fun _ hh => (nomatch hh)), ?_, h.Kok, h.Kv, (fun _ hh => (nomatch hh)), fI, fun i hi _ => by rw [h2 _ oQ]; exact hpg i hi, fun i b hb => (by cases hb), h.Cok, h.Cn, ?_, ?_⟩
   ·show (s.dead || decide ((0 : Nat) = 4)) = false
    rw [h.dead]; rfl
   ·show (zbr s.g).gen ≤ B + 1
    rw [show (zbr s.g).gen = s.g.h.gen + 1 from aY hgn]
    have := h.gen; omega
   ·show s.g.next ≤ B + 1
    have := h.next; omega
  ·right
   generalize zcu r.2 [(za4 s.g.at_, hdP (zbr s.g))] = r2 at e2 hd2 L2 h2 hlen2 hok2 ⊢
   have hpg2 : ∀ i, i < n → r2.2.on[2 + secs + i]? = V[i]? := fun i hi => by rw [h2 _ oQ, hpg i hi]
   refine ⟨e2, ⟨fun h => hd2.left (hl.left h), hd2.dead, hd2.wait, hd2.left', hd2.keep⟩, z.ext hok2 (by rw [hlen2, hlen]), ?_⟩
   rcases L2 with L2 | L2
   ·refine ⟨s.g.h, s.g.at_, TS, ⟨⟨L2.c01, L2.hok, L2.secs, L2.head, L2.other, fun i hi hs => ⟨bG (L2.sheets i hi hs).1 (by have := h.next; omega), (L2.sheets i hi hs).2⟩, L2.read, cL L2.first (by have := h.next; omega)⟩, h.hsecs, h.hhnote, by have := h.gen; omega, R0.ts, fun i hi => ?_⟩⟩
    rw [hpg2 i hi]
    cases hlt : zh1 TS i with
    | none => rfl
    | some b => exact (h.rep i b hlt).symm
   ·refine ⟨_, _, [], ⟨⟨L2.c01, L2.hok, L2.secs, L2.head, L2.other, fun i hi hs => ⟨bG (L2.sheets i hi hs).1 (by have := h.next; omega), (L2.sheets i hi hs).2⟩, L2.read, cL L2.first (by have := h.next; omega)⟩, h.hsecs, h.hhnote, by rw [show (zbr s.g).gen = s.g.h.gen + 1 from aY hgn]; have := h.gen; omega, ⟨(fun _ hh => (nomatch hh)), dQ⟩, fun i hi => ?_⟩⟩
    rw [hpg2 i hi]; rfl
 ·right
  have hok1 := zk3 z.ok (wsD s)
  have e' : ¬ (zcu D (wsD s)).1 = 0 := by rw [e]; decide
  simp only [if_neg e']
  generalize zcu D (wsD s) = r at e hd hm hok1 ⊢
  refine ⟨e, hd, z.ext hok1 hm.1, s.g.h, s.g.at_, TS, ?_⟩
  refine (R0.pages (D' := r.2) h.rest.wait hd.wait (fun i hi => zty hm (hout i hi)) (fun i hi hlt => zty hm (hun i fun hR => ?_))).more oQ
  have := (h.Rk i hR).2.1
  rw [hlt] at this
  cases this
theorem qak {s : Pg} {D : Dsk} {n secs : Nat} {note : Bys} {V : List Bys} {B : Nat} {TS : List PR} (h : StI s D n secs note V B TS) (hB : B + 600 < 9223372036854775808) (hC0 : s.C ≠ []) (hroom : s.g.used + za9 (tC s).length ≤ secs) :
  ((qh1 s D).1 = 0 ∧ zk0 D (qh1 s D).2.1 ∧ ∀ x, qi5 (qh1 s D).2.2 x → StI { (qh1 s D).2.2 with K := x.1, R := x.2, C := [] } (qh1 s D).2.1 n secs note (zhj V s.C) (B + 600) (TS ++ [zdy s.C])) ∨
  ((qh1 s D).1 = 4 ∧ (zl7 D (qh1 s D).2.1 n secs note V (B + 600) ∨ zl7 D (qh1 s D).2.1 n secs note (zhj V s.C) (B + 600))) := by
 have z := h.siz
 have hrm := z.room
 have hsz := h.hsecs
 have hs2 := z.s2
 have hrn : zdy s.C ≠ [] := fun hc => hC0 (bM (by rw [← zpw, hc]; rfl))
 have htn : tC s ≠ [] := qj5 hrn
 have hCl := qfr h.Cok h.Cn
 have hro : (zdy s.C).Ok n ∧ zdy s.C ≠ [] ∧ (zdy s.C).length ≤ 1024 := ⟨zue h.Cok, hrn, by rw [zpw]; have := z.n2; omega⟩
 have hTS' : (TS ++ [zdy s.C]).map zd1 = TS.map zd1 ++ [tC s] := by rw [cD]; rfl
 have hlast : ∀ i, zh1 (TS ++ [zdy s.C]) i = (s.C.lookup i).or (zh1 TS i) := fun i => by rw [zjo, qiu]
 have hVl := z.Vl
 have hov : ∀ i, i < n → (zhj V s.C)[i]? = (s.C.lookup i).or V[i]? := fun i hi => qav oQ
 have hcm : ql0 D s.g (tC s) = zcu D (wsC s.g (tC s)) := by
  rw [ql0, if_neg oQ, if_neg oQ]
 have hnx : s.g.next + za9 (tC s).length < 18446744073709551616 := by have := h.next; omega
 have R0 := h.rec' oQ
 have hok1 := zk3 z.ok (wsC s.g (tC s))
 have hcb := qb8 h.rest h.log (by rw [hsz]; omega) htn (by rw [hsz]; exact hroom) hnx
 unfold qh1
 rw [hcm]
 have hcg : qq6 D s.g (tC s) = if (zcu D (wsC s.g (tC s))).1 = 0 then { s.g with next := s.g.next + za9 (tC s).length, used := s.g.used + za9 (tC s).length } else s.g := by rw [qq6, hcm]
 rw [hcg]
 have hlt2 : ∀ i b, (zh1 (TS ++ [zdy s.C]) i) = some b → (zhj V s.C)[i]? = some b := fun i b hb => by
  rw [hlast] at hb
  cases hl : s.C.lookup i with
  | some b' =>
   rw [hl] at hb
   rw [hov i (h.Cok _ (zcj hl)).1, hl]
   exact hb
  | none =>
   rw [hl] at hb
   have hv := h.rep i b hb
   have hi : i < n := by
    have := (aM.1 hv).1
    omega
   rw [hov i hi, hl]
   exact hv
 rcases hcb with ⟨e, hl, L2, hhi, hlen⟩ | ⟨e, hd, L2, hhi, hlen⟩
 ·left
  generalize zcu D (wsC s.g (tC s)) = r at e hl L2 hhi hlen hok1 ⊢
  have hg2 : ({ (if r.1 = 0 then { s.g with next := s.g.next + za9 (tC s).length, used := s.g.used + za9 (tC s).length } else s.g : Lg) with dead := decide (r.1 = 4) } : Lg) = { s.g with next := s.g.next + za9 (tC s).length, used := s.g.used + za9 (tC s).length, dead := false } := by
   rw [if_pos e, e]; rfl
  rw [hg2]
  refine ⟨e, hl, fun x hx => ?_⟩
  obtain ⟨k1, k2, k3, k4⟩ := hx
  simp only at k1 k2 k3 k4
  refine ⟨(z.ext hok1 hlen).over h.Cok, hl.rest, h.hn, h.hnote, h.hsecs, h.hhnote, by rw [hTS']; exact L2, fun Q hQ => ?_, ?_, by rw [← h.hn]; exact k3, fun i b hb => ?_, fun i hi => ?_, k4 h.Rn, fun i hi hiR => ?_, hlt2, (fun _ hh => (nomatch hh)), fI, ?_, ?_⟩
  ·rcases aS.1 hQ with hQ | hQ
   ·exact h.ts Q hQ
   ·rw [aL] at hQ
    subst hQ
    exact hro
  ·show (s.dead || decide (r.1 = 4)) = false
   rw [h.dead, e]; rfl
  ·have hi : i < n := by rw [← h.hn]; exact (k3 _ (zcj hb)).1
   have hb : x.1.lookup i = some b := hb
   rw [k1] at hb
   rw [hov i hi]
   cases hl' : s.C.lookup i with
   | some b' => rw [hl'] at hb; exact hb
   | none => rw [hl'] at hb; exact h.Kv i b hb
  ·have hi : i ∈ x.2 := hi
   rw [hlast]
   show (x.1.lookup i).isSome = true ∧ _
   rw [k1]
   rcases (k2 i).1 hi with h1 | h1
   ·obtain ⟨a1, a2, a3⟩ := h.Rk i h1
    refine ⟨?_, ?_, a3⟩
    ·cases s.C.lookup i with
     | some b => rfl
     | none => exact a1
    ·cases s.C.lookup i with
     | some b => rfl
     | none => exact a2
   ·obtain ⟨b, hb⟩ := cG.1 h1
    rw [hb]
    exact ⟨rfl, rfl, (h.Cok _ (zcj hb)).1⟩
  ·have hiR : i ∉ x.2 := hiR
   rw [k2] at hiR
   rw [hhi _ oQ, hov i hi]
   have hc : s.C.lookup i = none := by
    cases hl' : s.C.lookup i with
    | none => rfl
    | some b => exact absurd (.inr (by rw [hl']; rfl)) hiR
   rw [hc]
   exact h.pages i hi fun hR => hiR (.inl hR)
  ·show s.g.h.gen ≤ B + 600
   have := h.gen; omega
  ·show s.g.next + za9 (tC s).length ≤ B + 600
   have := h.next; omega
 ·right
  generalize zcu D (wsC s.g (tC s)) = r at e hd L2 hhi hlen hok1 ⊢
  refine ⟨e, ?_⟩
  have hbd : s.g.next + za9 (tC s).length ≤ B + 600 := by have := h.next; omega
  rcases L2 with L2 | L2
  ·left
   refine ⟨hd, z.ext hok1 hlen, s.g.h, s.g.at_, TS, ⟨⟨L2.c01, L2.hok, L2.secs, L2.head, L2.other, fun i hi hs => ⟨bG (L2.sheets i hi hs).1 hbd, (L2.sheets i hi hs).2⟩, L2.read, cL L2.first hbd⟩, h.hsecs, h.hhnote, by have := h.gen; omega, R0.ts, fun i hi => ?_⟩⟩
   rw [hhi _ oQ]
   exact R0.rep i hi
  ·right
   have hmany : (TS ++ [zdy s.C]).length ≤ 512 := by
    have h1 := h.log.many
    have h2 := zpa (tC s).length
    rw [aG] at h1
    rw [aA, bW]
    omega
   refine ⟨hd, (z.ext hok1 hlen).over h.Cok, s.g.h, s.g.at_, TS ++ [zdy s.C], ⟨⟨L2.c01, L2.hok, L2.secs, L2.head, L2.other, fun i hi hs => ⟨bG (L2.sheets i hi hs).1 hbd, (L2.sheets i hi hs).2⟩, by rw [hTS']; exact L2.read, cL L2.first hbd⟩, h.hsecs, h.hhnote, by have := h.gen; omega, ⟨fun Q hQ => ?_, hmany⟩, fun i hi => ?_⟩⟩
   ·rcases aS.1 hQ with hQ | hQ
    ·exact h.ts Q hQ
    ·rw [aL] at hQ
     subst hQ
     exact hro
   ·rw [hhi _ oQ]
    cases hlt : zh1 (TS ++ [zdy s.C]) i with
    | some b => exact (hlt2 i b hlt).symm
    | none =>
     rw [hlast] at hlt
     have hc : s.C.lookup i = none ∧ zh1 TS i = none := by
      cases hl' : s.C.lookup i with
      | some b => rw [hl'] at hlt; cases hlt
      | none => rw [hl'] at hlt; exact ⟨rfl, hlt⟩
     have := R0.rep i hi
     rw [hc.2] at this
     rw [hov i hi, hc.1]
     exact this
theorem zk0.trans {D D1 D2 : Dsk} (h : zk0 D D1) (h' : zk0 D1 D2) : zk0 D D2 := ⟨h'.rest, h'.keep.trans h.keep, fun hl => h'.left (h.left hl)⟩
theorem zl7.trans {D D1 D2 : Dsk} {n secs : Nat} {note : Bys} {V : List Bys} {B : Nat} (h : zk0 D D1) (h' : zl7 D1 D2 n secs note V B) : zl7 D D2 n secs note V B :=
 ⟨⟨fun hl => h'.1.left (h.left hl), h'.1.dead, h'.1.wait, h'.1.left', h'.1.keep⟩, h'.2⟩
theorem zl7.more {D D' : Dsk} {n secs : Nat} {note : Bys} {V : List Bys} {B B' : Nat} (h : zl7 D D' n secs note V B) (hB : B ≤ B') : zl7 D D' n secs note V B' := by
 obtain ⟨a, b, hd, c, TS, R⟩ := h
 exact ⟨a, b, hd, c, TS, R.more hB⟩
theorem StI.more {s : Pg} {D : Dsk} {n secs : Nat} {note : Bys} {V : List Bys} {B B' : Nat} {TS : List PR} (h : StI s D n secs note V B TS) (hB : B ≤ B') : StI s D n secs note V B' TS :=
 ⟨h.siz, h.rest, h.hn, h.hnote, h.hsecs, h.hhnote, h.log, h.ts, h.dead, h.Kok, h.Kv, h.Rk, h.Rn, h.pages, h.rep, h.Cok, h.Cn, cL h.gen hB, cL h.next hB⟩
def StV (s : Pg) (D : Dsk) (n secs : Nat) (note : Bys) (V : List Bys) (B : Nat) : Prop := ∃ TS, StI s D n secs note V B TS
structure Off (D : Dsk) (n secs : Nat) (note : Bys) (V : List Bys) (B : Nat) : Prop where
 dead : D.dead = true
 wait : D.wait = []
 left : D.left = none
 keep : D.keep = []
 siz : Siz D n secs note V
 has : ∃ h c TS, zxh D n secs note V B h c TS
theorem zl7.off {D D' : Dsk} {n secs : Nat} {note : Bys} {V : List Bys} {B : Nat} (h : zl7 D D' n secs note V B) : Off D' n secs note V B :=
 ⟨h.1.dead, h.1.wait, h.1.left', h.1.keep, h.2.1, h.2.2⟩
theorem Off.start {D : Dsk} {n secs : Nat} {note : Bys} {V : List Bys} {B : Nat} (h : Off D n secs note V B) : Dsk.Rest { D with dead := false } ∧ Siz { D with dead := false } n secs note V ∧ ∃ hd c TS, zxh { D with dead := false } n secs note V B hd c TS := by
 refine ⟨⟨rfl, h.wait⟩, h.siz.ext ⟨h.siz.ok.size, h.siz.ok.wsize, h.siz.ok.many, h.siz.ok.left⟩ rfl, ?_⟩
 obtain ⟨hd, c, TS, R⟩ := h.has
 exact ⟨hd, c, TS, R.pages (D' := { D with dead := false }) h.wait h.wait (fun i _ => rfl) (fun i _ _ => rfl)⟩
theorem qlz {s : Pg} {D : Dsk} {n secs : Nat} {note : Bys} {V : List Bys} {B : Nat} (h : StV s D n secs note V B) (hB : B + 700 < 9223372036854775808) (hC0 : s.C ≠ []) (hneed : za9 (tC s).length ≤ secs) :
  ((cmF s D).1 = 0 ∧ zk0 D (cmF s D).2.1 ∧ ∀ x, qi5 (cmF s D).2.2 x → StV (cmR s D x) (cmF s D).2.1 n secs note (zhj V s.C) (B + 601)) ∨
  ((cmF s D).1 = 4 ∧ (zl7 D (cmF s D).2.1 n secs note V (B + 601) ∨ zl7 D (cmF s D).2.1 n secs note (zhj V s.C) (B + 601))) := by
 obtain ⟨TS, h⟩ := h
 have hsz := h.hsecs
 have hul := h.log.usedle
 unfold cmR cmF
 by_cases hl : s.g.h.secs - s.g.used < za9 (tC s).length
 ·have e1 : qks s D = ((zpm s D).1, (zpm s D).2.1, { qjo s D with dead := s.dead || decide ((zpm s D).1 = 4) }) := by unfold qks; rw [if_pos hl]
  rw [e1]
  simp only
  rcases qjp h oQ with ⟨o1, o2, o3⟩ | ⟨o1, o2⟩
  ·simp only [if_pos o1]
   have ht : tC { qjo s D with dead := s.dead || decide ((zpm s D).1 = 4) } = tC s := rfl
   have hg0 : (zpm s D).2.2.used = 0 := by
    have := o3.log.next
    have h2 := o3.log.used
    have e2 : zkz ({ qjo s D with dead := s.dead || decide ((zpm s D).1 = 4) } : Pg).g.h.first [] = ({ qjo s D with dead := s.dead || decide ((zpm s D).1 = 4) } : Pg).g.h.first := rfl
    rw [jJ, e2] at this
    have e3 : ({ qjo s D with dead := s.dead || decide ((zpm s D).1 = 4) } : Pg).g = (zpm s D).2.2 := rfl
    rw [e3] at this h2
    omega
   have hC' : ({ qjo s D with dead := s.dead || decide ((zpm s D).1 = 4) } : Pg).C = s.C := rfl
   rcases qak o3 oQ (by rw [hC']; exact hC0) (by rw [ht]; show (zpm s D).2.2.used + _ ≤ _; omega) with ⟨l1, l2, l3⟩ | ⟨l1, l2⟩
   ·left
    refine ⟨l1, o2.trans l2, fun x hx => ?_⟩
    rw [if_pos l1]
    exact ⟨_, l3 x hx⟩
   ·right
    refine ⟨l1, ?_⟩
    rcases l2 with l2 | l2
    ·exact .inl (l2.trans o2)
    ·exact .inr (l2.trans o2)
  ·right
   rw [if_neg (by rw [o1]; decide)]
   exact ⟨o1, .inl (o2.more oQ)⟩
 ·have e1 : qks s D = (0, D, s) := by unfold qks; rw [if_neg hl]
  rw [e1]
  simp only [if_true]
  rcases qak h oQ hC0 oQ with ⟨l1, l2, l3⟩ | ⟨l1, l2⟩
  ·left
   refine ⟨l1, l2, fun x hx => ?_⟩
   rw [if_pos l1]
   exact ⟨_, (l3 x hx).more oQ⟩
  ·right
   exact ⟨l1, l2.imp (fun h => h.more oQ) (fun h => h.more oQ)⟩
end Go.Proofs.YtkkfifhaobjicaaGreatDoor
namespace Go.Proofs.YtkkfifhaobjicaaGreatDoor
open Go.Eng.Bm
open Go.Eng
set_option maxRecDepth 100000
def zf0 (V : List Bys) (C : PR) (i : Nat) : Bys := (C.lookup i).getD (V.getD i [])
theorem StI.ok {s : Pg} {D : Dsk} {n secs : Nat} {note : Bys} {V : List Bys} {B : Nat} {TS : List PR} (h : StI s D n secs note V B TS) : s.Ok D := by
 have z := h.siz
 have h1 := z.n2
 have h2 := z.s2
 have h3 := z.room
 exact ⟨by rw [h.hn]; exact h1, by rw [h.hsecs]; omega, by rw [h.hn, h.hsecs]; exact h3, by rw [h.hn]; exact h.Cok, by rw [h.hn]; exact h.Kok⟩
theorem StI.cur {s : Pg} {D : Dsk} {n secs : Nat} {note : Bys} {V : List Bys} {B : Nat} {TS : List PR} (h : StI s D n secs note V B TS) {i : Nat} (hi : i < n) (hR : i ∉ s.R) : zcf D (2 + s.g.h.secs + i) = V.getD i [] := by
 rw [zfn h.rest.wait, aC, aC, h.hsecs, h.pages i hi hR]
theorem StI.view {s : Pg} {D : Dsk} {n secs : Nat} {note : Bys} {V : List Bys} {B : Nat} {TS : List PR} (h : StI s D n secs note V B TS) {i : Nat} (hi : i < n) : pageB s D i = zf0 V s.C i := by
 unfold pageB zf0
 cases hc : s.C.lookup i with
 | some b => rfl
 | none =>
  cases hk : s.K.lookup i with
  | some b =>
   show b = V.getD i []
   rw [aC, h.Kv i b hk]; rfl
  | none => exact h.cur hi fun hR => by have := (h.Rk i hR).1; rw [hk] at this; cases this
theorem StI.page {s : Pg} {D : Dsk} {n secs : Nat} {note : Bys} {V : List Bys} {B : Nat} {TS : List PR} (h : StI s D n secs note V B TS) {i : Nat} (hi : i < n) : StI (zcn s D i) D n secs note V B TS := by
 unfold zcn
 split
 ·exact h
 ·rename_i hn
  have hk : s.K.lookup i = none := by
   cases hk : s.K.lookup i with
   | none => rfl
   | some b => rw [hk] at hn; cases hc : s.C.lookup i <;> rw [hc] at hn <;> exact absurd rfl hn
  have hR : i ∉ s.R := fun hR => by have := (h.Rk i hR).1; rw [hk] at this; cases this
  have hcu := h.cur hi hR
  have hVl := h.siz.Vl
  have hV : V[i]? = some (V.getD i []) := by rw [aC, aB oQ]; rfl
  refine ⟨h.siz, h.rest, h.hn, h.hnote, h.hsecs, h.hhnote, h.log, h.ts, h.dead, ?_, fun j b hj => ?_, fun j hj => ?_, h.Rn, h.pages, h.rep, h.Cok, h.Cn, h.gen, h.next⟩
  ·exact h.Kok.ins hi (by rw [hcu]; exact h.siz.Vs _ (cH hV))
  ·have hj : (zeu s.K i (zcf D (2 + s.g.h.secs + i))).lookup j = some b := hj
   rw [zc7] at hj
   by_cases hji : j = i
   ·rw [if_pos hji] at hj
    cases hj
    rw [hji, hcu]; exact hV
   ·rw [if_neg hji] at hj
    exact h.Kv j b hj
  ·obtain ⟨a1, a2, a3⟩ := h.Rk j hj
   refine ⟨?_, a2, a3⟩
   show ((zeu s.K i (zcf D (2 + s.g.h.secs + i))).lookup j).isSome = true
   rw [zc7]
   split
   ·rfl
   ·exact a1
theorem zpo (s : Pg) (D : Dsk) (i : Nat) : (zcn s D i).C = s.C := by unfold zcn; split <;> rfl
theorem qgl (s : Pg) (D : Dsk) (i : Nat) : (zcn s D i).b = s.b := by unfold zcn; split <;> rfl
theorem zmg {A : PR} {i : Nat} {b : Bys} (h : (A.map (·.1)).Nodup) : ((zeu A i b).map (·.1)).Nodup := by
 unfold zeu
 split
 ·have e : (A.map fun p => if p.1 = i then (i, b) else p).map (·.1) = A.map (·.1) := by
   rw [dR]
   refine dD fun p _ => ?_
   show (if p.1 = i then (i, b) else p).1 = p.1
   split
   ·rename_i hp; exact hp.symm
   ·rfl
  rw [e]; exact h
 ·rename_i hn
  rw [cD, cQ]
  refine ⟨h, by simp, fun x hx y hy => ?_⟩
  simp only [bD, jJ, aL] at hy
  subst hy
  rintro rfl
  exact hn (zcc.2 hx)
theorem StI.setC {s : Pg} {D : Dsk} {n secs : Nat} {note : Bys} {V : List Bys} {B : Nat} {TS : List PR} (h : StI s D n secs note V B TS) {C : PR} (hC : C.Ok n) (hn : (C.map (·.1)).Nodup) : StI { s with C := C } D n secs note V B TS :=
 ⟨h.siz, h.rest, h.hn, h.hnote, h.hsecs, h.hhnote, h.log, h.ts, h.dead, h.Kok, h.Kv, h.Rk, h.Rn, h.pages, h.rep, hC, hn, h.gen, h.next⟩
theorem StI.ins {s : Pg} {D : Dsk} {n secs : Nat} {note : Bys} {V : List Bys} {B : Nat} {TS : List PR} (h : StI s D n secs note V B TS) {i : Nat} {b : Bys} (hi : i < n) (hb : b.length = 512) : StI { s with C := zeu s.C i b } D n secs note V B TS :=
 h.setC (h.Cok.ins hi hb) (zmg h.Cn)
theorem zoh (V : List Bys) (C : PR) (i j : Nat) (b : Bys) : zf0 V (zeu C i b) j = if j = i then b else zf0 V C j := by
 unfold zf0
 rw [zc7]
 split <;> rfl
theorem qgj {V : List Bys} {C : PR} {i : Nat} (hi : i < V.length) : (zhj V C).getD i [] = zf0 V C i := by
 rw [aC, qav hi]
 unfold zf0
 rw [aC, aB hi]
 cases C.lookup i <;> rfl
theorem qgh {V : List Bys} {C C' : PR} (h : ∀ i, C.lookup i = C'.lookup i) : zhj V C = zhj V C' := by
 unfold zhj
 exact dD fun i _ => by rw [h i]
theorem qg3 {A A' : PR} (h : ∀ i, A.lookup i = A'.lookup i) (hn : (A.map (·.1)).Nodup) (hn' : (A'.map (·.1)).Nodup) : A.length = A'.length := by
 have h1 : A.length ≤ A'.length := by
  have := zlj hn (L := A'.map (·.1)) fun x hx => zcc.1 (by rw [← h]; exact zcc.2 hx)
  simpa using this
 have h2 : A'.length ≤ A.length := by
  have := zlj hn' (L := A.map (·.1)) fun x hx => zcc.1 (by rw [h]; exact zcc.2 hx)
  simpa using this
 omega
def qd3 (n : Nat) (b : Bys) (S : Nat → Bool) : Prop := b = bmB n S ∧ znw n S ∧ S 0 = true
theorem zu7 {n : Nat} {S : Nat → Bool} {i : Nat} {u : Bool} (h : znw n S) (hi : i < n) : znw n (upd S i u) := fun j hj => by
 unfold upd
 rw [if_neg oQ]
 exact h j hj
theorem zu8 {S : Nat → Bool} {n : Nat} (h : znw n S) : ∀ k, cnt S (n + k) = cnt S n
 | 0 => rfl
 | k + 1 => by
  show cnt S (n + k) + (S (n + k)).toNat = _
  rw [zu8 h k, h (n + k) (iW _ _)]; rfl
theorem qrg {s : Pg} {n : Nat} (h : s.C.Ok n) (h0 : s.C ≠ []) : za9 (tC s).length = (514 * s.C.length + 496) / 497 := by
 have := zqi (zue h)
 rw [zpw] at this
 rw [show (tC s).length = 514 * s.C.length from this]
 have h1 : 0 < s.C.length := jI.2 h0
 unfold za9
 omega
end Go.Proofs.YtkkfifhaobjicaaGreatDoor
namespace Go.Proofs.YtkkfifhaobjicaaGreatDoor
open Go.Eng.Bm
open Go.Eng
set_option maxRecDepth 100000
def zxc : Bys := List.replicate 512 0
theorem qfc : zq2 zxc = false := by decide +kernel
theorem qj1 : zir zxc = false := by decide +kernel
theorem qlx : (List.range 512).map (fun j => UInt8.ofNat (byte (upd noU 0 true) j)) = 1 :: List.replicate 511 0 := by decide +kernel
theorem qoo (n : Nat) (h : 1 ≤ n) : bm0 n = 1 :: List.replicate 511 0 := by
 rw [← qlx]
 unfold bm0 bmB
 refine dD fun j _ => ?_
 have : zdo (upd noU 0 true) n = upd noU 0 true := funext fun i => by
  unfold zdo upd
  by_cases hi : i = 0
  ·rw [if_pos hi, hi, Bool.and_true]; exact decide_eq_true oQ
  ·rw [if_neg hi]; exact jM _
 rw [this]
theorem qkr (n : Nat) (h : 1 ≤ n) : qd3 n (bm0 n) (upd noU 0 true) := by
 refine ⟨rfl, fun j hj => ?_, rfl⟩
 unfold upd
 rw [if_neg oQ]; rfl
def V0 (n : Nat) : List Bys := (List.range n).map fun i => if i = 0 then bm0 n else zdr
theorem qkm (n : Nat) : (V0 n).length = n := by simp [V0]
theorem qh8 {n i : Nat} (h : i < n) : (V0 n)[i]? = some (if i = 0 then bm0 n else zdr) := by
 unfold V0
 rw [aN, dV h]; rfl
theorem qoj {n : Nat} : ∀ p ∈ V0 n, p.length = 512 := fun p hp => by
 obtain ⟨i, -, rfl⟩ := aT.1 hp
 split
 ·exact zoo _ _
 ·exact bV
theorem qfw {D : Dsk} (hw : D.wait = []) (h : ∀ i, i < 2 → D.on[i]? = some zxc) : zdb D 2 = (zyv, -1) := by
 have e : ∀ i, i < 2 → zq2 (zcf D i) = false := fun i hi => by
  rw [Dsk.cur hw (h i hi)]; exact qfc
 unfold zdb zdb zdb zio
 rw [e 0 dQ, e 1 dQ]
 rfl
theorem zp5 {D : Dsk} {n : Nat} (hw : D.wait = []) (h : ∀ i, i < n → D.on[2 + i]? = some zxc) : ∀ i, i < n → zd7 D n i = false := fun i hi => by
 unfold zd7
 rw [Dsk.cur hw (h i hi), qj1]; rfl
theorem zud {D : Dsk} {n : Nat} (h : ∀ i, i < n → zd7 D n i = false) : ∀ i, i ≤ n → zbi D n i = []
 | 0, _ => rfl
 | i + 1, hi => by
  rw [zbi, if_neg (by rw [show (zir (zcf D (2 + i)) && decide (zbg (zgd (zcf D (2 + i))).seq n = 2 + i)) = zd7 D n i from rfl, h i oQ]; decide)]
  exact zud h i oQ
theorem qmq {N i : Nat} (h : i < N) : (zux N).on[i]? = some zxc := by
 show (List.replicate N (List.replicate 512 0))[i]? = _
 rw [gD, if_pos h]; rfl
theorem ql7 {N log n : Nat} {note : Bys} (hN : N ≤ 4096) (hl1 : 1 ≤ log) (hlg : log ≤ 512) (hn1 : 64 ≤ n) (hn2 : n ≤ 1024) (hno : note.length ≤ 40) (hroom : 2 + log + n ≤ N) :
  (qdv (zux N) log n note).1 = 0 ∧ (qdv (zux N) log n note).2.Rest ∧ (qdv (zux N) log n note).2.left = none ∧ (qdv (zux N) log n note).2.keep = [] ∧ Siz (qdv (zux N) log n note).2 n log note (V0 n) ∧ ∃ h, zxh (qdv (zux N) log n note).2 n log note (V0 n) 1 h 1 [] := by
 have hr : (zux N).Rest := ⟨rfl, rfl⟩
 have hlen : (zux N).on.length = N := bV
 have hok : (zux N).Ok := qf3 hN
 have hws : qh5 (zux N) (zhd log n) := fun p hp => by
  obtain ⟨i, hi, rfl⟩ := aT.1 hp
  have hi := dN.1 hi
  refine ⟨by show 2 + log + i < _; omega, ?_⟩
  show (if i = 0 then bm0 n else zdr).length = 512
  split
  ·exact zoo _ _
  ·exact bV
 have hout : ∀ i, i < 2 + log → ∀ p ∈ zhd log n, p.1 ≠ i := fun i hi p hp => by
  obtain ⟨j, -, rfl⟩ := aT.1 hp
  show 2 + log + j ≠ i
  omega
 unfold qdv
 rcases qn7 hr hws with ⟨e, hl, hon⟩ | ⟨-, hd, -⟩
 ·have hok1 := zk3 hok (zhd log n)
  rw [if_pos e]
  generalize zcu (zux N) (zhd log n) = r at e hl hon hok1 ⊢
  have hlow : ∀ i, i < 2 + log → r.2.on[i]? = some zxc := fun i hi => by
   rw [hon, zfk (hout i hi)]
   exact qmq oQ
  have hlen1 : r.2.on.length = N := by rw [hon, zgl, hlen]
  have hpg : ∀ i, i < n → r.2.on[2 + log + i]? = (V0 n)[i]? := fun i hi => by
   rw [qh8 hi, hon, zjv (fun j => if j - (2 + log) = 0 then bm0 n else zdr) _ _ _ oQ fun p hp => by
    obtain ⟨j, -, rfl⟩ := aT.1 hp
    show _ = if 2 + log + j - (2 + log) = 0 then _ else _
    rw [show 2 + log + j - (2 + log) = j by omega]]
   have hmem : 2 + log + i ∈ (zhd log n).map (·.1) := aT.2 ⟨_, aT.2 ⟨i, dN.2 hi, rfl⟩, rfl⟩
   rw [if_pos hmem, show 2 + log + i - (2 + log) = i by omega]
  have hlk : zdb r.2 2 = (zyv, -1) := qfw hl.rest.wait fun i hi => hlow i oQ
  have hsn := zp5 (D := r.2) (n := log) hl.rest.wait fun i hi => hlow (2 + i) oQ
  have hrd := zud hsn log (aX _)
  have hnh : qcx r.2 log (beN 2 n ++ note) = ⟨1, 1, log, beN 2 n ++ note⟩ := by
   unfold qcx
   rw [hlk, ← zog, hrd]
   rfl
  have hh : Hd.Ok ⟨1, 1, log, beN 2 n ++ note⟩ := ⟨by show 1 < 18446744073709551616; decide, by show 1 < 18446744073709551616; decide, by show log < 65536; omega, by show (beN 2 n ++ note).length ≤ 64; rw [aA, zam]; omega⟩
  rw [hlk, hnh, show za4 ((zyv, (-1 : Int)).2) = 1 from rfl, zgx]
  have hws2 : qh5 r.2 [(1, hdP ⟨1, 1, log, beN 2 n ++ note⟩)] := fun p hp => by
   rw [aL] at hp
   subst hp
   exact ⟨by show 1 < _; omega, ztp hh.note⟩
  rcases qn7 hl.rest hws2 with ⟨e2, hl2, hon2⟩ | ⟨-, hd2, -⟩
  ·have hok2 := zk3 hok1 [(1, hdP ⟨1, 1, log, beN 2 n ++ note⟩)]
   generalize zcu r.2 [(1, hdP ⟨1, 1, log, beN 2 n ++ note⟩)] = r2 at e2 hl2 hon2 hok2 ⊢
   have hother : ∀ i, i ≠ 1 → r2.2.on[i]? = r.2.on[i]? := fun i hi => by
    rw [hon2]
    exact zfk fun p hp => by
     rw [aL] at hp
     subst hp
     exact hi.symm
   have hsn2 := zp5 (D := r2.2) (n := log) hl2.rest.wait fun i hi => by rw [hother _ oQ]; exact hlow (2 + i) oQ
   have hrd2 := zud hsn2 log (aX _)
   refine ⟨e2, hl2.rest, hl2.left (hl.left rfl), hl2.keep.trans hl.keep, ⟨hn1, hn2, hl1, hlg, hno, by rw [hon2, zgl, hlen1]; exact hroom, qkm n, qoj, hok2⟩, _, ⟨⟨.inr rfl, hh, hl1, ?_, fun h0 => ?_, fun i hi hs => ?_, ?_, aX _⟩, rfl, rfl, aX _, ⟨(fun _ hh => (nomatch hh)), dQ⟩, fun i hi => ?_⟩⟩
   ·rw [hon2]
    exact fM oQ
   ·rw [aC, hother 0 dQ, hlow 0 oQ] at h0
    rw [show (some zxc).getD [] = zxc from rfl, qfc] at h0
    cases h0
   ·rw [hsn2 i hi] at hs
    cases hs
   ·show zt2 r2.2 ⟨1, 1, log, beN 2 n ++ note⟩ = []
    unfold zt2
    show zcv (zbi r2.2 log log) ((zbi r2.2 log log).length + 1) 1 [] [] = []
    rw [hrd2]
    rfl
   ·rw [hother _ oQ, hpg i hi]; rfl
  ·exact absurd (hl.left rfl) hd2.left
 ·exact absurd rfl hd.left
end Go.Proofs.YtkkfifhaobjicaaGreatDoor
namespace Go.Proofs.YtkkfifhaobjicaaGreatDoor
open Go.RowKit Go.Eng Go.Eng.Bm
set_option maxRecDepth 100000
set_option maxHeartbeats 40000000
def qlb (s : Bys) : Value := .string ⟨s.toArray⟩
abbrev mC (b : Nat) (C : PR) : Eng.Item := zd8 .i64 b (toG qlb C)
abbrev wV (b c : Nat) (V : List Bys) (pm : Nat) : Value := .agg #[.slice (some ⟨b, 0, none⟩) V.length c, .map (some pm)]
theorem zzb (w : World) : Pu Tryz.prog 96 #[] w (qlb zdr) := by
 refine zbh [] Tryz.func96 rfl rfl ?_
 simp only [zaa]
 refine goA ?_
 refine zaz rfl (zy0 rfl rfl rfl rfl rfl dQ) fun ⟨b1, hb1⟩ => ?_
 refine goA ?_
 refine l_w rfl (zsw (bs := zdr) rfl rfl rfl rfl (fun w' hw' => .inr ⟨b1, 0, rfl, by have := za7 (hw'.get (b := b1) (.head _)); rwa [qqo] at this⟩)) ?_
 refine goA ?_
 exact zcz rfl rfl rfl
end Go.Proofs.YtkkfifhaobjicaaGreatDoor
namespace Go.Proofs.YtkkfifhaobjicaaGreatDoor
open Go.RowKit Go.Eng Go.Eng.Bm
set_option maxRecDepth 100000
def cpF (C : PR) : Nat → PR
 | 0 => []
 | k + 1 => (C.lookup k).elim (cpF C k) (zeu (cpF C k) k)
theorem zrl (C : PR) (i : Nat) : ∀ n, (cpF C n).lookup i = if i < n then C.lookup i else none
 | 0 => rfl
 | k + 1 => by
  have ih := zrl C i k
  unfold cpF
  by_cases hik : i = k
  ·subst hik
   rw [if_pos (eU _)]
   cases hl : C.lookup i with
   | some x =>
    show (zeu (cpF C i) i x).lookup i = _
    rw [zc7, if_pos rfl]
   | none =>
    show (cpF C i).lookup i = none
    rw [ih, if_neg (Nat.lt_irrefl _)]
  ·have e : (if i < k + 1 then C.lookup i else none) = if i < k then C.lookup i else none := by
    by_cases h : i < k
    ·rw [if_pos h, if_pos oQ]
    ·rw [if_neg h, if_neg oQ]
   rw [e, ← ih]
   cases C.lookup k with
   | some x =>
    show (zeu (cpF C k) k x).lookup i = _
    rw [zc7, if_neg hik]
   | none => rfl
theorem zov (C : PR) : ∀ n, ((cpF C n).map (·.1)).Nodup
 | 0 => fI
 | k + 1 => by
  unfold cpF
  cases C.lookup k with
  | some x => exact zmg (zov C k)
  | none => exact zov C k
def qnz (n : Nat) (C : PR) (i : Nat) (s : Bys) : PR := zeu (cpF C n) i s
end Go.Proofs.YtkkfifhaobjicaaGreatDoor
namespace Go.Eng
open Go.RowKit
end Go.Eng
namespace Go.Proofs.YtkkfifhaobjicaaGreatDoor
open Go.RowKit Go.Eng Go.Eng.Bm
set_option maxRecDepth 100000
end Go.Proofs.YtkkfifhaobjicaaGreatDoor
namespace Go.Eng
open Go.RowKit
theorem qrq {P : Program} {cd : Code} {Q : Exit → Act → World → Prop} {N : Fm} {l : zaq} {w0 : World} {F : Nat → Prop} {m : List Item} {e : TypeId} {sz n : Nat} {o : Option (Nat × Nat)} {xs : List Value} (hn : 0 < n)
  (h : ∀ (b c : Nat) (cur : Array Value), o = some (b, c) → n ≤ c → cur.size = c * sz → cur.toList.take (n * sz) = xs → HT P cd Q N l (Hp w0 F (pt b (.cells cur e (0, 0)) :: m))) : HT P cd Q N l (Hp w0 F (own e sz o n xs :: m)) := by
 unfold HT at *
 intro a w s hw
 have hp := (hw.item (own e sz o n xs) (.head _)).1
 obtain ⟨h1, h2⟩ := hp
 cases o with
 | none => exact absurd h2 (by show ¬ n = 0; omega)
 | some p =>
  obtain ⟨b, c⟩ := p
  obtain ⟨h3, -, cur, h4, h5, h6⟩ := h2
  refine h b c cur rfl h3 h5 h6 a w s (hw.imp (fun k hk => ⟨c, by rw [show k = b from hk]⟩) (fun _ => h4) ((zac _ _ _)))
end Go.Eng
namespace Go.Proofs.YtkkfifhaobjicaaGreatDoor
open Go.RowKit Go.Eng Go.Eng.Bm
set_option maxRecDepth 100000
def rsI (b : Nat) (V : List Bys) : Eng.Item := ⟨fun k => k = b, fun w => w.rangeAt b 0 (zf7 V) ∧ b < w.heap.size⟩
theorem zju (b : Nat) (V : List Bys) : (rsI b V).Stable none' := fun w w' h ⟨hp, hl⟩ => by
 have hb := h b (.inr rfl)
 refine ⟨fun j v hj => ?_, ?_⟩
 ·rw [← hp j v hj]
  exact World.cell?_of_block (w := w) hb
 ·rcases gK b w'.heap.size with h1 | h1
  ·exact h1
  ·rw [dE h1] at hb
   rw [fD hl] at hb
   cases hb
theorem qro {b : Nat} {V : List Bys} {T : List Value} {E : TypeId} {w w0 : World} {F : Nat → Prop} {m : List Eng.Item} (h : Hp w0 F (pt b (.cells (zf7 V ++ T).toArray E (0, 0)) :: m) w) : Hp w0 F (rsI b V :: m) w :=
 h.imp (fun _ h => h) (fun hp => ⟨by have := zfx (k := (zf7 V).length) (za7 hp); rwa [fS] at this, (bC.1 hp).1⟩) ((zju _ _).ro _)
end Go.Proofs.YtkkfifhaobjicaaGreatDoor
