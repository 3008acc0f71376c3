/- package pages: Open. -/
/- The plain law of the log: the sheets that lie in their places, by their numbers. -/
/- The plain law of the store: what Open reads back, whatever took the power. -/
import Derived.Test.YtkkfifhaobjicaaGreatDoorHb31
import Derived.Test.YtkkfifhaobjicaaGreatDoorHb26
namespace Go.Proofs.YtkkfifhaobjicaaGreatDoor
open Go.RowKit Go.Eng Go.Eng.Bm
set_option maxRecDepth 100000
set_option maxHeartbeats 40000000
def wsO (secs : Nat) (TS : List PR) : List (Nat × Bys) := TS.flatMap fun R => wsP secs (zma [] R)
def opF (D : Dsk) (g : Lg) (TS : List PR) : Nat × Dsk × Lg :=
 if (zb6 D (wsO g.h.secs TS)).1 = 0 then ftF (zb6 D (wsO g.h.secs TS)).2 g else ((zb6 D (wsO g.h.secs TS)).1, (zb6 D (wsO g.h.secs TS)).2, g)
theorem qai : ∀ (l l' : List (Nat × Bys)) (D : Dsk), zb6 D (l ++ l') = if (zb6 D l).1 = 0 then zb6 (zb6 D l).2 l' else zb6 D l
 | [], l', D => by rw [List.nil_append]; rfl
 | q :: l, l', D => by
  rw [List.cons_append, zb6, zb6]
  by_cases h : (zb1 D q.1 q.2).1 = 0
  ·rw [if_pos h, if_pos h, qai l]
  ·rw [if_neg h, if_neg h, if_neg h]
theorem qdn {n : Nat} : ∀ {R A : PR}, A.Ok n → R.Ok n → (zma A R).Ok n
 | [], _, hA, _ => hA
 | p :: R, A, hA, hR => qdn (A := zep A p.1 p.2) (PR.Ok.ins hA (hR p (.head _)).1 (hR p (.head _)).2) fun q hq => hR q (.tail _ hq)
theorem qis {β : Type} (B : List (Nat × β)) (h : Nat) (s : β) : (zep B h s).length ≤ B.length + 1 := by
 unfold zep
 split
 ·rw [List.length_map]; omega
 ·rw [List.length_append]; exact Nat.le_refl _
theorem zxp : ∀ (R A : PR), (zma A R).length ≤ A.length + R.length
 | [], _ => Nat.le_refl _
 | p :: R, A => by
  have h1 := zxp R (zep A p.1 p.2)
  have h2 := qis A p.1 p.2
  show (zma (zep A p.1 p.2) R).length ≤ _
  rw [List.length_cons]
  omega
theorem qpz {D : Dsk} {g : Lg} (hD : D.Ok) (h : (ftF D g).1 = 0) : (ftF D g).2.1.Ok ∧ (ftF D g).2.1.dead = false ∧ (ftF D g).2.1.wait = [] ∧ (ftF D g).2.1.on.length = D.on.length ∧ (ftF D g).2.2 = { g with h := zbv g, at_ := za3 g.at_, used := 0, dead := false } := by
 unfold ftF at h ⊢
 by_cases e1 : (zb8 D).1 = 0
 ·rw [if_pos e1] at h ⊢
  simp only at h ⊢
  have h1 := zix hD
  obtain ⟨h2, h3⟩ := zl3 e1
  generalize (zb8 D).2 = D1 at h h1 h2 h3 ⊢
  unfold zkg
  rw [if_pos h, h]
  unfold zbx at h ⊢
  by_cases e2 : (zb1 D1 (za3 g.at_) (hdP (zbv g))).1 = 0
  ·rw [if_pos e2] at h ⊢
   obtain ⟨w1, -, -, w4, -⟩ := zlm h1 _ _ e2
   obtain ⟨f1, f2⟩ := zl3 h
   exact ⟨zix w1, f1, (zlx h).2, by rw [f2, w4, h3], rfl⟩
  ·rw [if_neg e2] at h
   exact absurd h e2
 ·rw [if_neg e1] at h
  exact absurd h e1
abbrev qf8 (TS : List PR) : List Value := zfw (TS.map zd0)
structure Opd (s : Pg) (D : Dsk) (g : Lg) (n : Nat) (note : Bys) : Prop where
 hg : s.g = g
 hn : s.n = n
 hnote : s.note = note
 hK : s.K = [(0, zch D (2 + g.h.secs))]
 hR : s.R = []
 hC : s.C = []
 hdead : s.dead = false
theorem qfr {secs n : Nat} : ∀ {TS : List PR}, (∀ R ∈ TS, R.Ok n ∧ R.length ≤ 1024) → (wsO secs TS).length ≤ 1024 * TS.length
 | [], _ => Nat.zero_le _
 | R :: TS, h => by
  have h1 := qfr (secs := secs) (TS := TS) fun R hR => h R (.tail _ hR)
  have h2 := zxp R []
  have h3 := (h R (.head _)).2
  have h4 : (wsP secs (zma [] R)).length = (zma [] R).length := by rw [wsP, List.length_map, zdw, List.length_map, znu, List.length_map]
  unfold wsO at h1 ⊢
  rw [List.flatMap_cons, List.length_append, List.length_cons, h4]
  simp at h2
  omega
theorem ztk (secs : Nat) (TS : List PR) (R : PR) : wsO secs (TS ++ [R]) = wsO secs TS ++ wsP secs (zma [] R) := by simp [wsO]
theorem zux (d : Dk) (ok : d.D.Ok) (hlive : d.D.dead = false) (hkl : d.D.keep.length ≤ 1000000) (hwl : d.D.wait.length ≤ 10000) (h2 : 2 ≤ d.D.on.length) (h : Hd) (c : Nat) (hc : c = 0 ∨ c = 1) (hlk : zdb d.D 2 = (h, (c : Int))) (ho : h.Ok) (hs1 : 1 ≤ h.secs) (hs2 : h.secs ≤ 512)
  (hne : ∀ p ∈ zbj d.D h.secs h.secs, p.2.text.length ≤ 497 ∧ p.2.text ≠ []) (n : Nat) (note : Bys) (hnote : h.note = beN 2 n ++ note) (hn1 : 64 ≤ n) (hn2 : n ≤ 1024) (hno : note.length ≤ 40) (hroom : 2 + h.secs + n ≤ d.D.on.length)
  (TS : List PR) (hTS : ztq d.D h = TS.map zd0) (hTO : ∀ R ∈ TS, R.Ok n ∧ R.length ≤ 1024) (hTl : TS.length ≤ 512) (S : Nat → Bool) (hU : (opF d.D (zcp d.D h c) TS).1 = 0 → zch (opF d.D (zcp d.D h c) TS).2.1 (2 + h.secs) = bmB n S ∧ zqk n S ∧ S 0 = true) (w : World) (hw : ∀ it ∈ [dkI d, ctI], za2 it w) (ha : [dkI d, ctI].Pairwise Eng.Item.Apart) :
  Ct Tryz.prog 51 #[.pointer (some ⟨d.b, 0, none⟩)] w (zap [dkI d, ctI]) (fun x : Dk × Pg => .tuple #[.pointer (if (opF d.D (zcp d.D h c) TS).1 = 0 then some ⟨x.2.b, 0, none⟩ else none), .int .i64 ((opF d.D (zcp d.D h c) TS).1 : Nat)])
   (fun x => zjq d (opF d.D (zcp d.D h c) TS).2.1 x.1 ∧ ((opF d.D (zcp d.D h c) TS).1 = 0 → Opd x.2 (opF d.D (zcp d.D h c) TS).2.1 (opF d.D (zcp d.D h c) TS).2.2 n note))
   (fun x => if (opF d.D (zcp d.D h c) TS).1 = 0 then [pgI x.2 x.1, dkI x.1, ctI] else [dkI x.1, ctI]) := by
 refine zbd [_] _ Tryz.func51 rfl rfl hw ha ?_
 have hsecs := ho.secs
 simp only [zaa]
 refine goA ?_
 refine zae rfl (zba (pre := [dkI d, ctI]) (m := []) rfl (by kernel_rfl) rfl (zb4 d) (fun w1 hw1 hh1 ha1 => zx9 d ok hlive (by omega) h2 h c hlk ho.first hs1 (by omega) hne w1 hh1 ha1)) fun ⟨⟨bl, so⟩, _⟩ => ?_
 rw [hTS]
 dsimp only
 refine goA ?_
 refine za0 rfl (zgd (q := .i64) rfl) fun ⟨kb, hkb⟩ => ?_
 refine za0 rfl (zgd (q := .i64) rfl) fun ⟨db, hdb⟩ => ?_
 refine za0 rfl (zgd (q := .i64) rfl) fun ⟨cb, hcb⟩ => ?_
 refine goA ?_
 obtain ⟨g0, hg0⟩ : ∃ g0, zcp d.D h c = g0 := ⟨_, rfl⟩
 have hgh : g0.h = h := by rw [← hg0]; rfl
 have hgat : g0.at_ = c := by rw [← hg0]; rfl
 have hgdd : g0.dead = false := by rw [← hg0]; rfl
 have hgnx : g0.next < 18446744073709551616 := by rw [← hg0]; exact zy8 ho.first
 rw [hg0] at hU ⊢
 refine zdc 31 _ (.agg (pgA ⟨0, bl, kb, db, cb, g0, 0, [], [], [], [], false⟩ d)) rfl rfl ?_
 refine zb0 rfl rfl fun b hb => ?_
 refine ze1 (m' := pgL ⟨b, bl, kb, db, cb, g0, 0, [], [], [], [], false⟩ d ++ [own 9 1 so TS.length (qf8 TS), dkI d, ctI]) (fun w' hw' => by rw [List.length_map] at hw'; exact hw'.pick [0, 4, 3, 2, 1, 5, 6, 7] rfl rfl) ?_
 unfold pgL
 dsimp only
 rw [List.length_map]
 refine goA ?_
 refine zae rfl (zag rfl (by kernel_rfl) rfl (fun w1 hw1 => zvo bl d g0 w1 (za2.of (hw1.item (lgI bl d g0) (by simp)) (zac _ _ _)))) fun _ => ?_
 rw [hgh, hnote]
 have htxl : (beN 2 n ++ note).length ≤ 42 := by rw [List.length_append, zao]; omega
 have e1 : opN 2 (beN 2 n ++ note, false) = (n, (note, false)) := zh9 (by omega) _
 have e2 : opT note.length (note, false) = (note, ([], false)) := by have := zp0 note []; rw [List.append_nil] at this; exact this
 obtain ⟨tx, htx⟩ : ∃ tx, beN 2 n ++ note = tx := ⟨_, rfl⟩
 rw [htx] at htxl e1 ⊢
 refine za0 rfl (zy3 rfl rfl rfl rfl) fun ⟨p1, _, _⟩ => ?_
 dsimp only
 rw [bal]
 refine goA ?_
 refine ze5 rfl rfl (by kernel_rfl) rfl (fun w1 hw1 => zlb (some ⟨p1.1, 0, none⟩) tx.length p1.2 tx rfl (by omega) w1 (.inr ⟨p1.1, 0, rfl, zk6 (hw1.item (zn9 5 tx p1.1 p1.2) (.head _)).1⟩)) fun x hx => ?_
 obtain ⟨ob, oD⟩ := x
 simp only at hx ⊢
 have hsD : (own 5 1 oD tx.length (zaf tx)).Stable none' := zab _ _ _ _ _ _
 generalize own 5 1 oD tx.length (zaf tx) = D at hx hsD
 refine goA ?_
 refine zae rfl (zba (pre := [opI ob (slA oD) (slC oD) (tx, false), D]) rfl (by kernel_rfl) rfl (by simp [zam, hsD]) (fun w1 hw1 hh1 ha1 => zh8 n (note, false) e1 hsD hx (.inr (.inl rfl)) (by simp only; omega) hh1 ha1)) fun ⟨y1, hy1⟩ => ?_
 simp only at hy1
 dsimp only
 refine goA ?_
 refine za0 rfl (zak (zdl _ _ _ _ _) (zaj rfl rfl rfl rfl rfl rfl (show (2 : Nat) < 8 from by decide))) fun _ => ?_
 refine ze1 (m' := [opI ob y1.1 y1.2 (note, false), D, pgC ⟨b, bl, kb, db, cb, g0, n, [], [], [], [], false⟩ d, lgI bl d g0, zd6 .i64 kb (toP []), zd6 .i64 db (toB []), zd6 .i64 cb (toP []), own 9 1 so TS.length (qf8 TS), dkI d, ctI]) (fun w' hw' => hw'.pick [1, 2, 0, 4, 5, 6, 7, 8, 9, 10] rfl rfl) ?_
 refine goA ?_
 refine zae rfl (zag rfl (by kernel_rfl) rfl (fun w1 hw1 => zgi ob y1.1 y1.2 (note, false) w1 (za2.of (hw1.item (opI ob y1.1 y1.2 (note, false)) (.head _)) (zam _ _ _ _)))) fun _ => ?_
 refine zae rfl (zba (pre := [opI ob y1.1 y1.2 (note, false), D]) rfl (by kernel_rfl) rfl (by simp [zam, hsD]) (fun w1 hw1 hh1 ha1 => zo3 note ([], false) e2 hsD hy1 (by simp only; omega) hh1 ha1)) fun ⟨y2, hy2⟩ => ?_
 dsimp only
 refine goA ?_
 refine za0 rfl (zak (zc9 _ _ _ _) (zaj rfl rfl rfl rfl rfl rfl (show (3 : Nat) < 8 from by decide))) fun _ => ?_
 refine ze1 (m' := [opI ob y2.1 y2.2 ([], false), pgC ⟨b, bl, kb, db, cb, g0, n, note, [], [], [], false⟩ d, lgI bl d g0, zd6 .i64 kb (toP []), zd6 .i64 db (toB []), zd6 .i64 cb (toP []), own 9 1 so TS.length (qf8 TS), dkI d, ctI]) (fun w' hw' => hw'.pick [1, 0, 3, 4, 5, 6, 7, 8, 9] rfl rfl) ?_
 refine goA ?_
 refine zae rfl (zag rfl (by kernel_rfl) rfl (fun w1 hw1 => qgk ob y2.1 y2.2 ([], false) w1 (za2.of (hw1.item (opI ob y2.1 y2.2 ([], false)) (.head _)) (zam _ _ _ _)))) fun _ => ?_
 rw [if_pos rfl]
 obtain ⟨s0, hs0⟩ : ∃ s0 : Pg, s0 = ⟨b, bl, kb, db, cb, g0, n, note, [], [], [], false⟩ := ⟨_, rfl⟩
 refine ze1 (m' := [pgI s0 d, dkI d, ctI, own 9 1 so TS.length (qf8 TS)]) (fun w' hw' => by rw [hs0]; exact zf5 (s := ⟨b, bl, kb, db, cb, g0, n, note, [], [], [], false⟩) (m := [dkI d, ctI, own 9 1 so TS.length (qf8 TS)]) (hw'.pick [1, 2, 3, 4, 5, 7, 8, 6] rfl rfl)) ?_
 have hsb : s0.b = b := by rw [hs0]
 have hsn : s0.n = n := by rw [hs0]
 have hsg : s0.g = g0 := by rw [hs0]
 have hsnote : s0.note = note := by rw [hs0]
 have hpg : ∀ {m : List Eng.Item} {w1 : World}, Hp w (zap [dkI d, ctI]) (pgI s0 d :: m) w1 → za2 (pgI s0 d) w1 := fun hw1 => za2.of (hw1.item (pgI s0 d) (.head _)) (zco s0 d)
 rw [← hsb]
 refine goA ?_
 refine l_w rfl (zaz (v := .int .i64 (n : Int)) rfl rfl (fun w' hw' => zqn (hpg hw') 2 (by rw [← hsn]; rfl))) ?_
 refine goA ?_
 refine l_w rfl (zaz (v := .int .i64 (n : Int)) rfl rfl (fun w' hw' => zqn (hpg hw') 2 (by rw [← hsn]; rfl))) ?_
 refine goA ?_
 refine zae rfl (zag rfl (by kernel_rfl) rfl (fun w1 hw1 => zqs s0 d (by omega) (by rw [hsg, hgh]; exact hsecs) w1 (hpg hw1))) fun _ => ?_
 rw [hsg, hgh, hsn]
 refine goA ?_
 refine zae rfl (zag rfl (by kernel_rfl) rfl (fun w1 hw1 => zha d w1 (za2.of (hw1.item (dkI d) (by simp)) (zad _)))) fun _ => ?_
 refine goA ?_
 refine l_w rfl (zaz (v := .string ⟨note.toArray⟩) rfl rfl (fun w' hw' => zqn (hpg hw') 3 (by rw [← hsnote]; rfl))) ?_
 have hbn := bal note
 refine goA ?_
 refine zea (fun w hw => (zav (hw.item (own 9 1 so TS.length (qf8 TS)) (by simp)).1)) fun ⟨hsl, _⟩ => ?_
 rw [hsl]
 refine goA ?_
 have hpre : ∀ k, k ≤ TS.length → (wsO h.secs (TS.take k)).length ≤ 1024 * 512 := fun k hk => by
  have := qfr (secs := h.secs) (TS := TS.take k) fun R hR => hTO R (List.mem_of_mem_take hR)
  rw [List.length_take] at this
  omega
 have hstp : ∀ k (hk : k < TS.length), wsO h.secs (TS.take (k + 1)) = wsO h.secs (TS.take k) ++ wsP h.secs (zma [] TS[k]) := fun k hk => by
  rw [List.take_succ_eq_append_getElem hk, ztk]
 have hbad : ∀ k (hk : k < TS.length), (zb6 d.D (wsO h.secs (TS.take (k + 1)))).1 ≠ 0 → zb6 d.D (wsO h.secs TS) = zb6 d.D (wsO h.secs (TS.take (k + 1))) := fun k hk he => by
  have h1 : wsO h.secs TS = wsO h.secs (TS.take (k + 1)) ++ wsO h.secs (TS.drop (k + 1)) := by
   unfold wsO
   rw [← List.flatMap_append, List.take_append_drop]
  rw [h1]
  exact zn2 _ _ d.D he
 have hall : wsO h.secs (TS.take TS.length) = wsO h.secs TS := by rw [List.take_length]
 have hopF : opF d.D g0 TS = if (zb6 d.D (wsO h.secs TS)).1 = 0 then ftF (zb6 d.D (wsO h.secs TS)).2 g0 else ((zb6 d.D (wsO h.secs TS)).1, (zb6 d.D (wsO h.secs TS)).2, g0) := by rw [opF, hgh]
 refine zct (α := Nat × Dk) (fun y => [(0, .pointer (some ⟨d.b, 0, none⟩)), (4, .pointer (some ⟨bl, 0, none⟩)), (7, .pointer (some ⟨s0.b, 0, none⟩)), (82, .slice (slA so) TS.length (slC so)), (83, .int .i64 TS.length), (84, .int .i64 y.1)]) (fun y => y.1 ≤ TS.length ∧ (zb6 d.D (wsO h.secs (TS.take y.1))).1 = 0 ∧ zjq d (zb6 d.D (wsO h.secs (TS.take y.1))).2 y.2) (fun y => [pgI s0 y.2, dkI y.2, ctI, own 9 1 so TS.length (qf8 TS)]) (fun y => TS.length - y.1) (0, d) ⟨rfl, rfl, rfl, rfl, rfl, rfl, trivial⟩ ⟨Nat.zero_le _, rfl, rfl, rfl, rfl⟩ (fun w hw => hw) fun ⟨k, d1⟩ ⟨hk, h0, hd1⟩ => ?_
 simp only at hk h0 hd1 ⊢
 by_cases hkn : k < TS.length
 ·have hst := hstp k hkn
  have hbad2 := hbad k hkn
  have hpk := hpre k (by omega)
  have hpk2 := hpre (k + 1) hkn
  have hRO := hTO TS[k] (List.getElem_mem hkn)
  have hstr : (qf8 TS)[k]? = some (.string ⟨(zd0 TS[k]).toArray⟩) := by simp [qf8, zfw, hkn]
  generalize TS[k] = R at hst hRO hstr
  obtain ⟨hkk1, hkk2⟩ := zij (wsO h.secs (TS.take k)) d.D ok h0
  have hokd := ziw (wsO h.secs (TS.take k)) d.D ok
  have hwr : zb6 d.D (wsO h.secs (TS.take (k + 1))) = zb6 (zb6 d.D (wsO h.secs (TS.take k))).2 (wsP h.secs (zma [] R)) := by rw [hst, qai, if_pos h0]
  generalize zb6 d.D (wsO h.secs (TS.take k)) = r at *
  obtain ⟨hd1a, hd1b, hd1c⟩ := hd1
  rw [← hd1c] at hkk1 hkk2 hokd hwr
  have hil := zxp R []
  have hio := qdn (n := n) (A := []) (fun _ h => nomatch h) hRO.1
  rcases so with _ | ⟨sob, soc⟩
  ·refine zf2 (fun w hw => (hw.item (own 9 1 none TS.length (qf8 TS)) (by simp)).1.2) fun h => ?_
   exact absurd h (by omega)
  have hcell : ∀ {m : List Eng.Item} {w2 : World} {F2 : Nat → Prop} (w' : World), Hp w2 F2 m w' → own 9 1 (some (sob, soc)) TS.length (qf8 TS) ∈ m → w'.cell? ⟨sob, k, none⟩ = some (.string ⟨(zd0 R).toArray⟩) := fun w' hw' hm => zbo (hw'.item _ hm).1 k _ hstr
  simp only [slA, slC]
  refine goA ?_
  refine l_w rfl (zaz (v := .string ⟨(zd0 R).toArray⟩) rfl rfl (fun w' hw' => by rw [Nat.zero_add]; exact hcell w' hw' (by simp))) ?_
  refine goA ?_
  refine ze5 rfl rfl (by kernel_rfl) rfl (fun w1 hw1 => zu3 s0 d1 R (by omega) (by rw [hsn]; exact hRO.1) (by omega) w1 (za2.of (hw1.item (pgI s0 d1) (by simp)) (zco _ _))) fun x hx => ?_
  refine goA ?_
  refine za1 [2, 1, 0, 3, 4] rfl rfl ?_
  refine zae rfl (zba (pre := [dkI d1, pgI s0 d1, zd6 .i64 x (toP (zma [] R))]) rfl (by kernel_rfl) rfl (zjv _ _ _ _) (val := fun _ : Dk => .int .i64 ((zb6 d.D (wsO h.secs (TS.take (k + 1)))).1 : Nat)) (φ := zjq d1 (zb6 d.D (wsO h.secs (TS.take (k + 1)))).2) (its := fun d' => [dkI d', pgI s0 d', zd6 .i64 x (toP (zma [] R))]) (fun w1 hw1 hh1 ha1 => by
   have hq := zso s0 d1 x (zma [] R) hokd (by rw [hkk1]; exact hkl) (by rw [hkk2]; simp at hil; omega) (by omega) (by rw [hsg, hgh]; exact hsecs) (by rw [hsn]; exact hio) w1 hh1 ha1
   rw [hsg, hgh, ← hwr] at hq
   exact hq)) fun ⟨d2, hd2⟩ => ?_
  dsimp only
  have hok2 : zjq d (zb6 d.D (wsO h.secs (TS.take (k + 1)))).2 d2 := ⟨hd2.1.trans hd1a, hd2.2.1.trans hd1b, hd2.2.2⟩
  refine goA ?_
  by_cases he : (zb6 d.D (wsO h.secs (TS.take (k + 1)))).1 = 0
  ·have hne : (((zb6 d.D (wsO h.secs (TS.take (k + 1)))).1 : Int) != 0) = false := by simp [he]
   rw [hne]
   refine goA ?_
   exact zay (k + 1, d2) ⟨rfl, rfl, rfl, rfl, rfl, rfl, trivial⟩ ⟨hkn, he, hok2⟩ (fun w hw => hw.pick [1, 0, 3, 4] rfl rfl) (by show TS.length - (k + 1) < TS.length - k; omega)
  ·have hne : (((zb6 d.D (wsO h.secs (TS.take (k + 1)))).1 : Int) != 0) = true := by simp [he]
   have hop : opF d.D g0 TS = ((zb6 d.D (wsO h.secs (TS.take (k + 1)))).1, (zb6 d.D (wsO h.secs (TS.take (k + 1)))).2, g0) := by rw [hopF, hbad2 he, if_neg he]
   rw [hne]
   simp only [hop, if_neg he]
   refine goA ?_
   exact zdq (d2, s0) rfl rfl rfl rfl ⟨hok2, fun h => absurd h he⟩ (.cons_cons _ (.cons _ (.cons _ (.cons_cons _ (List.nil_sublist _))))) (zb4 d2)
 ·obtain rfl : k = TS.length := by omega
  rw [hall] at h0 hd1
  rw [if_pos h0] at hopF
  have hpl := hpre TS.length (Nat.le_refl _)
  rw [hall] at hpl
  obtain ⟨hkk1, hkk2⟩ := zij (wsO h.secs TS) d.D ok h0
  have hokd := ziw (wsO h.secs TS) d.D ok
  have hlen1 := zs9 (wsO h.secs TS) d.D ok h0
  generalize zb6 d.D (wsO h.secs TS) = r at *
  obtain ⟨hd1a, hd1b, hd1c⟩ := hd1
  rw [← hd1c] at hkk1 hkk2 hokd hlen1 hopF
  have hsbl : s0.bl = bl := by rw [hs0]
  have hs0C : s0.C = [] ∧ s0.K = [] ∧ s0.R = [] ∧ s0.dead = false := by rw [hs0]; exact ⟨rfl, rfl, rfl, rfl⟩
  rw [hopF] at hU
  simp only [hopF]
  rw [← hd1a, ← hsbl]
  refine goA ?_
  refine l_w rfl (qny (vs := [.pointer (some ⟨d1.b, 0, none⟩)]) rfl) ?_
  refine goA ?_
  refine l_w rfl (qny (vs := [.pointer (some ⟨s0.bl, 0, none⟩)]) rfl) ?_
  refine za0 rfl (zbc rfl rfl rfl rfl rfl rfl) fun ⟨bq, hbq⟩ => ?_
  refine ze1 (m' := [pgI s0 d1, dkI d1, ctI, fvI bq 2 (ftV s0 d1)]) (fun w' hw' => hw'.pick [1, 2, 3, 0] rfl rfl) ?_
  refine zae rfl (zba (pre := [pgI s0 d1, dkI d1, ctI, fvI bq 2 (ftV s0 d1)]) (m := []) rfl (by kernel_rfl) rfl (by
   intro it hm
   rcases hm with _ | ⟨_, _ | ⟨_, _ | ⟨_, _ | ⟨_, hm⟩⟩⟩⟩
   ·exact zco _ _
   ·exact zad _
   ·exact zcz _
   ·exact zab _ _ _ _ _ _
   ·exact nomatch hm) (val := fun _ : Dk => .int .i64 ((ftF d1.D g0).1 : Nat)) (φ := zjq d1 (ftF d1.D g0).2.1) (its := fun d' => [pgI { s0 with g := (ftF d1.D g0).2.2 } d', dkI d', ctI]) (fun w1 hw1 hh1 ha1 => by
   have hq := qhb s0 d1 bq hokd (by rw [hkk1]; exact hkl) (by rw [hkk2]; omega) (by rw [hsg, hgh]; exact ho) (by rw [hsg]; exact hgnx) (by rw [hsg, hgat]; exact hc) (by rw [hsg]; exact hgdd) w1 hh1 ha1
   rw [hsg] at hq
   exact hq)) fun ⟨d3, hd3⟩ => ?_
  have hok3 : zjq d (ftF d1.D g0).2.1 d3 := ⟨hd3.1.trans hd1a, hd3.2.1.trans hd1b, hd3.2.2⟩
  have hfo := qpz (g := g0) hokd
  dsimp only
  refine goA ?_
  by_cases he : (ftF d1.D g0).1 = 0
  ·have hne : (((ftF d1.D g0).1 : Int) != 0) = false := by simp [he]
   obtain ⟨f1, f2, f3, f4, f5⟩ := hfo he
   obtain ⟨hu1, hu2, hu3⟩ := hU he
   rw [hne]
   simp only [if_pos he]
   rw [he]
   generalize ftF d1.D g0 = r3 at *
   obtain ⟨e3, D3, g3⟩ := r3
   simp only at f1 f2 f3 f4 f5 hu1 hok3 ⊢
   obtain ⟨s1, hs1⟩ : ∃ s1 : Pg, s1 = { s0 with g := g3 } := ⟨_, rfl⟩
   refine zku (m' := [pgI s1 d3, dkI d3, ctI]) (fun w' hw' => by rw [hs1]; exact hw') ?_
   have hb1 : s1.b = s0.b := by rw [hs1]
   have hC1 : s1.C = [] := by rw [hs1]; exact hs0C.1
   have hK1 : s1.K = [] := by rw [hs1]; exact hs0C.2.1
   have hR1 : s1.R = [] := by rw [hs1]; exact hs0C.2.2.1
   have hde1 : s1.dead = false := by rw [hs1]; exact hs0C.2.2.2
   have hn1' : s1.n = n := by rw [hs1]; exact hsn
   have hno1 : s1.note = note := by rw [hs1]; exact hsnote
   have hg1 : s1.g = g3 := by rw [hs1]
   have hsc1 : s1.g.h.secs = h.secs := by rw [hg1, f5]; show g0.h.secs = h.secs; rw [hgh]
   have hD3 := hok3.2.2
   have hpb : pageB s1 d3.D 0 = bmB s1.n S := by
    unfold pageB
    rw [hC1, hK1, hsc1, hD3, hn1']
    exact hu1
   have hps : zc4 s1 d3.D 0 = { s1 with K := [(0, zch D3 (2 + g3.h.secs))] } := by
    unfold zc4
    rw [hC1, hK1, hg1, hD3]
    rfl
   rw [← hb1]
   refine goA ?_
   refine zae rfl (zba (pre := [pgI s1 d3, dkI d3]) rfl (by kernel_rfl) rfl (zds s1 d3) (fun w1 hw1 hh1 ha1 => zig s1 d3 (by rw [hD3]; exact f1) (by rw [hD3]; exact f2) (by rw [hD3, f3]; decide) hde1 ⟨by omega, by rw [hsc1]; exact hsecs, by rw [hsc1, hD3, f4, hlen1]; omega, (by rw [hC1]; exact fun _ h => (nomatch h)), (by rw [hK1]; exact fun _ h => (nomatch h))⟩ (by omega) S hpb (by rw [hn1']; exact hu2) hu3 w1 hh1 ha1)) fun ⟨_, _⟩ => ?_
   rw [hps]
   refine goA ?_
   refine zan rfl rfl fun b15 hb15 => ?_
   refine za0 rfl (zai (cs' := zhm s1.n S) rfl rfl rfl (by rw [za9]; rfl) (zex _ _) (by rw [za9]; rfl)) fun _ => ?_
   refine goA ?_
   exact zdq (d3, { s1 with K := [(0, zch D3 (2 + g3.h.secs))] }) rfl rfl rfl rfl ⟨hok3, fun _ => ⟨hg1, hn1', hno1, rfl, hR1, hC1, hde1⟩⟩ (.cons _ (.refl _)) (zr4 _ _)
  ·have hne : (((ftF d1.D g0).1 : Int) != 0) = true := by simp [he]
   rw [hne]
   simp only [if_neg he]
   refine goA ?_
   exact zdq (d3, s0) rfl rfl rfl rfl ⟨hok3, fun h => absurd h he⟩ (.cons _ (.refl _)) (zb4 d3)
end Go.Proofs.YtkkfifhaobjicaaGreatDoor
namespace Go.Proofs.YtkkfifhaobjicaaGreatDoor
set_option maxRecDepth 100000
def zd4 (D : Dsk) (n i : Nat) : Bool := zid (zch D (2 + i)) && decide (zbh (zf6 (zch D (2 + i))).seq n = 2 + i)
theorem zxt (B : zeg) (h : Nat) (s : Sht) (k : Nat) : (qcu B h s).lookup k = if k = h then some s else B.lookup k := by
 unfold qcu
 split
 ·rename_i hs
  have : ∀ L : zeg, (L.map fun p => if p.1 = h then (h, s) else p).lookup k = if k = h then (L.lookup k).map (fun _ => s) else L.lookup k := by
   intro L
   induction L with
   | nil => simp
   | cons p L ih =>
    obtain ⟨q, x⟩ := p
    rw [List.map_cons]
    by_cases hq : q = h
    ·subst hq
     rw [if_pos rfl, List.lookup_cons, List.lookup_cons]
     by_cases hk : k = q
     ·subst hk; simp
     ·have : (k == q) = false := by simpa using hk
      rw [this]
      simp only [if_neg hk] at ih ⊢
      exact ih
    ·rw [if_neg hq, List.lookup_cons, List.lookup_cons, ih]
     by_cases hk : k = q
     ·subst hk
      simp [hq]
     ·have : (k == q) = false := by simpa using hk
      rw [this]
  rw [this]
  by_cases hk : k = h
  ·subst hk
   rw [if_pos rfl, if_pos rfl]
   cases hb : B.lookup k with
   | none => rw [hb] at hs; cases hs
   | some x => rfl
  ·rw [if_neg hk, if_neg hk]
 ·rename_i hs
  have hs' : B.lookup h = none := by
   cases hb : B.lookup h with
   | none => rfl
   | some x => rw [hb] at hs; exact absurd rfl hs
  by_cases hk : k = h
  ·subst hk
   rw [if_pos rfl, List.lookup_append, hs']
   simp
  ·rw [if_neg hk, List.lookup_append]
   have : ([(h, s)] : zeg).lookup k = none := by
    rw [List.lookup_cons, show (k == h) = false by simpa using hk]; rfl
   rw [this]
   cases B.lookup k <;> rfl
theorem zff (D : Dsk) (n : Nat) (q : Nat) : ∀ i, (zbj D n i).lookup q = if q % n < i ∧ zd4 D n (q % n) = true ∧ (zf6 (zch D (zbh q n))).seq = q then some (zf6 (zch D (zbh q n))) else none
 | 0 => by
  rw [if_neg (by omega)]
  rfl
 | i + 1 => by
  have ih := zff D n q i
  rw [zbj]
  by_cases hs : zd4 D n i = true
  ·have hs' := hs
   unfold zd4 at hs'
   rw [hs', if_pos rfl, zxt, ih]
   simp only [Bool.and_eq_true, decide_eq_true_eq] at hs'
   have hp := hs'.2
   by_cases hq : q = (zf6 (zch D (2 + i))).seq
   ·have hqi : q % n = i := by rw [← hq] at hp; unfold zbh at hp; omega
    rw [if_pos hq, if_pos]
    ·unfold zbh; rw [hqi]
    ·refine ⟨by omega, by rw [hqi]; exact hs, ?_⟩
     unfold zbh; rw [hqi]; exact hq.symm
   ·rw [if_neg hq]
    by_cases hqi : q % n = i
    ·rw [if_neg (by omega), if_neg]
     rintro ⟨_, _, h3⟩
     unfold zbh at h3
     rw [hqi] at h3
     exact hq h3.symm
    ·by_cases hc : q % n < i ∧ zd4 D n (q % n) = true ∧ (zf6 (zch D (zbh q n))).seq = q
     ·rw [if_pos hc, if_pos ⟨by omega, hc.2⟩]
     ·rw [if_neg hc, if_neg (fun h => hc ⟨by omega, h.2⟩)]
  ·have hs' : (zid (zch D (2 + i)) && decide (zbh (zf6 (zch D (2 + i))).seq n = 2 + i)) = false := by
    rw [← Bool.not_eq_true]; exact hs
   rw [hs', if_neg (by decide), ih]
   by_cases hqi : q % n = i
   ·rw [if_neg (by omega), if_neg (by rw [hqi]; exact fun h => hs h.2.1)]
   ·by_cases hc : q % n < i ∧ zd4 D n (q % n) = true ∧ (zf6 (zch D (zbh q n))).seq = q
    ·rw [if_pos hc, if_pos ⟨by omega, hc.2⟩]
    ·rw [if_neg hc, if_neg (fun h => hc ⟨by omega, h.2⟩)]
theorem qhh {B : zeg} {h : Nat} {s : Sht} {p : Nat × Sht} (hp : p ∈ qcu B h s) : p = (h, s) ∨ p ∈ B := by
 unfold qcu at hp
 split at hp
 ·obtain ⟨q, hq, rfl⟩ := List.mem_map.1 hp
  split
  ·exact .inl rfl
  ·exact .inr hq
 ·rcases List.mem_append.1 hp with hp | hp
  ·exact .inr hp
  ·exact .inl (List.mem_singleton.1 hp)
theorem ztz (D : Dsk) (n : Nat) : ∀ i, ∀ p ∈ zbj D n i, ∃ j, j < i ∧ zd4 D n j = true ∧ p = ((zf6 (zch D (2 + j))).seq, zf6 (zch D (2 + j)))
 | 0, _, h => nomatch h
 | i + 1, p, h => by
  rw [zbj] at h
  by_cases hs : zd4 D n i = true
  ·have hs' := hs
   unfold zd4 at hs'
   rw [hs', if_pos rfl] at h
   rcases qhh h with rfl | h
   ·exact ⟨i, by omega, hs, rfl⟩
   ·obtain ⟨j, h1, h2⟩ := ztz D n i p h
    exact ⟨j, by omega, h2⟩
  ·have hs' : (zid (zch D (2 + i)) && decide (zbh (zf6 (zch D (2 + i))).seq n = 2 + i)) = false := by
    rw [← Bool.not_eq_true]; exact hs
   rw [hs', if_neg (by decide)] at h
   obtain ⟨j, h1, h2⟩ := ztz D n i p h
   exact ⟨j, by omega, h2⟩
theorem zrl {D : Dsk} (hw : D.wait = []) {n : Nat} (hn : 0 < n) {s : Sht} (hq : s.seq < 18446744073709551616) (ht : s.text.length ≤ 497) (h : D.on[zbh s.seq n]? = some (zno s)) : (zbj D n n).lookup s.seq = some s := by
 obtain ⟨h1, h2⟩ := qjm hq ht
 have hc : zch D (zbh s.seq n) = zno s := by rw [zfh hw, List.getD_eq_getElem?_getD, h]; rfl
 have hm := Nat.mod_lt s.seq hn
 rw [zff, hc, h2, if_pos]
 refine ⟨hm, ?_, rfl⟩
 unfold zd4
 rw [show 2 + s.seq % n = zbh s.seq n from rfl, hc, h1, h2]
 simp
theorem qge {D : Dsk} {n q : Nat} (h : zd4 D n (q % n) = true → (zf6 (zch D (zbh q n))).seq ≠ q) : (zbj D n n).lookup q = none := by
 rw [zff, if_neg]
 rintro ⟨_, h2, h3⟩
 exact h h2 h3
theorem zu4 {D : Dsk} {n first lo hi : Nat} (hf : first ≤ hi) (hhi : hi < 18446744073709551616) (hl : lo ≤ first ∨ ∃ s, (zbj D n n).lookup (lo - 1) = some s) (hb : ∀ i, i < n → zd4 D n i = true → (zf6 (zch D (2 + i))).seq < hi) :
  lo ≤ ze4 (zgl D n n) first ∧ first ≤ ze4 (zgl D n n) first ∧ ze4 (zgl D n n) first ≤ hi ∧ ∀ i, i < n → zd4 D n i = true → (zf6 (zch D (2 + i))).seq < ze4 (zgl D n n) first := by
 have hrows : ∀ p ∈ zgl D n n, p.1 < hi := by
  intro p hp
  rw [← zny] at hp
  obtain ⟨q, hq, rfl⟩ := List.mem_map.1 hp
  obtain ⟨j, h1, h2, rfl⟩ := ztz D n n q hq
  exact hb j h1 h2
 have hle := (zhx (zgl D n n) first (ze4 (zgl D n n) first)).1 (Nat.le_refl _)
 have hrow : ∀ q s, (zbj D n n).lookup q = some s → q < ze4 (zgl D n n) first := by
  intro q s hs
  have hm : (q, Value.agg (zrq s)) ∈ zgl D n n := by
   rw [← zny]
   exact List.mem_map.2 ⟨(q, s), zho hs, rfl⟩
  have h1 := hle.2 _ hm
  have h2 := hrows _ hm
  simp only at h1 h2
  rw [zpn (by omega)] at h1
  omega
 refine ⟨?_, hle.1, (zhx _ _ _).2 ⟨hf, fun p hp => ?_⟩, fun i hi2 hs => ?_⟩
 ·rcases hl with h | ⟨s, hs⟩
  ·omega
  ·have := hrow _ s hs
   omega
 ·have := hrows p hp
  rw [zpn (by omega)]
  omega
 ·have hs2 := hs
  unfold zd4 at hs2
  simp only [Bool.and_eq_true, decide_eq_true_eq] at hs2
  have hp := hs2.2
  generalize hqq : (zf6 (zch D (2 + i))).seq = q at hp ⊢
  have hqi : q % n = i := by unfold zbh at hp; omega
  refine hrow q (zf6 (zch D (2 + i))) ?_
  rw [zff, hp, if_pos ⟨by omega, by rw [hqi]; exact hs, hqq⟩]
end Go.Proofs.YtkkfifhaobjicaaGreatDoor
namespace Go.Proofs.YtkkfifhaobjicaaGreatDoor
set_option maxRecDepth 100000
theorem zjb (f : Nat → Bys) : ∀ (ws : List (Nat × Bys)) (on : List Bys) (j : Nat), j < on.length → (∀ p ∈ ws, p.2 = f p.1) → (zd8 on ws)[j]? = if j ∈ ws.map (·.1) then some (f j) else on[j]?
 | [], _, _, _, _ => by simp [zd8]
 | p :: l, on, j, hj, h => by
  rw [zd8, zjb f l (on.set p.1 p.2) j (by rw [List.length_set]; exact hj) fun q hq => h q (.tail _ hq)]
  by_cases h1 : j ∈ l.map (·.1)
  ·rw [if_pos h1, if_pos (by rw [List.map_cons]; exact .tail _ h1)]
  ·rw [if_neg h1]
   by_cases h2 : p.1 = j
   ·rw [if_pos (by rw [List.map_cons, h2]; exact .head _), ← h2, List.getElem?_set_self (by rw [h2]; exact hj), h p (.head _)]
   ·rw [List.getElem?_set_ne h2, if_neg (by rw [List.map_cons, List.mem_cons]; rintro (h3 | h3); exact h2 h3.symm; exact h1 h3)]
def zhs (TS : List PR) (i : Nat) : Option Bys := TS.foldl (fun acc R => ((zma [] R).lookup i).or acc) none
theorem zjm (TS : List PR) (R : PR) (i : Nat) : zhs (TS ++ [R]) i = ((zma [] R).lookup i).or (zhs TS i) := by simp [zhs]
theorem zqa {A : PR} {p : Nat × Bys} (h : p ∈ zdw A) : A.lookup p.1 = some p.2 := by
 obtain ⟨i, hi, rfl⟩ := List.mem_map.1 h
 obtain ⟨b, hb⟩ := zkr (zi7.1 hi)
 simp only [hb, Option.getD_some]
theorem zms {A : PR} {i : Nat} : i ∈ (zdw A).map (·.1) ↔ (A.lookup i).isSome = true := by
 rw [zcf, zdw, List.map_map]
 have : ((fun x : Nat × Bys => x.1) ∘ fun i => (i, (A.lookup i).getD [])) = id := rfl
 rw [this, List.map_id]
 exact zi7
theorem qnk {secs : Nat} {A : PR} {on : List Bys} {i : Nat} (hi : 2 + secs + i < on.length) : (zd8 on (wsP secs A))[2 + secs + i]? = (A.lookup i).or on[2 + secs + i]? := by
 rw [zjb (fun j => (A.lookup (j - (2 + secs))).getD []) _ _ _ hi fun p hp => by
  obtain ⟨q, hq, rfl⟩ := List.mem_map.1 hp
  show q.2 = (A.lookup (2 + secs + q.1 - (2 + secs))).getD []
  rw [show 2 + secs + q.1 - (2 + secs) = q.1 by omega, zqa hq]
  rfl]
 have hk : (2 + secs + i ∈ (wsP secs A).map (·.1)) ↔ (A.lookup i).isSome = true := by
  rw [← zms, wsP, List.map_map]
  constructor
  ·intro h
   obtain ⟨q, hq, he⟩ := List.mem_map.1 h
   have he : 2 + secs + q.1 = 2 + secs + i := he
   exact List.mem_map.2 ⟨q, hq, by omega⟩
  ·intro h
   obtain ⟨q, hq, he⟩ := List.mem_map.1 h
   exact List.mem_map.2 ⟨q, hq, by show 2 + secs + q.1 = _; rw [he]⟩
 rw [show 2 + secs + i - (2 + secs) = i by omega]
 cases hl : A.lookup i with
 | none => rw [if_neg (fun h => by have := hk.1 h; rw [hl] at this; cases this)]; rfl
 | some b => rw [if_pos (hk.2 (by rw [hl]; rfl))]; rfl
theorem zkl : ∀ (a b : List (Nat × Bys)) (on : List Bys), zd8 on (a ++ b) = zd8 (zd8 on a) b
 | [], _, _ => rfl
 | p :: a, b, on => zkl a b _
theorem qoc {secs : Nat} {on : List Bys} {i : Nat} (hi : 2 + secs + i < on.length) (TS : List PR) : (zd8 on (wsO secs TS))[2 + secs + i]? = (zhs TS i).or on[2 + secs + i]? := by
 induction TS using qks with
 | h0 => rfl
 | hs TS R ih =>
  rw [ztk, zkl, qnk (by rw [zgf]; exact hi), ih, zjm, Option.or_assoc]
theorem zw6 {secs : Nat} : ∀ {TS : List PR} {p : Nat × Bys}, p ∈ wsO secs TS → ∃ i, p.1 = 2 + secs + i ∧ (zhs TS i).isSome = true ∧ ∃ R ∈ TS, (zma [] R).lookup i = some p.2 := fun {TS} => by
 induction TS using qks with
 | h0 => intro p h; cases h
 | hs TS R ih =>
  intro p h
  rw [ztk] at h
  rcases List.mem_append.1 h with h | h
  ·obtain ⟨i, h1, h2, R', h3, h4⟩ := ih h
   refine ⟨i, h1, ?_, R', List.mem_append_left _ h3, h4⟩
   rw [zjm]
   cases (zma [] R).lookup i with
   | none => exact h2
   | some b => rfl
  ·obtain ⟨q, hq, rfl⟩ := List.mem_map.1 h
   have := zqa hq
   refine ⟨q.1, rfl, ?_, R, List.mem_append_right _ (.head _), this⟩
   rw [zjm, this]
   rfl
/-! ### What the log's sectors tell: they and nothing else -/
theorem zrv {D D' : Dsk} {n : Nat} : ∀ (i : Nat), (∀ j, j < i → zch D (2 + j) = zch D' (2 + j)) → zbj D n i = zbj D' n i
 | 0, _ => rfl
 | i + 1, h => by
  rw [zbj, zbj, h i (by omega), zrv i fun j hj => h j (by omega)]
theorem qhz {D : Dsk} {h : Hd} {c : Nat} (hc : c = 0 ∨ c = 1) (h1 : zqm (zch D c) = true) (h2 : hdT (zch D c) = h) (h3 : zqm (zch D (1 - c)) = true → (hdT (zch D (1 - c))).gen < h.gen) : zdb D 2 = (h, (c : Int)) := by
 unfold zdb zdb zdb
 rcases hc with rfl | rfl
 ·have e1 : zie (zch D 0) (0 : Nat) (zyl, -1) = (h, 0) := by
   unfold zie
   rw [h1, h2]
   rfl
  rw [show ((0 : Nat) : Int) = 0 from rfl] at *
  unfold zie at e1 ⊢
  rw [e1]
  by_cases h4 : zqm (zch D 1) = true
  ·have : (hdT (zch D 1)).gen < h.gen := h3 h4
   rw [h4]
   simp
   omega
  ·simp [h4]
 ·have h3' : zqm (zch D 0) = true → (hdT (zch D 0)).gen < h.gen := h3
  by_cases h4 : zqm (zch D 0) = true
  ·have := h3' h4
   unfold zie
   simp [h4, h1, h2, this]
  ·unfold zie
   simp [h4, h1, h2]
end Go.Proofs.YtkkfifhaobjicaaGreatDoor
