/- package wal: Open. -/
/- package wal: does (whatever the function value is). -/
/- package wal: Trim. -/
/- package wal: Trim. -/
/- A range over a function whose rounds are zem as a history: iterators of an order that is not zem, and such as give items back. -/
import Derived.Test.YtkkfifhaobjicaaGreatDoorHb24
import Derived.Test.YtkkfifhaobjicaaGreatDoorHb12
namespace Go.Proofs.YtkkfifhaobjicaaGreatDoor
open Go.RowKit Go.Eng
set_option maxRecDepth 100000
set_option maxHeartbeats 40000000
def ztq (D : Dsk) (h : Hd) : List Bys := zcv (zbj D h.secs h.secs) ((zbj D h.secs h.secs).length + 1) h.first [] []
def zcp (D : Dsk) (h : Hd) (c : Nat) : Lg := ⟨h, c, ze4 (zgl D h.secs h.secs) h.first, h.secs, false⟩
theorem zx9 (d : Dk) (ok : d.D.Ok) (hlive : d.D.dead = false) (hwl : d.D.wait.length ≤ 1000000) (h2 : 2 ≤ d.D.on.length) (h : Hd) (c : Nat) (hlk : zdb d.D 2 = (h, (c : Int))) (hf : h.first < 18446744073709551616) (hs1 : 1 ≤ h.secs) (hs2 : 2 + h.secs ≤ d.D.on.length)
  (hne : ∀ p ∈ zbj d.D h.secs h.secs, p.2.text.length ≤ 497 ∧ p.2.text ≠ []) (w : World) (hw : ∀ it ∈ [dkI d, ctI], za2 it w) (ha : [dkI d, ctI].Pairwise Eng.Item.Apart) :
  Ct Tryz.prog 84 #[.pointer (some ⟨d.b, 0, none⟩)] w (zap [dkI d, ctI]) (fun y : Nat × Option (Nat × Nat) => .tuple #[.pointer (some ⟨y.1, 0, none⟩), slV y.2 (ztq d.D h).length, .int .i64 0]) (fun _ => True) (fun y => [lgI y.1 d (zcp d.D h c), own 9 1 y.2 (ztq d.D h).length (zfw (ztq d.D h)), dkI d, ctI]) := by
 refine zbd [_] _ Tryz.func84 rfl rfl hw ha ?_
 have hmany := ok.many
 simp only [zaa]
 refine goA ?_
 refine zae rfl (zba (pre := [dkI d, ctI]) rfl (by kernel_rfl) rfl (zb4 d) (fun w1 hw1 hh1 ha1 => zm2 d ok hlive (by omega) h2 w1 hh1 ha1)) fun ⟨_, _⟩ => ?_
 rw [hlk]
 refine goA ?_
 refine zan rfl rfl fun b5 hb5 => ?_
 refine za0 rfl (zai (cs' := hdA h) rfl rfl rfl rfl rfl rfl) fun _ => ?_
 refine goA ?_
 refine zaq [0, 1, 2] 16 rfl rfl (by kernel_rfl) ?_
 refine goE ?_
 refine zau 12 ⟨by kernel_rfl, by decide⟩ rfl rfl (zag rfl (by kernel_rfl) rfl (fun w1 hw1 => zha d w1 (za2.of (hw1.item (dkI d) (.tail _ (.head _))) (zad _)))) (fun _ _ h => goH h) fun _ => ?_
 refine goE ?_
 refine zbs (by kernel_rfl) ?_
 refine goA ?_
 refine ze5 rfl rfl (by kernel_rfl) rfl (fun w1 hw1 => zof d ok hlive (by omega) h.secs (by omega) hs2 w1 (za2.of (hw1.item (dkI d) (.tail _ (.head _))) (zad _)) (hw1.item ctI (.tail _ (.tail _ (.head _)))).1) fun x hx => ?_
 have hrk := zrk d.D h.secs h.secs
 have htn := zny d.D h.secs h.secs
 have hln := qa0 d.D h.secs h.secs
 have hG : zcp d.D h c = ⟨h, c, ze4 (zgl d.D h.secs h.secs) h.first, h.secs, false⟩ := rfl
 have hT : ztq d.D h = zcv (zbj d.D h.secs h.secs) ((zbj d.D h.secs h.secs).length + 1) h.first [] [] := rfl
 rw [hG, hT]
 generalize zbj d.D h.secs h.secs = B at hne htn hln ⊢
 rw [← htn] at hrk ⊢
 refine goA ?_
 refine zde [0, 2, 3, 1] rfl rfl ?_
 refine zaq [3] 18 rfl rfl (by kernel_rfl) ?_
 (repeat first | refine dAv [6] rfl rfl rfl ?_ | refine dno [6] rfl rfl rfl ?_ | refine dT [6] rfl rfl rfl rfl ?_ | refine dF [6] rfl rfl rfl rfl ?_)
 refine zau 6 ⟨by kernel_rfl, by decide⟩ rfl rfl (zba (pre := [zd6 .u64 x (toN B)]) rfl (by kernel_rfl) rfl (by intro it hm; rcases hm with _ | ⟨_, hm⟩ <;> first | exact za6 _ _ _ _ | exact (nomatch hm)) (fun w1 hw1 hh1 ha1 => zrh x (toN B) hrk h.first hf w1 hh1)) (fun _ _ h => goH h) fun ⟨_, _⟩ => ?_
 (repeat first | refine dAv [10, 14] rfl rfl rfl ?_ | refine dno [10, 14] rfl rfl rfl ?_ | refine dT [10, 14] rfl rfl rfl rfl ?_ | refine dF [10, 14] rfl rfl rfl rfl ?_)
 generalize ze4 (toN B) h.first = f
 refine zyg 56 _ (.agg (lgA d ⟨h, c, f, h.secs, false⟩)) rfl rfl ?_
 refine zsl 10 14 ⟨by kernel_rfl, by decide, by decide⟩ rfl rfl rfl rfl (qba (v := .agg (lgA d ⟨h, c, f, h.secs, false⟩)) rfl rfl) (zba (pre := [zd6 .u64 x (toN B)]) rfl (by kernel_rfl) rfl (by intro it hm; rcases hm with _ | ⟨_, hm⟩ <;> first | exact za6 _ _ _ _ | exact (nomatch hm)) (fun w1 hw1 hh1 ha1 => zo1 x B hne (by omega) h.first hf w1 hh1)) (fun _ _ h => goH h) (fun _ _ h => goH h) (fun ⟨b57, hb57⟩ => ?_) (fun ⟨o, ho⟩ => ?_)
 ·(repeat first | refine dAv [14] rfl rfl rfl ?_ | refine dno [14] rfl rfl rfl ?_ | refine dT [14] rfl rfl rfl rfl ?_ | refine dF [14] rfl rfl rfl rfl ?_)
  refine zau 14 ⟨by kernel_rfl, by decide⟩ rfl rfl (zak (zci _ _ _) (zba (pre := [zd6 .u64 x (toN B)]) rfl (by kernel_rfl) rfl (by intro it hm; rcases hm with _ | ⟨_, hm⟩ <;> first | exact za6 _ _ _ _ | exact (nomatch hm)) (fun w1 hw1 hh1 ha1 => zo1 x B hne (by omega) h.first hf w1 hh1))) (fun _ _ h => goH h) fun ⟨o, ho⟩ => ?_
  refine goE ?_
  refine zbs (by kernel_rfl) ?_
  refine goA ?_
  refine zb3 (m' := [lgI b57 d ⟨h, c, f, h.secs, false⟩, own 9 1 o (zcv B (B.length + 1) h.first [] []).length (zfw (zcv B (B.length + 1) h.first [] [])), dkI d, ctI]) (fun w' hw' => hw'.pick [2, 0, 3, 4] rfl rfl) (zvr (b57, o) rfl rfl rfl rfl rfl trivial (.refl _) ?_)
  intro it hm
  rcases hm with _ | ⟨_, _ | ⟨_, hm⟩⟩
  ·exact zac _ _ _
  ·exact zab _ _ _ _ _ _
  ·exact zb4 d it hm
 ·(repeat first | refine dAv [10] rfl rfl rfl ?_ | refine dno [10] rfl rfl rfl ?_ | refine dT [10] rfl rfl rfl rfl ?_ | refine dF [10] rfl rfl rfl rfl ?_)
  refine zau 10 ⟨by kernel_rfl, by decide⟩ rfl rfl (qba (v := .agg (lgA d ⟨h, c, f, h.secs, false⟩)) rfl rfl) (fun _ _ h => goH h) fun ⟨b57, hb57⟩ => ?_
  refine goE ?_
  refine zbs (by kernel_rfl) ?_
  refine goA ?_
  refine zb3 (m' := [lgI b57 d ⟨h, c, f, h.secs, false⟩, own 9 1 o (zcv B (B.length + 1) h.first [] []).length (zfw (zcv B (B.length + 1) h.first [] [])), dkI d, ctI]) (fun w' hw' => hw'.pick [0, 1, 3, 4] rfl rfl) (zvr (b57, o) rfl rfl rfl rfl rfl trivial (.refl _) ?_)
  intro it hm
  rcases hm with _ | ⟨_, _ | ⟨_, hm⟩⟩
  ·exact zac _ _ _
  ·exact zab _ _ _ _ _ _
  ·exact zb4 d it hm
theorem qbl {α : Type} {f : FuncId} {cs : List Value} (hb : zb9 Tryz.prog f = true) (b : Nat) (d : Dk) (g : Lg) (hg : g.dead = false) (rest : List Eng.Item) (e : α → Nat) (φ : α → Prop) (d' : α → Dk) (g' : α → Lg) (its : α → List Eng.Item)
  (hrs : ∀ it ∈ rest, it.Stable none') (his : ∀ x, ∀ it ∈ its x, it.Stable none')
  (hc : ∀ w1, (∀ it ∈ lgI b d g :: rest, za2 it w1) → (lgI b d g :: rest).Pairwise Eng.Item.Apart → Ct Tryz.prog f cs.toArray w1 (zap (lgI b d g :: rest)) (fun x => .int .i64 (e x : Nat)) φ (fun x => lgI b (d' x) (g' x) :: its x))
  (w : World) (hw : ∀ it ∈ lgI b d g :: rest, za2 it w) (ha : (lgI b d g :: rest).Pairwise Eng.Item.Apart) :
  Ct Tryz.prog 137 #[.pointer (some ⟨b, 0, none⟩), .func (.func f) #[] cs.toArray] w (zap (lgI b d g :: rest)) (fun x => .int .i64 (e x : Nat)) φ (fun x => lgI b (d' x) { g' x with dead := decide (e x = 4) } :: its x) := by
 refine zbd [_, _] _ Tryz.func137 rfl rfl hw ha ?_
 have hst : ∀ it ∈ lgI b d g :: rest, it.Stable none' := by
  intro it hm
  rcases hm with _ | ⟨_, hm⟩
  ·exact zac _ _ _
  ·exact hrs it hm
 simp only [zaa, Nat.reduceAdd]
 refine goA ?_
 rw [hg]
 refine goA ?_
 refine ze1 (m' := (lgI b d g :: rest) ++ []) (fun w' hw' => by rw [List.append_nil]; exact hw') ?_
 refine zae rfl (qhk (pre := lgI b d g :: rest) (fs := []) (cs := cs) (vs := []) rfl hb rfl rfl rfl hst (fun w1 hw1 hh1 ha1 => hc w1 hh1 ha1)) fun ⟨x, hx⟩ => ?_
 dsimp only
 refine goA ?_
 have e14 : (((e x : Nat) : Int) == 4) = decide (e x = 4) := by
  by_cases h : e x = 4
  ·rw [h, decide_eq_true rfl]; rfl
  ·rw [decide_eq_false h]; exact beq_eq_false_iff_ne.2 (fun hh => h (by omega))
 rw [e14]
 refine ze1 (m' := lgI b (d' x) (g' x) :: its x) (fun w' hw' => by rw [List.append_nil] at hw'; exact hw') ?_
 refine za0 rfl (zaj rfl rfl rfl rfl rfl rfl (show (8 : Nat) < 9 from by decide)) fun _ => ?_
 refine goA ?_
 exact zbw x rfl rfl rfl hx (.refl _) (by
  intro it hm
  rcases hm with _ | ⟨_, hm⟩
  ·exact zac _ _ _
  ·exact his x it hm)
abbrev qeq (bl b : Nat) : Eng.Item := pt bl (.cells #[.pointer (some ⟨b, 0, none⟩)] 90 (0, 0))
def zbv (g : Lg) : Hd := ⟨(g.h.gen + 1) % 18446744073709551616, g.next, g.h.secs, g.h.note⟩
def zkg (g : Lg) (D : Dsk) : Lg := if (zbx D (za3 g.at_) (zbv g)).1 = 0 then { g with h := zbv g, at_ := za3 g.at_, used := 0 } else g
theorem zw1 (bl b : Nat) (d : Dk) (g : Lg) (ok : d.D.Ok) (hkl : d.D.keep.length ≤ 1000000) (hwl : d.D.wait.length ≤ 1000000) (hg : g.h.Ok) (hnx : g.next < 18446744073709551616) (hat : g.at_ = 0 ∨ g.at_ = 1) (w : World)
  (hw : ∀ it ∈ [lgI b d g, qeq bl b, dkI d, ctI], za2 it w) (ha : [lgI b d g, qeq bl b, dkI d, ctI].Pairwise Eng.Item.Apart) :
  Ct Tryz.prog 138 #[.pointer (some ⟨bl, 0, none⟩)] w (zap [lgI b d g, qeq bl b, dkI d, ctI]) (fun _ : Dk => .int .i64 ((zbx d.D (za3 g.at_) (zbv g)).1 : Nat)) (zjq d (zbx d.D (za3 g.at_) (zbv g)).2) (fun d' => [lgI b d' (zkg g d.D), qeq bl b, dkI d', ctI]) := by
 refine zbd [_] _ Tryz.func138 rfl rfl hw ha ?_
 obtain ⟨⟨gen, first, secs, note⟩, at_, next, used, dead⟩ := g
 obtain ⟨hgen, hfirst, hsecs, hnote⟩ := hg
 simp only at hgen hfirst hsecs hnote hnx hat
 simp only [zaa]
 refine goA ?_
 refine zaq [0, 1, 2, 3] 23 rfl rfl (by kernel_rfl) ?_
 (repeat first | refine dAv [5] rfl rfl rfl ?_ | refine dno [5] rfl rfl rfl ?_ | refine dT [5] rfl rfl rfl rfl ?_ | refine dF [5] rfl rfl rfl rfl ?_)
 refine d_v [21] rfl rfl (by kernel_rfl) (fun _ h => goH h) rfl rfl (zj8 (a := gen) (b := 1) rfl rfl) ?_
 (repeat first | refine dAv [21] rfl rfl rfl ?_ | refine dno [21] rfl rfl rfl ?_ | refine dT [21] rfl rfl rfl rfl ?_ | refine dF [21] rfl rfl rfl rfl ?_)
 refine zyg 24 _ (.agg (hdA ⟨(gen + 1) % 18446744073709551616, next, secs, note⟩)) rfl rfl ?_
 have hgm : (gen + 1) % 18446744073709551616 < 18446744073709551616 := Nat.mod_lt _ (by decide)
 have htH : zbv ⟨⟨gen, first, secs, note⟩, at_, next, used, dead⟩ = ⟨(gen + 1) % 18446744073709551616, next, secs, note⟩ := rfl
 simp only [zkg, htH]
 generalize (gen + 1) % 18446744073709551616 = gm at hgm ⊢
 refine zau 21 ⟨by kernel_rfl, by decide⟩ rfl rfl (zo5 rfl rfl) (fun _ _ h => goH h) fun ⟨b2, hb2⟩ => ?_
 refine goE ?_
 refine zau 22 ⟨by kernel_rfl, by decide⟩ rfl rfl (zai (cs' := hdA ⟨gm, next, secs, note⟩) rfl rfl rfl rfl rfl rfl) (fun _ _ h => goH h) fun _ => ?_
 refine zbs (by kernel_rfl) ?_
 refine goA ?_
 refine zde [3, 4, 0, 1, 2] rfl rfl ?_
 refine zaq [2, 3, 4] 12 rfl rfl (by kernel_rfl) ?_
 refine goE ?_
 refine zau 8 ⟨by kernel_rfl, by decide⟩ rfl rfl (zag rfl (by kernel_rfl) rfl (fun w1 hw1 => zjy (at_ : Int) (by omega) w1)) (fun _ _ h => goH h) fun _ => ?_
 refine goE ?_
 have hof : za3 (at_ : Int) < 9223372036854775808 := by unfold za3; split <;> decide
 simp only
 generalize hoe : za3 (at_ : Int) = oa at hof ⊢
 refine zau 10 ⟨by kernel_rfl, by decide⟩ rfl rfl (zba (pre := [dkI d, ctI]) rfl (by kernel_rfl) rfl (zb4 d) (fun w1 hw1 hh1 ha1 => zo4 d ok hkl hwl oa hof ⟨gm, next, secs, note⟩ ⟨hgm, hnx, hsecs, hnote⟩ w1 hh1 ha1)) (fun _ _ h => goH h) fun ⟨d', hd'⟩ => ?_
 refine goE ?_
 refine zbs (by kernel_rfl) ?_
 dsimp only
 generalize hwr : zbx d.D oa ⟨gm, next, secs, note⟩ = r at hd' ⊢
 obtain ⟨hd1, hd2, hd3⟩ := hd'
 refine goA ?_
 have hlg : ∀ g : Lg, lgI b d g = lgI b d' g := fun g => by unfold lgI lgA; rw [hd1]
 have hsts : ∀ g : Lg, ∀ it ∈ [lgI b d' g, qeq bl b, dkI d', ctI], it.Stable none' := by
  intro g it hm
  rcases hm with _ | ⟨_, _ | ⟨_, hm⟩⟩
  ·exact zac _ _ _
  ·exact zac _ _ _
  ·exact zb4 d' it hm
 by_cases he : r.1 = 0
 ·rw [he]
  refine goA ?_
  refine zde [3, 2, 4, 0, 1] rfl rfl ?_
  refine zaq [1, 2, 3, 4] 18 rfl rfl (by kernel_rfl) ?_
  refine goE ?_
  refine zau 7 ⟨by kernel_rfl, by decide⟩ rfl rfl (qey rfl (zc6 rfl rfl (.head _) rfl)) (fun _ _ h => goH h) fun _ => ?_
  refine goE ?_
  refine zau 8 ⟨by kernel_rfl, by decide⟩ rfl rfl (zag rfl (by kernel_rfl) rfl (fun w1 hw1 => zjy (at_ : Int) (by omega) w1)) (fun _ _ h => goH h) fun _ => ?_
  rw [hoe]
  refine goE ?_
  refine zau 11 ⟨by kernel_rfl, by decide⟩ rfl rfl (zhe (V := [.int .u64 (gm : Int), .int .u64 (next : Int), .int .i64 (secs : Int), .string ⟨note.toArray⟩]) rfl rfl rfl rfl rfl rfl (show (1 + 4 : Nat) ≤ 9 from by decide)) (fun _ _ h => goH h) fun _ => ?_
  refine goE ?_
  refine zau 14 ⟨by kernel_rfl, by decide⟩ rfl rfl (zaj rfl rfl rfl rfl rfl rfl (show (5 : Nat) < 9 from by decide)) (fun _ _ h => goH h) fun _ => ?_
  refine goE ?_
  refine zau 17 ⟨by kernel_rfl, by decide⟩ rfl rfl (zaj rfl rfl rfl rfl rfl rfl (show (7 : Nat) < 9 from by decide)) (fun _ _ h => goH h) fun _ => ?_
  refine zbs (by kernel_rfl) ?_
  simp only [if_true]
  refine goA ?_
  refine zb3 (m' := [lgI b d' ⟨⟨gm, next, secs, note⟩, oa, next, 0, dead⟩, qeq bl b, dkI d', ctI]) (fun w' hw' => by rw [← hlg]; exact hw'.pick [0, 2, 3, 4] rfl rfl) (zbw d' rfl rfl rfl ⟨hd1, hd2, hd3⟩ (.refl _) (hsts _))
 ·have hne : ((r.1 : Int) != 0) = true := by simp [he]
  rw [hne]
  simp only [if_neg he]
  refine goA ?_
  refine zb3 (m' := [lgI b d' ⟨⟨gen, first, secs, note⟩, at_, next, used, dead⟩, qeq bl b, dkI d', ctI]) (fun w' hw' => by rw [← hlg]; exact hw'.pick [3, 4, 0, 1] rfl rfl) (zbw d' rfl rfl rfl ⟨hd1, hd2, hd3⟩ (.refl _) (hsts _))
theorem qaw (b : Nat) (d : Dk) (g : Lg) (ok : d.D.Ok) (hkl : d.D.keep.length ≤ 1000000) (hwl : d.D.wait.length ≤ 1000000) (hg : g.h.Ok) (hnx : g.next < 18446744073709551616) (hat : g.at_ = 0 ∨ g.at_ = 1) (hdead : g.dead = false) (w : World)
  (hw : ∀ it ∈ [lgI b d g, dkI d, ctI], za2 it w) (ha : [lgI b d g, dkI d, ctI].Pairwise Eng.Item.Apart) :
  Ct Tryz.prog 95 #[.pointer (some ⟨b, 0, none⟩)] w (zap [lgI b d g, dkI d, ctI]) (fun _ : Dk => .int .i64 ((zbx d.D (za3 g.at_) (zbv g)).1 : Nat)) (zjq d (zbx d.D (za3 g.at_) (zbv g)).2) (fun d' => [lgI b d' { zkg g d.D with dead := decide ((zbx d.D (za3 g.at_) (zbv g)).1 = 4) }, dkI d', ctI]) := by
 refine zbd [_] _ Tryz.func95 rfl rfl hw ha ?_
 simp only [zaa]
 refine goA ?_
 refine zd2 rfl rfl rfl fun bl _ => ?_
 refine goA ?_
 refine l_w rfl (znm rfl) ?_
 refine za1 [1, 0, 2, 3] rfl rfl ?_
 have hst : ∀ (d1 : Dk) (g1 : Lg), ∀ it ∈ [lgI b d1 g1, qeq bl b, dkI d1, ctI], it.Stable none' := by
  intro d1 g1 it hm
  rcases hm with _ | ⟨_, _ | ⟨_, hm⟩⟩
  ·exact zac _ _ _
  ·exact zac _ _ _
  ·exact zb4 d1 it hm
 refine zae rfl (zba (pre := [lgI b d g, qeq bl b, dkI d, ctI]) rfl (by kernel_rfl) rfl (hst d g) (fun w1 hw1 hh1 ha1 => qbl (f := 138) (cs := [.pointer (some ⟨bl, 0, none⟩)]) (by kernel_rfl) b d g hdead [qeq bl b, dkI d, ctI] (fun _ : Dk => (zbx d.D (za3 g.at_) (zbv g)).1) (zjq d (zbx d.D (za3 g.at_) (zbv g)).2) (fun d' => d') (fun _ => zkg g d.D) (fun d' => [qeq bl b, dkI d', ctI]) (fun it hm => hst d g it (.tail _ hm)) (fun d' it hm => hst d' g it (.tail _ hm)) (fun w2 hh2 ha2 => zw1 bl b d g ok hkl hwl hg hnx hat w2 hh2 ha2) w1 hh1 ha1)) fun ⟨d', hd'⟩ => ?_
 refine goA ?_
 exact zbw d' rfl rfl rfl hd' (.cons_cons _ (.cons _ (.refl _))) (fun it hm => hst d' _ it (by
  rcases hm with _ | ⟨_, hm⟩
  ·exact .head _
  ·exact .tail _ (.tail _ hm)))
end Go.Proofs.YtkkfifhaobjicaaGreatDoor
namespace Go.Eng
open Go.RowKit
section
variable {P : Program} {Q : Exit → Act → World → Prop} {l : zat} {w0 : World} {F : Nat → Prop} {m : List Item} {fn : Func} {R : Ending → World → Prop}
def qf0 (P : Program) (gf : FuncId) (cs : List Value) (mi mo : List Item) {α : Type} (E : List α → α → Prop) (S : List α → Prop) (enc : α → List Value) : Prop :=
 ∀ (σ : Type) (ly : Nat) (Y : σ → Item) (I : List α → σ → Prop) (J : σ → Prop) (s0 : σ) (w : World), (∀ s, (Y s).Stable none') → I [] s0 →
  (∀ k x s, E k x → I k s → Yd P ly Y s (enc x).toArray fun b s' => (b = true ∧ I (k ++ [x]) s') ∨ (b = false ∧ J s')) →
  (∀ it ∈ Y s0 :: mi, za2 it w) → (Y s0 :: mi).Pairwise Item.Apart →
  Calls P gf (.func (.yield ly) #[] #[] :: cs).toArray w fun e w' => (∃ v, e = .returned v) ∧ ∃ s, ((∃ k, S k ∧ I k s) ∨ J s) ∧ Its (zap (Y s0 :: mi)) w (Y s :: mo) w'
theorem qi4 {gx : Operand} {ps : Array Tmp} {assign body : Code} {n : Nat} {ds : List Deferred} {gf : FuncId} {cs : List Value} {mi mo m2 : List Item} {α : Type} {E : List α → α → Prop} {S : List α → Prop} {enc : α → List Value} {σ : Type} (B : σ → List Item) (I : List α → σ → Prop) (J : Code → σ → Prop) (s0 : σ)
  (hg : evO l gx = some (.func (.func gf) #[] cs.toArray)) (hk : zek l gx = true) (hb : zb9 P gf = true) (hit : qf0 P gf cs mi mo E S enc) (hps : ∀ x, ((enc x).length = ps.size)) (hpn : ∀ p ∈ ps.toList, p < n)
  (hst : ∀ s, ∀ it ∈ B s, it.Stable none') (hmi : ∀ it ∈ mi, it.Stable none') (h0 : I [] s0)
  (hround : ∀ ly rc k x s W, E k x → I k s → HT P assign (zxa P ly body (qiq ly rc B (fun _ => I (k ++ [x])) (fun c => J (c.getD .skip)) (pt ly (rc.at .ready none) :: B s) W)) ⟨n, [], some ly⟩ (zm7 (ps.toList.zip (enc x)) l)
   (Hp W (zap (pt ly (rc.at .ready none) :: B s)) (pt ly (rc.at .ready none) :: B s)))
  (hdone : ∀ D k s, S k → I k s → HX Q .normal ⟨n, zej D :: ds, none⟩ l (Hp w0 F (pt D (.deferred (some [])) :: (B s ++ (mo ++ m2)))))
  (hstop : ∀ D c s, J c s → HT P c Q ⟨n, zej D :: ds, none⟩ l (Hp w0 F (pt D (.deferred (some [])) :: (B s ++ (mo ++ m2))))) :
  HT P (.rangeFunc gx ps assign body) Q ⟨n, ds, none⟩ l (Hp w0 F (B s0 ++ (mi ++ m2))) := by
 unfold HT HX at *
 intro a w st hw
 refine wpIn_rangeFunc fun fn _ => ?_
 obtain ⟨rc, hrc⟩ : ∃ rc : Rc, rc = ⟨fn, a.tmps, ps, assign, body, w.heap.size⟩ := ⟨_, rfl⟩
 obtain ⟨ly, hly⟩ : ∃ ly, ly = w.heap.size + 1 := ⟨_, rfl⟩
 obtain ⟨W1, hW1⟩ : ∃ W1, (w.alloc (.deferred (some []))).alloc (rc.at .ready none) = W1 := ⟨_, rfl⟩
 have hH1 : Hp w0 F (pt ly (rc.at .ready none) :: pt w.heap.size (.deferred (some [])) :: (B s0 ++ (mi ++ m2))) W1 := by
  have := (hw.alloc (.deferred (some []))).alloc (rc.at .ready none)
  rw [hW1] at this
  simpa [hly] using this
 obtain ⟨Y, hY⟩ : ∃ Y : σ × Option Code → Item, ∀ s, Y s = zgu (pt ly (rc.at (if s.2.isNone then .ready else .done) s.2) :: B s.1) := ⟨_, fun _ => rfl⟩
 have hLs : ∀ s st pe, ∀ it ∈ pt ly (rc.at st pe) :: B s, it.Stable none' := fun s st pe it hm => (List.mem_cons.1 hm).elim (fun h => h ▸ zac _ _ _) (hst s it)
 have hmarks : ({ a with defers := [zej w.heap.size] ++ a.defers } : Act).defers = zej w.heap.size :: ds := by simp [st.defers]
 have st' : St ⟨n, zej w.heap.size :: ds, none⟩ l { a with defers := [zej w.heap.size] ++ a.defers } := ⟨st.size, hmarks, st.slot⟩
 have hH2 : Hp w0 F ((pt ly (rc.at .ready none) :: B s0) ++ (mi ++ (pt w.heap.size (.deferred (some [])) :: m2))) W1 := by
  refine hH1.perm ?_
  refine (List.Perm.cons _ ?_)
  refine ((List.perm_middle (l₁ := B s0 ++ mi) (l₂ := m2) (a := pt w.heap.size (.deferred (some [])))).symm.trans ?_ : (pt w.heap.size (.deferred (some [])) :: (B s0 ++ mi ++ m2)).Perm _) |> fun h => by simpa using h
  simp
 have hHere : ∀ it ∈ Y (s0, none) :: mi, za2 it W1 := by
  intro it hm
  rcases List.mem_cons.1 hm with rfl | hm
  ·rw [hY]
   refine zki (fun it hm => ?_) (List.pairwise_append.1 hH2.apart).1
   have hin := hH2.item it (List.mem_append_left _ hm)
   exact ⟨hin.1, hLs _ _ _ it hm, fun k hk => (hin.2.2 k hk).1⟩
  ·have hin := hH2.item it (List.mem_append_right _ (List.mem_append_left _ hm))
   exact ⟨hin.1, hmi it hm, fun k hk => (hin.2.2 k hk).1⟩
 have hAp : (Y (s0, none) :: mi).Pairwise Item.Apart := by
  have h1 := List.pairwise_append.1 hH2.apart
  refine List.pairwise_cons.2 ⟨fun y hy k hk hky => ?_, (List.pairwise_append.1 h1.2.1).1⟩
  rw [hY] at hk
  obtain ⟨x, hx, hkx⟩ := hk
  exact h1.2.2 x hx y (List.mem_append_left _ hy) k hkx hky
 refine ⟨ly, [zej w.heap.size], W1, { target := .fn (.func gf) cs.toArray, args := #[.func (.yield ly) #[] #[]] }, W1, gf, (.func (.yield ly) #[] #[] :: cs).toArray, W1, ?_, ?_, fun _ _ => trivial, ?_, zjw _, ?_⟩
 ·rw [← hW1, hrc, hly]; exact run_enterLoop_outer _ _ _ _ _
 ·have : a.eval gx = .func (.func gf) #[] cs.toArray := by rw [st.eval hk, zax hg]
  simp only [resolve, this]
  simp [go_sem]
 ·simp [invoke, zdo hb]
 ·refine (callsIn_wide (n := 0)).2 ((hit (σ × Option Code) ly Y (fun k s => s.2 = none ∧ I k s.1) (fun s => ∃ c, s.2 = some c ∧ J c s.1) (s0, none) W1 (fun s => by rw [hY]; exact zad _) ⟨rfl, h0⟩ ?_ hHere hAp).mono ?_)
  ·rintro k x ⟨s, pe⟩ hx ⟨rfl, hI⟩ W hW
   rw [hY] at hW
   have hrec : W.heap[ly]? = some (rc.at .ready none) := (hW.1.1 (pt ly (rc.at .ready none)) (by simp)).1
   refine ⟨fn, (ps.toList.zip (enc x)).foldl (fun t (p, v) => t.setIfInBounds p v) a.tmps, assign, body, ?_, ?_⟩
   ·have := run_yield (P := P) (args := (enc x).toArray) hrec (by simpa [hrc] using hps x)
    rw [this, hrc]
    exact congrArg (fun T => Result.ok (Next.round ly fn T assign body) W) (qdr ps (enc x) _)
   ·have s1 : St ⟨n, [], some ly⟩ l { tmps := a.tmps, defers := [] } := ⟨st.size, rfl, st.slot⟩
    have s2 := St.round (ps.toList.zip (enc x)) s1 (fun p hp => hpn _ (List.of_mem_zip (a := p.1) (b := p.2) hp).1)
    have h1 := hround ly rc k x s W hx hI _ W s2 (.begin hW.1.1 hW.1.2 _ fun k hk => hk)
    refine RoundIn.mono (roundIn_of_wpIn (n := 0) (F := Fence.wide) trivial h1) ?_
    rintro e w' ⟨pe, s', he, hJ, hi⟩
    refine ⟨pe.isNone, (s', pe), he, ?_, by rw [hY, hY]; exact hi⟩
    cases pe with
    | none => exact .inl ⟨rfl, rfl, hJ⟩
    | some c => exact .inr ⟨rfl, c, rfl, hJ⟩
  ·rintro e w3 ⟨⟨v, rfl⟩, ⟨s, pe⟩, hs, hi⟩
   have h3 : Hp w0 F ((Y (s, pe) :: mo) ++ (pt w.heap.size (.deferred (some [])) :: m2)) w3 := by
    refine Hp.call (m := (pt ly (rc.at .ready none) :: B s0) ++ mi) (by simpa using hH2) hi fun k _ ⟨it, hm, hk⟩ => ?_
    rcases List.mem_cons.1 hm with rfl | hm
    ·rw [hY] at hk
     obtain ⟨x, hx, hkx⟩ := hk
     exact ⟨x, List.mem_append_left _ hx, hkx⟩
    ·exact ⟨it, List.mem_append_right _ hm, hk⟩
   rw [hY] at h3
   have h4 := Hp.open1 (L := pt ly (rc.at (if pe.isNone then .ready else .done) pe) :: B s) (m := mo ++ (pt w.heap.size (.deferred (some [])) :: m2)) h3
   have h5 := h4.put (m := B s ++ (mo ++ (pt w.heap.size (.deferred (some [])) :: m2))) (rc.at .exhausted pe)
   have h6 : Hp w0 F (pt w.heap.size (.deferred (some [])) :: (B s ++ (mo ++ m2))) (w3.putObj ly (rc.at .exhausted pe)) := by
    refine (h5.sub (List.sublist_cons_self _ _)).perm ?_
    rw [← List.append_assoc, ← List.append_assoc]
    exact List.perm_middle
   have hend := run_endLoop (P := P) (h4.get (b := ly) (o := rc.at (if pe.isNone then .ready else .done) pe) (by simp)) (by cases pe <;> simp)
   refine ⟨pe, _, hend, ?_⟩
   cases pe with
   | none =>
    obtain ⟨k, hk1, -, hk2⟩ := hs.resolve_right fun ⟨c, hc, _⟩ => by cases hc
    exact hdone _ k s hk1 hk2 _ _ st' h6
   | some c => exact hstop _ c s ((hs.resolve_left fun ⟨k, hk1, h, _⟩ => by cases h).elim fun c' h => by cases h.1; exact h.2) _ _ st' h6
def zoi {σ : Type} (w : World) (Fc : Nat → Prop) (Y : σ → Item) (mo : List Item) (φ : σ → Prop) : Ending → World → Prop := fun e w' => (∃ v, e = .returned v) ∧ ∃ s, φ s ∧ Its Fc w (Y s :: mo) w'
theorem qhy {gf : FuncId} {c : Code} (cs : List Value) (mi mo : List Item) {α : Type} (E : List α → α → Prop) (S : List α → Prop) (enc : α → List Value) (hf : P.funcs[gf]? = some fn) (hb : fn.body = some c) (hn : Nat.ble (cs.length + 1) fn.ntmps = true)
  (h : ∀ (σ : Type) (ly : Nat) (Y : σ → Item) (I : List α → σ → Prop) (J : σ → Prop) (s0 : σ) (w : World), (∀ s, (Y s).Stable none') → I [] s0 →
   (∀ k x s, E k x → I k s → Yd P ly Y s (enc x).toArray fun b s' => (b = true ∧ I (k ++ [x]) s') ∨ (b = false ∧ J s')) →
   HT P c (bodyPost P fn (zoi w (zap (Y s0 :: mi)) Y mo fun s => (∃ k, S k ∧ I k s) ∨ J s)) ⟨fn.ntmps, [], none⟩ (zaa 0 (.func (.yield ly) #[] #[] :: cs)) (Hp w (zap (Y s0 :: mi)) (Y s0 :: mi))) : qf0 P gf cs mi mo E S enc :=
 fun σ ly Y I J s0 w hst h0 hy hh ha => zn4 hf hb hn (Hp w (zap (Y s0 :: mi)) (Y s0 :: mi)) (.begin hh ha _ fun _ h => h) (h σ ly Y I J s0 w hst h0 hy)
theorem qkm {n : Nat} {σ : Type} {Y : σ → Item} {mo : List Item} {φ : σ → Prop} (s : σ) (hf : fn.results = #[]) (hφ : φ s) (hst : ∀ it ∈ Y s :: mo, it.Stable none') (hs : (Y s :: mo).Sublist m) : HX (bodyPost P fn (zoi w0 F Y mo φ)) .ret ⟨n, [], none⟩ l (Hp w0 F m) :=
 qj1 hf fun _ hw => ⟨⟨_, rfl⟩, s, hφ, hw.its hs hst⟩
theorem qhw {n : Nat} {σ : Type} {Y : σ → Item} {mo : List Item} {φ : σ → Prop} (s : σ) (hf : fn.results = #[]) (hφ : φ s) (hst : ∀ it ∈ Y s :: mo, it.Stable none') (hs : (Y s :: mo).Sublist m) : HX (bodyPost P fn (zoi w0 F Y mo φ)) .normal ⟨n, [], none⟩ l (Hp w0 F m) :=
 zze hf fun _ hw => ⟨⟨_, rfl⟩, s, hφ, hw.its hs hst⟩
theorem qf6 {f : FuncId} {c : Code} (vs : List Value) (pre : List Item) {α : Type} {val : α → Value} {φ : α → Prop} {its : α → List Item} (hf : P.funcs[f]? = some fn) (hb : fn.body = some c) (hn : Nat.ble vs.length fn.ntmps = true)
  (hp : ∀ it ∈ pre, za2 it w0) (ha : pre.Pairwise Item.Apart)
  (h : HT P c (zoj P fn (zkv w0 (zap pre) val φ its)) ⟨fn.ntmps, [], none⟩ (zaa 0 vs) (Hp w0 (zap pre) pre)) : Ct P f vs.toArray w0 (zap pre) val φ its :=
 by unfold Ct; exact zv7 hf hb hn (Hp w0 (zap pre) pre) (.begin hp ha _ fun _ h => h) h
end
end Go.Eng
