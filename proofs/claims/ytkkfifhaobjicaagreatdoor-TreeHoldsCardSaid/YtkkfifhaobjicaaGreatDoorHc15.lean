/- law 10: TreeHolds. Own work; no condition. -/
import Derived.Test.YtkkfifhaobjicaaGreatDoorHc14
namespace Go.Proofs.YtkkfifhaobjicaaGreatDoor
open Go.RowKit Go.Eng Go.Eng.Bm Go.Eng.Tr
set_option maxRecDepth 100000
set_option maxHeartbeats 40000000
theorem qe2 {s : Sh} : ∀ {h : Nat} (t : T h), Wd s t → ∀ x ∈ ents t, x.1.length = s.kw
 | 0, _, hW, x, hx => (hW x hx).1
 | _ + 1, (_, _, kids), hW, x, hx => by
  obtain ⟨y, hy, hxy⟩ := cB.1 (show x ∈ kids.flatMap ents from hx)
  exact qe2 y (hW.2 y hy) x hxy
theorem qim {n : Nat} {r : Rt} (hr : zxi (zax n) r) : ∀ x ∈ za2 r, x.1.length = (zax n).kw := by
 match r, hr with
 | none, _ => exact fun x hx => nomatch hx
 | some ⟨_, t⟩, hr => exact qe2 t (show TOk (zax n) t from hr).wd
theorem zw1 (n : Nat) (hn : n < 256) (L : List A10) (hok : ∀ x ∈ L, x.Ok) (a : Option Addr) (c : Nat) (w : World) (hr : Rd w a (zc4 A10.vs L)) (hap : ∀ b off, a = some ⟨b, off, none⟩ → L ≠ [] → ¬ zan [ctI, tzI] b) (hw : ∀ it ∈ [ctI, tzI], za1 it w) (ha : [ctI, tzI].Pairwise Eng.Item.Apart) :
  Ct Tryz.prog 5 #[.int .u8 (n : Int), .slice a L.length c] w (zan [ctI, tzI]) (fun _ : Unit => .bool true) (fun _ => True) (fun _ => [ctI, tzI]) := by
 refine zbb [_, _] _ Tryz.func5 rfl rfl hw ha ?_
 simp only [zaa, Nat.reduceAdd]
 refine goA ?_
 refine lPu rfl (fun w1 hw1 => zx9 n hn a L.length c w1) ?_
 refine goA ?_
 cases hgr : (decide (400 < L.length) || (decide (60 < L.length) && decide ((zax n).cap < 6))) with
 | true =>
  refine goA ?_
  refine lCu [ctI, tzI] rfl zgg (fun w1 hw1 hh1 ha1 => znr w1 hh1 ha1) fun ⟨_, _⟩ => ?_
  refine goA ?_
  exact zbs () rfl rfl rfl trivial (.refl _) zgg
 | false =>
  obtain ⟨hl, h6⟩ := qe8 hgr
  refine goA ?_
  refine lCu [ctI, tzI] rfl zgg (fun w1 hw1 hh1 ha1 => zlz n hn w1 hh1 ha1) fun ⟨⟨cc, xb, s, o⟩, g, h⟩ => ?_
  have h : zky cc n none g s := h
  simp only
  refine goA ?_
  refine zcp (α := Nat × Rt × Pg × Om) (fun y => [(1, .slice a L.length c), (5, .pointer (some ⟨xb, 0, none⟩)), (7, .int .i64 (y.1 : Nat))]) (fun y => y.1 ≤ L.length ∧ (∃ g, zky cc n y.2.1 g y.2.2.1) ∧ (za2 y.2.1).length ≤ y.1) (fun y => tsL cc xb y.2.1 y.2.2.1 y.2.2.2 ++ [ctI]) (fun y => L.length - y.1) (0, none, s, o) ⟨rfl, rfl, rfl, trivial⟩ ⟨aV _, ⟨g, h⟩, aX _⟩ (fun w' hw' => by rw [bA] at hw'; exact hw') fun ⟨i, r, s, o⟩ ⟨hi, ⟨g, h⟩, he⟩ => ?_
  simp only at hi h he ⊢
  by_cases hil : i < L.length
  ·obtain ⟨b, off, rfl, hri⟩ := qd7 hr hil
   have hF := hap b off rfl (fun h => by subst h; exact absurd hil (fC _))
   obtain ⟨o1, o2, o3⟩ := hok _ (aR hil)
   generalize L[i] = t at hri o1 o2 o3
   refine goA ?_
   refine l_w rfl (zft (xs := t.vs) (c := #[.int .u8 t.d, .int .u16 t.k, .int .u16 t.v]) rfl rfl (fun w' hw' => zbe hri hF hw') rfl) ?_
   refine lCu (tsL cc xb r s o) rfl (zd2 cc xb r s o) (fun w1 hw1 hh1 ha1 => zqe n (k0 := L.length) xb o h hl h6 oQ t.d t.k t.v o2 o3 w1 hh1 ha1) fun ⟨⟨r', s', o'⟩, ⟨g', h'⟩, he'⟩ => ?_
   simp only at h' he' ⊢
   have hel : (za2 r').length ≤ i + 1 := by have := qib t.d (zi9 t.k (zax n).kw) (zi9 t.v (zax n).vw) (za2 r); rw [he']; omega
   have hck := h'.check (k0 := L.length) hl h6 oQ
   unfold tsL
   simp only [aE, aI]
   refine goA ?_
   refine za0 [1, 0, 2, 3, 4] rfl rfl ?_
   refine lCu [tmI cc (zfj r' : Nat) s'] rfl (zae cc _ s') (fun w1 hw1 hh1 ha1 => zz6 h'.tok _ hck oQ (by have := (zza hl h6 r' h'.rt oQ).1; omega) w1 hh1) fun ⟨s2, hs2⟩ => ?_
   have hs2 : Tok cc g' s2 := hs2
   simp only [aE, aI]
   refine zd4 (fun w hw => (zas (hw.item (own 9 1 o'.1 (za2 r').length ((za2 r').map fun y => kV y.1)) mm).1).1) fun f1 => ?_
   unfold stC
   rw [f1]
   refine goA ?_
   refine lCu [tmI cc (zfj r' : Nat) s2] rfl (zae cc _ s2) (fun w1 hw1 hh1 ha1 => qbi hs2 _ w1 hh1) fun ⟨s3, hs3⟩ => ?_
   have hs3 : Tok cc g' s3 := hs3
   simp only [aE, aI]
   rw [h'.used]
   have hpz := zr6 h'.rt
   have hpf := (zza hl h6 r' h'.rt oQ).1
   refine goA ?_
   rw [show ((((zj4 r').length : Nat) : Int) == 0) = ((((za2 r').length : Nat) : Int) == 0) by rw [dA, beq_iff_eq, beq_iff_eq]; omega]
   generalize ((((za2 r').length : Nat) : Int) == 0) = bb
   refine zcr 74 _ (.bool bb) rfl rfl ?_
   refine l_w rfl (zsv (v' := .bool false) (zfm rfl rfl fun _ => rfl) (by cases bb <;> rfl)) ?_
   refine goA ?_
   refine l_w rfl (zw4 rfl mm) ?_
   refine goA ?_
   refine lPu rfl (fun w1 hw1 => zgp h'.tok.sh w1) ?_
   have hcb : cc.sh.cap ≤ 508 := dK _ _
   refine goA ?_
   have hcc : 1 ≤ cc.sh.cap / 2 := by rw [h'.sh]; have := (zdd n).cap; omega
   have hq : (za2 r').length / (cc.sh.cap / 2) ≤ 400 := cL (dK _ _) oQ
   by_cases hp1 : 1 < (zj4 r').length
   ·obtain ⟨g1, g2⟩ := qgm h'.rt hp1
    rw [← h'.sh] at g1 g2
    refine zao [0, 1, 2, 3, 4] 21 rfl rfl kQ ?_
    refine goX ?_
    exact zav (i + 1, r', s3, o') ⟨rfl, rfl, rfl, trivial⟩ ⟨hil, ⟨g', h'.store hs3⟩, hel⟩ (fun w' hw' => by simp only; rw [f1]; exact hw'.pick [1, 0, 2, 3, 4] rfl rfl) (by simp only; omega)
   ·refine zao [0, 1, 2, 3, 4] 21 rfl rfl kQ ?_
    refine goX ?_
    exact zav (i + 1, r', s3, o') ⟨rfl, rfl, rfl, trivial⟩ ⟨hil, ⟨g', h'.store hs3⟩, hel⟩ (fun w' hw' => by simp only; rw [f1]; exact hw'.pick [1, 0, 2, 3, 4] rfl rfl) (by simp only; omega)
  ·refine goA ?_
   refine zcp (α := Rt × Pg × Om) (fun _ => [(5, .pointer (some ⟨xb, 0, none⟩))]) (fun y => (∃ g, zky cc n y.1 g y.2.1) ∧ (za2 y.1).length ≤ L.length) (fun y => tsL cc xb y.1 y.2.1 y.2.2 ++ [ctI]) (fun y => (za2 y.1).length) (r, s, o) ⟨rfl, trivial⟩ ⟨⟨g, h⟩, by simp only; omega⟩ (fun w' hw' => hw') fun ⟨r, s, o⟩ ⟨⟨g, h⟩, he⟩ => ?_
   simp only at h he ⊢
   obtain ⟨o1, o2⟩ := o
   refine zfd (fun w hw => (zas (hw.item (own 9 1 o1 (za2 r).length ((za2 r).map fun y => kV y.1)) (.tail _ (.tail _ (.head _)))).1).1) fun f1 => ?_
   unfold tsL stC
   simp only [aE, aI]
   rw [f1]
   by_cases h0 : 0 < (za2 r).length
   ·obtain ⟨y, hy⟩ : ∃ y, (za2 r)[(za2 r).length / 2]? = some y := ⟨_, aB oQ⟩
    have hkl := qim h.rt y (cH hy)
    have hkm : y.1 ∈ keys (za2 r) := aT.2 ⟨y, cH hy, rfl⟩
    have hdl := zs7 h.es hkm
    have hgm : (zld (za2 r) y.1).isSome = true := ztl.2 hkm
    obtain ⟨r', g', e1, e2, e3⟩ := h.del (k0 := L.length) hl h6 oQ y.1
    rw [hgm] at e1
    refine zfd (fun w hw => zbn (hw.item (own 9 1 o1 (za2 r).length ((za2 r).map fun y => kV y.1)) (.tail _ (.tail _ (.head _)))).1 h0) fun ⟨b, c2, eo⟩ => ?_
    subst eo
    simp only [zfq, zfr]
    refine goA ?_
    refine zi6 kQ ?_
    refine goE ?_
    refine goV rfl rfl (zay (v := kV y.1) rfl rfl (fun w' hw' => zbm (hw'.item (own 9 1 (some (b, c2)) (za2 r).length ((za2 r).map fun y => kV y.1)) mm).1 _ _ (by rw [aN, aF, hy]; rfl))) ?_
    refine goX ?_
    refine za0 [1, 0, 2, 3, 4] rfl rfl ?_
    refine lCu [tmI cc (zfj r : Nat) s] rfl (zae cc _ s) (fun w1 hw1 hh1 ha1 => zvc h.tok _ y.1 (by rw [h.sh]; exact hkl) e1 w1 hh1) fun ⟨s', hs'⟩ => ?_
    have hs' : Tok cc g' s' := hs'
    simp only [aE, aI]
    refine goA ?_
    rw [← (show slV (some (b, c2)) (za2 r).length = .slice (some ⟨b, 0, none⟩) (za2 r).length c2 from f1)]
    refine l_w rfl (zqo (c := cc) (o := (some (b, c2), o2)) (e := za2 r) rfl mm) ?_
    refine goA ?_
    refine za0 [2, 3, 0, 1, 4] rfl rfl ?_
    refine lCu (dmI (some (b, c2), o2) (za2 r)) rfl (zff _ _) (fun w1 hw1 hh1 ha1 => zma (some (b, c2), o2) (za2 r) h.es y.1 oQ w1 hh1 ha1) fun ⟨o', _⟩ => ?_
    simp only
    unfold dmI
    simp only [aE, aI]
    rw [← e2]
    refine goA ?_
    refine zal rfl rfl fun b9 hb9 => ?_
    refine zaz rfl (zag (cs' := dmC o' (za2 r')) rfl rfl rfl rfl (zja _ _ _) rfl) fun _ => ?_
    refine goA ?_
    refine zaz rfl (zai (zg1 _ _ _ _ _ _) (zgv (cs := [.pointer (some ⟨cc.pb, 0, none⟩), .pointer (some ⟨cc.t, 0, none⟩), slV (some (b, c2)) (za2 r).length, slV o2 (za2 r).length]) (V := [slV o'.1 (za2 r').length, slV o'.2 (za2 r').length]) rfl rfl rfl rfl rfl (zja _ _ _) (show (2 + 2 : Nat) ≤ 4 from dQ))) fun _ => ?_
    refine goA ?_
    refine zec [0, 4, 2, 3, 5] rfl rfl ?_
    exact zav (r', s', o') ⟨rfl, trivial⟩ ⟨⟨g', e3 s' hs'⟩, by simp only; rw [e2]; omega⟩ (fun w' hw' => hw') (by simp only; rw [e2]; omega)
   ·have he0 : (za2 r).length = 0 := oQ
    have hp0 := (zr6 h.rt).2 he0
    have hr0 := qg0 hp0
    refine goA ?_
    refine l_w rfl (zkw (c := cc) (root := (zfj r : Nat)) (s := s) (j := 3) rfl mm rfl) ?_
    rw [hr0]
    refine goA ?_
    refine za0 [1, 0, 2, 3, 4] rfl rfl ?_
    refine lCu [tmI cc (0 : Nat) s] rfl (zae cc _ s) (fun w1 hw1 hh1 ha1 => qbi h.tok _ w1 hh1) fun ⟨s3, hs3⟩ => ?_
    simp only [aE, aI]
    rw [h.used, hp0]
    refine goA ?_
    refine zez (fun w' hw' => qho (c := cc) (xb := xb) (r := r) (s := s3) (o := (o1, o2)) (by unfold tsL stC; rw [f1, hr0]; exact hw'.pick [1, 0, 2, 3, 4] rfl rfl)) ?_
    refine lCu [ctI, tzI] rfl zgg (fun w1 hw1 hh1 ha1 => znr w1 hh1 ha1) fun ⟨_, _⟩ => ?_
    refine goA ?_
    exact zbs () rfl rfl rfl trivial (.refl _) zgg
end Go.Proofs.YtkkfifhaobjicaaGreatDoor
