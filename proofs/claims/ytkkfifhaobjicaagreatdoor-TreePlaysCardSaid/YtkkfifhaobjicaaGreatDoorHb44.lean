/- tree: Put, Delete. Own work; no condition. -/
import Derived.Test.YtkkfifhaobjicaaGreatDoorHb43
namespace Go.Proofs.YtkkfifhaobjicaaGreatDoor
open Go.RowKit Go.Eng Go.Eng.Bm Go.Eng.Tr
set_option maxRecDepth 100000
set_option maxHeartbeats 40000000
theorem zya {s : Sh} {N : Nat} {key val : K} {g g' : Sg} {root root' : Int} (hl : zqo s N key val g root = .ok (root', g')) :
  (root = 0 ∧ ∃ q g1, zic N g = .ok (q, g1) ∧ zb7 s N g1 q (lNd [key] [val]) = .ok g' ∧ root' = (q : Int)) ∨
  (root ≠ 0 ∧ ∃ k q1 g1, Tr.putF s N key val 16 g root = .ok ((k, q1), g1) ∧ ((q1 = 0 ∧ root' = root ∧ g' = g1) ∨ (q1 ≠ 0 ∧ ∃ q g2, zic N g1 = .ok (q, g2) ∧ zb7 s N g2 q (iNd [k] [root.toNat, q1]) = .ok g' ∧ root' = (q : Int)))) := by
 unfold zqo at hl
 by_cases h0 : root = 0
 ·rw [if_pos h0] at hl
  obtain ⟨⟨q, g1⟩, h1, h2⟩ := zbt hl
  obtain ⟨g2, h3, h4⟩ := zbt h2
  cases h4
  exact .inl ⟨h0, q, g1, h1, h3, rfl⟩
 ·rw [if_neg h0] at hl
  obtain ⟨⟨⟨k, q1⟩, g1⟩, h1, h2⟩ := zbt hl
  refine .inr ⟨h0, k, q1, g1, h1, ?_⟩
  by_cases hq : q1 = 0
  ·simp only [hq, if_true] at h2
   cases h2
   exact .inl ⟨hq, rfl, rfl⟩
  ·simp only [hq, if_false] at h2
   obtain ⟨⟨q, g2⟩, h3, h4⟩ := zbt h2
   obtain ⟨g3, h5, h6⟩ := zbt h4
   cases h6
   exact .inr ⟨hq, q, g2, h3, h5, rfl⟩
theorem zqx {c : Tc} {g g' : Sg} {s : Pg} (h : Tok c g s) (root : Int) (key val : K) (hk : key.length = c.sh.kw) (hv : val.length = c.sh.vw) {root' : Int} (hl : zqo c.sh c.N key val g root = .ok (root', g')) (w : World) (hw : ∀ it ∈ [tmI c root s], za2 it w) :
  Ct Tryz.prog 15 #[.pointer (some ⟨c.t, 0, none⟩), kV key, kV val] w (zap [tmI c root s]) (fun _ : Pg => .int .i64 0) (fun s' => Tok c g' s') (fun s' => [tmI c root' s']) := by
 have hsh : ShB c.sh := h.sh
 have hkl : key.length ≤ 1000000 := by have := hsh.k2; omega
 have hvl : val.length ≤ 1000000 := by have := hsh.v2; omega
 refine zz3 [_, _, _] _ Tryz.func15 rfl rfl hw (.cons (fun _ h => nomatch h) .nil) ?_
 simp only [zaa, Nat.reduceAdd]
 refine goA ?_
 refine zeb rfl rfl rfl fun b6 hb6 => ?_
 refine goA ?_
 refine zlt (xs := [.tmp 6]) rfl rfl ?_
 refine goA ?_
 refine zae rfl (zag rfl (by kernel_rfl) rfl (fun w1 hw1 => zja h root w1 (za2.of (hw1.item (tmI c root s) mm) (zad _)))) fun _ => ?_
 refine goA ?_
 refine l_w rfl (zmk rfl mm rfl) ?_
 refine goA ?_
 rw [zlv, hk]
 refine zdc 19 _ (.bool true) rfl (by simp) ?_
 refine goA ?_
 refine l_v rfl rfl (zmk rfl mm rfl) ?_
 rw [zlv, hv]
 simp only [beq_self_eq_true]
 refine goA ?_
 simp only [beq_self_eq_true]
 refine zae rfl (zag rfl (by kernel_rfl) rfl (fun w1 hw1 => zef _ w1)) fun _ => ?_
 refine goA ?_
 refine l_w rfl (zdv rfl mm) ?_
 refine goA ?_
 rcases zya hl with ⟨rfl, q, g1, hp, hsv, rfl⟩ | ⟨h0, k, q1, g1, hp, hcase⟩
 ·refine goA ?_
  refine za1 [1, 0] rfl rfl ?_
  refine zae rfl (zba (pre := [tmI c 0 s]) rfl (by kernel_rfl) rfl (zah c 0 s) (fun w1 hw1 hh1 ha1 => ztp h 0 hp w1 hh1)) fun ⟨s1, h1⟩ => ?_
  have h1 : Tok c g1 s1 := h1
  dsimp only
  refine goA ?_
  refine za0 rfl (znk (v := kV key) rfl rfl rfl rfl rfl) fun ⟨x1, _⟩ => ?_
  refine goA ?_
  refine za0 rfl (znk (v := kV val) rfl rfl rfl rfl rfl) fun ⟨x2, _⟩ => ?_
  refine goA ?_
  refine za1 [2, 0, 1, 3] rfl rfl ?_
  refine zae rfl (zba (pre := [tmI c 0 s1]) rfl (by kernel_rfl) rfl (zah c 0 s1) (fun w1 hw1 hh1 ha1 => zcn h1 0 q (lNd [key] [val]) rfl rfl rfl rfl (NdB.mk' (by simp) (by simp) (by decide) (fun k hm => by rw [List.mem_singleton.1 hm]; exact hkl) (fun k hm => by rw [List.mem_singleton.1 hm]; exact hvl)) hsv w1 ⟨zbn (hw1.item (own 9 1 (some (x1, 1)) 1 [kV key]) mm).1, zbn (hw1.item (own 9 1 (some (x2, 1)) 1 [kV val]) mm).1, .inl rfl⟩ ⟨zby hw1 (o := some (x1, 1)) mm, zby hw1 (o := some (x2, 1)) mm, (fun _ h => nomatch h)⟩ hh1)) fun ⟨s2, h2⟩ => ?_
  have h2 : Tok c g' s2 := h2
  dsimp only
  simp only [List.cons_append, List.nil_append]
  refine goA ?_
  refine ze1 (fun w h => zh1 h) ?_
  unfold tmL trC
  refine za0 rfl (zaj rfl rfl rfl rfl rfl rfl (by simp)) fun _ => ?_
  refine goA ?_
  try simp only [List.cons_append, List.nil_append]
  refine za0 rfl (zak (zr2 _ _ _ _ _ _ _ _) (zaj rfl rfl rfl rfl rfl rfl (by simp))) fun _ => ?_
  refine goA ?_
  refine zg0 (by kernel_rfl) (fun w hw => zb2 _ w) ?_
  refine zb3 (m' := [tmI c (q : Int) s2, pt b6 (.cells #[.int .i64 0] 33 (0, 0))]) (fun w hw => zf8 (c := c) (root := (q : Int)) (s := s2) (m := [pt b6 (.cells #[.int .i64 0] 33 (0, 0))]) (hw.pick [1, 2, 3, 4, 0] rfl rfl)) ?_
  exact zbw s2 rfl ⟨_, rfl, za8 rfl mm⟩ rfl h2 (.cons_cons _ (List.nil_sublist _)) (zah _ _ _)
 ·refine goA ?_
  refine l_w rfl (zdv rfl mm) ?_
  refine goA ?_
  refine za1 [1, 0] rfl rfl ?_
  refine zae rfl (zba (pre := [tmI c root s]) rfl (by kernel_rfl) rfl (zah c root s) (fun w1 hw1 hh1 ha1 => qln c root key val hkl hvl 16 g s root h (by omega) hp w1 hh1)) fun ⟨s1, h1⟩ => ?_
  have h1 : Tok c g1 s1 := h1
  dsimp only
  simp only [List.cons_append, List.nil_append]
  refine goA ?_
  refine zan rfl rfl fun b8 hb8 => ?_
  refine za0 rfl (zai rfl rfl rfl rfl rfl rfl) fun _ => ?_
  refine goA ?_
  rcases hcase with ⟨rfl, rfl, rfl⟩ | ⟨hq, q, g2, hp2, hsv, rfl⟩
  ·refine goA ?_
   refine za0 rfl (zak (zc9 _ _ _ _) (zaj rfl rfl rfl rfl rfl rfl (by simp))) fun _ => ?_
   refine goA ?_
   refine zg0 (by kernel_rfl) (fun w hw => zb2 _ w) ?_
   exact zbw s1 rfl ⟨_, rfl, za8 rfl mm⟩ rfl h1 (.cons _ (.cons _ (.cons_cons _ (List.nil_sublist _)))) (zah _ _ _)
  ·obtain ⟨rn, hrn⟩ : ∃ rn : Nat, root = (rn : Int) := by
    obtain ⟨n, hld, -⟩ := zoo hp
    obtain ⟨-, i0, e, -, -⟩ := zfk hld
    exact ⟨i0, e⟩
   subst hrn
   rw [Int.toNat_natCast] at hsv
   have hkb : k.length ≤ 1000000 := zsu hsh hkl 16 g _ hp
   refine goA ?_
   refine za1 [1, 0, 2] rfl rfl ?_
   refine zae rfl (zba (pre := [tmI c (rn : Int) s1]) rfl (by kernel_rfl) rfl (zah c (rn : Int) s1) (fun w1 hw1 hh1 ha1 => ztp h1 (rn : Int) hp2 w1 hh1)) fun ⟨s2, h2⟩ => ?_
   have h2 : Tok c g2 s2 := h2
   dsimp only
   simp only [List.cons_append, List.nil_append]
   refine goA ?_
   refine zaq [0, 1, 2] 13 rfl rfl (by kernel_rfl) ?_
   (repeat first | refine dAv [8] rfl rfl rfl ?_ | refine dno [8] rfl rfl rfl ?_ | refine dT [8] rfl rfl rfl rfl ?_ | refine dF [8] rfl rfl rfl rfl ?_)
   refine d_v [] rfl rfl (by kernel_rfl) (fun _ h => goH h) rfl rfl (zdv rfl mm) ?_
   refine goE ?_
   refine zxz (n' := 2) (listed' := #[true, true, true, true, true, true, true, true, true, true, true, true, false, false]) (fun y : Nat × Nat => [(0, .pointer (some ⟨c.t, 0, none⟩)), (6, .pointer (some ⟨b6, 0, none⟩)), (9, .int .i64 (q : Int)), (63, .pointer (some ⟨c.t, 0, none⟩)), (64, .int .i64 (q : Int)), (67, .slice (some ⟨y.1, 0, none⟩) 1 1), (74, .slice (some ⟨y.2, 0, none⟩) 2 2)]) (fun y => [own 9 1 (some (y.1, 1)) 1 [kV k], own 3 1 (some (y.2, 2)) 2 [.int .i64 (rn : Int), .int .i64 (q1 : Int)], tmI c (rn : Int) s2, pt b8 (.cells #[kV k, .int .i64 (q1 : Int)] 109 (0, 0)), pt b6 (.cells #[.int .i64 0] 33 (0, 0))]) ?_ (fun hk => ?_)
   rotate_left
   ·refine zsl 4 11 ⟨by kernel_rfl, by decide, by decide⟩ rfl rfl rfl rfl (znk (v := kV k) rfl rfl rfl rfl rfl) (qce (v := .int .i64 (rn : Int)) (u := .int .i64 (q1 : Int)) rfl rfl rfl rfl rfl rfl rfl) (fun _ _ h => goH h) (fun _ _ h => goH h) (fun ⟨x1, _⟩ => ?_) (fun ⟨x2, _⟩ => ?_)
    ·refine zau 11 ⟨by kernel_rfl, by decide⟩ rfl rfl (qce (v := .int .i64 (rn : Int)) (u := .int .i64 (q1 : Int)) rfl rfl rfl rfl rfl rfl rfl) (fun _ _ h => goH h) fun ⟨x2, _⟩ => ?_
     refine ze9 [1, 0, 2, 3, 4] rfl rfl ?_
     exact hk (x1, x2) _ ⟨rfl, rfl, rfl, rfl, rfl, rfl, rfl, trivial⟩
    ·refine zau 4 ⟨by kernel_rfl, by decide⟩ rfl rfl (znk (v := kV k) rfl rfl rfl rfl rfl) (fun _ _ h => goH h) fun ⟨x1, _⟩ => ?_
     exact hk (x1, x2) _ ⟨rfl, rfl, rfl, rfl, rfl, rfl, rfl, trivial⟩
   ·intro ⟨x1, x2⟩
    simp only
    refine goE ?_
    refine ze9 [2, 0, 1, 3, 4] rfl rfl ?_
    refine zdk ⟨by kernel_rfl, by kernel_rfl⟩ rfl rfl (zba (pre := [tmI c (rn : Int) s2]) rfl (by kernel_rfl) rfl (zah c (rn : Int) s2) (fun w1 hw1 hh1 ha1 => zcn h2 (rn : Int) q (iNd [k] [rn, q1]) rfl rfl rfl rfl (NdB.mk' (by simp) (by decide) (by simp) (fun k hm => by rw [List.mem_singleton.1 hm]; exact hkb) (fun _ h => nomatch h)) hsv w1 ⟨zbn (hw1.item (own 9 1 (some (x1, 1)) 1 [kV k]) mm).1, .inl rfl, zbn (hw1.item (own 3 1 (some (x2, 2)) 2 [.int .i64 (rn : Int), .int .i64 (q1 : Int)]) mm).1⟩ ⟨zby hw1 (o := some (x1, 1)) mm, (fun _ h => nomatch h), zby hw1 (o := some (x2, 2)) mm⟩ hh1)) fun ⟨s3, h3⟩ => ?_
    have h3 : Tok c g' s3 := h3
    dsimp only
    simp only [List.cons_append, List.nil_append]
    refine goA ?_
    refine ze1 (fun w h => zh1 h) ?_
    unfold tmL trC
    refine za0 rfl (zaj rfl rfl rfl rfl rfl rfl (by simp)) fun _ => ?_
    refine goA ?_
    try simp only [List.cons_append, List.nil_append]
    refine za0 rfl (zak (zut _ _ _ _ _ _ _ _ _) (zaj rfl rfl rfl rfl rfl rfl (by simp))) fun _ => ?_
    refine goA ?_
    refine zg0 (by kernel_rfl) (fun w hw => zb2 _ w) ?_
    refine zb3 (m' := [tmI c (q : Int) s3, pt b6 (.cells #[.int .i64 0] 33 (0, 0))]) (fun w hw => zf8 (c := c) (root := (q : Int)) (s := s3) (m := [pt b6 (.cells #[.int .i64 0] 33 (0, 0))]) (hw.pick [1, 2, 3, 4, 0] rfl rfl)) ?_
    exact zbw s3 rfl ⟨_, rfl, za8 rfl mm⟩ rfl h3 (.cons_cons _ (List.nil_sublist _)) (zah _ _ _)
theorem zx6 {s : Sh} {N : Nat} {key : K} {g g' : Sg} {root root' : Int} {b : Bool} (hl : zuk s N key g root = .ok ((root', b), g')) :
  (root = 0 ∧ root' = 0 ∧ b = false ∧ g' = g) ∨ (root ≠ 0 ∧ ∃ r is g1, zdz s N key 16 g root = .ok ((r, is), g1) ∧ ((is = false ∧ root' = root ∧ b = false ∧ g' = g1) ∨ (is = true ∧ b = true ∧
   ((r.leaf = true ∧ r.keys.length = 0 ∧ zfy N g1 root.toNat = .ok g' ∧ root' = 0) ∨ (r.leaf = false ∧ r.kids.length = 1 ∧ zfy N g1 root.toNat = .ok g' ∧ root' = (r.kids.getD 0 0 : Nat)) ∨ (¬ (r.leaf = true ∧ r.keys.length = 0) ∧ ¬ (r.leaf = false ∧ r.kids.length = 1) ∧ zb7 s N g1 root.toNat r = .ok g' ∧ root' = root))))) := by
 unfold zuk at hl
 by_cases h0 : root = 0
 ·rw [if_pos h0] at hl; cases hl; exact .inl ⟨h0, rfl, rfl, rfl⟩
 ·rw [if_neg h0] at hl
  obtain ⟨⟨⟨r, is⟩, g1⟩, h1, h2⟩ := zbt hl
  refine .inr ⟨h0, r, is, g1, h1, ?_⟩
  cases is with
  | false =>
   simp only [if_true] at h2
   cases h2
   exact .inl ⟨rfl, rfl, rfl, rfl⟩
  | true =>
   simp only [Bool.true_eq_false, if_false] at h2
   by_cases c1 : r.leaf = true ∧ r.keys.length = 0
   ·rw [if_pos c1] at h2
    obtain ⟨g2, h3, h4⟩ := zbt h2
    cases h4
    exact .inr ⟨rfl, rfl, .inl ⟨c1.1, c1.2, h3, rfl⟩⟩
   ·rw [if_neg c1] at h2
    by_cases c2 : r.leaf = false ∧ r.kids.length = 1
    ·rw [if_pos c2] at h2
     obtain ⟨g2, h3, h4⟩ := zbt h2
     cases h4
     exact .inr ⟨rfl, rfl, .inr (.inl ⟨c2.1, c2.2, h3, rfl⟩)⟩
    ·rw [if_neg c2] at h2
     obtain ⟨g2, h3, h4⟩ := zbt h2
     cases h4
     exact .inr ⟨rfl, rfl, .inr (.inr ⟨c1, c2, h3, rfl⟩)⟩
theorem qgu {c : Tc} {g g' : Sg} {s : Pg} (h : Tok c g s) (root : Int) (key : K) (hk : key.length = c.sh.kw) {root' : Int} {b : Bool} (hl : zuk c.sh c.N key g root = .ok ((root', b), g')) (w : World) (hw : ∀ it ∈ [tmI c root s], za2 it w) :
  Ct Tryz.prog 14 #[.pointer (some ⟨c.t, 0, none⟩), kV key] w (zap [tmI c root s]) (fun _ : Pg => .tuple #[.bool b, .int .i64 0]) (fun s' => Tok c g' s') (fun s' => [tmI c root' s']) := by
 have hsh : ShB c.sh := h.sh
 refine zz3 [_, _] _ Tryz.func14 rfl rfl hw (.cons (fun _ h => nomatch h) .nil) ?_
 simp only [zaa, Nat.reduceAdd]
 refine goA ?_
 refine zeb rfl rfl rfl fun b5 hb5 => ?_
 refine goA ?_
 refine zlt (xs := [.tmp 5]) rfl rfl ?_
 refine goA ?_
 refine zae rfl (zag rfl (by kernel_rfl) rfl (fun w1 hw1 => zja h root w1 (za2.of (hw1.item (tmI c root s) mm) (zad _)))) fun _ => ?_
 refine goA ?_
 refine l_w rfl (zmk rfl mm rfl) ?_
 refine goA ?_
 rw [zlv, hk]
 refine zae rfl (zag rfl (by kernel_rfl) rfl (fun w1 hw1 => qan _ _ w1)) fun _ => ?_
 refine goA ?_
 refine l_w rfl (zdv rfl mm) ?_
 refine goA ?_
 rcases zx6 hl with ⟨rfl, rfl, rfl, rfl⟩ | ⟨h0, r, is, g1, hp, hcase⟩
 ·refine goA ?_
  refine za0 rfl (zaj rfl rfl rfl rfl rfl rfl (by simp)) fun _ => ?_
  refine goA ?_
  refine zg0 (by kernel_rfl) (fun w hw => zb2 _ w) ?_
  exact zdq s rfl rfl ⟨_, rfl, za8 rfl mm⟩ rfl h (.cons _ (.refl _)) (zah _ _ _)
 ·obtain ⟨rn, hrn⟩ : ∃ rn : Nat, root = (rn : Int) := by
   obtain ⟨n, hld, -⟩ := zm0 hp
   obtain ⟨-, i0, e, -, -⟩ := zfk hld
   exact ⟨i0, e⟩
  subst hrn
  rw [Int.toNat_natCast] at hcase
  refine goA ?_
  refine l_w rfl (zdv rfl mm) ?_
  refine goA ?_
  refine za1 [1, 0] rfl rfl ?_
  refine zae rfl (zba (pre := [tmI c (rn : Int) s]) rfl (by kernel_rfl) rfl (zah c (rn : Int) s) (fun w1 hw1 hh1 ha1 => qb2 c (rn : Int) key 16 g s (rn : Int) h (by omega) hp w1 hh1)) fun ⟨⟨s1, o⟩, h1⟩ => ?_
  have h1 : Tok c g1 s1 := h1
  dsimp only
  unfold ndI
  simp only [List.cons_append, List.nil_append]
  refine goA ?_
  refine zan rfl rfl fun b6 hb6 => ?_
  refine za0 rfl (zai (cs' := ndO r o) rfl rfl rfl rfl (zcx r o) rfl) fun _ => ?_
  refine goA ?_
  rcases hcase with ⟨rfl, rfl, rfl, rfl⟩ | ⟨rfl, rfl, hcase⟩
  ·refine goA ?_
   refine za0 rfl (zak (zg1 _ _ _ _ _ _ _) (zaj rfl rfl rfl rfl rfl rfl (by simp))) fun _ => ?_
   refine goA ?_
   refine zg0 (by kernel_rfl) (fun w hw => zb2 _ w) ?_
   exact zdq s1 rfl rfl ⟨_, rfl, za8 rfl mm⟩ rfl h1 (.cons _ (.cons _ (.cons_cons _ (List.nil_sublist _)))) (zah _ _ _)
  ·refine zf2 (fun w hw => And.intro (zav (hw.item (own 9 1 o.k r.keys.length (r.keys.map kV)) mm).1).1 (And.intro (zav (hw.item (own 9 1 o.v r.vals.length (r.vals.map kV)) mm).1).1 (zav (hw.item (own 3 1 o.d r.kids.length (r.kids.map iV)) mm).1).1)) fun ⟨f1, f2, f3⟩ => ?_
   unfold ndO
   rw [f1, f2, f3]
   rcases hcase with ⟨hlf, hkl, hd, rfl⟩ | ⟨hlf, hkl, hd, rfl⟩ | ⟨hc1, hc2, hsv, rfl⟩
   ·rw [hlf, hkl]
    refine goA ?_
    refine l_w rfl (zdv rfl mm) ?_
    refine goA ?_
    refine za1 [1, 5] rfl rfl ?_
    refine zae rfl (zba (pre := [tmI c (rn : Int) s1]) rfl (by kernel_rfl) rfl (zah c (rn : Int) s1) (fun w1 hw1 hh1 ha1 => zs6 h1 (rn : Int) rn hd w1 hh1)) fun ⟨s2, h2⟩ => ?_
    have h2 : Tok c g' s2 := h2
    dsimp only
    simp only [List.cons_append, List.nil_append]
    refine goA ?_
    refine ze1 (fun w h => zh1 h) ?_
    unfold tmL trC
    refine za0 rfl (zaj rfl rfl rfl rfl rfl rfl (by simp)) fun _ => ?_
    refine goA ?_
    refine za0 rfl (zak (zhl _ _ _ _ _ _) (zaj rfl rfl rfl rfl rfl rfl (by simp))) fun _ => ?_
    refine goA ?_
    refine zg0 (by kernel_rfl) (fun w hw => zb2 _ w) ?_
    refine zb3 (m' := [tmI c 0 s2, pt b5 (.cells #[.int .i64 0] 33 (0, 0))]) (fun w hw => zf8 (c := c) (root := 0) (s := s2) (m := [pt b5 (.cells #[.int .i64 0] 33 (0, 0))]) (hw.pick [1, 2, 3, 4, 0] rfl rfl)) ?_
    exact zdq s2 rfl rfl ⟨_, rfl, za8 rfl mm⟩ rfl h2 (.cons_cons _ (List.nil_sublist _)) (zah _ _ _)
   ·refine zf2 (fun w hw => zbq (hw.item (own 3 1 o.d r.kids.length (r.kids.map iV)) mm).1 (by omega)) fun ⟨db, dc, e⟩ => ?_
    obtain ⟨kq, hkq⟩ : ∃ x, r.kids[0]? = some x := ⟨_, List.getElem?_eq_getElem (by omega)⟩
    rw [show r.kids.getD 0 0 = kq by rw [List.getD_eq_getElem?_getD, hkq]; rfl]
    rw [hlf, hkl, e]
    simp only [zga, zf3]
    refine goA ?_
    refine l_w rfl (zdv rfl mm) ?_
    refine goA ?_
    refine za1 [1, 0, 4, 5] rfl rfl ?_
    refine zae rfl (zba (pre := [tmI c (rn : Int) s1]) rfl (by kernel_rfl) rfl (zah c (rn : Int) s1) (fun w1 hw1 hh1 ha1 => zs6 h1 (rn : Int) rn hd w1 hh1)) fun ⟨s2, h2⟩ => ?_
    have h2 : Tok c g' s2 := h2
    dsimp only
    simp only [List.cons_append, List.nil_append]
    refine goA ?_
    refine l_w rfl (zaz (v := .int .i64 (kq : Int)) rfl rfl (fun w' hw' => zbo (hw'.item (own 3 1 (some (db, dc)) 1 (r.kids.map iV)) mm).1 _ _ (by simp only [Nat.zero_add]; rw [List.getElem?_map, hkq]; rfl))) ?_
    refine goA ?_
    refine ze1 (fun w h => zh1 h) ?_
    unfold tmL trC
    refine za0 rfl (zaj rfl rfl rfl rfl rfl rfl (by simp)) fun _ => ?_
    refine goA ?_
    refine za0 rfl (zak (zr2 _ _ _ _ _ _ _ _) (zaj rfl rfl rfl rfl rfl rfl (by simp))) fun _ => ?_
    refine goA ?_
    refine zg0 (by kernel_rfl) (fun w hw => zb2 _ w) ?_
    refine zb3 (m' := [tmI c (kq : Int) s2, pt b5 (.cells #[.int .i64 0] 33 (0, 0))]) (fun w hw => zf8 (c := c) (root := (kq : Int)) (s := s2) (m := [pt b5 (.cells #[.int .i64 0] 33 (0, 0))]) (hw.pick [1, 2, 3, 4, 0] rfl rfl)) ?_
    exact zdq s2 rfl rfl ⟨_, rfl, za8 rfl mm⟩ rfl h2 (.cons_cons _ (List.nil_sublist _)) (zah _ _ _)
   ·obtain ⟨lf, hlf⟩ : ∃ b, r.leaf = b := ⟨_, rfl⟩
    rw [hlf] at hc1 hc2 ⊢
    cases lf with
    | true =>
     have hk0 : r.keys.length ≠ 0 := fun e => hc1 ⟨rfl, e⟩
     refine goA ?_
     refine zde [1, 0, 2, 3, 4, 5] rfl rfl ?_
     refine zaq [0, 1, 2, 3, 4, 5] 6 rfl rfl (by kernel_rfl) ?_
     (repeat first | refine dAv [4] rfl rfl rfl ?_ | refine dno [4] rfl rfl rfl ?_ | refine dT [4] rfl rfl rfl rfl ?_ | refine dF [4] rfl rfl rfl rfl ?_)
     refine d_v [] rfl rfl (by kernel_rfl) (fun _ h => goH h) rfl rfl (zdv rfl mm) ?_
     refine goE ?_
     refine zdk ⟨by kernel_rfl, by kernel_rfl⟩ rfl rfl (zba (pre := [tmI c (rn : Int) s1]) rfl (by kernel_rfl) rfl (zah c (rn : Int) s1) (fun w1 hw1 hh1 ha1 => zcn h1 (rn : Int) rn r hlf rfl rfl rfl (ziz hsh (zlk hsv)).1 hsv w1 ⟨zbn (hw1.item (own 9 1 o.k r.keys.length (r.keys.map kV)) mm).1, zbn (hw1.item (own 9 1 o.v r.vals.length (r.vals.map kV)) mm).1, zbn (hw1.item (own 3 1 o.d r.kids.length (r.kids.map iV)) mm).1⟩ ⟨zby hw1 (o := o.k) mm, zby hw1 (o := o.v) mm, zby hw1 (o := o.d) mm⟩ hh1)) fun ⟨s2, h2⟩ => ?_
     have h2 : Tok c g' s2 := h2
     dsimp only
     simp only [List.cons_append, List.nil_append]
     refine goA ?_
     refine za0 rfl (zak (zg1 _ _ _ _ _ _ _) (zaj rfl rfl rfl rfl rfl rfl (by simp))) fun _ => ?_
     refine goA ?_
     refine zg0 (by kernel_rfl) (fun w hw => zb2 _ w) ?_
     exact zdq s2 rfl rfl ⟨_, rfl, za8 rfl mm⟩ rfl h2 (.cons _ (.cons_cons _ (List.nil_sublist _))) (zah _ _ _)
    | false =>
     have hk0 : r.kids.length ≠ 1 := fun e => hc2 ⟨rfl, e⟩
     refine goA ?_
     refine zde [1, 0, 2, 3, 4, 5] rfl rfl ?_
     refine zaq [0, 1, 2, 3, 4, 5] 6 rfl rfl (by kernel_rfl) ?_
     (repeat first | refine dAv [4] rfl rfl rfl ?_ | refine dno [4] rfl rfl rfl ?_ | refine dT [4] rfl rfl rfl rfl ?_ | refine dF [4] rfl rfl rfl rfl ?_)
     refine d_v [] rfl rfl (by kernel_rfl) (fun _ h => goH h) rfl rfl (zdv rfl mm) ?_
     refine goE ?_
     refine zdk ⟨by kernel_rfl, by kernel_rfl⟩ rfl rfl (zba (pre := [tmI c (rn : Int) s1]) rfl (by kernel_rfl) rfl (zah c (rn : Int) s1) (fun w1 hw1 hh1 ha1 => zcn h1 (rn : Int) rn r hlf rfl rfl rfl (ziz hsh (zlk hsv)).1 hsv w1 ⟨zbn (hw1.item (own 9 1 o.k r.keys.length (r.keys.map kV)) mm).1, zbn (hw1.item (own 9 1 o.v r.vals.length (r.vals.map kV)) mm).1, zbn (hw1.item (own 3 1 o.d r.kids.length (r.kids.map iV)) mm).1⟩ ⟨zby hw1 (o := o.k) mm, zby hw1 (o := o.v) mm, zby hw1 (o := o.d) mm⟩ hh1)) fun ⟨s2, h2⟩ => ?_
     have h2 : Tok c g' s2 := h2
     dsimp only
     simp only [List.cons_append, List.nil_append]
     refine goA ?_
     refine za0 rfl (zak (zg1 _ _ _ _ _ _ _) (zaj rfl rfl rfl rfl rfl rfl (by simp))) fun _ => ?_
     refine goA ?_
     refine zg0 (by kernel_rfl) (fun w hw => zb2 _ w) ?_
     exact zdq s2 rfl rfl ⟨_, rfl, za8 rfl mm⟩ rfl h2 (.cons _ (.cons_cons _ (List.nil_sublist _))) (zah _ _ _)
end Go.Proofs.YtkkfifhaobjicaaGreatDoor
