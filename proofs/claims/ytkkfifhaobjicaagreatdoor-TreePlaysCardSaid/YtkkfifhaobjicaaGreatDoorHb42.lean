/- tree: mends. Own work; no condition. -/
/- tree: remove. Own work; no condition. -/
import Derived.Test.YtkkfifhaobjicaaGreatDoorHb41
namespace Go.Proofs.YtkkfifhaobjicaaGreatDoor
open Go.RowKit Go.Eng Go.Eng.Bm Go.Eng.Tr
set_option maxRecDepth 100000
set_option maxHeartbeats 40000000
theorem qfc {s : Sh} {N : Nat} {g g' : Sg} {n n' : Nd} {i : Nat} (hl : zgy s N g n i = .ok (n', g')) : ∃ x y, zen s N g (n.kids.getD (i - 1) 0 : Nat) = .ok x ∧ zen s N g (n.kids.getD (i - 1 + 1) 0 : Nat) = .ok y ∧ x.leaf = y.leaf ∧
    ((zsr s (zcl x y (n.keys.getD (i - 1) [])) = true ∧ ∃ g1 k q, zfy N g (n.kids.getD (i - 1 + 1) 0) = .ok g1 ∧ zcd s N g1 (n.kids.getD (i - 1) 0) (zcl x y (n.keys.getD (i - 1) [])) = .ok ((k, q), g') ∧ n' = iNd (n.keys.set (i - 1) k) (n.kids.set (i - 1 + 1) q)) ∨
     (zsr s (zcl x y (n.keys.getD (i - 1) [])) = false ∧ ∃ g1, zfy N g (n.kids.getD (i - 1 + 1) 0) = .ok g1 ∧ zb7 s N g1 (n.kids.getD (i - 1) 0) (zcl x y (n.keys.getD (i - 1) [])) = .ok g' ∧ n' = iNd (n.keys.eraseIdx (i - 1)) (n.kids.eraseIdx (i - 1 + 1)))) := by
  unfold zgy at hl
  obtain ⟨x, h1, hl⟩ := zbt hl
  obtain ⟨y, h2, hl⟩ := zbt hl
  refine ⟨x, y, h1, h2, ?_⟩
  by_cases hxy : x.leaf = y.leaf
  · rw [if_neg (fun h => h hxy)] at hl
    refine ⟨hxy, ?_⟩
    cases hw : zsr s (zcl x y (n.keys.getD (i - 1) [])) with
    | true =>
      rw [hw, if_pos rfl] at hl
      obtain ⟨g1, h3, hl⟩ := zbt hl
      obtain ⟨⟨⟨k, q⟩, g2⟩, h4, hl⟩ := zbt hl
      cases hl
      exact .inl ⟨rfl, g1, k, q, h3, h4, rfl⟩
    | false =>
      rw [hw, if_neg Bool.false_ne_true] at hl
      obtain ⟨g1, h3, hl⟩ := zbt hl
      obtain ⟨g2, h4, hl⟩ := zbt hl
      cases hl
      exact .inr ⟨rfl, g1, h3, h4, rfl⟩
  · rw [if_pos hxy] at hl
    cases hl
theorem zue {α β : Type} (f : α → β) : ∀ (l : List α) (i : Nat), (l.map f).eraseIdx i = (l.eraseIdx i).map f
  | [], _ => rfl
  | _ :: _, 0 => rfl
  | x :: l, i + 1 => by rw [List.map_cons, List.eraseIdx_cons_succ, List.eraseIdx_cons_succ, List.map_cons, zue f l i]
theorem qcf {s1 s2 : Sh} {x y : Nd} {ox oy : Po} (key : K) (hs1 : ShB s1) (hs2 : ShB s2) (hx : zfs s1 x) (hy : zfs s2 y) (w : World) (hix : ∀ it ∈ ndI x ox, it.prop w) (hiy : ∀ it ∈ ndI y oy, it.prop w) :
    Ct Tryz.prog 106 #[.agg (ndO x ox), .agg (ndO y oy), kV key] w none' (fun o : Po => .agg (ndO (zcl x y key) o)) (fun _ => True) (fun o => ndI (zcl x y key) o) := by
  obtain ⟨-, a1, a2, a3⟩ := ziz hs1 hx
  obtain ⟨-, b1, b2, b3⟩ := ziz hs2 hy
  rw [(zp2 hix).1, (zp2 hiy).1]
  exact zvp x y (plO ox) (plO oy) key a1 a2 a3 b1 b2 b3 w (zp2 hix).2 (zp2 hiy).2
theorem qh4 {s1 s2 : Sh} {x y : Nd} (hs1 : ShB s1) (hs2 : ShB s2) (hx : zfs s1 x) (hy : zfs s2 y) {key : K} (hk : key.length ≤ 1000000) : NdB (zcl x y key) ∧ (zcl x y key).keys.length ≤ 3000 ∧ (zcl x y key).kids.length ≤ 3000 := by
  obtain ⟨hb, a1, a2, a3⟩ := ziz hs1 hx
  obtain ⟨hb', b1, b2, b3⟩ := ziz hs2 hy
  unfold zcl
  split
  · refine ⟨NdB.mk' (by rw [List.length_append]; omega) (by rw [List.length_append]; omega) (by decide) (fun k hm => ?_) (fun k hm => ?_), by simp only [lNd]; rw [List.length_append]; omega, by simp [lNd]⟩
    · rcases List.mem_append.1 hm with h | h
      · exact hb.kl k h
      · exact hb'.kl k h
    · rcases List.mem_append.1 hm with h | h
      · exact hb.vl k h
      · exact hb'.vl k h
  · refine ⟨NdB.mk' (by rw [List.length_append, List.length_cons]; omega) (by decide) (by rw [List.length_append]; omega) (fun k hm => ?_) (fun _ h => nomatch h), by simp only [iNd]; rw [List.length_append, List.length_cons]; omega, by simp only [iNd]; rw [List.length_append]; omega⟩
    rcases List.mem_append.1 hm with h | h
    · exact hb.kl k h
    · rcases List.mem_cons.1 h with rfl | h
      · exact hk
      · exact hb'.kl k h
theorem qid {c : Tc} {g g' : Sg} {s : Pg} (h : Tok c g s) (root : Int) {n n' : Nd} (o : Po) (hlf : n.leaf = false) (hv : n.vals = []) (hb : NdB n) (i : Nat) (hi1 : i - 1 < n.keys.length) (hkl : n.kids.length = n.keys.length + 1) (hsm : n.keys.length ≤ 1000) (hl : zgy c.sh c.N g n i = .ok (n', g')) (w : World) (hw : ∀ it ∈ tmI c root s :: ndI n o, za2 it w) (ha : (tmI c root s :: ndI n o).Pairwise Eng.Item.Apart) :
    Ct Tryz.prog 66 #[.pointer (some ⟨c.t, 0, none⟩), .agg (ndO n o), .int .i64 (i : Nat)] w (zap (tmI c root s :: ndI n o)) (fun x : Pg × Po => .agg (ndO n' x.2)) (fun x => Tok c g' x.1) (fun x => tmI c root x.1 :: ndI n' x.2) := by
  have hsh : ShB c.sh := h.sh
  have e1 : c.sh.cap ≤ 508 := Nat.div_le_self _ _
  have e2 : c.sh.fan ≤ 508 + c.sh.kw := Nat.div_le_self _ _
  have e3 := hsh.k2
  obtain ⟨x, y, hx, hy, hxy, hcase⟩ := qfc hl
  obtain ⟨hmx, -⟩ := zfk hx
  obtain ⟨hmy, -⟩ := zfk hy
  obtain ⟨hbx, hx1, hx2, hx3⟩ := ziz hsh hmx
  obtain ⟨hby, hy1, hy2, hy3⟩ := ziz hsh hmy
  obtain ⟨lf, ks, vs, kd⟩ := n
  simp only at hlf hv hi1 hkl hsm hx hy hcase ⊢
  subst hlf
  subst hv
  obtain ⟨ok, ov, od⟩ := o
  obtain ⟨kb, kc, e⟩ := zbq (hw (own 9 1 ok ks.length (ks.map kV)) (by simp [ndI])).1 (by omega)
  subst e
  obtain ⟨db, dc, e⟩ := zbq (hw (own 3 1 od kd.length (kd.map iV)) (by simp [ndI])).1 (by omega)
  subst e
  obtain ⟨j, hj⟩ : ∃ j, i - 1 = j := ⟨_, rfl⟩
  rw [hj] at hi1 hx hy hcase
  obtain ⟨ka, hka⟩ : ∃ x, kd[j]? = some x := ⟨_, List.getElem?_eq_getElem (by omega)⟩
  obtain ⟨kc2, hkc2⟩ : ∃ x, kd[j + 1]? = some x := ⟨_, List.getElem?_eq_getElem (by omega)⟩
  obtain ⟨key, hkey⟩ : ∃ x, ks[j]? = some x := ⟨_, List.getElem?_eq_getElem (by omega)⟩
  rw [show kd.getD j 0 = ka by rw [List.getD_eq_getElem?_getD, hka]; rfl] at hx hcase
  rw [show kd.getD (j + 1) 0 = kc2 by rw [List.getD_eq_getElem?_getD, hkc2]; rfl] at hy hcase
  rw [show ks.getD j [] = key by rw [List.getD_eq_getElem?_getD, hkey]; rfl] at hcase
  refine zbd [_, _, _] _ Tryz.func66 rfl rfl hw ha ?_
  unfold ndO ndI
  simp only
  simp only [zaa, Nat.reduceAdd]
  refine goA ?_
  refine zb0 rfl rfl fun b4 hb4 => ?_
  refine goA ?_
  refine zan rfl rfl fun b6 hb6 => ?_
  refine goA ?_
  refine l_w rfl (zsd rfl rfl (by omega)) ?_
  refine l_w rfl (zm1 (c := (j : Int)) rfl rfl (by omega)) ?_
  refine goA ?_
  refine zaq [0, 1, 2, 3, 4, 5] 13 rfl rfl (by kernel_rfl) ?_
  (repeat first | refine dAv [4, 10] rfl rfl rfl ?_ | refine dno [4, 10] rfl rfl rfl ?_ | refine dT [4, 10] rfl rfl rfl rfl ?_ | refine dF [4, 10] rfl rfl rfl rfl ?_)
  refine d_v [10] rfl rfl (by kernel_rfl) (fun _ h => goH h) rfl rfl (zaz (v := .int .i64 (ka : Int)) rfl rfl (fun w' hw' => zbo (hw'.item (own 3 1 (some (db, dc)) kd.length (kd.map iV)) mm).1 _ _ (by simp only [Nat.zero_add]; rw [List.getElem?_map, hka]; rfl))) ?_
  (repeat first | refine dAv [10] rfl rfl rfl ?_ | refine dno [10] rfl rfl rfl ?_ | refine dT [10] rfl rfl rfl rfl ?_ | refine dF [10] rfl rfl rfl rfl ?_)
  refine d_v [] rfl rfl (by kernel_rfl) (fun _ h => goH h) rfl rfl (zaz (v := .int .i64 (kc2 : Int)) rfl rfl (fun w' hw' => zbo (hw'.item (own 3 1 (some (db, dc)) kd.length (kd.map iV)) mm).1 _ _ (by simp only [Nat.zero_add]; rw [List.getElem?_map, hkc2]; rfl))) ?_
  refine goE ?_
  refine zbs (by kernel_rfl) ?_
  refine goA ?_
  refine za1 [2, 0, 1, 3, 4, 5] rfl rfl ?_
  refine zae rfl (zba (pre := [tmI c root s]) rfl (by kernel_rfl) rfl (zah c root s) (fun w1 hw1 hh1 ha1 => zj4 h root ka hx w1 hh1)) fun ⟨⟨s1, ox⟩, h1⟩ => ?_
  have h1 : Tok c g s1 := h1
  dsimp only
  unfold ndI
  simp only [List.cons_append, List.nil_append]
  refine goA ?_
  refine zae rfl (zba (pre := [tmI c root s1]) rfl (by kernel_rfl) rfl (zah c root s1) (fun w1 hw1 hh1 ha1 => zj4 h1 root kc2 hy w1 hh1)) fun ⟨⟨s2, oy⟩, h2⟩ => ?_
  have h2 : Tok c g s2 := h2
  dsimp only
  unfold ndI
  simp only [List.cons_append, List.nil_append]
  refine goA ?_
  refine zan rfl rfl fun b9 hb9 => ?_
  refine zan rfl rfl fun b10 hb10 => ?_
  refine za0 rfl (zak (zci _ _ _) (zai (cs' := ndO x ox) rfl rfl rfl rfl (zcx x ox) rfl)) fun _ => ?_
  refine za0 rfl (zak (zci _ _ _) (zai (cs' := ndO y oy) rfl rfl rfl rfl (zcx y oy) rfl)) fun _ => ?_
  refine goA ?_
  refine zdc 37 _ (.bool true) rfl (by show Value.bool (x.leaf == y.leaf) = _; rw [hxy]; simp) ?_
  refine zae rfl (zag rfl (by kernel_rfl) rfl (fun w1 hw1 => zef _ w1)) fun _ => ?_
  refine goA ?_
  refine zaq [0, 1, 2, 3, 4, 5, 6, 7, 8, 9, 10, 11, 12, 13] 9 rfl rfl (by kernel_rfl) ?_
  (repeat first | refine dAv [6] rfl rfl rfl ?_ | refine dno [6] rfl rfl rfl ?_ | refine dT [6] rfl rfl rfl rfl ?_ | refine dF [6] rfl rfl rfl rfl ?_)
  refine d_v [] rfl rfl (by kernel_rfl) (fun _ h => goH h) rfl rfl (zaz (v := kV key) rfl rfl (fun w' hw' => zbo (hw'.item (own 9 1 (some (kb, kc)) ks.length (ks.map kV)) mm).1 _ _ (by simp only [Nat.zero_add]; rw [List.getElem?_map, hkey]; rfl))) ?_
  refine goE ?_
  have hJ := fun (w1 : World) (hix : ∀ it ∈ ndI x ox, it.prop w1) (hiy : ∀ it ∈ ndI y oy, it.prop w1) => qcf key hsh hsh hmx hmy w1 hix hiy
  have hB := qh4 hsh hsh hmx hmy (hb.kl key (List.mem_of_getElem? hkey))
  obtain ⟨both, hboth⟩ : ∃ b, zcl x y key = b := ⟨_, rfl⟩
  rw [hboth] at hJ hcase hB
  obtain ⟨hB, hB1, hB2⟩ := hB
  refine zxz (n' := 1) (listed' := #[true, true, true, true, true, true, true, true, true, false]) (fun z : Nat × Po => [(0, .pointer (some ⟨c.t, 0, none⟩)), (2, .int .i64 (j : Int)), (4, .pointer (some ⟨b4, 0, none⟩)), (6, .pointer (some ⟨b6, 0, none⟩)), (7, .int .i64 (ka : Int)), (8, .int .i64 (kc2 : Int)), (11, .pointer (some ⟨z.1, 0, none⟩)), (46, .agg (ndO both z.2))]) (fun z => [pt z.1 (.cells #[.bool false, .slice none 0 0, .slice none 0 0, .slice none 0 0] 101 (0, 0)), own 9 1 z.2.k both.keys.length (both.keys.map kV), own 9 1 z.2.v both.vals.length (both.vals.map kV), own 3 1 z.2.d both.kids.length (both.kids.map iV), tmI c root s2, pt b6 (.cells #[.bool false, .slice none 0 0, .slice none 0 0, .slice none 0 0] 101 (0, 0)), pt b4 (.cells #[.bool false, slV (some (kb, kc)) ks.length, slV ov 0, slV (some (db, dc)) kd.length] 101 (0, 0)), own 9 1 (some (kb, kc)) ks.length (ks.map kV), own 9 1 ov 0 [], own 3 1 (some (db, dc)) kd.length (kd.map iV)]) ?_ (fun hk => ?_)
  rotate_left
  · refine zsl 7 8 ⟨by kernel_rfl, by decide, by decide⟩ rfl rfl rfl rfl (qck rfl (by kernel_rfl) rfl (fun w1 hw1 => hJ w1 (zc7 hw1 mm mm mm) (zc7 hw1 mm mm mm))) (zo5 rfl rfl) (fun _ _ h => goH h) (fun _ _ h => goH h) (fun ⟨ob, _⟩ => ?_) (fun ⟨b11, _⟩ => ?_)
    · refine zau 8 ⟨by kernel_rfl, by decide⟩ rfl rfl (zo5 rfl rfl) (fun _ _ h => goH h) fun ⟨b11, _⟩ => ?_
      unfold ndI
      simp only [List.cons_append, List.nil_append]
      refine ze9 [0, 1, 2, 3, 6, 13, 14, 15, 16, 17] rfl rfl ?_
      exact hk (b11, ob) _ ⟨rfl, rfl, rfl, rfl, rfl, rfl, rfl, rfl, trivial⟩
    · refine zau 7 ⟨by kernel_rfl, by decide⟩ rfl rfl (qck rfl (by kernel_rfl) rfl (fun w1 hw1 => hJ w1 (zc7 hw1 mm mm mm) (zc7 hw1 mm mm mm))) (fun _ _ h => goH h) fun ⟨ob, _⟩ => ?_
      unfold ndI
      simp only [List.cons_append, List.nil_append]
      refine ze9 [3, 0, 1, 2, 6, 13, 14, 15, 16, 17] rfl rfl ?_
      exact hk (b11, ob) _ ⟨rfl, rfl, rfl, rfl, rfl, rfl, rfl, rfl, trivial⟩
  · intro ⟨b11, ob⟩
    simp only
    refine zdk ⟨by kernel_rfl, by kernel_rfl⟩ rfl rfl (zai (cs' := ndO both ob) rfl rfl rfl rfl (zcx both ob) rfl) fun _ => ?_
    refine qgw (fun w hw => And.intro (zav (hw.item (own 9 1 ob.k both.keys.length (both.keys.map kV)) mm).1).1 (And.intro (zav (hw.item (own 9 1 ob.v both.vals.length (both.vals.map kV)) mm).1).1 (zav (hw.item (own 3 1 ob.d both.kids.length (both.kids.map iV)) mm).1).1)) fun ⟨f1, f2, f3⟩ => ?_
    unfold ndO
    rw [f1, f2, f3]
    obtain ⟨bl, hbl⟩ : ∃ b, both.leaf = b := ⟨_, rfl⟩
    obtain ⟨wd, hwd⟩ : ∃ b, zsr c.sh both = b := ⟨_, rfl⟩
    rw [hbl]
    refine zm3 ?_
    refine zv6 ?_
    refine zv6 ?_
    refine zm8 (w0 := w) (F := zap [tmI c root s, own 9 1 (some (kb, kc)) ks.length (ks.map kV), own 9 1 ov 0 [], own 3 1 (some (db, dc)) kd.length (kd.map iV)]) (α := Unit) (fun _ => [(0, .pointer (some ⟨c.t, 0, none⟩)), (2, .int .i64 (j : Int)), (4, .pointer (some ⟨b4, 0, none⟩)), (6, .pointer (some ⟨b6, 0, none⟩)), (7, .int .i64 (ka : Int)), (8, .int .i64 (kc2 : Int)), (11, .pointer (some ⟨b11, 0, none⟩)), (70, .bool wd)]) (fun _ => True) (fun _ => [pt b11 (.cells #[.bool bl, .slice (slA ob.k) both.keys.length (slC ob.k), .slice (slA ob.v) both.vals.length (slC ob.v), .slice (slA ob.d) both.kids.length (slC ob.d)] 101 (0, 0)), own 9 1 ob.k both.keys.length (both.keys.map kV), own 9 1 ob.v both.vals.length (both.vals.map kV), own 3 1 ob.d both.kids.length (both.kids.map iV), tmI c root s2, pt b6 (.cells #[.bool false, .slice none 0 0, .slice none 0 0, .slice none 0 0] 101 (0, 0)), pt b4 (.cells #[.bool false, slV (some (kb, kc)) ks.length, slV ov 0, slV (some (db, dc)) kd.length] 101 (0, 0)), own 9 1 (some (kb, kc)) ks.length (ks.map kV), own 9 1 ov 0 [], own 3 1 (some (db, dc)) kd.length (kd.map iV)]) ?_ fun _ _ => ?_
    · refine zaq [0, 1, 2, 3, 4, 5, 6, 7, 8, 9] 24 rfl rfl (by kernel_rfl) ?_
      unfold zsr at hwd
      rw [hbl] at hwd
      refine goE ?_
      refine d_v [] rfl rfl (by kernel_rfl) (fun _ h => goH h) rfl rfl (zxv rfl mm) ?_
      refine zau 7 ⟨by kernel_rfl, by decide⟩ rfl rfl (zag rfl (by kernel_rfl) rfl (fun w1 hw1 => zhf hsh w1)) (fun _ _ h => h) fun _ => ?_
      by_cases hA : c.sh.cap < both.keys.length
      · cases bl with
        | true =>
          obtain rfl : true = wd := by rw [← hwd, decide_eq_true hA]; rfl
          refine goE ?_
          refine zbs (by kernel_rfl) ?_
          exact zd1 () ⟨rfl, rfl, rfl, rfl, rfl, rfl, rfl, rfl, trivial⟩ trivial (fun w' hw' => hw')
        | false =>
          have hw2 : decide ((both.kids.length : Int) > (c.sh.fan : Int)) = wd := by rw [← hwd, Bool.false_and, Bool.false_or, decide_eq_decide]; omega
          refine goE ?_
          refine d_v [] rfl rfl (by kernel_rfl) (fun _ h => goH h) rfl rfl (zxv rfl mm) ?_
          refine zau 21 ⟨by kernel_rfl, by decide⟩ rfl rfl (zag rfl (by kernel_rfl) rfl (fun w1 hw1 => zhh hsh w1)) (fun _ _ h => h) fun _ => ?_
          refine goE ?_
          refine zbs (by kernel_rfl) ?_
          rw [hw2]
          exact zd1 () ⟨rfl, rfl, rfl, rfl, rfl, rfl, rfl, rfl, trivial⟩ trivial (fun w' hw' => hw')
      · have hw2 : decide ((both.kids.length : Int) > (c.sh.fan : Int)) = wd := by rw [← hwd, decide_eq_false hA, Bool.and_false, Bool.false_or, decide_eq_decide]; omega
        refine goE ?_
        refine d_v [] rfl rfl (by kernel_rfl) (fun _ h => goH h) rfl rfl (zxv rfl mm) ?_
        refine zau 21 ⟨by kernel_rfl, by decide⟩ rfl rfl (zag rfl (by kernel_rfl) rfl (fun w1 hw1 => zhh hsh w1)) (fun _ _ h => h) fun _ => ?_
        refine goE ?_
        refine zbs (by kernel_rfl) ?_
        rw [hw2]
        exact zd1 () ⟨rfl, rfl, rfl, rfl, rfl, rfl, rfl, rfl, trivial⟩ trivial (fun w' hw' => hw')
    · rw [hwd] at hcase
      rcases hcase with ⟨rfl, g1, k, q, hd1, hsp, rfl⟩ | ⟨rfl, g1, hd1, hsv, rfl⟩
      · refine goA ?_
        refine za1 [4, 0, 1, 2, 3, 5, 6, 7, 8, 9] rfl rfl ?_
        refine zae rfl (zba (pre := [tmI c root s2]) rfl (by kernel_rfl) rfl (zah c root s2) (fun w1 hw1 hh1 ha1 => zs6 h2 root kc2 hd1 w1 hh1)) fun ⟨s3, h3⟩ => ?_
        have h3 : Tok c g1 s3 := h3
        dsimp only
        simp only [List.cons_append, List.nil_append]
        refine goA ?_
        rw [← f1, ← f2, ← f3, ← hbl]
        refine za1 [0, 2, 3, 4, 1, 5, 6, 7, 8, 9] rfl rfl ?_
        refine zae rfl (zba (pre := tmI c root s3 :: ndI both ob) rfl (by kernel_rfl) rfl (zcj _ _ _ _ _) (fun w1 hw1 hh1 ha1 => zk7 h3 root ka both ob hB hsp w1 hh1 ha1)) fun ⟨s4, h4⟩ => ?_
        have h4 : Tok c g' s4 := h4
        dsimp only
        simp only [List.cons_append, List.nil_append]
        refine goA ?_
        refine zan rfl rfl fun b12 hb12 => ?_
        refine za0 rfl (zai rfl rfl rfl rfl rfl rfl) fun _ => ?_
        refine goA ?_
        refine zde [5, 7, 0, 1, 2, 3, 4, 6] rfl rfl ?_
        refine zaq [2, 3, 4, 5, 6, 7] 15 rfl rfl (by kernel_rfl) ?_
        refine goE ?_
        refine zau 12 ⟨by kernel_rfl, by decide⟩ rfl rfl (zts (v := kV k) rfl rfl rfl rfl rfl rfl (by omega)) (fun _ _ h => goH h) fun _ => ?_
        refine ze9 [1, 0, 2, 3, 4, 5, 6, 7] rfl rfl ?_
        refine goE ?_
        refine zau 14 ⟨by kernel_rfl, by decide⟩ rfl rfl (zts (v := iV q) rfl rfl rfl rfl rfl rfl (by omega)) (fun _ _ h => goH h) fun _ => ?_
        refine zbs (by kernel_rfl) ?_
        rw [show (ks.map kV).set (0 + j) (kV k) = (ks.set j k).map kV by rw [Nat.zero_add, List.map_set], show (kd.map iV).set (0 + (j + 1)) (iV q) = (kd.set (j + 1) q).map iV by rw [Nat.zero_add, List.map_set]]
        have l1 : ks.length = (ks.set j k).length := List.length_set.symm
        have l2 : kd.length = (kd.set (j + 1) q).length := List.length_set.symm
        refine goA ?_
        refine za0 rfl (zak (zg1 _ _ _ _ _ _ _) (zai rfl rfl rfl rfl (zcx ⟨false, ks, [], kd⟩ ⟨some (kb, kc), ov, some (db, dc)⟩) rfl)) fun _ => ?_
        refine za1 [4, 2, 7, 1, 0] rfl rfl ?_
        refine goA ?_
        exact zbw (s4, ⟨some (kb, kc), ov, some (db, dc)⟩) rfl ⟨_, rfl, zas rfl mm⟩ (by simp only [ndO, iNd]; rw [← l1, ← l2]; rfl) h4 (by simp only [iNd]; rw [← l1, ← l2]; exact .cons_cons _ (.cons_cons _ (.cons_cons _ (.cons_cons _ (List.nil_sublist _))))) (zcj _ _ _ _ _)
      · refine goA ?_
        refine za1 [4, 0, 1, 2, 3, 5, 6, 7, 8, 9] rfl rfl ?_
        refine zae rfl (zba (pre := [tmI c root s2]) rfl (by kernel_rfl) rfl (zah c root s2) (fun w1 hw1 hh1 ha1 => zs6 h2 root kc2 hd1 w1 hh1)) fun ⟨s3, h3⟩ => ?_
        have h3 : Tok c g1 s3 := h3
        dsimp only
        simp only [List.cons_append, List.nil_append]
        refine goA ?_
        refine zae rfl (zba (pre := [tmI c root s3]) rfl (by kernel_rfl) rfl (zah c root s3) (fun w1 hw1 hh1 ha1 => zcn h3 root ka both hbl rfl rfl rfl hB hsv w1 ⟨zbn (hw1.item (own 9 1 ob.k both.keys.length (both.keys.map kV)) mm).1, zbn (hw1.item (own 9 1 ob.v both.vals.length (both.vals.map kV)) mm).1, zbn (hw1.item (own 3 1 ob.d both.kids.length (both.kids.map iV)) mm).1⟩ ⟨zby hw1 (o := ob.k) mm, zby hw1 (o := ob.v) mm, zby hw1 (o := ob.d) mm⟩ hh1)) fun ⟨s4, h4⟩ => ?_
        have h4 : Tok c g' s4 := h4
        dsimp only
        simp only [List.cons_append, List.nil_append]
        refine goA ?_
        refine zde [7, 9, 0, 5, 6, 8] rfl rfl ?_
        refine zaq [2, 3, 4, 5] 14 rfl rfl (by kernel_rfl) ?_
        refine goE ?_
        refine zau 5 ⟨by kernel_rfl, by decide⟩ rfl rfl (zba (pre := [own 9 1 (some (kb, kc)) ks.length (ks.map kV)]) rfl (by kernel_rfl) rfl (by simp [zab]) (fun w1 hw1 hh1 ha1 => zhy kb kc ks.length j (ks.map kV) (zkq ks) (by omega) (by omega) w1 hh1)) (fun _ _ h => goH h) fun ⟨_, _⟩ => ?_
        refine goE ?_
        refine ze9 [1, 0, 2, 3, 4, 5] rfl rfl ?_
        refine zau 12 ⟨by kernel_rfl, by decide⟩ rfl rfl (zba (pre := [own 3 1 (some (db, dc)) kd.length (kd.map iV)]) rfl (by kernel_rfl) rfl (by simp [zab]) (fun w1 hw1 hh1 ha1 => zs0 db dc kd.length (j + 1) (kd.map iV) (qdj kd) (by omega) (by omega) w1 hh1)) (fun _ _ h => goH h) fun ⟨_, _⟩ => ?_
        simp only [List.cons_append, List.nil_append]
        refine ze9 [4, 0, 1, 2, 3, 5] rfl rfl ?_
        refine zn0 14 rfl rfl rfl rfl rfl rfl rfl rfl rfl rfl rfl rfl rfl rfl rfl (by kernel_rfl) (by kernel_rfl) (by show (1 : Nat) < 4; decide) (by show (3 : Nat) < 4; decide) ?_
        have l1 : ks.length - 1 = (ks.eraseIdx j).length := (List.length_eraseIdx_of_lt (by omega)).symm
        have l2 : kd.length - 1 = (kd.eraseIdx (j + 1)).length := (List.length_eraseIdx_of_lt (by omega)).symm
        rw [zue, zue]
        refine goA ?_
        refine za0 rfl (zak (zhl _ _ _ _ _ _) (zai rfl rfl rfl rfl (zcx ⟨false, ks.eraseIdx j, [], kd.eraseIdx (j + 1)⟩ ⟨some (kb, kc), ov, some (db, dc)⟩) rfl)) fun _ => ?_
        refine goA ?_
        refine zeh [4, 3, 5, 2, 0] rfl rfl ?_
        exact zbw (s4, ⟨some (kb, kc), ov, some (db, dc)⟩) rfl ⟨_, rfl, zas rfl mm⟩ (by simp only [ndO, iNd]; rw [← l1, ← l2]; rfl) h4 (by simp only [iNd]; rw [← l1, ← l2]; exact .cons_cons _ (.cons_cons _ (.cons_cons _ (.cons_cons _ (List.nil_sublist _))))) (zcj _ _ _ _ _)
theorem zlk {s : Sh} {N : Nat} {g g' : Sg} {at_ : Nat} {n : Nd} (hl : zb7 s N g at_ n = .ok g') : zfs s n := by
  unfold zb7 at hl
  split at hl
  · rename_i h; exact h
  · cases hl
theorem zm0 {s : Sh} {N : Nat} {key : K} {d : Nat} {g g' : Sg} {at_ : Int} {n' : Nd} {b : Bool} (hl : zdz s N key (d + 1) g at_ = .ok ((n', b), g')) : ∃ n, zen s N g at_ = .ok n ∧
    ((n.leaf = true ∧ fd n.keys key = true ∧ n' = lNd (n.keys.eraseIdx (lb n.keys key)) (n.vals.eraseIdx (lb n.keys key)) ∧ b = true ∧ g' = g) ∨ (n.leaf = true ∧ fd n.keys key = false ∧ n' = n ∧ b = false ∧ g' = g) ∨
     (n.leaf = false ∧ ∃ r b1 g1, zdz s N key d g (n.kids.getD (dn n.keys key) 0 : Nat) = .ok ((r, b1), g1) ∧ ((b1 = false ∧ n' = n ∧ b = false ∧ g' = g1) ∨
      (b1 = true ∧ ∃ g2, zb7 s N g1 (n.kids.getD (dn n.keys key) 0) r = .ok g2 ∧ b = true ∧ ((zht s r = true ∧ zgy s N g2 n (dn n.keys key) = .ok (n', g')) ∨ (zht s r = false ∧ n' = n ∧ g' = g2)))))) := by
  rw [zdz] at hl
  obtain ⟨n, h1, h2⟩ := zbt hl
  refine ⟨n, h1, ?_⟩
  cases hlf : n.leaf with
  | true =>
    simp only [hlf, if_true] at h2
    cases hf : fd n.keys key with
    | true =>
      simp only [hf, if_true] at h2
      cases h2
      exact .inl ⟨rfl, rfl, rfl, rfl, rfl⟩
    | false =>
      simp only [hf, Bool.false_eq_true, if_false] at h2
      cases h2
      exact .inr (.inl ⟨rfl, rfl, rfl, rfl, rfl⟩)
  | false =>
    simp only [hlf, Bool.false_eq_true, if_false] at h2
    obtain ⟨⟨⟨r, b1⟩, g1⟩, h3, h4⟩ := zbt h2
    refine .inr (.inr ⟨rfl, r, b1, g1, h3, ?_⟩)
    cases b1 with
    | false =>
      simp only [Bool.false_eq_true, if_false] at h4
      cases h4
      exact .inl ⟨rfl, rfl, rfl, rfl⟩
    | true =>
      simp only [if_true] at h4
      obtain ⟨g2, h5, h6⟩ := zbt h4
      refine .inr ⟨rfl, g2, h5, ?_⟩
      cases hp : zht s r with
      | true =>
        simp only [hp, if_true] at h6
        obtain ⟨⟨n2, g3⟩, h7, h8⟩ := zbt h6
        cases h8
        exact ⟨rfl, .inl ⟨rfl, h7⟩⟩
      | false =>
        simp only [hp, Bool.false_eq_true, if_false] at h6
        cases h6
        exact ⟨rfl, .inr ⟨rfl, rfl, rfl⟩⟩
theorem qiz {c : Tc} {g g' : Sg} {s : Pg} (h : Tok c g s) (root : Int) (at_ : Nat) (n : Nd) (o : Po) (hl : zb7 c.sh c.N g at_ n = .ok g') (w : World) (hi : ∀ it ∈ ndI n o, it.prop w) (hA : NdA (zap [tmI c root s]) (plO o)) (hw : ∀ it ∈ [tmI c root s], za2 it w) :
    Ct Tryz.prog 41 #[.pointer (some ⟨c.t, 0, none⟩), .int .i64 (at_ : Int), .agg (ndO n o)] w (zap [tmI c root s]) (fun _ : Pg => .tuple #[]) (fun s' => Tok c g' s') (fun s' => [tmI c root s']) := by
  rw [(zp2 hi).1]
  exact save_ok' h root at_ n (plO o) (ziz h.sh (zlk hl)).1 hl w (zp2 hi).2 hA hw
theorem qmd {w w0 : World} {F : Nat → Prop} {it : Eng.Item} {m : List Eng.Item} {n : Nd} {o : Po} (h : Hp w0 F (it :: m) w) (hk : own 9 1 o.k n.keys.length (n.keys.map kV) ∈ m) (hv : own 9 1 o.v n.vals.length (n.vals.map kV) ∈ m) (hd : own 3 1 o.d n.kids.length (n.kids.map iV) ∈ m) : NdA (zap [it]) (plO o) := ⟨zby h hk, zby h hv, zby h hd⟩
theorem qag {c : Tc} {g : Sg} {s : Pg} (ht : Tok c g s) (root : Int) {n : Nd} {o : Po} (hm : zfs c.sh n) (w : World) (h : za2 (tmI c root s) w) (hi : ∀ it ∈ ndI n o, it.prop w) : Pu Tryz.prog 65 #[.pointer (some ⟨c.t, 0, none⟩), .agg (ndO n o)] w (.int .i64 (zv2 c.sh n)) := by
  obtain ⟨-, a1, -, a3⟩ := ziz ht.sh hm
  rw [(zp2 hi).1]
  exact qb7 ht root n (plO o) a1 a3 w h
theorem qb2 (c : Tc) (root : Int) (key : K) : ∀ (d : Nat) (g : Sg) (s : Pg) (at_ : Int) {n' : Nd} {b : Bool} {g' : Sg}, Tok c g s → d ≤ 16 → zdz c.sh c.N key d g at_ = .ok ((n', b), g') → ∀ w : World, (∀ it ∈ [tmI c root s], za2 it w) →
    Ct Tryz.prog 39 #[.pointer (some ⟨c.t, 0, none⟩), .int .i64 at_, .int .i64 (d : Nat), kV key] w (zap [tmI c root s]) (fun x : Pg × Po => .tuple #[.agg (ndO n' x.2), .bool b]) (fun x => Tok c g' x.1) (fun x => tmI c root x.1 :: ndI n' x.2) := by
  intro d
  induction d with
  | zero =>
    intro g s at_ n' b g' _ _ hl
    rw [zdz] at hl; cases hl
  | succ d ih =>
    intro g s at_ n' b g' h hd hl w hw
    obtain ⟨n, h1, hcase⟩ := zm0 hl
    obtain ⟨hmay, i0, hi0, hi1, hi2⟩ := zfk h1
    subst hi0
    obtain ⟨hnb, hb1, hb2, hb3⟩ := ziz h.sh hmay
    refine zbd [_, _, _, _] _ Tryz.func39 rfl rfl hw (.cons (fun _ h => nomatch h) .nil) ?_
    simp only [zaa, Nat.reduceAdd]
    refine goA ?_
    refine zan rfl rfl fun b8 hb8 => ?_
    refine goA ?_
    refine zae rfl (zag rfl (by kernel_rfl) rfl (fun w1 hw1 => zlq (by omega) _ w1)) fun _ => ?_
    refine goA ?_
    refine za1 [1, 0] rfl rfl ?_
    refine zae rfl (zba (pre := [tmI c root s]) rfl (by kernel_rfl) rfl (zah c root s) (fun w1 hw1 hh1 ha1 => zj4 h root i0 h1 w1 hh1)) fun ⟨⟨s1, o⟩, hs1⟩ => ?_
    have hs1 : Tok c g s1 := hs1
    dsimp only
    refine goA ?_
    refine zan rfl rfl fun b10 hb10 => ?_
    refine za0 rfl (zai (cs' := ndO n o) rfl rfl rfl rfl (zcx n o) rfl) fun _ => ?_
    unfold ndI
    simp only [List.cons_append, List.nil_append]
    rcases hcase with ⟨hlf, hf, rfl, rfl, rfl⟩ | ⟨hlf, hf, rfl, rfl, rfl⟩ | ⟨hlf, r, b1, g1, hp, hcase⟩
    · obtain ⟨hkd, hkv, -, -⟩ := hmay.leaf hlf
      have hlb : lb n.keys key < n.keys.length := (List.getElem?_eq_some_iff.1 (ziq.1 hf)).1
      obtain ⟨lf, ks, vs, kd⟩ := n
      simp only at hlf hkd hkv hlb hb1 hb2 hf ⊢
      subst hlf
      subst hkd
      obtain ⟨ok, ov, od⟩ := o
      simp only
      refine zea (fun w hw => And.intro (zbq (hw.item (own 9 1 ok ks.length (ks.map kV)) mm).1 (by omega)) (zbq (hw.item (own 9 1 ov vs.length (vs.map kV)) mm).1 (by omega))) fun ⟨⟨kb, kc, e⟩, ⟨vb, vc, e'⟩⟩ => ?_
      subst e
      subst e'
      unfold ndO
      refine goA ?_
      refine zae rfl (zag rfl (by kernel_rfl) rfl (fun w1 hw1 => zlh hmay hb1 key w1 (zc7 (o := ⟨some (kb, kc), some (vb, vc), od⟩) hw1 mm mm mm))) fun _ => ?_
      simp only
      rw [hf]
      obtain ⟨j, hj⟩ : ∃ j, lb ks key = j := ⟨_, rfl⟩
      rw [hj] at hlb ⊢
      refine goA ?_
      refine zde [2, 3, 0, 1, 4, 5] rfl rfl ?_
      refine zaq [2, 3, 4, 5] 13 rfl rfl (by kernel_rfl) ?_
      refine goE ?_
      refine zau 5 ⟨by kernel_rfl, by decide⟩ rfl rfl (zba (pre := [own 9 1 (some (kb, kc)) ks.length (ks.map kV)]) rfl (by kernel_rfl) rfl (by simp [zab]) (fun w1 hw1 hh1 ha1 => zhy kb kc ks.length j (ks.map kV) (zkq ks) (by omega) (by omega) w1 hh1)) (fun _ _ h => goH h) fun ⟨_, _⟩ => ?_
      refine goE ?_
      refine ze9 [1, 0, 2, 3, 4, 5] rfl rfl ?_
      refine zau 11 ⟨by kernel_rfl, by decide⟩ rfl rfl (zba (pre := [own 9 1 (some (vb, vc)) vs.length (vs.map kV)]) rfl (by kernel_rfl) rfl (by simp [zab]) (fun w1 hw1 hh1 ha1 => zhy vb vc vs.length j (vs.map kV) (zkq vs) (by omega) (by omega) w1 hh1)) (fun _ _ h => goH h) fun ⟨_, _⟩ => ?_
      simp only [List.cons_append, List.nil_append]
      refine goE ?_
      refine ze9 [2, 0, 1, 3, 4, 5] rfl rfl ?_
      refine zn0 13 rfl rfl rfl rfl rfl rfl rfl rfl rfl rfl rfl rfl rfl rfl rfl (by kernel_rfl) (by kernel_rfl) (by show (1 : Nat) < 4; decide) (by show (2 : Nat) < 4; decide) ?_
      have l1 : ks.length - 1 = (ks.eraseIdx j).length := (List.length_eraseIdx_of_lt (by omega)).symm
      have l2 : vs.length - 1 = (vs.eraseIdx j).length := (List.length_eraseIdx_of_lt (by omega)).symm
      rw [zue, zue]
      refine goA ?_
      refine za0 rfl (zak (zg1 _ _ _ _ _ _ _) (zai rfl rfl rfl rfl (zcx ⟨true, ks.eraseIdx j, vs.eraseIdx j, []⟩ ⟨some (kb, kc), some (vb, vc), od⟩) rfl)) fun _ => ?_
      refine goA ?_
      refine zeh [4, 3, 2, 5, 0] rfl rfl ?_
      exact zdq (s1, ⟨some (kb, kc), some (vb, vc), od⟩) rfl ⟨_, rfl, zas rfl mm⟩ rfl (by simp only [ndO, lNd]; rw [← l1, ← l2]; rfl) hs1 (by simp only [lNd]; rw [← l1, ← l2]; exact .cons_cons _ (.cons_cons _ (.cons_cons _ (.cons_cons _ (List.nil_sublist _))))) (zcj _ _ _ _ _)
    · obtain ⟨hkd, hkv, -, -⟩ := hmay.leaf hlf
      unfold ndO
      rw [hlf]
      refine goA ?_
      refine zae rfl (zag rfl (by kernel_rfl) rfl (fun w1 hw1 => by have := zlh hmay hb1 key w1 (zc7 (o := o) hw1 mm mm mm); unfold ndO at this; rw [hlf] at this; exact this)) fun _ => ?_
      rw [hf]
      refine goA ?_
      refine za0 rfl (zak (zg1 _ _ _ _ _ _ _) (zai rfl rfl rfl rfl (by have := zcx n' o; unfold ndO at this; rw [hlf] at this; exact this) rfl)) fun _ => ?_
      refine goA ?_
      refine zeh [2, 3, 4, 5, 0] rfl rfl ?_
      exact zdq (s1, o) rfl ⟨_, rfl, zas rfl mm⟩ rfl rfl hs1 (.cons_cons _ (.cons_cons _ (.cons_cons _ (.cons_cons _ (List.nil_sublist _))))) (zcj _ _ _ _ _)
    · obtain ⟨hkr, hvs, hkl1, hk1, -⟩ := hmay.inner hlf
      have hdn := znq n.keys key
      obtain ⟨lf, ks, vs, kd⟩ := n
      simp only at hlf hvs hkl1 hk1 hdn hb1 hb3 hp hcase ⊢
      subst hlf
      subst hvs
      obtain ⟨ok, ov, od⟩ := o
      simp only
      refine zea (fun w hw => zbq (hw.item (own 3 1 od kd.length (kd.map iV)) mm).1 (by omega)) fun ⟨db, dc, e⟩ => ?_
      subst e
      obtain ⟨kq, hkq⟩ : ∃ x, kd[dn ks key]? = some x := ⟨_, List.getElem?_eq_getElem (by omega)⟩
      rw [show kd.getD (dn ks key) 0 = kq by rw [List.getD_eq_getElem?_getD, hkq]; rfl] at hp hcase
      unfold ndO
      refine goA ?_
      refine zae rfl (zag rfl (by kernel_rfl) rfl (fun w1 hw1 => znt hmay hb1 key w1 (zc7 (o := ⟨ok, ov, some (db, dc)⟩) hw1 mm mm mm))) fun _ => ?_
      simp only
      obtain ⟨i, hi⟩ : ∃ i, dn ks key = i := ⟨_, rfl⟩
      rw [hi] at hkq hcase hdn ⊢
      refine goA ?_
      refine l_w rfl (zaz (v := .int .i64 (kq : Int)) rfl rfl (fun w' hw' => zbo (hw'.item (own 3 1 (some (db, dc)) kd.length (kd.map iV)) mm).1 _ _ (by simp only [Nat.zero_add]; rw [List.getElem?_map, hkq]; rfl))) ?_
      refine goA ?_
      rw [show d + 1 - 1 = d by omega]
      refine za1 [1, 0, 2, 3, 4, 5] rfl rfl ?_
      refine zae rfl (zba (pre := [tmI c root s1]) rfl (by kernel_rfl) rfl (zah c root s1) (fun w1 hw1 hh1 ha1 => ih g s1 (kq : Nat) hs1 (by omega) hp w1 hh1)) fun ⟨⟨s2, o2⟩, hs2⟩ => ?_
      have hs2 : Tok c g1 s2 := hs2
      dsimp only
      unfold ndI
      simp only [List.cons_append, List.nil_append]
      refine goA ?_
      refine zan rfl rfl fun b14 hb14 => ?_
      refine za0 rfl (zai (cs' := ndO r o2) rfl rfl rfl rfl (zcx r o2) rfl) fun _ => ?_
      refine goA ?_
      rcases hcase with ⟨rfl, rfl, rfl, rfl⟩ | ⟨rfl, g2, hsv, rfl, hcase⟩
      · refine goA ?_
        refine za1 [1, 6, 7, 8, 9] rfl rfl ?_
        refine za0 rfl (zak (zhl _ _ _ _ _ _) (zai rfl rfl rfl rfl (zcx ⟨false, ks, [], kd⟩ ⟨ok, ov, some (db, dc)⟩) rfl)) fun _ => ?_
        refine goA ?_
        exact zdq (s2, ⟨ok, ov, some (db, dc)⟩) rfl ⟨_, rfl, zas rfl (.head _)⟩ rfl rfl hs2 (.cons _ (.refl _)) (zcj _ _ _ _ _)
      · refine goA ?_
        refine zde [1, 0, 2, 3, 4, 5, 6, 7, 8, 9] rfl rfl ?_
        refine zaq [1, 2, 3, 4, 5, 6, 7, 8, 9] 8 rfl rfl (by kernel_rfl) ?_
        (repeat first | refine dAv [5] rfl rfl rfl ?_ | refine dno [5] rfl rfl rfl ?_ | refine dT [5] rfl rfl rfl rfl ?_ | refine dF [5] rfl rfl rfl rfl ?_)
        refine d_v [] rfl rfl (by kernel_rfl) (fun _ h => goH h) rfl rfl (zaz (v := .int .i64 (kq : Int)) rfl rfl (fun w' hw' => zbo (hw'.item (own 3 1 (some (db, dc)) kd.length (kd.map iV)) mm).1 _ _ (by simp only [Nat.zero_add]; rw [List.getElem?_map, hkq]; rfl))) ?_
        refine goE ?_
        refine zau 7 ⟨by kernel_rfl, by decide⟩ rfl rfl (zba (pre := [tmI c root s2]) rfl (by kernel_rfl) rfl (zah c root s2) (fun w1 hw1 hh1 ha1 => qiz hs2 root kq r o2 hsv w1 (zc7 hw1 mm mm mm) (qmd hw1 mm mm mm) hh1)) (fun _ _ h => goH h) fun ⟨s3, hs3⟩ => ?_
        have hs3 : Tok c g2 s3 := hs3
        dsimp only
        simp only [List.cons_append, List.nil_append]
        refine zbs (by kernel_rfl) ?_
        refine goA ?_
        refine zae rfl (zag rfl (by kernel_rfl) rfl (fun w1 hw1 => qag hs3 root (zlk hsv) w1 (za2.of (hw1.item (tmI c root s3) mm) (zad _)) (zc7 hw1 mm mm mm))) fun _ => ?_
        rcases hcase with ⟨hpo, hm⟩ | ⟨hpo, rfl, rfl⟩
        · have hpp : decide (zv2 c.sh r > 0) = true := by rw [ztu, hpo]
          refine goA ?_
          rw [hpp]
          refine goA ?_
          refine za1 [0, 6, 7, 8, 5, 9] rfl rfl ?_
          refine zae rfl (zba (pre := tmI c root s3 :: ndI ⟨false, ks, [], kd⟩ ⟨ok, ov, some (db, dc)⟩) rfl (by kernel_rfl) rfl (zcj _ _ _ _ _) (fun w1 hw1 hh1 ha1 => qid hs3 root ⟨ok, ov, some (db, dc)⟩ rfl rfl hnb i (by simp only; omega) hkl1 hb1 hm w1 hh1 ha1)) fun ⟨⟨s4, o4⟩, h4⟩ => ?_
          have h4 : Tok c g' s4 := h4
          dsimp only
          unfold ndI
          simp only [List.cons_append, List.nil_append]
          refine za0 rfl (zak (zhl _ _ _ _ _ _) (zai (cs' := ndO n' o4) rfl rfl rfl rfl (zcx n' o4) rfl)) fun _ => ?_
          refine goA ?_
          refine za0 rfl (zak (zg1 _ _ _ _ _ _ _) (zai (cs' := ndO n' o4) rfl rfl rfl rfl (zcx n' o4) rfl)) fun _ => ?_
          refine goA ?_
          exact zdq (s4, o4) rfl ⟨_, rfl, zas rfl (.head _)⟩ rfl rfl h4 (.cons _ (.cons _ (.refl _))) (zcj _ _ _ _ _)
        · have hpp : decide (zv2 c.sh r > 0) = false := by rw [ztu, hpo]
          refine goA ?_
          rw [hpp]
          refine goA ?_
          refine za1 [0, 6, 7, 8, 9] rfl rfl ?_
          refine za0 rfl (zak (zhl _ _ _ _ _ _) (zai rfl rfl rfl rfl (zcx ⟨false, ks, [], kd⟩ ⟨ok, ov, some (db, dc)⟩) rfl)) fun _ => ?_
          refine goA ?_
          exact zdq (s3, ⟨ok, ov, some (db, dc)⟩) rfl ⟨_, rfl, zas rfl (.head _)⟩ rfl rfl hs3 (.cons _ (.refl _)) (zcj _ _ _ _ _)
end Go.Proofs.YtkkfifhaobjicaaGreatDoor
