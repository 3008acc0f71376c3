/- tree: splits. Own work; no condition. -/
/- law 8: Open as the plain law says it; what is kept of the document's stores. -/
/- law 8: Begins. -/
/- law 8: Same. -/
/- law 8: Does, a Put. -/
import Derived.Test.YtkkfifhaobjicaaGreatDoorHb37
import Derived.Test.YtkkfifhaobjicaaGreatDoorHb38
import Derived.Test.YtkkfifhaobjicaaGreatDoorHb35
namespace Go.Proofs.YtkkfifhaobjicaaGreatDoor
open Go.RowKit Go.Eng Go.Eng.Bm Go.Eng.Tr
set_option maxRecDepth 100000
set_option maxHeartbeats 40000000
theorem zbt {ε α β : Type} {x : Except ε α} {f : α → Except ε β} {r : β} (h : (x >>= f) = .ok r) : ∃ a, x = .ok a ∧ f a = .ok r := by
 cases x with
 | error e => cases h
 | ok a => exact ⟨a, rfl, h⟩
theorem qcz {c : Tc} {root : Int} {s : Pg} {w0 w : World} {F : Nat → Prop} {m : List Eng.Item} (hw : Hp w0 F m w) (hm : tmI c root s ∈ m) : w.rangeAt c.t 0 [.pointer (some ⟨c.pb, 0, none⟩), .int .i64 (c.sh.kw : Int), .int .i64 (c.sh.vw : Int), .int .i64 root] :=
 za7 ((hw.item _ hm).1.1 _ (.head _)).1
theorem zxv {l : zat} {w0 : World} {F : Nat → Prop} {m : List Eng.Item} {ty : TypeId} {x : Operand} {c : Tc} {root : Int} {s : Pg} (hx : evO l x = some (.pointer (some ⟨c.t, 1, none⟩))) (hm : tmI c root s ∈ m) : OV Tryz.prog (.load 45 x) ty l (Hp w0 F m) (shV c.sh) :=
 zfi (xs := [.int .i64 (c.sh.kw : Int), .int .i64 (c.sh.vw : Int)]) (c := #[.int .i64 (c.sh.kw : Int), .int .i64 (c.sh.vw : Int)]) hx rfl (fun w' hw' => by
  have h2 := zfp (k := 2) (zgx (k := 1) (qcz hw' hm))
  rw [Nat.zero_add] at h2
  exact h2) rfl
theorem zdv {l : zat} {w0 : World} {F : Nat → Prop} {m : List Eng.Item} {ty : TypeId} {x : Operand} {c : Tc} {root : Int} {s : Pg} (hx : evO l x = some (.pointer (some ⟨c.t, 3, none⟩))) (hm : tmI c root s ∈ m) : OV Tryz.prog (.load 3 x) ty l (Hp w0 F m) (.int .i64 root) :=
 zaz hx rfl (fun _ hw' => by have := qcz hw' hm 3 _ rfl; rwa [Nat.zero_add] at this)
theorem zcn {c : Tc} {g g' : Sg} {s : Pg} (h : Tok c g s) (root : Int) (at_ : Nat) (n : Nd) {ka va da : Option Addr} {kc vc dc nk nv nd : Nat} {lf : Bool} (hlf : n.leaf = lf) (hnk : n.keys.length = nk) (hnv : n.vals.length = nv) (hnd : n.kids.length = nd) (hb : NdB n) (hl : zb7 c.sh c.N g at_ n = .ok g') (w : World) (hr : NdR w n ⟨(ka, kc), (va, vc), (da, dc)⟩) (hA : NdA (zap [tmI c root s]) ⟨(ka, kc), (va, vc), (da, dc)⟩) (hw : ∀ it ∈ [tmI c root s], za2 it w) :
  Ct Tryz.prog 41 #[.pointer (some ⟨c.t, 0, none⟩), .int .i64 (at_ : Int), .agg #[.bool lf, .slice ka nk kc, .slice va nv vc, .slice da nd dc]] w (zap [tmI c root s]) (fun _ : Pg => .tuple #[]) (fun s' => Tok c g' s') (fun s' => [tmI c root s']) := by
 subst hlf; subst hnk; subst hnv; subst hnd
 exact save_ok' h root at_ n ⟨(ka, kc), (va, vc), (da, dc)⟩ hb hl w hr hA hw
theorem Rd.take {w : World} {a : Option Addr} {xs : List Value} (h : Rd w a xs) (i : Nat) : Rd w a (xs.take i) := by
 rcases h with h | ⟨b, off, h1, h2⟩
 ·exact .inl (by rw [h, List.take_nil])
 ·exact .inr ⟨b, off, h1, fun j u hu => by
   rw [List.getElem?_take] at hu
   split at hu
   ·exact h2 j u hu
   ·cases hu⟩
theorem zgz {w : World} {e : TypeId} {o : Option (Nat × Nat)} {n : Nat} {xs : List Value} (h : (own e 1 o n xs).prop w) (i : Nat) : Rd w (zqr (slA o) (decide (slC o = i)) (i * 1)) (xs.drop i) := by
 have hl : xs.length = n := by have := h.1; rwa [Nat.mul_one] at this
 obtain ⟨-, hc⟩ := zav h
 by_cases hi : n ≤ i
 ·exact .inl (List.drop_eq_nil_of_le (by omega))
 ·match o, h, hc with
  | none, h, hc => have : n = 0 := h.2; omega
  | some (b, c), h, hc =>
   have hc : n ≤ c := hc
   show Rd w (zqr (some ⟨b, 0, none⟩) (decide (c = i)) (i * 1)) _
   rw [zca (by omega), Nat.zero_add, Nat.mul_one]
   refine Rd.mk fun j v hj => ?_
   rw [List.getElem?_drop] at hj
   exact zbo h (i + j) v hj
theorem zga (b c : Nat) : slA (some (b, c)) = some ⟨b, 0, none⟩ := rfl
theorem zf3 (b c : Nat) : slC (some (b, c)) = c := rfl
theorem znz {o : Option (Nat × Nat)} {r : Bool} {k : Nat} {F : Nat → Prop} (h : ∀ x : Addr, slA o = some x → ¬ F x.block) : ∀ x : Addr, zqr (slA o) r k = some x → ¬ F x.block := fun x hx => by
 obtain ⟨y, hy, e⟩ := qbv hx
 rw [← e]
 exact h y hy
theorem qbi {c : Tc} {g g' : Sg} {s : Pg} (h : Tok c g s) (root : Int) (at_ : Nat) (n : Nd) (o : Po) (hb : NdB n) (hf : qaq c.sh n = true) (hl : zb7 c.sh c.N g at_ n = .ok g') (w : World) (hw : ∀ it ∈ tmI c root s :: ndI n o, za2 it w) (ha : (tmI c root s :: ndI n o).Pairwise Eng.Item.Apart) :
  Ct Tryz.prog 71 #[.pointer (some ⟨c.t, 0, none⟩), .int .i64 (at_ : Int), .agg (ndO n o)] w (zap (tmI c root s :: ndI n o)) (fun _ : Pg => .agg #[kV [], .int .i64 0]) (fun s' => Tok c g' s') (fun s' => [tmI c root s']) := by
 have hsh : ShB c.sh := h.sh
 have hbk := hb.k
 have hbd := hb.d
 refine zbd [_, _, _] _ Tryz.func71 rfl rfl hw ha ?_
 obtain ⟨hk, -⟩ := zav (hw (own 9 1 o.k n.keys.length (n.keys.map kV)) (by simp [ndI])).1
 obtain ⟨hv, -⟩ := zav (hw (own 9 1 o.v n.vals.length (n.vals.map kV)) (by simp [ndI])).1
 obtain ⟨hd, -⟩ := zav (hw (own 3 1 o.d n.kids.length (n.kids.map iV)) (by simp [ndI])).1
 simp only [ndO]
 rw [hk, hv, hd]
 obtain ⟨lf, hlf⟩ : ∃ x, n.leaf = x := ⟨_, rfl⟩
 unfold qaq at hf
 rw [hlf] at hf ⊢
 simp only [zaa, Nat.reduceAdd]
 unfold ndI
 refine goA ?_
 refine zb0 rfl rfl fun b5 hb5 => ?_
 refine goA ?_
 refine zan rfl rfl fun b6 hb6 => ?_
 refine goA ?_
 refine zaq [0, 1, 2, 3, 4, 5] 29 rfl rfl (by kernel_rfl) ?_
 cases lf with
 | true =>
  have hf : n.keys.length ≤ c.sh.cap := of_decide_eq_true hf
  refine goE ?_
  refine d_v [] rfl rfl (by kernel_rfl) (fun _ h => goH h) rfl rfl (zxv rfl mm) ?_
  refine zau 10 ⟨by kernel_rfl, by decide⟩ rfl rfl (zag rfl (by kernel_rfl) rfl (fun w1 hw1 => zhf hsh w1)) (fun _ _ h => h) fun _ => ?_
  refine goE ?_
  refine zbs (by kernel_rfl) ?_
  refine goA ?_
  refine za1 [2, 0, 1, 3, 4, 5] rfl rfl ?_
  refine zae rfl (zba (pre := [tmI c root s]) rfl (by kernel_rfl) rfl (zah c root s) (fun w1 hw1 hh1 ha1 => zcn h root at_ n hlf rfl rfl rfl hb hl w1 ⟨zbn (hw1.item _ (.tail _ (.tail _ (.tail _ (.head _))))).1, zbn (hw1.item _ (.tail _ (.tail _ (.tail _ (.tail _ (.head _)))))).1, zbn (hw1.item _ (.tail _ (.tail _ (.tail _ (.tail _ (.tail _ (.head _))))))).1⟩ ⟨zby hw1 (.tail _ (.tail _ (.head _))), zby hw1 (.tail _ (.tail _ (.tail _ (.head _)))), zby hw1 (.tail _ (.tail _ (.tail _ (.tail _ (.head _)))))⟩ hh1)) fun ⟨s', h'⟩ => ?_
  refine goA ?_
  refine za0 rfl (zak (zci _ _ _) (zai rfl rfl rfl rfl rfl rfl)) fun _ => ?_
  refine goA ?_
  exact zbw s' rfl ⟨_, rfl, zas rfl (.head _)⟩ rfl h' (.cons _ (.cons_cons _ (List.nil_sublist _))) (zah _ _ _)
 | false =>
  have hf : n.kids.length ≤ c.sh.fan := of_decide_eq_true hf
  refine goE ?_
  refine d_v [] rfl rfl (by kernel_rfl) (fun _ h => goH h) rfl rfl (zxv rfl mm) ?_
  refine zau 25 ⟨by kernel_rfl, by decide⟩ rfl rfl (zag rfl (by kernel_rfl) rfl (fun w1 hw1 => zhh hsh w1)) (fun _ _ h => h) fun _ => ?_
  refine goE ?_
  refine zbs (by kernel_rfl) ?_
  refine goA ?_
  refine za1 [2, 0, 1, 3, 4, 5] rfl rfl ?_
  refine zae rfl (zba (pre := [tmI c root s]) rfl (by kernel_rfl) rfl (zah c root s) (fun w1 hw1 hh1 ha1 => zcn h root at_ n hlf rfl rfl rfl hb hl w1 ⟨zbn (hw1.item _ (.tail _ (.tail _ (.tail _ (.head _))))).1, zbn (hw1.item _ (.tail _ (.tail _ (.tail _ (.tail _ (.head _)))))).1, zbn (hw1.item _ (.tail _ (.tail _ (.tail _ (.tail _ (.tail _ (.head _))))))).1⟩ ⟨zby hw1 (.tail _ (.tail _ (.head _))), zby hw1 (.tail _ (.tail _ (.tail _ (.head _)))), zby hw1 (.tail _ (.tail _ (.tail _ (.tail _ (.head _)))))⟩ hh1)) fun ⟨s', h'⟩ => ?_
  refine goA ?_
  refine za0 rfl (zak (zci _ _ _) (zai rfl rfl rfl rfl rfl rfl)) fun _ => ?_
  refine goA ?_
  exact zbw s' rfl ⟨_, rfl, zas rfl (.head _)⟩ rfl h' (.cons _ (.cons_cons _ (List.nil_sublist _))) (zah _ _ _)
theorem NdB.sub {n n' : Nd} (h : NdB n) (hk : n'.keys.Sublist n.keys) (hv : n'.vals.Sublist n.vals) (hd : n'.kids.Sublist n.kids) : NdB n' :=
 ⟨Nat.le_trans hk.length_le h.k, Nat.le_trans hv.length_le h.v, Nat.le_trans hd.length_le h.d, fun k hm => h.kl k (hk.subset hm), fun k hm => h.vl k (hv.subset hm)⟩
theorem zbq {o : Option (Nat × Nat)} {n : Nat} {w : World} {e : TypeId} {xs : List Value} (h : (own e 1 o n xs).prop w) (h0 : 0 < n) : ∃ b c, o = some (b, c) := by
 cases o with
 | none => have : n = 0 := h.2; omega
 | some p => exact ⟨p.1, p.2, rfl⟩
theorem zyn {c : Tc} {g g1 g2 g3 : Sg} {s : Pg} (h : Tok c g s) (root : Int) (at_ : Nat) (n : Nd) (o : Po) (hb : NdB n) (hlf : n.leaf = true) (hf : c.sh.cap < n.keys.length) (q : Nat) (hp : zic c.N g = .ok (q, g1))
  (hl1 : zb7 c.sh c.N g1 q (lNd (n.keys.drop (n.keys.length / 2)) (n.vals.drop (n.keys.length / 2))) = .ok g2) (hl2 : zb7 c.sh c.N g2 at_ (lNd (n.keys.take (n.keys.length / 2)) (n.vals.take (n.keys.length / 2))) = .ok g3) (w : World) (hw : ∀ it ∈ tmI c root s :: ndI n o, za2 it w) (ha : (tmI c root s :: ndI n o).Pairwise Eng.Item.Apart) :
  Ct Tryz.prog 71 #[.pointer (some ⟨c.t, 0, none⟩), .int .i64 (at_ : Int), .agg (ndO n o)] w (zap (tmI c root s :: ndI n o)) (fun _ : Pg => .agg #[kV ((n.keys.drop (n.keys.length / 2)).headD []), .int .i64 (q : Int)]) (fun s' => Tok c g3 s') (fun s' => [tmI c root s']) := by
 have hsh : ShB c.sh := h.sh
 have hbk := hb.k
 have hbd := hb.d
 have hkv : n.keys.length = n.vals.length := by
  unfold zb7 at hl1
  split at hl1
  ·rename_i hm
   have := (hm.leaf rfl).2.1
   simp only [lNd, List.length_drop] at this
   unfold zb7 at hl2
   split at hl2
   ·rename_i hm2
    have := (hm2.leaf rfl).2.1
    simp only [lNd, List.length_take] at this
    omega
   ·cases hl2
  ·cases hl1
 refine zbd [_, _, _] _ Tryz.func71 rfl rfl hw ha ?_
 obtain ⟨kb, kc, hok⟩ := zbq (hw (own 9 1 o.k n.keys.length (n.keys.map kV)) (by simp [ndI])).1 (by omega)
 obtain ⟨hk, hkc⟩ := zav (hw (own 9 1 o.k n.keys.length (n.keys.map kV)) (by simp [ndI])).1
 obtain ⟨hv, hvc⟩ := zav (hw (own 9 1 o.v n.vals.length (n.vals.map kV)) (by simp [ndI])).1
 obtain ⟨hd, -⟩ := zav (hw (own 3 1 o.d n.kids.length (n.kids.map iV)) (by simp [ndI])).1
 obtain ⟨ok, ov, od⟩ := o
 simp only at hok hk hkc hv hvc hd hw ha ⊢
 subst hok
 simp only [ndO]
 rw [hk, hv, hd, hlf]
 simp only [zga, zf3] at hkc ⊢
 have hkn : n.keys.length / 2 < n.keys.length := by omega
 obtain ⟨kq, hkq⟩ : ∃ x, n.keys[n.keys.length / 2]? = some x := ⟨_, List.getElem?_eq_getElem hkn⟩
 have hhd : (n.keys.drop (n.keys.length / 2)).headD [] = kq := by
  obtain ⟨_, hh⟩ := List.getElem?_eq_some_iff.1 hkq
  rw [List.drop_eq_getElem_cons hkn, hh]; rfl
 rw [hhd]
 simp only [zaa, Nat.reduceAdd]
 unfold ndI
 refine goA ?_
 refine zb0 rfl rfl fun b5 hb5 => ?_
 refine goA ?_
 refine zan rfl rfl fun b6 hb6 => ?_
 refine goA ?_
 refine zaq [0, 1, 2, 3, 4, 5] 29 rfl rfl (by kernel_rfl) ?_
 refine goE ?_
 refine d_v [] rfl rfl (by kernel_rfl) (fun _ h => goH h) rfl rfl (zxv rfl mm) ?_
 refine zau 10 ⟨by kernel_rfl, by decide⟩ rfl rfl (zag rfl (by kernel_rfl) rfl (fun w1 hw1 => zhf hsh w1)) (fun _ _ h => h) fun _ => ?_
 refine goE ?_
 refine zbs (by kernel_rfl) ?_
 refine goA ?_
 refine za1 [2, 0, 1, 3, 4, 5] rfl rfl ?_
 refine zae rfl (zba (pre := [tmI c root s]) rfl (by kernel_rfl) rfl (zah c root s) (fun w1 hw1 hh1 ha1 => ztp h root hp w1 hh1)) fun ⟨s1, h1⟩ => ?_
 dsimp only
 refine goA ?_
 refine zan rfl rfl fun b7 hb7 => ?_
 refine zdc 46 _ (.agg #[.string ⟨#[]⟩, .int .i64 (q : Int)]) rfl rfl ?_
 refine za0 rfl (zai rfl rfl rfl rfl rfl rfl) fun _ => ?_
 refine goA ?_
 refine l_w rfl (zaz (v := kV kq) rfl rfl (fun w' hw' => zbo (hw'.item (own 9 1 (some (kb, kc)) n.keys.length (n.keys.map kV)) mm).1 _ _ (by simp only [Nat.zero_add, Nat.mul_one]; rw [List.getElem?_map, hkq]; rfl))) ?_
 refine goA ?_
 refine za0 rfl (zaj rfl rfl rfl rfl rfl rfl (by simp)) fun _ => ?_
 refine goA ?_
 refine zde [1, 0, 2, 3, 4, 5, 6] rfl rfl ?_
 refine zaq [1, 2, 3, 4, 5, 6] 13 rfl rfl (by kernel_rfl) ?_
 refine goE ?_
 refine zau 12 ⟨by kernel_rfl, by decide⟩ rfl rfl (zba (pre := [tmI c root s1]) rfl (by kernel_rfl) rfl (zah c root s1) (fun w1 hw1 hh1 ha1 => zcn h1 root q (lNd (n.keys.drop (n.keys.length / 2)) (n.vals.drop (n.keys.length / 2))) rfl List.length_drop List.length_drop rfl (hb.sub (List.drop_sublist _ _) (List.drop_sublist _ _) (List.nil_sublist _)) hl1 w1 ⟨by have := zgz (hw1.item (own 9 1 (some (kb, kc)) n.keys.length (n.keys.map kV)) mm).1 (n.keys.length / 2); rw [← List.map_drop] at this; exact this, by have := zgz (hw1.item (own 9 1 ov n.vals.length (n.vals.map kV)) mm).1 (n.keys.length / 2); rw [← List.map_drop] at this; exact this, .inl rfl⟩ ⟨znz (zby hw1 (o := some (kb, kc)) mm), znz (zby hw1 (o := ov) mm), fun _ h => nomatch h⟩ hh1)) (fun _ _ h => goH h) fun ⟨s2, h2⟩ => ?_
 refine zbs (by kernel_rfl) ?_
 refine goA ?_
 refine zaq [1, 2, 3, 4, 5, 6] 12 rfl rfl (by kernel_rfl) ?_
 refine goE ?_
 refine zau 11 ⟨by kernel_rfl, by decide⟩ rfl rfl (zba (pre := [tmI c root s2]) rfl (by kernel_rfl) rfl (zah c root s2) (fun w1 hw1 hh1 ha1 => zcn h2 root at_ (lNd (n.keys.take (n.keys.length / 2)) (n.vals.take (n.keys.length / 2))) rfl (by show (n.keys.take (n.keys.length / 2)).length = _; rw [List.length_take]; omega) (by show (n.vals.take (n.keys.length / 2)).length = _; rw [List.length_take]; omega) rfl (hb.sub (List.take_sublist _ _) (List.take_sublist _ _) (List.nil_sublist _)) hl2 w1 ⟨by have := Rd.take (zbn (hw1.item (own 9 1 (some (kb, kc)) n.keys.length (n.keys.map kV)) mm).1) (n.keys.length / 2); rw [← List.map_take] at this; exact this, by have := Rd.take (zbn (hw1.item (own 9 1 ov n.vals.length (n.vals.map kV)) mm).1) (n.keys.length / 2); rw [← List.map_take] at this; exact this, .inl rfl⟩ ⟨zby hw1 (o := some (kb, kc)) mm, zby hw1 (o := ov) mm, fun _ h => nomatch h⟩ hh1)) (fun _ _ h => goH h) fun ⟨s3, h3⟩ => ?_
 refine zbs (by kernel_rfl) ?_
 refine goA ?_
 refine za0 rfl (zak (zc9 _ _ _ _) (zai rfl rfl rfl rfl rfl rfl)) fun _ => ?_
 refine goA ?_
 exact zbw s3 rfl ⟨_, rfl, zas rfl (.head _)⟩ rfl h3 (.cons _ (.cons_cons _ (List.nil_sublist _))) (zah _ _ _)
theorem zvq {c : Tc} {g g1 g2 g3 : Sg} {s : Pg} (h : Tok c g s) (root : Int) (at_ : Nat) (n : Nd) (o : Po) (hb : NdB n) (hlf : n.leaf = false) (hf : c.sh.fan < n.kids.length) (q : Nat) (hp : zic c.N g = .ok (q, g1))
  (hl1 : zb7 c.sh c.N g1 q (iNd (n.keys.drop (n.kids.length / 2)) (n.kids.drop (n.kids.length / 2))) = .ok g2) (hl2 : zb7 c.sh c.N g2 at_ (iNd (n.keys.take (n.kids.length / 2 - 1)) (n.kids.take (n.kids.length / 2))) = .ok g3) (w : World) (hw : ∀ it ∈ tmI c root s :: ndI n o, za2 it w) (ha : (tmI c root s :: ndI n o).Pairwise Eng.Item.Apart) :
  Ct Tryz.prog 71 #[.pointer (some ⟨c.t, 0, none⟩), .int .i64 (at_ : Int), .agg (ndO n o)] w (zap (tmI c root s :: ndI n o)) (fun _ : Pg => .agg #[kV (n.keys.getD (n.kids.length / 2 - 1) []), .int .i64 (q : Int)]) (fun s' => Tok c g3 s') (fun s' => [tmI c root s']) := by
 have hsh : ShB c.sh := h.sh
 have hbk := hb.k
 have hbd := hb.d
 have hkd : n.kids.length = n.keys.length + 1 := by
  unfold zb7 at hl1
  split at hl1
  ·rename_i hm
   have := (hm.inner rfl).2.2.1
   simp only [iNd, List.length_drop] at this
   have h9 := (hm.inner rfl).2.2.2.1
   simp only [iNd, List.length_drop] at h9
   omega
  ·cases hl1
 have hk1 : 2 ≤ n.kids.length := by
  unfold zb7 at hl2
  split at hl2
  ·rename_i hm
   have := (hm.inner rfl).2.2.2.1
   simp only [iNd, List.length_take] at this
   omega
  ·cases hl2
 refine zbd [_, _, _] _ Tryz.func71 rfl rfl hw ha ?_
 obtain ⟨kb, kc, hok⟩ := zbq (hw (own 9 1 o.k n.keys.length (n.keys.map kV)) (by simp [ndI])).1 (by omega)
 obtain ⟨db, dc, hodd⟩ := zbq (hw (own 3 1 o.d n.kids.length (n.kids.map iV)) (by simp [ndI])).1 (by omega)
 obtain ⟨hk, hkc⟩ := zav (hw (own 9 1 o.k n.keys.length (n.keys.map kV)) (by simp [ndI])).1
 obtain ⟨hv, hvc⟩ := zav (hw (own 9 1 o.v n.vals.length (n.vals.map kV)) (by simp [ndI])).1
 obtain ⟨hd, hdc⟩ := zav (hw (own 3 1 o.d n.kids.length (n.kids.map iV)) (by simp [ndI])).1
 obtain ⟨ok, ov, od⟩ := o
 simp only at hok hk hkc hv hvc hd hdc hodd hw ha ⊢
 subst hok
 subst hodd
 simp only [ndO]
 rw [hk, hv, hd, hlf]
 simp only [zga, zf3] at hkc hdc ⊢
 have hkn : n.kids.length / 2 - 1 < n.keys.length := by omega
 obtain ⟨kq, hkq⟩ : ∃ x, n.keys[n.kids.length / 2 - 1]? = some x := ⟨_, List.getElem?_eq_getElem hkn⟩
 have hhd : n.keys.getD (n.kids.length / 2 - 1) [] = kq := by rw [List.getD_eq_getElem?_getD, hkq]; rfl
 rw [hhd]
 simp only [zaa, Nat.reduceAdd]
 unfold ndI
 refine goA ?_
 refine zb0 rfl rfl fun b5 hb5 => ?_
 refine goA ?_
 refine zan rfl rfl fun b6 hb6 => ?_
 refine goA ?_
 refine zaq [0, 1, 2, 3, 4, 5] 29 rfl rfl (by kernel_rfl) ?_
 refine goE ?_
 refine d_v [] rfl rfl (by kernel_rfl) (fun _ h => goH h) rfl rfl (zxv rfl mm) ?_
 refine zau 25 ⟨by kernel_rfl, by decide⟩ rfl rfl (zag rfl (by kernel_rfl) rfl (fun w1 hw1 => zhh hsh w1)) (fun _ _ h => h) fun _ => ?_
 refine goE ?_
 refine zbs (by kernel_rfl) ?_
 refine goA ?_
 refine za1 [2, 0, 1, 3, 4, 5] rfl rfl ?_
 refine zae rfl (zba (pre := [tmI c root s]) rfl (by kernel_rfl) rfl (zah c root s) (fun w1 hw1 hh1 ha1 => ztp h root hp w1 hh1)) fun ⟨s1, h1⟩ => ?_
 dsimp only
 refine goA ?_
 refine zan rfl rfl fun b7 hb7 => ?_
 refine zdc 46 _ (.agg #[.string ⟨#[]⟩, .int .i64 (q : Int)]) rfl rfl ?_
 refine za0 rfl (zai rfl rfl rfl rfl rfl rfl) fun _ => ?_
 refine goA ?_
 refine l_w rfl (zaz (v := kV kq) rfl rfl (fun w' hw' => zbo (hw'.item (own 9 1 (some (kb, kc)) n.keys.length (n.keys.map kV)) mm).1 _ _ (by simp only [Nat.zero_add, Nat.mul_one]; rw [List.getElem?_map, hkq]; rfl))) ?_
 refine goA ?_
 refine za0 rfl (zaj rfl rfl rfl rfl rfl rfl (by simp)) fun _ => ?_
 refine goA ?_
 refine zde [1, 0, 2, 3, 4, 5, 6] rfl rfl ?_
 refine zaq [1, 2, 3, 4, 5, 6] 13 rfl rfl (by kernel_rfl) ?_
 refine goE ?_
 refine zau 12 ⟨by kernel_rfl, by decide⟩ rfl rfl (zba (pre := [tmI c root s1]) rfl (by kernel_rfl) rfl (zah c root s1) (fun w1 hw1 hh1 ha1 => zcn h1 root q (iNd (n.keys.drop (n.kids.length / 2)) (n.kids.drop (n.kids.length / 2))) rfl List.length_drop rfl List.length_drop (hb.sub (List.drop_sublist _ _) (List.nil_sublist _) (List.drop_sublist _ _)) hl1 w1 ⟨by have := zgz (hw1.item (own 9 1 (some (kb, kc)) n.keys.length (n.keys.map kV)) mm).1 (n.kids.length / 2); rw [← List.map_drop] at this; exact this, .inl rfl, by have := zgz (hw1.item (own 3 1 (some (db, dc)) n.kids.length (n.kids.map iV)) mm).1 (n.kids.length / 2); rw [← List.map_drop] at this; exact this⟩ ⟨znz (zby hw1 (o := some (kb, kc)) mm), (fun _ h => nomatch h), znz (zby hw1 (o := some (db, dc)) mm)⟩ hh1)) (fun _ _ h => goH h) fun ⟨s2, h2⟩ => ?_
 refine zbs (by kernel_rfl) ?_
 refine goA ?_
 refine zaq [1, 2, 3, 4, 5, 6] 13 rfl rfl (by kernel_rfl) ?_
 refine goE ?_
 refine zau 12 ⟨by kernel_rfl, by decide⟩ rfl rfl (zba (pre := [tmI c root s2]) rfl (by kernel_rfl) rfl (zah c root s2) (fun w1 hw1 hh1 ha1 => zcn h2 root at_ (iNd (n.keys.take (n.kids.length / 2 - 1)) (n.kids.take (n.kids.length / 2))) rfl (by show (n.keys.take (n.kids.length / 2 - 1)).length = _; rw [List.length_take]; omega) rfl (by show (n.kids.take (n.kids.length / 2)).length = _; rw [List.length_take]; omega) (hb.sub (List.take_sublist _ _) (List.nil_sublist _) (List.take_sublist _ _)) hl2 w1 ⟨by have := Rd.take (zbn (hw1.item (own 9 1 (some (kb, kc)) n.keys.length (n.keys.map kV)) mm).1) (n.kids.length / 2 - 1); rw [← List.map_take] at this; exact this, .inl rfl, by have := Rd.take (zbn (hw1.item (own 3 1 (some (db, dc)) n.kids.length (n.kids.map iV)) mm).1) (n.kids.length / 2); rw [← List.map_take] at this; exact this⟩ ⟨zby hw1 (o := some (kb, kc)) mm, (fun _ h => nomatch h), zby hw1 (o := some (db, dc)) mm⟩ hh1)) (fun _ _ h => goH h) fun ⟨s3, h3⟩ => ?_
 refine zbs (by kernel_rfl) ?_
 refine goA ?_
 refine za0 rfl (zak (zc9 _ _ _ _) (zai rfl rfl rfl rfl rfl rfl)) fun _ => ?_
 refine goA ?_
 exact zbw s3 rfl ⟨_, rfl, zas rfl (.head _)⟩ rfl h3 (.cons _ (.cons_cons _ (List.nil_sublist _))) (zah _ _ _)
theorem zrd {s : Sh} {N : Nat} {g g' : Sg} {at_ : Nat} {n : Nd} {k : K} {q : Nat} (hl : zcd s N g at_ n = .ok ((k, q), g')) : (qaq s n = true ∧ k = [] ∧ q = 0 ∧ zb7 s N g at_ n = .ok g') ∨
  (n.leaf = true ∧ s.cap < n.keys.length ∧ ∃ g1 g2, zic N g = .ok (q, g1) ∧ zb7 s N g1 q (lNd (n.keys.drop (n.keys.length / 2)) (n.vals.drop (n.keys.length / 2))) = .ok g2 ∧ zb7 s N g2 at_ (lNd (n.keys.take (n.keys.length / 2)) (n.vals.take (n.keys.length / 2))) = .ok g' ∧ (n.keys.drop (n.keys.length / 2)).headD [] = k) ∨
  (n.leaf = false ∧ s.fan < n.kids.length ∧ ∃ g1 g2, zic N g = .ok (q, g1) ∧ zb7 s N g1 q (iNd (n.keys.drop (n.kids.length / 2)) (n.kids.drop (n.kids.length / 2))) = .ok g2 ∧ zb7 s N g2 at_ (iNd (n.keys.take (n.kids.length / 2 - 1)) (n.kids.take (n.kids.length / 2))) = .ok g' ∧ n.keys.getD (n.kids.length / 2 - 1) [] = k) := by
 unfold zcd at hl
 by_cases hf : qaq s n = true
 ·rw [if_pos hf] at hl
  obtain ⟨g1, h1, h2⟩ := zbt hl
  cases h2
  exact .inl ⟨hf, rfl, rfl, h1⟩
 ·rw [if_neg hf] at hl
  obtain ⟨⟨q1, g1⟩, h1, h2⟩ := zbt hl
  unfold qaq at hf
  cases hlf : n.leaf with
  | true =>
   rw [hlf, if_pos rfl] at hf
   simp only [hlf, if_true] at h2
   obtain ⟨g2, h3, h4⟩ := zbt h2
   obtain ⟨g3, h5, h6⟩ := zbt h4
   cases h6
   exact .inr (.inl ⟨rfl, by simpa using hf, g1, g2, h1, h3, h5, rfl⟩)
  | false =>
   rw [hlf, if_neg Bool.false_ne_true] at hf
   simp only [hlf, Bool.false_eq_true, if_false] at h2
   obtain ⟨g2, h3, h4⟩ := zbt h2
   obtain ⟨g3, h5, h6⟩ := zbt h4
   cases h6
   exact .inr (.inr ⟨rfl, by simpa using hf, g1, g2, h1, h3, h5, rfl⟩)
theorem zk7 {c : Tc} {g g' : Sg} {s : Pg} (h : Tok c g s) (root : Int) (at_ : Nat) (n : Nd) (o : Po) (hb : NdB n) {k : K} {q : Nat} (hl : zcd c.sh c.N g at_ n = .ok ((k, q), g')) (w : World) (hw : ∀ it ∈ tmI c root s :: ndI n o, za2 it w) (ha : (tmI c root s :: ndI n o).Pairwise Eng.Item.Apart) :
  Ct Tryz.prog 71 #[.pointer (some ⟨c.t, 0, none⟩), .int .i64 (at_ : Int), .agg (ndO n o)] w (zap (tmI c root s :: ndI n o)) (fun _ : Pg => .agg #[kV k, .int .i64 (q : Int)]) (fun s' => Tok c g' s') (fun s' => [tmI c root s']) := by
 rcases zrd hl with ⟨hf, rfl, rfl, h1⟩ | ⟨hlf, hf, g1, g2, h1, h2, h3, rfl⟩ | ⟨hlf, hf, g1, g2, h1, h2, h3, rfl⟩
 ·exact qbi h root at_ n o hb hf h1 w hw ha
 ·exact zyn h root at_ n o hb hlf hf q h1 h2 h3 w hw ha
 ·exact zvq h root at_ n o hb hlf hf q h1 h2 h3 w hw ha
end Go.Proofs.YtkkfifhaobjicaaGreatDoor
namespace Go.Eng
theorem Ct.imp {P : Program} {f : FuncId} {args : Array Value} {w : World} {Fc : Nat → Prop} {α α2 : Type} {val : α → Value} {φ : α → Prop} {its : α → List Item} {val2 : α2 → Value} {φ2 : α2 → Prop} {its2 : α2 → List Item}
  (h : Ct P f args w Fc val2 φ2 its2) (k : ∀ x, φ2 x → ∃ y, val2 x = val y ∧ φ y ∧ its y = its2 x) : Ct P f args w Fc val φ its := by
 unfold Ct at h ⊢
 refine h.mono ?_
 rintro e w' ⟨x, he, hx, hi⟩
 obtain ⟨y, h1, h2, h3⟩ := k x hx
 exact ⟨y, by rw [he, h1], h2, by rw [h3]; exact hi⟩
end Go.Eng
namespace Go.Proofs.YtkkfifhaobjicaaGreatDoor
open Go.RowKit Go.Eng Go.Eng.Bm
set_option maxRecDepth 100000
theorem qe5 {Φ : Sht → Prop} (D : Dsk) (n i : Nat) (h : ∀ j, j < i → zd4 D n j = true → Φ (zf6 (zch D (2 + j)))) : ∀ p ∈ zbj D n i, Φ p.2 := by
 induction i with
 | zero => exact fun _ h => nomatch h
 | succ i ih =>
  rw [zbj]
  split
  ·rename_i hc
   exact qh8 (ih fun j hj => h j (Nat.lt_succ_of_lt hj)) (h i (Nat.lt_succ_self i) hc)
  ·exact ih fun j hj => h j (Nat.lt_succ_of_lt hj)
abbrev oqV (x : Dk × Option Pg) : Value := .tuple #[.pointer (x.2.map fun s => ⟨s.b, 0, none⟩), .int .i64 ((if x.2.isSome then 0 else 4 : Nat) : Int)]
def oqI (x : Dk × Option Pg) : List Eng.Item := match x.2 with
 | some s => [pgI s x.1, dkI x.1, ctI]
 | none => [dkI x.1, ctI]
def oqP (d : Dk) (n secs : Nat) (note : Bys) (V : List Bys) (B : Nat) (x : Dk × Option Pg) : Prop := x.1.b = d.b ∧ match x.2 with
 | some s => zkz d.D x.1.D ∧ StX s x.1.D n secs note V [] (B + 1)
 | none => d.D.left ≠ none ∧ Off x.1.D n secs note V (B + 1)
theorem zxj (d : Dk) (n secs : Nat) (note : Bys) (V : List Bys) (B : Nat) (hkl : d.D.keep.length ≤ 1000000) (hr : d.D.Rest) (z : Siz d.D n secs note V) (hB : B + 1 < 9223372036854775808) (hR : ∃ h c TS, zwu d.D n secs note V B h c TS) (hp0 : ∃ S, qeb n (V.getD 0 []) S) (w : World)
  (hw : ∀ it ∈ [dkI d, ctI], za2 it w) (ha : [dkI d, ctI].Pairwise Eng.Item.Apart) :
  Ct Tryz.prog 51 #[.pointer (some ⟨d.b, 0, none⟩)] w (zap [dkI d, ctI]) oqV (oqP d n secs note V B) oqI := by
 obtain ⟨h, c, TS, R⟩ := hR
 obtain ⟨S, hS⟩ := hp0
 have hs2 := z.s2
 have hn1 := z.n1
 have hroom := z.room
 have hst := qde z hr hB R
 have hV0 : V[0]? = some (V.getD 0 []) := by rw [List.getD_eq_getElem?_getD, List.getElem?_eq_getElem (by rw [z.Vl]; omega)]; rfl
 refine Ct.imp (zux d z.ok hr.live hkl (by rw [hr.wait]; decide) (by omega) h c R.log.c01 (R.log.look hr.wait) R.log.hok R.log.secs (by rw [R.hs]; exact z.s2)
  (qe5 (Φ := fun s => s.text.length ≤ 497 ∧ s.text ≠ []) _ _ _ fun j hj hs => ?_) n note R.hnote z.n1 z.n2 z.note (by rw [R.hs]; exact z.room) TS R.log.read (fun Q hQ => ⟨(R.ts.each Q hQ).1, (R.ts.each Q hQ).2.2⟩) R.ts.many S (fun he => ?_) w hw ha) ?_
 ·have h1 : zid (zch d.D (2 + j)) = true := by unfold zd4 at hs; rw [Bool.and_eq_true] at hs; exact hs.1
  exact ⟨qbu h1, (R.log.sheets j hj hs).2⟩
 ·rcases hst with ⟨-, -, -, hc⟩ | ⟨h4, -⟩
  ·rw [hV0] at hc
   rw [Option.some.inj hc]
   exact hS
  ·rw [he] at h4; cases h4
 ·rintro ⟨d', s⟩ ⟨hd, ho⟩
  simp only at hd ho
  obtain ⟨k1, k2, k3⟩ := hd
  rcases hst with ⟨e, hl, hx, -⟩ | ⟨e, hdi, hz, hrec⟩
  ·refine ⟨(d', some s), ?_, ⟨k1, ?_⟩, ?_⟩
   ·simp only [if_pos e, e]; rfl
   ·have O := ho e
    rw [k3]
    refine ⟨hl, ⟨⟨[], hx s O⟩, fun i => by rw [O.hC], List.nodup_nil, by rw [hl.keep]; exact hkl, ⟨S, hS⟩, fun b hb => by rw [O.hC] at hb; cases hb⟩⟩
   ·simp only [if_pos e]; rfl
  ·have e' : ¬ (opF d.D (zcp d.D h c) TS).1 = 0 := by rw [e]; decide
   refine ⟨(d', none), ?_, ⟨k1, ?_⟩, ?_⟩
   ·simp only [if_neg e', e]; rfl
   ·rw [k3]
    exact ⟨hdi.left, hdi.dead, hdi.wait, hdi.left', hdi.keep, hz, hrec⟩
   ·simp only [if_neg e']; rfl
end Go.Proofs.YtkkfifhaobjicaaGreatDoor
namespace Go.Proofs.YtkkfifhaobjicaaGreatDoor
open Go.RowKit Go.Eng Go.Eng.Bm
set_option maxRecDepth 100000
set_option maxHeartbeats 40000000
structure Lw where
 xb : Nat
 s : Pg
 d : Dk
 pv : Nat
 cv : Nat
 pm : Nat
 V : List Bys
 C : PR
 A : List Eng.Item
abbrev lwA (log db sb pv n cv pm : Nat) : Array Value := #[.pointer (some ⟨db, 0, none⟩), .pointer (some ⟨sb, 0, none⟩), .slice (some ⟨pv, 0, none⟩) n cv, .map (some pm), .int .i64 (log : Int)]
abbrev lwC (log : Nat) (x : Lw) : Eng.Item := pt x.xb (.cells (lwA log x.d.b x.s.b x.pv x.V.length x.cv x.pm) 68 (0, 0))
def arI (A : List Eng.Item) : Eng.Item := zgu A
structure Ar (x : Lw) : Prop where
 stable : ∀ it ∈ x.A, it.Stable none'
 rows : rsI x.pv x.V ∈ x.A
 map : mC x.pm x.C ∈ x.A
def zt3 : Bys := [110, 111, 116, 101]
structure qq3 (x : Lw) (log B : Nat) : Prop where
 st : StX x.s x.d.D 128 log zt3 x.V x.C B
 ar : Ar x
 l1 : 96 ≤ log
 l2 : log ≤ 150
 hB : B ≤ 1000000000
theorem qbg (log : Nat) (x : Lw) : ∀ it ∈ [lwC log x, pgI x.s x.d, dkI x.d, ctI, arI x.A], it.Stable none' := by
 intro it hm
 rcases hm with _ | ⟨_, _ | ⟨_, _ | ⟨_, _ | ⟨_, _ | ⟨_, hm⟩⟩⟩⟩⟩
 ·exact zac _ _ _
 ·exact zad _
 ·exact zad _
 ·exact zcz _
 ·exact zad _
 ·cases hm
theorem zvz (d : Dk) (N log n : Nat) (note : Bys) (hd : d.D = zt9 N) (hN : N ≤ 4096) (hl1 : 96 ≤ log) (hl2 : log ≤ 512) (hn1 : 64 ≤ n) (hn2 : n ≤ 1024) (hno : note.length ≤ 40) (hroom : 2 + log + n ≤ N) (w : World) (hw : ∀ it ∈ [dkI d, ctI], za2 it w) (ha : [dkI d, ctI].Pairwise Eng.Item.Apart) :
  Ct Tryz.prog 50 #[.pointer (some ⟨d.b, 0, none⟩), .int .i64 (log : Int), .int .i64 (n : Int), .string ⟨note.toArray⟩] w (zap [dkI d, ctI]) (fun _ : Dk => .int .i64 0) (fun d' => d'.b = d.b ∧ d'.D.Rest ∧ d'.D.left = none ∧ d'.D.keep.length ≤ 1000000 ∧ Siz d'.D n log note (V0 n) ∧ ∃ h, zwu d'.D n log note (V0 n) 1 h 1 []) (fun d' => [dkI d', ctI]) := by
 obtain ⟨f1, f2, f3, f6, f4, f5⟩ := qlb (N := N) (log := log) (n := n) (note := note) hN (by omega) hl2 hn1 hn2 hno hroom
 refine Ct.imp (zqw d (by rw [hd]; exact qcv hN) (by rw [hd]; rfl) (by rw [hd]; exact Nat.zero_le _) (by rw [hd]; exact Nat.zero_le _) log n note hl1 hl2 hn1 hn2 hno (by rw [hd]; show 2 + log + n ≤ (List.replicate _ _).length; rw [List.length_replicate]; omega) w hw ha) ?_
 rintro d' ⟨k1, -, k3⟩
 rw [hd] at k3
 refine ⟨d', ?_, ⟨k1, ?_⟩, rfl⟩
 ·rw [hd, f1]; rfl
 ·rw [k3]; exact ⟨f2, f3, by rw [f6]; exact Nat.zero_le _, f4, f5⟩
theorem zv3 (log : Nat) (h1 : 96 ≤ log) (h2 : log ≤ 150) (w : World) (hw : ∀ it ∈ [ctI], za2 it w) :
  Ct Tryz.prog 22 #[.int .i64 (log : Int)] w (zap [ctI]) (fun x : Lw => .tuple #[.pointer (some ⟨x.xb, 0, none⟩), .bool true]) (fun x => qq3 x log 2 ∧ x.d.D.left = none ∧ x.V = V0 128 ∧ x.C = []) (fun x => [lwC log x, pgI x.s x.d, dkI x.d, ctI, arI x.A]) := by
 refine zbd [_] _ Tryz.func22 rfl rfl hw (.cons (fun _ h => nomatch h) .nil) ?_
 simp only [zaa]
 refine goA ?_
 refine ze5 rfl rfl (by kernel_rfl) rfl (fun w1 hw1 => qax (2 + log + 130) (by omega) w1) fun x hx => ?_
 simp only [List.cons_append, List.nil_append]
 refine goA ?_
 refine zae rfl (zba (pre := [dkI x, ctI]) rfl (by kernel_rfl) rfl (zb4 x) (fun w1 hw1 hh1 ha1 => zvz x (2 + log + 130) log 128 zt3 hx (by omega) h1 (by omega) (by decide) (by decide) (by decide) (by omega) w1 hh1 ha1)) fun ⟨d1, k1, f2, f3, f6, f4, hh, f5⟩ => ?_
 simp only [List.cons_append, List.nil_append]
 refine goA ?_
 rw [← k1]
 refine zae rfl (zba (pre := [dkI d1, ctI]) rfl (by kernel_rfl) rfl (zb4 d1) (fun w1 hw1 hh1 ha1 => zxj d1 128 log zt3 (V0 128) 1 f6 f2 f4 (by decide) ⟨_, _, _, f5⟩ ⟨_, by rw [List.getD_eq_getElem?_getD, qij (by decide)]; exact qjn 128 (by decide)⟩ w1 hh1 ha1)) fun ⟨⟨d2, so⟩, hd2⟩ => ?_
 obtain ⟨q1, q2⟩ := hd2
 cases so with
 | none => exact absurd f3 q2.1
 | some s =>
  obtain ⟨q2, q3⟩ := q2
  simp only [Option.map_some, Option.isSome_some, if_true, oqI, List.cons_append, List.nil_append]
  rw [← q1]
  refine goA ?_
  refine ze5 rfl rfl (by kernel_rfl) rfl (fun w1 hw1 => qbm 128 (by decide) (by decide) w1) fun x hx => ?_
  obtain ⟨pv, cv, pm⟩ := x
  simp only [List.cons_append, List.nil_append]
  refine goA ?_
  refine zb0 rfl rfl fun b32 hb32 => ?_
  refine goA ?_
  have hq := q2.left f3
  refine zb3 (m' := [lwC log ⟨b32, s, d2, pv, cv, pm, V0 128, [], [rsI pv (V0 128), mC pm []]⟩, pgI s d2, dkI d2, ctI, arI [rsI pv (V0 128), mC pm []]]) (fun w' hw' => ?_) ?_
  ·have h1 : Hp w (zap [ctI]) (rsI pv (V0 128) :: mC pm [] :: [lwC log ⟨b32, s, d2, pv, cv, pm, V0 128, [], [rsI pv (V0 128), mC pm []]⟩, pgI s d2, dkI d2, ctI]) w' := hw'.pick [1, 2, 0, 3, 4, 5] rfl rfl
   have h2 := Hp.close1 (L := [rsI pv (V0 128), mC pm []]) (m := [lwC log ⟨b32, s, d2, pv, cv, pm, V0 128, [], [rsI pv (V0 128), mC pm []]⟩, pgI s d2, dkI d2, ctI]) (by intro it hm; rcases hm with _ | ⟨_, _ | ⟨_, hm⟩⟩; exact zjh _ _; exact za6 _ _ _ _; cases hm) h1
   exact h2.pick [1, 2, 3, 4, 0] rfl rfl
  ·refine zdq ⟨b32, s, d2, pv, cv, pm, V0 128, [], [rsI pv (V0 128), mC pm []]⟩ rfl rfl rfl rfl ⟨⟨q3, ⟨?_, .head _, .tail _ (.head _)⟩, h1, h2, by decide⟩, hq, rfl, rfl⟩ (.refl _) ?_
   ·intro it hm; rcases hm with _ | ⟨_, _ | ⟨_, hm⟩⟩; exact zjh _ _; exact za6 _ _ _ _; cases hm
   ·exact qbg _ _
end Go.Proofs.YtkkfifhaobjicaaGreatDoor
namespace Go.Proofs.YtkkfifhaobjicaaGreatDoor
open Go.RowKit Go.Eng Go.Eng.Bm
set_option maxRecDepth 100000
theorem zjx (a b : Bys) : seq ⟨a.toArray⟩ ⟨b.toArray⟩ = decide (a = b) := by
 rw [Bool.eq_iff_iff, ztj, decide_eq_true_iff]
 constructor
 ·intro h
  have := congrArg (fun x : ByteArray => x.data.toList) h
  simpa using this
 ·intro h; rw [h]
def qra (V1 : List Bys) (C1 : PR) (x : Lw) (i : Nat) : Prop := ∀ j, j < i → zfr V1 C1 j = zfr x.V x.C j
end Go.Proofs.YtkkfifhaobjicaaGreatDoor
namespace Go.Eng
open Go.RowKit
theorem qfv {l : zat} : ∀ {L : zat}, Has l L → ∀ {t : Nat} {v : Value}, get L t = some v → get l t = some v
 | [], _, _, _, h => by cases h
 | (k, u) :: r, hl, t, v, h => by
  rw [zbi] at h
  split at h
  ·rename_i hk
   cases h
   rw [← hk]; exact hl.1
  ·exact qfv hl.2 h
theorem zxz {P : Program} {ops : Array Oper} {Q : Exit → Act → World → Prop} {S : World → Prop} {t n n' : Nat} {N : Fm} {listed listed' : Array Bool} {l : zat} {w0 : World} {F : Nat → Prop} {m : List Item} {α : Type} (L : α → zat) (M : α → List Item)
  (k : ∀ x, HD P ops Q S t N n' listed' (L x) (Hp w0 F (M x))) (h : (∀ x l', Has l' (L x) → HD P ops Q S t N n' listed' l' (Hp w0 F (M x))) → HD P ops Q S t N n listed l (Hp w0 F m)) : HD P ops Q S t N n listed l (Hp w0 F m) :=
 h fun x l' hl => by
  have hk := k x
  unfold HD at hk ⊢
  exact fun inv a w s hw => hk inv a w ⟨s.size, s.defers, fun t' v hv => s.slot t' v (qfv hl hv)⟩ hw
end Go.Eng
namespace Go.Proofs.YtkkfifhaobjicaaGreatDoor
open Go.RowKit Go.Eng Go.Eng.Bm
set_option maxRecDepth 100000
end Go.Proofs.YtkkfifhaobjicaaGreatDoor
