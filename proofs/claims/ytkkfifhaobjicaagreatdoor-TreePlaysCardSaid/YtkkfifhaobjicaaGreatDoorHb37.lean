/- tree: what it stands on in memory; must, ask, there, load, save, page, drop. Own work; no condition. -/
import Derived.Test.YtkkfifhaobjicaaGreatDoorHb35
import Derived.Test.YtkkfifhaobjicaaGreatDoorHb36
namespace Go.Eng
open Go.RowKit
theorem qqi {P : Program} {w0 : World} {m : List Item} {l : zat} {n : Nat} {fn : Func} (hf : fn.results = #[]) : HX (bodyPost P fn (zq4 w0 (.tuple #[]))) .normal ⟨n, [], none⟩ l (Hp w0 none' m) := zze hf fun _ hw => ⟨rfl, hw.fr⟩
theorem Ct.map {P : Program} {f : FuncId} {args : Array Value} {w : World} {Fc : Nat → Prop} {α α2 : Type} {val : α → Value} {φ : α → Prop} {its : α → List Item} {val2 : α2 → Value} {φ2 : α2 → Prop} {its2 : α2 → List Item} (h : Ct P f args w Fc val2 φ2 its2) (hm : ∀ x, φ2 x → ∃ y, val2 x = val y ∧ φ y ∧ its2 x = its y) : Ct P f args w Fc val φ its := by
 unfold Ct at *
 refine h.mono ?_
 rintro e w' ⟨x, he, hx, hi⟩
 obtain ⟨y, h1, h2, h3⟩ := hm x hx
 exact ⟨y, by rw [he, h1], h2, by rw [← h3]; exact hi⟩
end Go.Eng
namespace Go.Proofs.YtkkfifhaobjicaaGreatDoor
open Go.RowKit Go.Eng Go.Eng.Bm Go.Eng.Tr
set_option maxRecDepth 100000
set_option maxHeartbeats 40000000
theorem zef (k : Int) (w : World) : Pu Tryz.prog 36 #[.bool true, .int .i64 k] w (.tuple #[]) := by
 refine zbl [_, _] Tryz.func36 rfl rfl ?_
 simp only [zaa, Nat.reduceAdd]
 refine goA ?_
 exact qqi rfl
theorem zlq {p : Prop} [Decidable p] (hp : p) (k : Int) (w : World) : Pu Tryz.prog 36 #[.bool (decide p), .int .i64 k] w (.tuple #[]) := by
 rw [decide_eq_true hp]
 exact zef k w
theorem qn9 {b : Nat} {bs : Bys} {w : World} (h : (rdI b bs).prop w) : Rd w (some ⟨b, 0, none⟩) (zaf bs) := Rd.mk h.1
theorem zy1 (w : World) : Pu Tryz.prog 67 #[.int .i64 0] w (.tuple #[]) := by
 refine zbl [_] Tryz.func67 rfl rfl ?_
 simp only [zaa]
 refine goA ?_
 exact qqi rfl
abbrev trC (c : Tc) (root : Int) : Eng.Item := pt c.t (.cells #[.pointer (some ⟨c.pb, 0, none⟩), .int .i64 (c.sh.kw : Int), .int .i64 (c.sh.vw : Int), .int .i64 root] 47 (0, 0))
def tmL (c : Tc) (root : Int) (s : Pg) : List Eng.Item := [trC c root, pgI s c.d, dkI c.d, tzI]
def tmI (c : Tc) (root : Int) (s : Pg) : Eng.Item := zgu (tmL c root s)
theorem qbp (c : Tc) (root : Int) (s : Pg) : ∀ it ∈ tmL c root s, it.Stable none' := by
 intro it hm
 rcases hm with _ | ⟨_, hm⟩
 ·exact zac _ _ _
 ·exact zl9 s c.d it hm
theorem zah (c : Tc) (root : Int) (s : Pg) : ∀ it ∈ [tmI c root s], it.Stable none' := by
 intro it hm
 rcases hm with _ | ⟨_, hm⟩
 ·exact zad _
 ·cases hm
theorem zh1 {c : Tc} {root : Int} {s : Pg} {w w0 : World} {F : Nat → Prop} {m : List Eng.Item} (h : Hp w0 F (tmI c root s :: m) w) : Hp w0 F (tmL c root s ++ m) w := Hp.open1 h
theorem zf8 {c : Tc} {root : Int} {s : Pg} {w w0 : World} {F : Nat → Prop} {m : List Eng.Item} (h : Hp w0 F (tmL c root s ++ m) w) : Hp w0 F (tmI c root s :: m) w := Hp.close1 (qbp c root s) h
theorem zmi (n : Nd) (o : Po) : ∀ it ∈ ndI n o, it.Stable none' := by simp [ndI, zab]
theorem zcj (c : Tc) (root : Int) (s : Pg) (n : Nd) (o : Po) : ∀ it ∈ tmI c root s :: ndI n o, it.Stable none' := by
 intro it hm
 rcases hm with _ | ⟨_, hm⟩
 ·exact zad _
 ·exact zmi n o it hm
theorem zcx (n : Nd) (o : Po) : zbz (ndO n o).toList = true := by
 rw [za4]
 intro v hv
 simp only [ndO, List.mem_cons, List.not_mem_nil, or_false] at hv
 rcases hv with rfl | rfl | rfl | rfl
 ·rfl
 ·exact zdf _ _
 ·exact zdf _ _
 ·exact zdf _ _
theorem qmj {s : Sh} (hs : ShB s) (n : Nd) (a : Pl) (hb : NdB n) (hm : zfs s n) (w : World) (hr : NdR w n a) : Ct Tryz.prog 69 #[shV s, ndV n a] w none' (fun o : Option (Nat × Nat) => .tuple #[slV o 512, .int .i64 0]) (fun _ => True) (fun o => [own 5 1 o 512 (zaf (zcg n))]) :=
 (zqy hs n a hb w hr).map fun x hx => by
  cases x with
  | none => simp [hm] at hx
  | some o => exact ⟨o, rfl, trivial, rfl⟩
theorem qiu {s : Sh} (hs : ShB s) (a : Option Addr) (m c : Nat) (bs : Bys) (hn : bs.length = m) (hz : m ≤ 100000) {n : Nd} (ht : zp8 s bs = some n) (w : World) (hr : Rd w a (zaf bs)) : Ct Tryz.prog 102 #[shV s, .slice a m c] w none' (fun o : Po => .tuple #[.agg (ndO n o), .int .i64 0]) (fun _ => True) (fun o => ndI n o) :=
 (zx3 hs a m c bs hn hz w hr).map fun x hx => by
  rw [ht] at hx
  cases x with
  | none => cases hx
  | some p =>
   obtain ⟨n', o⟩ := p
   cases hx
   exact ⟨o, rfl, trivial, rfl⟩
theorem qn8 {l : zat} {w0 : World} {F : Nat → Prop} {m : List Eng.Item} {ty : TypeId} {x : Operand} {t : Nat} {p q r z : Value} (hx : evO l x = some (.pointer (some ⟨t, 1, none⟩))) (hm : pt t (.cells #[p, q, r, z] 47 (0, 0)) ∈ m) : OV Tryz.prog (.load 45 x) ty l (Hp w0 F m) (.agg #[q, r]) :=
 zfi (xs := [q, r]) (c := #[q, r]) hx rfl (fun w' hw' => by
  have h := za7 (cs := [p, q, r, z]) (hw'.get hm)
  have h2 := zfp (k := 2) (zgx (k := 1) h)
  rw [Nat.zero_add] at h2
  exact h2) rfl
theorem zj4 {c : Tc} {g : Sg} {s : Pg} (h : Tok c g s) (root at_ : Int) {n : Nd} (hl : zen c.sh c.N g at_ = .ok n) (w : World) (hw : ∀ it ∈ [tmI c root s], za2 it w) :
  Ct Tryz.prog 61 #[.pointer (some ⟨c.t, 0, none⟩), .int .i64 at_] w (zap [tmI c root s]) (fun x : Pg × Po => .agg (ndO n x.2)) (fun x => Tok c g x.1) (fun x => tmI c root x.1 :: ndI n x.2) := by
 obtain ⟨i, rfl, hi1, hi2, ht⟩ : ∃ i : Nat, at_ = (i : Int) ∧ 1 ≤ i ∧ i < c.N ∧ zp8 c.sh (g.W i) = some n := by
  unfold zen at hl
  split at hl
  ·rename_i hc
   refine ⟨at_.toNat, by omega, by omega, by omega, ?_⟩
   split at hl
   ·rename_i ht; cases hl; exact ht
   ·cases hl
  ·cases hl
 obtain ⟨d, t, pb, sh, N, secs, note, V, B⟩ := c
 obtain rfl := h.b
 have hN2 : N ≤ 1024 := h.N2
 have hi2 : i < N := hi2
 have hlen := h.len hi1 hi2
 have hpg := h.pg hi1 hi2
 have hsn : s.n = N := h.st.hn
 refine zbd [_, _] _ Tryz.func61 rfl rfl hw (.cons (fun _ h => nomatch h) .nil) ?_
 simp only [zaa, Nat.reduceAdd]
 refine zku (m' := tmL _ root s) (fun w h => zh1 (m := []) h) ?_
 unfold tmL trC
 simp only at hpg hlen ⊢
 refine goA ?_
 refine zan rfl rfl fun b4 hb4 => ?_
 refine goA ?_
 refine zae rfl (zag rfl (by kernel_rfl) rfl (fun w1 hw1 => zs1 s d w1 (za2.of (hw1.item (pgI s d) (by simp)) (zco s d)))) fun _ => ?_
 rw [hsn]
 refine goA ?_
 refine zae rfl (zag rfl (by kernel_rfl) rfl (fun w1 hw1 => zlq (by omega) _ w1)) fun _ => ?_
 refine goA ?_
 refine za1 [2, 3, 0, 1, 4] rfl rfl ?_
 refine zae rfl (zba (pre := [pgI s d, dkI d]) rfl (by kernel_rfl) rfl (zds s d) (fun w1 hw1 hh1 ha1 => znd s d h.ok h.lives h.wait h.st.dead h.st.ok i (by omega) w1 hh1 ha1)) fun ⟨b, _⟩ => ?_
 rw [hpg]
 dsimp only
 refine goA ?_
 refine zae rfl (zag rfl (by kernel_rfl) rfl (fun w1 hw1 => zy1 w1)) fun _ => ?_
 refine goA ?_
 refine l_w rfl (qn8 rfl mm) ?_
 refine goA ?_
 refine ze5 rfl rfl (by kernel_rfl) rfl (fun w1 hw1 => qiu (show ShB sh from h.sh) (some ⟨b, 0, none⟩) 512 512 (g.W i) hlen (by decide) ht w1 (qn9 (hw1.item (rdI b (g.W i)) (.head _)).1)) fun o _ => ?_
 refine goA ?_
 refine zan rfl rfl fun b7 hb7 => ?_
 refine za0 rfl (zai (cs' := ndO n o) rfl rfl rfl rfl (zcx n o) rfl) fun _ => ?_
 refine goA ?_
 refine zae rfl (zag rfl (by kernel_rfl) rfl (fun w1 hw1 => zef _ w1)) fun _ => ?_
 refine goA ?_
 unfold ndI
 simp only [List.cons_append, List.nil_append]
 refine za0 rfl (zak (zut _ _ _ _ _ _ _ _ _) (zai (cs' := ndO n o) rfl rfl rfl rfl (zcx n o) rfl)) fun _ => ?_
 refine goA ?_
 refine zb3 (m' := tmI ⟨d, t, s.b, sh, N, secs, note, V, B⟩ root (zc4 s d.D i) :: pt b4 (.cells (ndO n o) 101 (0, 0)) :: ndI n o) (fun w' hw' => zf8 (hw'.pick [8, 6, 7, 9, 0, 2, 3, 4] rfl rfl)) ?_
 exact zbw (zc4 s d.D i, o) rfl ⟨_, rfl, zas rfl (.tail _ (.head _))⟩ rfl (h.page hi2) (.cons_cons _ (.cons _ (.refl _))) (zcj _ _ _ _ _)
structure NdA (F : Nat → Prop) (a : Pl) : Prop where
 k : ∀ x : Addr, a.k.1 = some x → ¬ F x.block
 v : ∀ x : Addr, a.v.1 = some x → ¬ F x.block
 d : ∀ x : Addr, a.d.1 = some x → ¬ F x.block
theorem qe6 {w w0 : World} {F : Nat → Prop} {m : List Eng.Item} {a : Option Addr} {xs : List Value} (h : Rd w0 a xs) (ha : ∀ x : Addr, a = some x → ¬ F x.block) (hw : Hp w0 F m w) : Rd w a xs := by
 rcases h with h | ⟨b, off, h1, h2⟩
 ·exact .inl h
 ·exact .inr ⟨b, off, h1, fun j u hu => hw.old (a := ⟨b, off + j, none⟩) (show ¬ F b from ha _ h1) (h2 j u hu)⟩
theorem NdR.out {w w0 : World} {F : Nat → Prop} {m : List Eng.Item} {n : Nd} {a : Pl} (h : NdR w0 n a) (ha : NdA F a) (hw : Hp w0 F m w) : NdR w n a := ⟨qe6 h.k ha.k hw, qe6 h.v ha.v hw, qe6 h.d ha.d hw⟩
theorem zby {w w0 : World} {F : Nat → Prop} {it : Eng.Item} {m : List Eng.Item} {e : TypeId} {o : Option (Nat × Nat)} {n : Nat} {xs : List Value} (h : Hp w0 F (it :: m) w) (hm : own e 1 o n xs ∈ m) : ∀ x : Addr, slA o = some x → ¬ zap [it] x.block := fun x hx ⟨y, hy, hk⟩ => by
 obtain rfl : y = it := by simpa using hy
 match o, hx with
 | some (b, c), hx =>
  cases hx
  exact (List.pairwise_cons.1 h.apart).1 _ hm _ hk ⟨c, rfl⟩
theorem qbv {a : Option Addr} {r : Bool} {k : Nat} {x : Addr} (h : zqr a r k = some x) : ∃ y, a = some y ∧ y.block = x.block := by
 unfold zqr at h
 split at h
 ·exact ⟨x, h, rfl⟩
 ·cases a with
  | none => cases h
  | some y =>
   cases h
   exact ⟨y, rfl, by unfold Addr.add; split <;> rfl⟩
theorem save_ok' {c : Tc} {g g' : Sg} {s : Pg} (h : Tok c g s) (root : Int) (at_ : Nat) (n : Nd) (a : Pl) (hb : NdB n) (hl : zb7 c.sh c.N g at_ n = .ok g') (w : World) (hr : NdR w n a) (hA : NdA (zap [tmI c root s]) a) (hw : ∀ it ∈ [tmI c root s], za2 it w) :
  Ct Tryz.prog 41 #[.pointer (some ⟨c.t, 0, none⟩), .int .i64 (at_ : Int), ndV n a] w (zap [tmI c root s]) (fun _ : Pg => .tuple #[]) (fun s' => Tok c g' s') (fun s' => [tmI c root s']) := by
 obtain ⟨hm, hi1, hi2, rfl⟩ : zfs c.sh n ∧ 1 ≤ at_ ∧ at_ < c.N ∧ { g with W := wr g.W at_ (zcg n) } = g' := by
  unfold zb7 at hl
  split at hl
  ·rename_i h1
   split at hl
   ·rename_i h2; cases hl; exact ⟨h1, h2.1, h2.2, rfl⟩
   ·cases hl
  ·cases hl
 obtain ⟨d, t, pb, sh, N, secs, note, V, B⟩ := c
 obtain rfl := h.b
 have hsh : ShB sh := h.sh
 have hPl := zu0 hsh.k1 hm
 have h' := h.save hi1 hi2 hPl
 have hN2 : N ≤ 1024 := h.N2
 have hi2 : at_ < N := hi2
 have hsn : s.n = N := h.st.hn
 refine zbd [_, _, _] _ Tryz.func41 rfl rfl hw (.cons (fun _ h => nomatch h) .nil) ?_
 simp only [zaa, Nat.reduceAdd]
 unfold ndV
 refine zku (m' := tmL _ root s) (fun w h => zh1 (m := []) h) ?_
 unfold tmL trC
 simp only at hPl ⊢
 refine goA ?_
 refine zb0 rfl rfl fun b5 hb5 => ?_
 refine goA ?_
 refine zaq [0, 1, 2, 3, 4] 11 rfl rfl (by kernel_rfl) ?_
 (repeat first | refine dAv [3] rfl rfl rfl ?_ | refine dno [3] rfl rfl rfl ?_ | refine dT [3] rfl rfl rfl rfl ?_ | refine dF [3] rfl rfl rfl rfl ?_)
 refine d_v [] rfl rfl (by kernel_rfl) (fun _ h => goH h) rfl rfl (qn8 rfl mm) ?_
 refine goE ?_
 refine zau 5 ⟨by kernel_rfl, by decide⟩ rfl rfl (qck rfl (by kernel_rfl) rfl (fun w1 hw1 => qmj hsh n a hb hm w1 (hr.out hA hw1))) (fun _ _ h => goH h) fun ⟨o, _⟩ => ?_
 refine goE ?_
 refine zbs (by kernel_rfl) ?_
 refine goA ?_
 refine zae rfl (zag rfl (by kernel_rfl) rfl (fun w1 hw1 => zef _ w1)) fun _ => ?_
 refine zea (fun w hw => zav (hw.item (own 5 1 o 512 (zaf (zcg n))) (by simp)).1) fun ⟨hsl, _⟩ => ?_
 rw [hsl]
 refine goA ?_
 refine za1 [3, 0, 1, 2, 4, 5] rfl rfl ?_
 refine zae rfl (zba (pre := [pgI s d]) rfl (by kernel_rfl) rfl (zda s d) (fun w1 hw1 hh1 ha1 => zws s d (at_ : Nat) (zcg n) hPl (slA o) (slC o) h.st.dead (by omega) w1 hh1 (zbn (hw1.item (own 5 1 o 512 (zaf (zcg n))) (.tail _ (.head _))).1) (fun b off e => zby hw1 (.head _) ⟨b, off, none⟩ e))) fun ⟨_, _⟩ => ?_
 have hcc : ¬ ((at_ : Int) < 1 ∨ (s.n : Int) ≤ (at_ : Int)) := by omega
 rw [if_neg hcc, if_neg hcc, Int.toNat_natCast]
 dsimp only
 refine goA ?_
 refine zae rfl (zag rfl (by kernel_rfl) rfl (fun w1 hw1 => zy1 w1)) fun _ => ?_
 refine goA ?_
 refine zb3 (m' := [tmI ⟨d, t, s.b, sh, N, secs, note, V, B⟩ root { s with C := zep s.C at_ (zcg n) }]) (fun w' hw' => zf8 (m := []) (hw'.pick [3, 0, 4, 5] rfl rfl)) ?_
 exact zk3 { s with C := zep s.C at_ (zcg n) } rfl rfl h' (.refl _) (zah _ _ _)
theorem ztp {c : Tc} {g g' : Sg} {s : Pg} (h : Tok c g s) (root : Int) {q : Nat} (hl : zic c.N g = .ok (q, g')) (w : World) (hw : ∀ it ∈ [tmI c root s], za2 it w) :
  Ct Tryz.prog 42 #[.pointer (some ⟨c.t, 0, none⟩)] w (zap [tmI c root s]) (fun _ : Pg => .int .i64 (q : Int)) (fun s' => Tok c g' s') (fun s' => [tmI c root s']) := by
 obtain ⟨h', hq1, hq2, hq3, hq4⟩ := h.alloc hl
 obtain ⟨d, t, pb, sh, N, secs, note, V, B⟩ := c
 obtain rfl := h.b
 refine zbd [_] _ Tryz.func42 rfl rfl hw (.cons (fun _ h => nomatch h) .nil) ?_
 simp only [zaa]
 refine zku (m' := tmL _ root s) (fun w h => zh1 (m := []) h) ?_
 unfold tmL trC
 simp only at h' ⊢
 refine goA ?_
 refine za1 [1, 2, 3, 0] rfl rfl ?_
 refine zae rfl (zba (pre := [pgI s d, dkI d, tzI]) rfl (by kernel_rfl) rfl (zl9 s d) (fun w1 hw1 hh1 ha1 => zuf s d h.ok h.lives h.wait h.st.dead h.st.ok g.S h.hS (by rw [h.st.hn]; exact h.S.2.1) h.S.2.2 q hq1 hq2 hq3 w1 hh1 ha1)) fun ⟨_, _⟩ => ?_
 refine goA ?_
 refine zae rfl (zag rfl (by kernel_rfl) rfl (fun w1 hw1 => zy1 w1)) fun _ => ?_
 refine goA ?_
 refine zb3 (m' := [tmI ⟨d, t, s.b, sh, N, secs, note, V, B⟩ root (zq9 s d.D g.S q)]) (fun w' hw' => zf8 (m := []) (hw'.pick [3, 0, 1, 2] rfl rfl)) ?_
 exact zbw (zq9 s d.D g.S q) rfl rfl rfl h' (.refl _) (zah _ _ _)
theorem zs6 {c : Tc} {g g' : Sg} {s : Pg} (h : Tok c g s) (root : Int) (at_ : Nat) (hl : zfy c.N g at_ = .ok g') (w : World) (hw : ∀ it ∈ [tmI c root s], za2 it w) :
  Ct Tryz.prog 40 #[.pointer (some ⟨c.t, 0, none⟩), .int .i64 (at_ : Int)] w (zap [tmI c root s]) (fun _ : Pg => .tuple #[]) (fun s' => Tok c g' s') (fun s' => [tmI c root s']) := by
 obtain ⟨h', hq1, hq2⟩ := h.drop hl
 obtain ⟨d, t, pb, sh, N, secs, note, V, B⟩ := c
 obtain rfl := h.b
 refine zbd [_, _] _ Tryz.func40 rfl rfl hw (.cons (fun _ h => nomatch h) .nil) ?_
 simp only [zaa, Nat.reduceAdd]
 refine zku (m' := tmL _ root s) (fun w h => zh1 (m := []) h) ?_
 unfold tmL trC
 simp only at h' ⊢
 refine goA ?_
 refine za1 [1, 2, 3, 0] rfl rfl ?_
 refine zae rfl (zba (pre := [pgI s d, dkI d]) rfl (by kernel_rfl) rfl (zds s d) (fun w1 hw1 hh1 ha1 => zun s d h.ok h.lives h.wait h.st.dead h.st.ok (by rw [h.st.hn]; exact h.N1) g.S h.hS (by rw [h.st.hn]; exact h.S.2.1) h.S.2.2 at_ hq1 w1 hh1 ha1)) fun ⟨_, _⟩ => ?_
 rw [if_neg hq2, if_neg hq2]
 refine goA ?_
 refine zae rfl (zag rfl (by kernel_rfl) rfl (fun w1 hw1 => zy1 w1)) fun _ => ?_
 refine goA ?_
 refine zb3 (m' := [tmI ⟨d, t, s.b, sh, N, secs, note, V, B⟩ root (qb4 s d.D g.S at_ false)]) (fun w' hw' => zf8 (m := []) (hw'.pick [3, 0, 1, 2] rfl rfl)) ?_
 exact zk3 (qb4 s d.D g.S at_ false) rfl rfl h' (.refl _) (zah _ _ _)
end Go.Proofs.YtkkfifhaobjicaaGreatDoor
