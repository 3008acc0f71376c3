/- node: Take. Own work; no condition. -/
/- package wal: the number behind all numbers of a map. -/
/- package wal: the head that counts. -/
import Derived.Test.YtkkfifhaobjicaaGreatDoorHb22
import Derived.Test.YtkkfifhaobjicaaGreatDoorHb21
namespace Go.Eng
open Go.RowKit
theorem zzu {P : Program} {Q : Exit → Act → World → Prop} {l : zat} {w0 : World} {F : Nat → Prop} {m : List Item} {n id : Nat} {ds : List Deferred} {r : Option Nat} {x y : Code} {α : Type} (L : α → zat) (φ : α → Prop) (M : α → List Item)
  (h : HT P x (Exit.inBlock id (Exit.then (fun a w => ∃ z, φ z ∧ St ⟨n, ds, r⟩ (L z) a ∧ Hp w0 F (M z) w) Q)) ⟨n, ds, r⟩ l (Hp w0 F m)) (k : ∀ z, φ z → HT P y Q ⟨n, ds, r⟩ (L z) (Hp w0 F (M z))) : HT P x (Exit.inBlock id (Exit.then (WP P r y Q) Q)) ⟨n, ds, r⟩ l (Hp w0 F m) := by
 unfold HT at *
 refine fun a w s hw => WP.mono (fun e a' w' q => ?_) (h a w s hw)
 have hn : ∀ a' w', (∃ z, φ z ∧ St ⟨n, ds, r⟩ (L z) a' ∧ Hp w0 F (M z) w') → WP P r y Q a' w' := fun a' w' ⟨z, h1, h2, h3⟩ => k z h1 a' w' h2 h3
 cases e with
 | normal => exact hn a' w' q
 | exit i =>
  simp only [Exit.inBlock] at q ⊢
  split
  ·rename_i hi
   rw [if_pos hi] at q
   exact hn a' w' q
  ·rename_i hi
   rw [if_neg hi] at q
   exact q
 | _ => exact q
end Go.Eng
namespace Go.Proofs.YtkkfifhaobjicaaGreatDoor
open Go.RowKit Go.Eng Go.Eng.Tr
set_option maxRecDepth 100000
set_option maxHeartbeats 40000000
structure Po where
 k : Option (Nat × Nat)
 v : Option (Nat × Nat)
 d : Option (Nat × Nat)
def ndO (n : Nd) (o : Po) : Array Value := #[.bool n.leaf, slV o.k n.keys.length, slV o.v n.vals.length, slV o.d n.kids.length]
def ndI (n : Nd) (o : Po) : List Eng.Item := [own 9 1 o.k n.keys.length (n.keys.map kV), own 9 1 o.v n.vals.length (n.vals.map kV), own 3 1 o.d n.kids.length (n.kids.map iV)]
def nd0 : Nd := ⟨false, [], [], []⟩
theorem zwn (s : Sh) : ∀ (m : Nat) (st : Opn), (zeo s false m st).2.1 = []
 | 0, _ => rfl
 | m + 1, (r, bad) => by
  rw [zeo]
  cases bad <;> simp
theorem zvd (s : Sh) (lf : Bool) : ∀ (m : Nat) (st : Opn), (∀ k ∈ (zeo s lf m st).1, k.length ≤ s.kw) ∧ ∀ k ∈ (zeo s lf m st).2.1, k.length ≤ s.vw
 | 0, _ => ⟨fun _ h => (nomatch h), fun _ h => (nomatch h)⟩
 | m + 1, (r, bad) => by
  rw [zeo]
  cases bad with
  | true => exact ⟨fun _ h => (nomatch h), fun _ h => (nomatch h)⟩
  | false =>
   obtain ⟨a1, a2⟩ := zvd s lf m (qco s lf (r, false)).2.2
   rw [if_neg Bool.false_ne_true]
   refine ⟨fun k hk => ?_, fun k hk => ?_⟩
   ·rcases List.mem_cons.1 hk with rfl | hk
    ·exact zo9 s.kw (r, false)
    ·exact a1 k hk
   ·cases lf with
    | false => cases hk
    | true =>
     rcases List.mem_cons.1 hk with rfl | hk
     ·exact zo9 s.vw _
     ·exact a2 k hk
theorem zx3 {s : Sh} (hs : ShB s) (a : Option Addr) (n c : Nat) (bs : Bys) (hn : bs.length = n) (hz : n ≤ 100000) (w : World) (hr : Rd w a (zaf bs)) :
  Ct Tryz.prog 102 #[shV s, .slice a n c] w none' (fun x : Option (Nd × Po) => match x with | none => .tuple #[.agg (ndO nd0 ⟨none, none, none⟩), .int .i64 3] | some p => .tuple #[.agg (ndO p.1 p.2), .int .i64 0])
   (fun x => x.map (·.1) = zp8 s bs) (fun x => match x with | none => [] | some p => ndI p.1 p.2) := by
 have hmay := zhb hs
 refine zfo [_, _] Tryz.func102 rfl rfl ?_
 unfold shV shI at hmay ⊢
 simp only [zaa, Nat.reduceAdd]
 refine goA ?_
 refine zb0 rfl rfl fun b1 hb1 => ?_
 refine goA ?_
 refine zan rfl rfl fun b2 hb2 => ?_
 refine goA ?_
 refine zae rfl (zag rfl (by kernel_rfl) rfl (fun w1 hw1 => hmay w1)) fun _ => ?_
 refine goA ?_
 refine ze5 rfl rfl (by kernel_rfl) rfl (fun w1 hw1 => zlb a n c bs hn (by omega) w1 (hr.keep hw1)) fun x hx => ?_
 obtain ⟨b, oD⟩ := x
 simp only at hx ⊢
 refine goA ?_
 obtain ⟨v1, s1, h1⟩ : ∃ v s, opN 1 (bs, false) = (v, s) := ⟨_, _, rfl⟩
 obtain ⟨v2, s2, h2⟩ : ∃ v s, opN 1 s1 = (v, s) := ⟨_, _, rfl⟩
 obtain ⟨v3, s3, h3⟩ : ∃ v s, opN 2 s2 = (v, s) := ⟨_, _, rfl⟩
 have l1 : s1.1.length ≤ n := by have := zft 1 (bs, false); have e : (opT 1 (bs, false)).2 = s1 := congrArg Prod.snd h1; rw [e] at this; rw [← hn]; exact this
 have l2 : s2.1.length ≤ n := by have := zft 1 s1; have e : (opT 1 s1).2 = s2 := congrArg Prod.snd h2; rw [e] at this; omega
 have l3 : s3.1.length ≤ n := by have := zft 2 s2; have e : (opT 2 s2).2 = s3 := congrArg Prod.snd h3; rw [e] at this; omega
 have b1' : v1 < 256 := by have := zqv 1 (bs, false); rw [h1] at this; exact this
 have b3 : v3 < 65536 := by have := zqv 2 s2; rw [h3] at this; exact this
 have hsD : (own 5 1 oD n (zaf bs)).Stable none' := zab _ _ _ _ _ _
 generalize own 5 1 oD n (zaf bs) = D at hx hsD
 refine zae rfl (zba (pre := [opI b (slA oD) (slC oD) (bs, false), D]) rfl (by kernel_rfl) rfl (by simp [zam, hsD]) (fun w1 hw1 hh1 ha1 => zh8 v1 s1 h1 hsD hx (.inl rfl) (by simp only; omega) hh1 ha1)) fun ⟨y1, hy1⟩ => ?_
 refine goA ?_
 obtain ⟨lf, hlf⟩ : ∃ x, decide (v1 = 1) = x := ⟨_, rfl⟩
 refine zdc 22 _ (.agg #[.bool lf, .slice none 0 0, .slice none 0 0, .slice none 0 0]) rfl ?_ ?_
 ·have e : ((v1 : Int) == 1) = lf := by rw [← hlf]; by_cases h : v1 = 1 <;> simp [h]; omega
  rw [e]; rfl
 dsimp only
 refine zan rfl rfl fun b5 hb5 => ?_
 refine za0 rfl (zai (cs' := #[.bool lf, .slice none 0 0, .slice none 0 0, .slice none 0 0]) rfl rfl rfl rfl rfl rfl) fun _ => ?_
 refine goA ?_
 refine za1 [1, 2, 0, 3, 4] rfl rfl ?_
 refine zae rfl (zba (pre := [opI b y1.1 y1.2 s1, D]) rfl (by kernel_rfl) rfl (by simp [zam, hsD]) (fun w1 hw1 hh1 ha1 => zh8 v2 s2 h2 hsD hy1 (.inl rfl) (by omega) hh1 ha1)) fun ⟨y2, hy2⟩ => ?_
 refine goA ?_
 refine zae rfl (zba (pre := [opI b y2.1 y2.2 s2, D]) rfl (by kernel_rfl) rfl (by simp [zam, hsD]) (fun w1 hw1 hh1 ha1 => zh8 v3 s3 h3 hsD hy2 (.inr (.inl rfl)) (by omega) hh1 ha1)) fun ⟨y3, hy3⟩ => ?_
 dsimp only
 refine goA ?_
 obtain ⟨KF, hKF⟩ : ∃ x, (if lf then (([] : List Nat), s3) else Tr.kidsF (v3 + 1) s3) = x := ⟨_, rfl⟩
 refine zzu (w0 := w) (F := none') (α := List Nat × Option (Nat × Nat) × (Option Addr × Nat) × Opn) (fun y => [(2, .pointer (some ⟨b1, 0, none⟩)), (4, .pointer (some ⟨b2, 0, none⟩)), (6, .pointer (some ⟨b, 0, none⟩)), (7, .pointer (some ⟨b5, 0, none⟩)), (8, .int .i64 v3), (1, .slice a n c)]) (fun y => zi6 D y.2.2.1.1 y.2.2.1.2 y.2.2.2.1 ∧ y.2.2.2.1.length ≤ n ∧ KF = (y.1, y.2.2.2) ∧ y.1.length ≤ 70000)
  (fun y => [opI b y.2.2.1.1 y.2.2.1.2 y.2.2.2, D, own 3 1 y.2.1 y.1.length (y.1.map iV), pt b5 (.cells #[.bool lf, .slice none 0 0, .slice none 0 0, slV y.2.1 y.1.length] 101 (0, 0)), pt b2 (.cells #[.bool false, .slice none 0 0, .slice none 0 0, .slice none 0 0] 101 (0, 0)), pt b1 (.cells #[.int .i64 s.kw, .int .i64 s.vw] 45 (0, 0))]) ?_ fun ⟨kd, od, y, st⟩ ⟨j1, j2, j3, j4⟩ => ?_
 refine zct (α := List Nat × Option (Nat × Nat) × (Option Addr × Nat) × Opn) (fun y => [(2, .pointer (some ⟨b1, 0, none⟩)), (4, .pointer (some ⟨b2, 0, none⟩)), (6, .pointer (some ⟨b, 0, none⟩)), (7, .pointer (some ⟨b5, 0, none⟩)), (8, .int .i64 v3), (9, .int .i64 y.1.length), (1, .slice a n c)])
  (fun y => y.1.length ≤ v3 + 1 ∧ zi6 D y.2.2.1.1 y.2.2.1.2 y.2.2.2.1 ∧ y.2.2.2.1.length ≤ n ∧ KF = (if lf then ([], s3) else (y.1 ++ (Tr.kidsF (v3 + 1 - y.1.length) y.2.2.2).1, (Tr.kidsF (v3 + 1 - y.1.length) y.2.2.2).2)) ∧ (lf = true → y.1 = [] ∧ y.2.2.2 = s3))
  (fun y => [opI b y.2.2.1.1 y.2.2.1.2 y.2.2.2, D, own 3 1 y.2.1 y.1.length (y.1.map iV), pt b5 (.cells #[.bool lf, .slice none 0 0, .slice none 0 0, slV y.2.1 y.1.length] 101 (0, 0)), pt b2 (.cells #[.bool false, .slice none 0 0, .slice none 0 0, .slice none 0 0] 101 (0, 0)), pt b1 (.cells #[.int .i64 s.kw, .int .i64 s.vw] 45 (0, 0))])
  (fun y => v3 + 1 - y.1.length) ([], none, y3, s3) ⟨rfl, rfl, rfl, rfl, rfl, rfl, rfl, trivial⟩ ⟨Nat.zero_le _, hy3, l3, ?_, fun h => ⟨rfl, rfl⟩⟩ (fun w' hw' => (zd5 3 1 hw').pick [1, 2, 0, 3, 4, 5] rfl rfl) fun ⟨kd, od, y, st⟩ ⟨i1, i2, i3, i4, i5⟩ => ?_
 ·rw [← hKF]
  cases lf <;> simp
 simp only at i1 i2 i3 i4 i5 ⊢
 cases lf with
 | true =>
  obtain ⟨rfl, rfl⟩ := i5 rfl
  refine goA ?_
  exact zd1 (([] : List Nat), od, y, st) ⟨rfl, rfl, rfl, rfl, rfl, rfl, trivial⟩ ⟨i2, i3, i4, Nat.zero_le _⟩ (fun w' hw' => hw')
 | false =>
  rw [if_neg Bool.false_ne_true] at i4
  by_cases h : kd.length ≤ v3
  ·obtain ⟨r, bad⟩ := st
   obtain ⟨m, hm⟩ : ∃ m, v3 + 1 - kd.length = m + 1 := ⟨v3 - kd.length, by omega⟩
   rw [hm] at i4
   refine goA ?_
   refine zae rfl (zag rfl (by kernel_rfl) rfl (fun w1 hw1 => zeu b y.1 y.2 (r, bad) w1 (za2.of (hw1.item _ (.head _)) (zam _ _ _ _)))) fun _ => ?_
   cases bad with
   | true =>
    simp only [if_true]
    refine goA ?_
    exact zd1 (kd, od, y, (r, true)) ⟨rfl, rfl, rfl, rfl, rfl, rfl, trivial⟩ ⟨i2, i3, by rw [i4, Tr.kidsF, if_pos rfl, List.append_nil], by omega⟩ (fun w' hw' => hw')
   | false =>
    simp only [Bool.false_eq_true, if_false]
    obtain ⟨kv, s4, h4⟩ : ∃ v s, opN 2 (r, false) = (v, s) := ⟨_, _, rfl⟩
    have l4 : s4.1.length ≤ r.length := by have := zft 2 (r, false); have e : (opT 2 (r, false)).2 = s4 := congrArg Prod.snd h4; rw [e] at this; exact this
    have b4 : kv < 65536 := by have := zqv 2 (r, false); rw [h4] at this; exact this
    have hKn : Tr.kidsF (m + 1) (r, false) = (kv :: (Tr.kidsF m s4).1, (Tr.kidsF m s4).2) := by rw [Tr.kidsF, if_neg Bool.false_ne_true, h4]
    rw [hKn] at i4
    refine goA ?_
    refine zaq [3, 4, 5] 8 rfl rfl (by kernel_rfl) ?_
    refine goE ?_
    refine zau 3 ⟨by kernel_rfl, by decide⟩ rfl rfl (zba (pre := [opI b y.1 y.2 (r, false), D]) rfl (by kernel_rfl) rfl (by simp [zam, hsD]) (fun w1 hw1 hh1 ha1 => zh8 kv s4 h4 hsD i2 (.inr (.inl rfl)) (by simp only at i3 ⊢; omega) hh1 ha1)) (fun _ _ h => goH h) fun ⟨y4, hy4⟩ => ?_
    refine goE ?_
    refine zau 5 ⟨by kernel_rfl, by decide⟩ rfl rfl (zbc (L := [(0, 1, .int .i64 (kv : Int))]) rfl rfl rfl rfl rfl (by simp [zdh, Value.cells])) (fun _ _ h => goH h) fun ⟨bp, hbp⟩ => ?_
    refine goE ?_
    refine zau 6 ⟨by kernel_rfl, by decide⟩ rfl rfl (zak (zdl _ _ _ _ _) (zdj (news := [iV kv]) rfl rfl rfl rfl rfl rfl rfl rfl (by omega) (fun w' hw' j v hj => by rw [zc8, Nat.zero_add]; exact zbo (hw'.item _ (.tail _ (.head _))).1 j v hj))) (fun _ _ h => goH h) fun o' => ?_
    refine goE ?_
    refine ze9 [4, 0, 1, 2, 3, 5, 6] rfl rfl ?_
    refine zdk ⟨by kernel_rfl, by kernel_rfl⟩ rfl rfl (zaj rfl rfl rfl rfl (zc0 _ _) (zdf _ _) (show (3 : Nat) < 4 from by decide)) fun _ => ?_
    refine goA ?_
    refine zay (kd ++ [kv], o', y4, s4) ⟨rfl, rfl, rfl, rfl, rfl, by rw [List.length_append]; rfl, rfl, trivial⟩ ⟨by rw [List.length_append]; simp only [List.length_singleton]; omega, hy4, by simp only at i3 ⊢; omega, ?_, fun h => nomatch h⟩ (fun w' hw' => ?_) (by simp only [List.length_append, List.length_singleton]; omega)
    ·rw [i4]
     simp only [List.length_append, List.length_singleton, List.append_assoc, List.singleton_append, show v3 + 1 - (kd.length + 1) = m by omega]
    ·simp only [List.length_append, List.length_singleton, List.map_append, List.map_cons, List.map_nil]
     exact hw'.pick [3, 4, 1, 0, 5, 6] rfl rfl
  ·have hz0 : v3 + 1 - kd.length = 0 := by omega
   rw [hz0] at i4
   refine goA ?_
   exact zd1 (kd, od, y, st) ⟨rfl, rfl, rfl, rfl, rfl, rfl, trivial⟩ ⟨i2, i3, by rw [i4, Tr.kidsF, List.append_nil], by omega⟩ (fun w' hw' => hw')
 simp only at j1 j2 j3 j4 ⊢
 have j3k := j3
 obtain ⟨st0, hst0⟩ : ∃ x, st = x := ⟨_, rfl⟩
 rw [hst0] at j3k
 -- the keys, and a leaf's values
 obtain ⟨NF, hNF⟩ : ∃ x, zeo s lf v3 st0 = x := ⟨_, rfl⟩
 refine goA ?_
 refine zzu (w0 := w) (F := none') (α := List K × List K × Option (Nat × Nat) × Option (Nat × Nat) × (Option Addr × Nat) × Opn) (fun y => [(2, .pointer (some ⟨b1, 0, none⟩)), (4, .pointer (some ⟨b2, 0, none⟩)), (6, .pointer (some ⟨b, 0, none⟩)), (7, .pointer (some ⟨b5, 0, none⟩)), (8, .int .i64 v3), (1, .slice a n c)]) (fun y => zi6 D y.2.2.2.2.1.1 y.2.2.2.2.1.2 y.2.2.2.2.2.1 ∧ y.2.2.2.2.2.1.length ≤ n ∧ NF = (y.1, y.2.1, y.2.2.2.2.2) ∧ y.1.length ≤ 70000 ∧ y.2.1.length ≤ 70000)
  (fun y => [opI b y.2.2.2.2.1.1 y.2.2.2.2.1.2 y.2.2.2.2.2, D, own 9 1 y.2.2.1 y.1.length (y.1.map kV), own 9 1 y.2.2.2.1 y.2.1.length (y.2.1.map kV), own 3 1 od kd.length (kd.map iV), pt b5 (.cells #[.bool lf, slV y.2.2.1 y.1.length, slV y.2.2.2.1 y.2.1.length, slV od kd.length] 101 (0, 0)), pt b2 (.cells #[.bool false, .slice none 0 0, .slice none 0 0, .slice none 0 0] 101 (0, 0)), pt b1 (.cells #[.int .i64 s.kw, .int .i64 s.vw] 45 (0, 0))]) ?_ fun ⟨ks, vs, ok, ov, y, st⟩ ⟨j1, j2, j3, j4, j5⟩ => ?_
 refine zct (α := List K × List K × Option (Nat × Nat) × Option (Nat × Nat) × (Option Addr × Nat) × Opn) (fun y => [(2, .pointer (some ⟨b1, 0, none⟩)), (4, .pointer (some ⟨b2, 0, none⟩)), (6, .pointer (some ⟨b, 0, none⟩)), (7, .pointer (some ⟨b5, 0, none⟩)), (8, .int .i64 v3), (1, .slice a n c), (10, .int .i64 y.1.length)]) (fun y => y.1.length ≤ v3 ∧ zi6 D y.2.2.2.2.1.1 y.2.2.2.2.1.2 y.2.2.2.2.2.1 ∧ y.2.2.2.2.2.1.length ≤ n ∧ NF = (y.1 ++ (zeo s lf (v3 - y.1.length) y.2.2.2.2.2).1, y.2.1 ++ (zeo s lf (v3 - y.1.length) y.2.2.2.2.2).2.1, (zeo s lf (v3 - y.1.length) y.2.2.2.2.2).2.2) ∧ y.2.1.length ≤ y.1.length)
  (fun y => [opI b y.2.2.2.2.1.1 y.2.2.2.2.1.2 y.2.2.2.2.2, D, own 9 1 y.2.2.1 y.1.length (y.1.map kV), own 9 1 y.2.2.2.1 y.2.1.length (y.2.1.map kV), own 3 1 od kd.length (kd.map iV), pt b5 (.cells #[.bool lf, slV y.2.2.1 y.1.length, slV y.2.2.2.1 y.2.1.length, slV od kd.length] 101 (0, 0)), pt b2 (.cells #[.bool false, .slice none 0 0, .slice none 0 0, .slice none 0 0] 101 (0, 0)), pt b1 (.cells #[.int .i64 s.kw, .int .i64 s.vw] 45 (0, 0))]) (fun y => v3 - y.1.length) ([], [], none, none, y, st) ⟨rfl, rfl, rfl, rfl, rfl, rfl, rfl, trivial⟩ ⟨Nat.zero_le _, j1, j2, by rw [← hNF, ← hst0]; rfl, Nat.le_refl _⟩ (fun w' hw' => (zd5 9 1 (zd5 9 1 hw')).pick [2, 3, 0, 1, 4, 5, 6, 7] rfl rfl) fun ⟨ks, vs, ok, ov, y, st⟩ ⟨i1, i2, i3, i4, i5⟩ => ?_
 ·simp only at i1 i2 i3 i4 i5 ⊢
  by_cases h : ks.length < v3
  ·obtain ⟨r, bad⟩ := st
   obtain ⟨m, hm⟩ : ∃ m, v3 - ks.length = m + 1 := ⟨v3 - ks.length - 1, by omega⟩
   rw [hm] at i4
   refine goA ?_
   refine zae rfl (zag rfl (by kernel_rfl) rfl (fun w1 hw1 => zeu b y.1 y.2 (r, bad) w1 (za2.of (hw1.item _ (.head _)) (zam _ _ _ _)))) fun _ => ?_
   cases bad with
   | true =>
    simp only [if_true]
    refine goA ?_
    exact zd1 (ks, vs, ok, ov, y, (r, true)) ⟨rfl, rfl, rfl, rfl, rfl, rfl, trivial⟩ ⟨i2, i3, by rw [i4, zeo, if_pos rfl, List.append_nil, List.append_nil], by show ks.length ≤ 70000; omega, by show vs.length ≤ 70000; omega⟩ (fun w' hw' => hw')
   | false =>
    simp only [Bool.false_eq_true, if_false]
    obtain ⟨t1, s4, h4⟩ : ∃ v s', opT s.kw (r, false) = (v, s') := ⟨_, _, rfl⟩
    obtain ⟨t2, s5, h5⟩ : ∃ v s', opT s.vw s4 = (v, s') := ⟨_, _, rfl⟩
    have l4 : s4.1.length ≤ r.length := by have := zft s.kw (r, false); rw [h4] at this; exact this
    have l5 : s5.1.length ≤ s4.1.length := by have := zft s.vw s4; rw [h5] at this; exact this
    simp only at i3
    refine goA ?_
    refine zaq [5, 6, 7] 9 rfl rfl (by kernel_rfl) ?_
    refine goE ?_
    refine zau 5 ⟨by kernel_rfl, by decide⟩ rfl rfl (zba (pre := [opI b y.1 y.2 (r, false), D]) rfl (by kernel_rfl) rfl (by simp [zam, hsD]) (fun w1 hw1 hh1 ha1 => zo3 (n := s.kw) t1 s4 h4 hsD i2 (by simp only; omega) hh1 ha1)) (fun _ _ h => goH h) fun ⟨ys4, hys4⟩ => ?_
    refine goE ?_
    refine zau 6 ⟨by kernel_rfl, by decide⟩ rfl rfl (zbc (L := [(0, 1, kV t1)]) rfl rfl rfl rfl rfl (by simp [zdh, Value.cells, kV])) (fun _ _ h => goH h) fun ⟨bp, hbp⟩ => ?_
    refine goE ?_
    refine zau 7 ⟨by kernel_rfl, by decide⟩ rfl rfl (zak (zdl _ _ _ _ _) (zdj (news := [kV t1]) rfl rfl rfl rfl rfl rfl rfl rfl (by omega) (fun w' hw' j v hj => by rw [zc8, Nat.zero_add]; exact zbo (hw'.item _ (.tail _ (.head _))).1 j v hj))) (fun _ _ h => goH h) fun ok' => ?_
    refine goE ?_
    refine ze9 [6, 0, 1, 2, 3, 4, 5, 7, 8] rfl rfl ?_
    refine zdk ⟨by kernel_rfl, by kernel_rfl⟩ rfl rfl (zaj rfl rfl rfl rfl (zc0 _ _) (zdf _ _) (show (1 : Nat) < 4 from by decide)) fun _ => ?_
    refine goA ?_
    cases lf with
    | true =>
     have hKn : zeo s true (m + 1) (r, false) = (t1 :: (zeo s true m s5).1, t2 :: (zeo s true m s5).2.1, (zeo s true m s5).2.2) := by
      rw [zeo, if_neg Bool.false_ne_true]
      simp only [qco, if_true, h4, h5]
     rw [hKn] at i4
     refine goA ?_
     refine zde [3, 4, 5, 1, 6, 0, 7, 8] rfl rfl ?_
     refine zaq [5, 6, 7] 9 rfl rfl (by kernel_rfl) ?_
     refine goE ?_
     refine zau 5 ⟨by kernel_rfl, by decide⟩ rfl rfl (zba (pre := [opI b ys4.1 ys4.2 s4, D]) rfl (by kernel_rfl) rfl (by simp [zam, hsD]) (fun w1 hw1 hh1 ha1 => zo3 (n := s.vw) t2 s5 h5 hsD hys4 (by omega) hh1 ha1)) (fun _ _ h => goH h) fun ⟨ys5, hys5⟩ => ?_
     refine goE ?_
     refine zau 6 ⟨by kernel_rfl, by decide⟩ rfl rfl (zbc (L := [(0, 1, kV t2)]) rfl rfl rfl rfl rfl (by simp [zdh, Value.cells, kV])) (fun _ _ h => goH h) fun ⟨bp, hbp⟩ => ?_
     refine goE ?_
     refine zau 7 ⟨by kernel_rfl, by decide⟩ rfl rfl (zak (zdl _ _ _ _ _) (zdj (news := [kV t2]) rfl rfl rfl rfl rfl rfl rfl rfl (by omega) (fun w' hw' j v hj => by rw [zc8, Nat.zero_add]; exact zbo (hw'.item _ (.tail _ (.head _))).1 j v hj))) (fun _ _ h => goH h) fun ov' => ?_
     refine goE ?_
     refine ze9 [6, 0, 1, 2, 3, 4, 5, 7, 8] rfl rfl ?_
     refine zdk ⟨by kernel_rfl, by kernel_rfl⟩ rfl rfl (zaj rfl rfl rfl rfl (zc0 _ _) (zdf _ _) (show (2 : Nat) < 4 from by decide)) fun _ => ?_
     refine goA ?_
     refine zay (ks ++ [t1], vs ++ [t2], ok', ov', ys5, s5) ⟨rfl, rfl, rfl, rfl, rfl, rfl, by rw [List.length_append]; rfl, trivial⟩ ⟨by rw [List.length_append]; simp only [List.length_singleton]; omega, hys5, by simp only; omega, ?_, by simp only [List.length_append, List.length_singleton]; omega⟩ (fun w' hw' => ?_) (by simp only [List.length_append, List.length_singleton]; omega)
     ·rw [i4]
      simp only [List.length_append, List.length_singleton, List.append_assoc, List.singleton_append, show v3 - (ks.length + 1) = m by omega]
     ·simp only [List.length_append, List.length_singleton, List.map_append, List.map_cons, List.map_nil]
      exact hw'.pick [3, 4, 5, 1, 6, 0, 7, 8] rfl rfl
    | false =>
     have hKn : zeo s false (m + 1) (r, false) = (t1 :: (zeo s false m s4).1, [], (zeo s false m s4).2.2) := by
      rw [zeo, if_neg Bool.false_ne_true]
      simp only [qco, Bool.false_eq_true, if_false, h4]
     rw [hKn] at i4
     refine goA ?_
     refine zay (ks ++ [t1], vs, ok', ov, ys4, s4) ⟨rfl, rfl, rfl, rfl, rfl, rfl, by rw [List.length_append]; rfl, trivial⟩ ⟨by rw [List.length_append]; simp only [List.length_singleton]; omega, hys4, by simp only; omega, ?_, by simp only [List.length_append, List.length_singleton]; omega⟩ (fun w' hw' => ?_) (by simp only [List.length_append, List.length_singleton]; omega)
     ·rw [i4]
      simp only [List.length_append, List.length_singleton, List.append_assoc, List.singleton_append, show v3 - (ks.length + 1) = m by omega, zwn]
     ·simp only [List.length_append, List.length_singleton, List.map_append, List.map_cons, List.map_nil]
      exact hw'.pick [3, 4, 1, 5, 6, 0, 7, 8] rfl rfl
  ·have hz0 : v3 - ks.length = 0 := by omega
   rw [hz0] at i4
   refine goA ?_
   exact zd1 (ks, vs, ok, ov, y, st) ⟨rfl, rfl, rfl, rfl, rfl, rfl, trivial⟩ ⟨i2, i3, by rw [i4, zeo, List.append_nil, List.append_nil], by show ks.length ≤ 70000; omega, by show vs.length ≤ 70000; omega⟩ (fun w' hw' => hw')
 ·simp only at j1 j2 j3 j4 j5 ⊢
  obtain ⟨N, hN⟩ : ∃ x : Nd, (⟨lf, ks, vs, kd⟩ : Nd) = x := ⟨_, rfl⟩
  have hP : zmx s bs = (N, st) := by
   have e1 : Tr.hdF bs = (lf, v3, s3) := by unfold Tr.hdF; rw [h1]; simp only; rw [h2]; simp only; rw [h3]; simp only; rw [hlf]
   unfold zmx
   rw [e1]
   simp only
   have e2 : (if lf = true then ([], s3) else Tr.kidsF (v3 + 1) s3) = (kd, st0) := hKF.trans j3k
   rw [e2]
   simp only
   rw [hNF, j3, ← hN]
  refine zf2 (fun w hw => And.intro (zav (hw.item (own 9 1 ok ks.length (ks.map kV)) (.tail _ (.tail _ (.head _)))).1) (And.intro (zav (hw.item (own 9 1 ov vs.length (vs.map kV)) (.tail _ (.tail _ (.tail _ (.head _))))).1) (zav (hw.item (own 3 1 od kd.length (kd.map iV)) (.tail _ (.tail _ (.tail _ (.tail _ (.head _)))))).1))) fun ⟨f1, f2, f3⟩ => ?_
  rw [f1.1, f2.1, f3.1]
  have hkl := zvd s lf v3 st0
  rw [hNF, j3] at hkl
  simp only at hkl
  have k2 := hs.k2
  have v2' := hs.v2
  have hNB : NdB N := by
   rw [← hN]
   exact ⟨by show ks.length ≤ _; omega, by show vs.length ≤ _; omega, by show kd.length ≤ _; omega, fun k hk => by have := hkl.1 k hk; omega, fun k hk => by have := hkl.2 k hk; omega⟩
  refine goA ?_
  subst hN
  refine ze5 rfl rfl (by kernel_rfl) rfl (fun w1 hw1 => zqy hs ⟨lf, ks, vs, kd⟩ ⟨(slA ok, slC ok), (slA ov, slC ov), (slA od, slC od)⟩ hNB w1 ⟨zbn (hw1.item (own 9 1 ok ks.length (ks.map kV)) (by simp)).1, zbn (hw1.item (own 9 1 ov vs.length (vs.map kV)) (by simp)).1, zbn (hw1.item (own 3 1 od kd.length (kd.map iV)) (by simp)).1⟩) fun x hx => ?_
  obtain ⟨r, bad⟩ := st
  have hTn : (bad = true ∨ ¬ zfs s ⟨lf, ks, vs, kd⟩ ∨ zcg ⟨lf, ks, vs, kd⟩ ≠ bs) → none = zp8 s bs := fun h => by
   unfold zp8
   rw [hP, if_neg (fun h' => by
    rcases h with h | h | h
    ·have := h'.1; rw [h] at this; cases this
    ·exact h h'.2.1
    ·exact h h'.2.2)]
  cases x with
  | none =>
   have hnm : ¬ zfs s ⟨lf, ks, vs, kd⟩ := fun h => by simp [h] at hx
   refine goA ?_
   refine zae rfl (zag rfl (by kernel_rfl) rfl (fun w1 hw1 => zeu b y.1 y.2 (r, bad) w1 (za2.of (hw1.item _ (.head _)) (zam _ _ _ _)))) fun _ => ?_
   cases bad with
   | true =>
    simp only [if_true]
    refine goA ?_
    refine za0 rfl (zak (zr2 _ _ _ _ _ _ _ _) (zai rfl rfl rfl rfl rfl rfl)) fun _ => ?_
    refine goA ?_
    exact zdq none rfl ⟨_, rfl, zas rfl (.head _)⟩ rfl rfl (hTn (.inr (.inl hnm))) (List.nil_sublist _) (fun _ h => nomatch h)
   | false =>
    simp only [Bool.false_eq_true, if_false]
    refine goA ?_
    refine za0 rfl (zak (zr2 _ _ _ _ _ _ _ _) (zai rfl rfl rfl rfl rfl rfl)) fun _ => ?_
    refine goA ?_
    exact zdq none rfl ⟨_, rfl, zas rfl (.head _)⟩ rfl rfl (hTn (.inr (.inl hnm))) (List.nil_sublist _) (fun _ h => nomatch h)
  | some o =>
   have hm : zfs s ⟨lf, ks, vs, kd⟩ := Classical.byContradiction fun h => by simp [h] at hx
   have hPl := zu0 hs.k1 hm
   refine zea (fun w hw => zav (hw.item (own 5 1 o 512 (zaf (zcg ⟨lf, ks, vs, kd⟩))) (.head _)).1) fun ⟨hsl, _⟩ => ?_
   simp only
   rw [hsl]
   refine goA ?_
   refine zae rfl (zag rfl (by kernel_rfl) rfl (fun w1 hw1 => zeu b y.1 y.2 (r, bad) w1 (za2.of (hw1.item (opI b y.1 y.2 (r, bad)) (.tail _ (.head _))) (zam _ _ _ _)))) fun _ => ?_
   cases bad with
   | true =>
    simp only [if_true]
    refine goA ?_
    refine za0 rfl (zak (zut _ _ _ _ _ _ _ _ _) (zai rfl rfl rfl rfl rfl rfl)) fun _ => ?_
    refine goA ?_
    exact zdq none rfl ⟨_, rfl, zas rfl (.head _)⟩ rfl rfl (hTn (.inl rfl)) (List.nil_sublist _) (fun _ h => nomatch h)
   | false =>
    simp only [Bool.false_eq_true, if_false]
    refine goA ?_
    refine zae rfl (zag rfl (by kernel_rfl) rfl (fun w1 hw1 => ziu (slA o) a 512 n (slC o) c (zcg ⟨lf, ks, vs, kd⟩) bs hPl hn w1 (zbn (hw1.item (own 5 1 o 512 (zaf (zcg ⟨lf, ks, vs, kd⟩))) (.head _)).1) (hr.keep hw1))) fun _ => ?_
    by_cases heq : zcg ⟨lf, ks, vs, kd⟩ = bs
    ·rw [decide_eq_true heq]
     refine goA ?_
     refine za0 rfl (zak (zut _ _ _ _ _ _ _ _ _) (zai rfl rfl rfl rfl rfl rfl)) fun _ => ?_
     refine goA ?_
     refine zdq (some (⟨lf, ks, vs, kd⟩, ⟨ok, ov, od⟩)) rfl ⟨_, rfl, zas rfl (.head _)⟩ rfl (by simp only [ndO]; rw [f1.1, f2.1, f3.1]) ?_ (.cons _ (.cons _ (.cons _ (.cons _ (.cons_cons _ (.cons_cons _ (.cons_cons _ (List.nil_sublist _)))))))) (by simp [ndI, zab])
     unfold zp8
     rw [hP, if_pos ⟨rfl, hm, heq⟩]
     rfl
    ·rw [decide_eq_false heq]
     refine goA ?_
     refine za0 rfl (zak (zut _ _ _ _ _ _ _ _ _) (zai rfl rfl rfl rfl rfl rfl)) fun _ => ?_
     refine goA ?_
     exact zdq none rfl ⟨_, rfl, zas rfl (.head _)⟩ rfl rfl (hTn (.inr (.inr heq))) (List.nil_sublist _) (fun _ h => nomatch h)
end Go.Proofs.YtkkfifhaobjicaaGreatDoor
namespace Go.Proofs.YtkkfifhaobjicaaGreatDoor
open Go.RowKit Go.Eng
set_option maxRecDepth 100000
set_option maxHeartbeats 40000000
def nxt (p : Nat) : Nat := (p + 1) % 18446744073709551616
def ze4 : zck → Nat → Nat
 | [], v => v
 | p :: L, v => ze4 L (max v (nxt p.1))
theorem zhx (L : zck) (v k : Nat) : ze4 L v ≤ k ↔ v ≤ k ∧ ∀ p ∈ L, nxt p.1 ≤ k := by
 induction L generalizing v with
 | nil => simp [ze4]
 | cons p L ih =>
  rw [ze4, ih, Nat.max_le]
  simp only [List.mem_cons, forall_eq_or_imp]
  exact ⟨fun ⟨⟨h1, h2⟩, h3⟩ => ⟨h1, h2, h3⟩, fun ⟨h1, h2, h3⟩ => ⟨⟨h1, h2⟩, h3⟩⟩
theorem qdq {L L' : zck} {v v' : Nat} (h : ∀ k, (v ≤ k ∧ ∀ p ∈ L, nxt p.1 ≤ k) ↔ (v' ≤ k ∧ ∀ p ∈ L', nxt p.1 ≤ k)) : ze4 L v = ze4 L' v' :=
 Nat.le_antisymm ((zhx _ _ _).2 ((h _).2 ((zhx _ _ _).1 (Nat.le_refl _)))) ((zhx _ _ _).2 ((h _).1 ((zhx _ _ _).1 (Nat.le_refl _))))
theorem qgl {L : zck} {p : Nat × Value} (hp : p ∈ L) (v : Nat) : ze4 (qcr L p) (max v (nxt p.1)) = ze4 L v := by
 refine qdq fun k => ?_
 rw [Nat.max_le]
 constructor
 ·rintro ⟨⟨h1, h2⟩, h3⟩
  refine ⟨h1, fun x hx => ?_⟩
  by_cases he : x.1 = p.1
  ·rw [he]; exact h2
  ·exact h3 x (List.mem_filter.2 ⟨hx, by simp [he]⟩)
 ·rintro ⟨h1, h2⟩
  exact ⟨⟨h1, h2 p hp⟩, fun x hx => h2 x (List.mem_filter.1 hx).1⟩
theorem zzs {L : zck} {p : Nat × Value} (hp : p ∈ L) : (qcr L p).length < L.length := by
 refine Nat.lt_of_le_of_ne (List.length_filter_le _ _) (fun h => ?_)
 have := List.length_filter_eq_length_iff.1 h p hp
 simp at this
theorem zrh (b : Nat) (A : zck) (hA : ∀ p ∈ A, p.1 < 18446744073709551616) (first : Nat) (hf : first < 18446744073709551616) (w : World) (hw : ∀ it ∈ [zd6 .u64 b A], za2 it w) :
  Ct Tryz.prog 128 #[.map (some b), .int .u64 first] w (zap [zd6 .u64 b A]) (fun _ : Unit => .int .u64 (ze4 A first : Nat)) (fun _ => True) (fun _ => [zd6 .u64 b A]) := by
 refine zbd [_, _] _ Tryz.func128 rfl rfl hw (.cons (fun _ h => nomatch h) .nil) ?_
 simp only [zaa, Nat.reduceAdd]
 refine goA ?_
 refine za0 rfl (zzr rfl rfl rfl) fun ⟨r, hr⟩ => ?_
 refine goA ?_
 refine zct (α := zck × Nat × Option (Nat × Value)) (fun y => [(1, .int .u64 y.2.1), (4, .int .u64 0), (7, .pointer (some ⟨r, 0, none⟩))]) (fun y => y.2.1 < 18446744073709551616 ∧ (∀ p ∈ y.1, p.1 < 18446744073709551616) ∧ ze4 y.1 y.2.1 = ze4 A first) (fun y => [itN .u64 r b A y.1 y.2.2]) (fun y => y.1.length) (A, first, none) ⟨rfl, rfl, rfl, trivial⟩ ⟨hf, hA, rfl⟩ (fun w h => h) fun ⟨L, v, c⟩ ⟨hv, hL, hE⟩ => ?_
 simp only at hv hL hE ⊢
 refine goA ?_
 refine za0 rfl (qdv rfl rfl) fun ⟨y, hy⟩ => ?_
 cases y with
 | none =>
  simp only at hy ⊢
  refine goA ?_
  subst hy
  refine zb3 (m' := [zd6 .u64 b A]) (fun w' hw' => zw2 hw') (zbw () rfl rfl (by rw [← hE]; rfl) trivial (.refl _) (by intro it hm; rcases hm with _ | ⟨_, hm⟩ <;> first | exact za6 _ _ _ _ | exact (nomatch hm)))
 | some p =>
  simp only at hy ⊢
  have hp2 := hL p hy
  refine goA ?_
  refine l_w rfl (qar rfl (.head _)) ?_
  refine goA ?_
  refine l_w rfl (zj8 (a := p.1) (b := 1) rfl rfl) ?_
  have hn : (p.1 + 1) % 18446744073709551616 = nxt p.1 := rfl
  rw [hn]
  have hnl : nxt p.1 < 18446744073709551616 := Nat.mod_lt _ (by decide)
  have hlt := zzs hy
  have hno := qgl hy v
  generalize nxt p.1 = z at hnl hno
  refine goA ?_
  refine l_w rfl (qps (i := v) (j := z) rfl rfl) ?_
  refine goA ?_
  refine zay (qcr L p, max v z, some p) ⟨rfl, rfl, rfl, trivial⟩ ⟨Nat.max_lt.2 ⟨hv, hnl⟩, fun x hx => hL x (List.mem_filter.1 hx).1, hno.trans hE⟩ (fun w h => h) hlt
end Go.Proofs.YtkkfifhaobjicaaGreatDoor
namespace Go.Proofs.YtkkfifhaobjicaaGreatDoor
open Go.RowKit Go.Eng
set_option maxRecDepth 100000
set_option maxHeartbeats 40000000
theorem ztc {D : Dsk} (ok : D.Ok) {i : Nat} (hi : i < D.on.length) : (zch D i).length = 512 := by
 unfold zch
 cases h : D.wait.reverse.find? (fun p => decide (p.2 = i)) with
 | none =>
  show (D.on.getD i []).length = 512
  rw [List.getD_eq_getElem?_getD, List.getElem?_eq_getElem hi]
  exact ok.size _ (List.getElem_mem hi)
 | some p =>
  have hm := List.mem_of_find?_eq_some h
  exact (ok.wsize p (List.mem_reverse.1 hm)).1
def zie (b : Bys) (i : Nat) (p : Hd × Int) : Hd × Int := if zqm b && (decide (p.2 < 0) || decide (p.1.gen < (hdT b).gen)) then (hdT b, i) else p
def zqu (bx ba bb : Nat) (d : Dk) (p : Hd × Int) : List Eng.Item := [pt ba (.cells #[.int .i64 p.2] 3 (0, 0)), pt bb (.cells (hdA p.1) 195 (0, 0)), pt bx (.cells #[.pointer (some ⟨d.b, 0, none⟩)] 63 (0, 0)), dkI d, ctI]
theorem znb (bx ba bb : Nat) (d : Dk) (p : Hd × Int) : ∀ it ∈ zqu bx ba bb d p, it.Stable none' := by
 simp only [zqu, List.mem_cons, List.mem_nil_iff, or_false, forall_eq_or_imp, forall_eq]
 exact ⟨zac _ _ _, zac _ _ _, zac _ _ _, zad _, zcz _⟩
theorem qby (d : Dk) (ok : d.D.Ok) (hlive : d.D.dead = false) (hwl : d.D.wait.length ≤ 1000000000) (i : Nat) (hi : i < d.D.on.length) (bx ba bb : Nat) (p : Hd × Int) (w : World) (hw : ∀ it ∈ zqu bx ba bb d p, za2 it w) (ha : (zqu bx ba bb d p).Pairwise Eng.Item.Apart) :
  Ct Tryz.prog 158 #[.int .i64 i, .pointer (some ⟨bx, 0, none⟩), .pointer (some ⟨ba, 0, none⟩), .pointer (some ⟨bb, 0, none⟩)] w (zap (zqu bx ba bb d p)) (fun _ : Unit => .int .i64 0) (fun _ => True) (fun _ => zqu bx ba bb d (zie (zch d.D i) i p)) := by
 refine zbd [_, _, _, _] _ Tryz.func158 rfl rfl hw ha ?_
 have hst := znb bx ba bb d (zie (zch d.D i) i p)
 unfold zqu
 simp only [zaa, Nat.reduceAdd]
 refine goA ?_
 refine ze5 rfl rfl (by kernel_rfl) rfl (fun w1 hw1 => zmh d ok hlive i hi hwl w1 (za2.of (hw1.item (dkI d) (.tail _ (.tail _ (.tail _ (.head _))))) (zad _))) fun x hx => ?_
 refine goA ?_
 have hcl := ztc ok hi
 refine zae rfl (zag rfl (by kernel_rfl) rfl (fun w1 hw1 => zyp (some ⟨x, 0, none⟩) 512 512 (zch d.D i) hcl (by decide) w1 (Rd.mk (hw1.item (rdI x (zch d.D i)) (.head _)).1.1) (hw1.item ctI (.tail _ (.tail _ (.tail _ (.tail _ (.tail _ (.head _))))))).1)) fun _ => ?_
 generalize hT : hdT (zch d.D i) = h
 have hlk : zie (zch d.D i) i p = if zqm (zch d.D i) && (decide (p.2 < 0) || decide (p.1.gen < h.gen)) then (h, (i : Int)) else p := by rw [zie, hT]
 rw [hlk] at hst ⊢
 generalize zqm (zch d.D i) = k at hst ⊢
 refine goA ?_
 refine zan rfl rfl fun b8 hb8 => ?_
 refine za0 rfl (zai (cs' := hdA h) rfl rfl rfl rfl rfl rfl) fun _ => ?_
 refine goA ?_
 cases k with
 | false =>
  rw [Bool.false_and, if_neg (by decide)] at hst ⊢
  refine goA ?_
  exact zbw () rfl rfl rfl trivial (.cons _ (.cons _ (.refl _))) hst
 | true =>
  by_cases h1 : p.2 < 0
  ·rw [Bool.true_and, decide_eq_true h1, Bool.true_or, if_pos rfl] at hst ⊢
   refine goA ?_
   rw [decide_eq_true h1]
   refine goA ?_
   refine za0 rfl (zak (zdl _ _ _ _ _) (zai (cs' := hdA h) rfl rfl rfl rfl rfl rfl)) fun _ => ?_
   refine za0 rfl (zak (zdl _ _ _ _ _) (zaj rfl rfl rfl rfl rfl rfl (by simp))) fun _ => ?_
   refine goA ?_
   exact zbw () rfl rfl rfl trivial (.cons_cons _ (.cons_cons _ (.cons _ (.cons _ (.refl _))))) hst
  ·rw [Bool.true_and, decide_eq_false h1, Bool.false_or] at hst ⊢
   refine goA ?_
   rw [decide_eq_false h1]
   by_cases h2 : p.1.gen < h.gen
   ·rw [decide_eq_true h2, if_pos rfl] at hst ⊢
    refine goA ?_
    refine za0 rfl (zak (zdl _ _ _ _ _) (zai (cs' := hdA h) rfl rfl rfl rfl rfl rfl)) fun _ => ?_
    refine za0 rfl (zak (zdl _ _ _ _ _) (zaj rfl rfl rfl rfl rfl rfl (by simp))) fun _ => ?_
    refine goA ?_
    exact zbw () rfl rfl rfl trivial (.cons_cons _ (.cons_cons _ (.cons _ (.cons _ (.refl _))))) hst
   ·rw [decide_eq_false h2, if_neg (by decide)] at hst ⊢
    refine goA ?_
    exact zbw () rfl rfl rfl trivial (.cons _ (.cons _ (.refl _))) hst
end Go.Proofs.YtkkfifhaobjicaaGreatDoor
